/- The law FramerWaits as the frame wants it. -/
import Derived.Test.YtnjloldhmjadoaaFrT2
namespace Go.Proofs.Ytnjloldhmjadoaa
open Go Go.RowKit Ln

theorem walk_FramerWaits {H : Type} {enc : TypeId × Value → H} (W : World) (v0 : Value) (d0 : DataW H) (p0 : List MemPlace)
    (ok0 : ∃ base, Value.okWide Try.prog W .any base 73 v0) (h0 : DataW.Trod enc Try.prog W 0 (fun _ => true) true 73 v0 d0 p0)
    (hk : Rows.uptoBulkAll [d0] ≤ 1048576) :
    Calls Try.prog 8 #[v0] W fun e w' => e = .returned (.bool true) ∧ Below W.heap.size W w' := by
  obtain ⟨s, mode, n, room, ao, cap, l, rfl, hl, hn, hr, hs⟩ := arg_wait ok0 h0
  simp only [Rows.uptoBulkAll] at hk
  exact waits_walk W s mode n room ao cap l hl hn hr (by omega)

end Go.Proofs.Ytnjloldhmjadoaa
