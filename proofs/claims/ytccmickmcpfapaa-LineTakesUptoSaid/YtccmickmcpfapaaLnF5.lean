/- The law LineTakes as the frame wants it. -/
import Derived.Test.YtccmickmcpfapaaLnT4
namespace Go.Proofs.Ytccmickmcpfapaa
open Go Go.RowKit Ln

theorem walk_LineTakes {H : Type} {enc : TypeId × Value → H} (W : World) (v0 v1 v2 : Value) (d0 d1 d2 : DataW H) (p0 p1 p2 : List MemPlace)
    (ok0 : ∃ base, Value.okWide Try.prog W .any base 3 v0) (ok1 : ∃ base, Value.okWide Try.prog W .any base 3 v1) (ok2 : ∃ base, Value.okWide Try.prog W .any base 35 v2)
    (h0 : DataW.Trod enc Try.prog W 0 (fun _ => true) true 3 v0 d0 p0) (h1 : DataW.Trod enc Try.prog W 0 (fun _ => true) true 3 v1 d1 p1) (h2 : DataW.Trod enc Try.prog W 0 (fun _ => true) true 35 v2 d2 p2)
    (hk : Rows.uptoBulkAll [d0, d1, d2] ≤ 1048576) :
    Calls Try.prog 6 #[v0, v1, v2] W fun e w' => e = .returned (.bool true) ∧ Below W.heap.size W w' := by
  obtain ⟨n, rfl, _⟩ := arg_i64 Try.underlying3 ok0 h0
  obtain ⟨m, rfl, _⟩ := arg_i64 Try.underlying3 ok1 h1
  obtain ⟨ao, k, cap, l, rfl, hl, rfl, hb, hs⟩ := arg_pieces ok2 h2
  simp only [Rows.uptoBulkAll] at hk
  exact takes_walk W n m ao cap l hl hb (by unfold sumLen; omega)

end Go.Proofs.Ytccmickmcpfapaa
