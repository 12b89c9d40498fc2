/- ScoreOrder, ready for its frame. -/
import Derived.Test.YthhmdlmgjienoaaScO1
import Derived.Test.YthhmdlmgjienoaaScG3
namespace Go.Proofs.Ythhmdlmgjienoaa
open Go Go.RowKit

theorem walk_ScoreOrder {H : Type} {enc : TypeId × Value → H} (W : World) (v0 v1 v2 : Value) (d0 d1 d2 : DataW H) (p0 p1 p2 : List MemPlace) (ok0 : ∃ base, Value.okWide Try.prog W .any base 32 v0) (ok1 : ∃ base, Value.okWide Try.prog W .any base 22 v1) (ok2 : ∃ base, Value.okWide Try.prog W .any base 22 v2)
    (h0 : DataW.Trod enc Try.prog W 0 (fun _ => true) true 32 v0 d0 p0) (h1 : DataW.Trod enc Try.prog W 0 (fun _ => true) true 22 v1 d1 p1) (h2 : DataW.Trod enc Try.prog W 0 (fun _ => true) true 22 v2 d2 p2) :
    Calls Try.prog 9 #[v0, v1, v2] W fun r w' => r = .returned (.bool true) ∧ Below W.heap.size W w' := by
  obtain ⟨a0, a1, a2, a3, a4, a5, a6, a7, mark, refuse, rfl, hv, hm, hr⟩ := bar_of Try.underlying32 (by kernel_rfl) rfl rfl rfl rfl rfl rfl Try.underlying23 Try.underlying22 (by kernel_rfl) (by kernel_rfl) ok0 h0
  obtain ⟨x, rfl, hx⟩ := arg_f64 Try.underlying22 ok1 h1
  obtain ⟨y, rfl, hy⟩ := arg_f64 Try.underlying22 ok2 h2
  exact order_walk a0 a1 a2 a3 a4 a5 a6 a7 mark refuse x y hv hm hr hx hy W
end Go.Proofs.Ythhmdlmgjienoaa
