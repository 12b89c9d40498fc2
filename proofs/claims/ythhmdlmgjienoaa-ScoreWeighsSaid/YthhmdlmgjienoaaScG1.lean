/- ScoreWeighs, ready for its frame. -/
import Derived.Test.YthhmdlmgjienoaaScF1
import Derived.Test.YthhmdlmgjienoaaFltA
namespace Go.Proofs.Ythhmdlmgjienoaa
open Go Go.RowKit

theorem walk_ScoreWeighs {H : Type} {enc : TypeId × Value → H} (W : World) (v0 v1 : Value) (d0 d1 : DataW H) (p0 p1 : List MemPlace) (ok0 : ∃ base, Value.okWide Try.prog W .any base 23 v0) (ok1 : ∃ base, Value.okWide Try.prog W .any base 23 v1)
    (h0 : DataW.Trod enc Try.prog W 0 (fun _ => true) true 23 v0 d0 p0) (h1 : DataW.Trod enc Try.prog W 0 (fun _ => true) true 23 v1 d1 p1) :
    Calls Try.prog 3 #[v0, v1] W fun r w' => r = .returned (.bool true) ∧ Below W.heap.size W w' := by
  obtain ⟨l, rfl, hl, hlt⟩ := arg_row Try.underlying23 Try.underlying22 (by kernel_rfl) (by kernel_rfl) ok0 h0
  obtain ⟨m, rfl, hm, hmt⟩ := arg_row Try.underlying23 Try.underlying22 (by kernel_rfl) (by kernel_rfl) ok1 h1
  obtain ⟨a0, a1, a2, a3, a4, a5, a6, a7, rfl⟩ := eight hl
  obtain ⟨x0, x1, x2, x3, x4, x5, x6, x7, rfl⟩ := eight hm
  exact weighs_walk a0 a1 a2 a3 a4 a5 a6 a7 x0 x1 x2 x3 x4 x5 x6 x7 hlt hmt W
end Go.Proofs.Ythhmdlmgjienoaa
