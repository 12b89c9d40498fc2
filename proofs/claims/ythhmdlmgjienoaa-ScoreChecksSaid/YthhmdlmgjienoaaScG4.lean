/- ScoreChecks, ready for its frame. -/
import Derived.Test.YthhmdlmgjienoaaScW7
import Derived.Test.YthhmdlmgjienoaaScG3
namespace Go.Proofs.Ythhmdlmgjienoaa
open Go Go.RowKit

theorem walk_ScoreChecks {H : Type} {enc : TypeId × Value → H} (W : World) (v0 : Value) (d0 : DataW H) (p0 : List MemPlace) (ok0 : ∃ base, Value.okWide Try.prog W .any base 32 v0)
    (h0 : DataW.Trod enc Try.prog W 0 (fun _ => true) true 32 v0 d0 p0) :
    Calls Try.prog 8 #[v0] W fun r w' => r = .returned (.bool true) ∧ Below W.heap.size W w' := by
  obtain ⟨a0, a1, a2, a3, a4, a5, a6, a7, mark, refuse, rfl, hv, hm, hr⟩ := bar_of Try.underlying32 (by kernel_rfl) rfl rfl rfl rfl rfl rfl Try.underlying23 Try.underlying22 (by kernel_rfl) (by kernel_rfl) ok0 h0
  exact checks_walk a0 a1 a2 a3 a4 a5 a6 a7 mark refuse hv hm hr W
end Go.Proofs.Ythhmdlmgjienoaa
