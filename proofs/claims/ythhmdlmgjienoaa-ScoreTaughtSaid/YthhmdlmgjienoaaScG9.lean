/- ScoreTaught, ready for its frame. -/
import Derived.Test.YthhmdlmgjienoaaScT3
import Derived.Test.YthhmdlmgjienoaaScG5
namespace Go.Proofs.Ythhmdlmgjienoaa
open Go Go.RowKit

theorem walk_ScoreTaught {H : Type} {enc : TypeId × Value → H} (W : World) (v0 : Value) (d0 : DataW H) (p0 : List MemPlace) (ok0 : ∃ base, Value.okWide Try.prog W .any base 43 v0)
    (h0 : DataW.Trod enc Try.prog W 0 (fun _ => true) true 43 v0 d0 p0) :
    Calls Try.prog 11 #[v0] W fun r w' => r = .returned (.bool true) ∧ Below W.heap.size W w' := by
  obtain ⟨a0, a1, a2, a3, a4, a5, a6, a7, x0, x1, x2, x3, x4, x5, x6, x7, bad, step, rfl, hv, hv', hst⟩ := les_of Try.underlying43 (by kernel_rfl) rfl rfl rfl rfl rfl rfl rfl rfl Try.underlying23 Try.underlying22 Try.underlying4 (by kernel_rfl) (by kernel_rfl) (by kernel_rfl) ok0 h0
  exact taught_walk a0 a1 a2 a3 a4 a5 a6 a7 x0 x1 x2 x3 x4 x5 x6 x7 bad step hv hv' hst W
end Go.Proofs.Ythhmdlmgjienoaa
