/- ScoreSoft, ready for its frame. -/
import Derived.Test.YthhmdlmgjienoaaScS1
import Derived.Test.YthhmdlmgjienoaaFltA
namespace Go.Proofs.Ythhmdlmgjienoaa
open Go Go.RowKit

theorem walk_ScoreSoft {H : Type} {enc : TypeId × Value → H} (W : World) (v0 : Value) (d0 : DataW H) (p0 : List MemPlace) (ok0 : ∃ base, Value.okWide Try.prog W .any base 22 v0)
    (h0 : DataW.Trod enc Try.prog W 0 (fun _ => true) true 22 v0 d0 p0) :
    Calls Try.prog 7 #[v0] W fun r w' => r = .returned (.bool true) ∧ Below W.heap.size W w' := by
  obtain ⟨x, rfl, hx⟩ := arg_f64 Try.underlying22 ok0 h0
  exact soft_walk x hx W
end Go.Proofs.Ythhmdlmgjienoaa
