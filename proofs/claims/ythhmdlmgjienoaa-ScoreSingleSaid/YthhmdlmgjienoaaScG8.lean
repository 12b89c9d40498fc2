/- ScoreSingle, ready for its frame. -/
import Derived.Test.YthhmdlmgjienoaaScS3
import Derived.Test.YthhmdlmgjienoaaFltA
namespace Go.Proofs.Ythhmdlmgjienoaa
open Go Go.RowKit Go.ChangeShapes Go.WideShapes Go.ChangeAt

theorem walk_ScoreSingle {H : Type} {enc : TypeId × Value → H} (W : World) (v0 v1 v2 : Value) (d0 d1 d2 : DataW H) (p0 p1 p2 : List MemPlace) (ok0 : ∃ base, Value.okWide Try.prog W .any base 5 v0) (ok1 : ∃ base, Value.okWide Try.prog W .any base 22 v1) (ok2 : ∃ base, Value.okWide Try.prog W .any base 23 v2)
    (h0 : DataW.Trod enc Try.prog W 0 (fun _ => true) true 5 v0 d0 p0) (h1 : DataW.Trod enc Try.prog W 0 (fun _ => true) true 22 v1 d1 p1) (h2 : DataW.Trod enc Try.prog W 0 (fun _ => true) true 23 v2 d2 p2) :
    Calls Try.prog 5 #[v0, v1, v2] W fun r w' => r = .returned (.bool true) ∧ Below W.heap.size W w' := by
  obtain ⟨_, ok0⟩ := ok0
  obtain ⟨n, rfl, _, _, hw⟩ := open_int Try.underlying5 ok0 h0
  have hb : 0 ≤ n ∧ n ≤ 255 := by simpa [Lit.wf, IntKind.min, IntKind.max, IntKind.signed, IntKind.bits] using hw
  obtain ⟨pl, rfl⟩ := Int.eq_ofNat_of_zero_le hb.1
  obtain ⟨wt, rfl, hwt⟩ := arg_f64 Try.underlying22 ok1 h1
  obtain ⟨m, rfl, hm, hmt⟩ := arg_row Try.underlying23 Try.underlying22 (by kernel_rfl) (by kernel_rfl) ok2 h2
  obtain ⟨x0, x1, x2, x3, x4, x5, x6, x7, rfl⟩ := eight hm
  exact single_walk pl wt x0 x1 x2 x3 x4 x5 x6 x7 (by omega) hwt hmt W
end Go.Proofs.Ythhmdlmgjienoaa
