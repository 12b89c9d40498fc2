/- RateFloats, ready for its frame. -/
import Derived.Test.YtplkoephgmdgkaaRtL1
namespace Go.Proofs.Ytplkoephgmdgkaa
open Go Go.RowKit Rt
theorem walk_RateFloats {H : Type} {enc : TypeId × Value → H} (W : World) (v0 v1 v2 v3 : Value) (d0 d1 d2 d3 : DataW H) (p0 p1 p2 p3 : List MemPlace)
    (ok0 : ∃ base, Value.okWide Try.prog W .any base 22 v0) (ok1 : ∃ base, Value.okWide Try.prog W .any base 22 v1) (ok2 : ∃ base, Value.okWide Try.prog W .any base 2 v2) (ok3 : ∃ base, Value.okWide Try.prog W .any base 61 v3)
    (h0 : DataW.Trod enc Try.prog W 0 (fun _ => true) true 22 v0 d0 p0) (h1 : DataW.Trod enc Try.prog W 0 (fun _ => true) true 22 v1 d1 p1) (h2 : DataW.Trod enc Try.prog W 0 (fun _ => true) true 2 v2 d2 p2) (h3 : DataW.Trod enc Try.prog W 0 (fun _ => true) true 61 v3 d3 p3)
    (hk : Rows.uptoBulkAll [d0, d1, d2, d3] ≤ 1048576) :
    Calls Try.prog 6 #[v0, v1, v2, v3] W fun r w' => r = .returned (.bool true) ∧ Below W.heap.size W w' := by
  obtain ⟨x, rfl, hx⟩ := arg_f64 Try.underlying22 ok0 h0
  obtain ⟨f, rfl, hf⟩ := arg_f64 Try.underlying22 ok1 h1
  obtain ⟨n, rfl, hn⟩ := arg_i64 Try.underlying2 ok2 h2
  obtain ⟨ao, cap, l, rfl, hl, hF, hb⟩ := arg_floats ok3 h3
  have hlen : l.length ≤ 1048576 := by
    simp only [Rows.uptoBulkAll] at hk
    omega
  refine (fl_walk W x f hx hf n (by omega) ao cap l hl hF hlen).mono ?_
  rintro r w' ⟨rfl, c⟩
  exact ⟨rfl, c.below (Nat.le_refl _) (fun _ _ h => h)⟩
end Go.Proofs.Ytplkoephgmdgkaa
