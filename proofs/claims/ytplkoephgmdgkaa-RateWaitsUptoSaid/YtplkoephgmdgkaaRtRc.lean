/- The document's Check walked. No condition. -/
import Derived.Test.YtplkoephgmdgkaaRtA2
namespace Go.Proofs.Ytplkoephgmdgkaa
open Go Go.RowKit Rt Go.Maps
set_option linter.unusedVariables false
theorem within_f (x a b : Nat) : withinB x a b = ((FloatKind.f64.format.order x a == some .gt || FloatKind.f64.format.order x a == some .eq) && (FloatKind.f64.format.order x b == some .lt || FloatKind.f64.format.order x b == some .eq)) := rfl
set_option maxHeartbeats 4000000 in
set_option maxRecDepth 100000 in
theorem rr_check (per burst fade : Nat) (w : World) : Calls Try.prog 14 #[.agg #[.float .f64 per, .float .f64 burst, .float .f64 fade]] w fun r w' => r = .returned (.int .i64 (rateE (checkB per burst fade))) ∧ Chg (fun _ => False) w w' := by
  have hc : checkB per burst fade = (withinB per 4517110426252607488 4697254411347427328 && withinB burst 4517110426252607488 4697254411347427328 && withinB fade 0 4607182418800017408) := rfl
  rw [within_f, within_f, within_f] at hc
  have HC := Lib.hid hc
  clear hc
  generalize checkB per burst fade = q at *
  have fin : ∀ x : Int, (q = true → x = 0) → (q = false → x = 200) → ∀ o, Ending.returned (.int .i64 x) = .returned (.int .i64 (rateE q)) ∧ Chg (fun _ => False) w (w.alloc o) := fun x h1 h2 o => by
    refine ⟨?_, (Chg.refl _ _).alloc _⟩
    cases q
    · rw [h2 rfl]; rfl
    · rw [h1 rfl]; rfl
  have FIN := Lib.hid fin
  clear fin
  go_enter Try.func14, Try.ntmps14
  go_wp2
  all_goals go_ret
  all_goals first
    | (refine FIN.out 0 (fun _ => rfl) (fun h => ?_) _; have hc := HC.out; rw [h] at hc; clear FIN HC h; simp_all; done)
    | (refine FIN.out 200 (fun h => ?_) (fun _ => rfl) _; have hc := HC.out; rw [h] at hc; clear FIN HC h; simp_all; done)
    | (refine FIN.out 0 (fun _ => rfl) (fun h => ?_) _; have hc := HC.out; rw [h] at hc; clear FIN HC h; grind)
    | (refine FIN.out 200 (fun h => ?_) (fun _ => rfl) _; have hc := HC.out; rw [h] at hc; clear FIN HC h; grind)
end Go.Proofs.Ytplkoephgmdgkaa
