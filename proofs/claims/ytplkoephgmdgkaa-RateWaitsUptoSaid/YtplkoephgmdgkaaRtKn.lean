/- The answers that RateKnown names, reckoned. No program in sight. -/
import Derived.Test.YtplkoephgmdgkaaRtWk
namespace Go.Proofs.Ytplkoephgmdgkaa
open Go
namespace Rt
theorem ask_no {t : Tb} {k : ByteArray} {now : Int} {c : Nat} (h : (t.ask k now c).1 = false) : (t.ask k now c).2 = t := by
  unfold Tb.ask at *
  by_cases h1 : timely now = true ∧ payable c (t.level k now) = true
  · rw [if_pos h1] at h ⊢
    cases h3 : t.laid k now.toNat with
    | none => rfl
    | some u => rw [h3] at h; cases h
  · rw [if_neg h1]
theorem note_no {t : Tb} {k : ByteArray} {now : Int} {x : Nat} (h : (t.note k now x).1 ≠ 0) : (t.note k now x).2 = t := by
  unfold Tb.note at *
  by_cases h1 : timely now = false
  · rw [if_pos h1]
  · rw [if_neg h1] at h ⊢
    by_cases h2 : withinB x (MOST + 2 ^ 63) MOST = false
    · rw [if_pos h2]
    · rw [if_neg h2] at h ⊢
      cases h3 : t.laid k now.toNat with
      | none => rfl
      | some u => rw [h3] at h; exact absurd rfl h
def ko : ByteArray := ⟨#[111, 116, 104, 101, 114]⟩
def kt0 : Tb := newT 4602678819172646912 4613937818241073152 9223372036854775808
def kt1 : Tb := (kt0.ask ko 99 4613937818241073152).2
def kt2 : Tb := (kt1.ask kk 253402300799 4613937818241073152).2
def kt3 : Tb := (kt2.note kk 20 13920626448202203136).2
theorem kn_a : (kt0.ask kk (-1) 0).1 = false := by kernel_rfl
theorem kn_b : (kt0.ask kk 20 13830554455654793216).1 = false := by kernel_rfl
theorem kn_c : (kt0.ask kk 20 9221120237041090561).1 = false := by kernel_rfl
theorem kn_d : (kt0.ask kk 99 4616189618054758400).1 = false := by kernel_rfl
theorem kn_e : (kt0.ask ko 99 4613937818241073152).1 = true := by kernel_rfl
theorem kn_f : (kt1.ask kk 253402300800 0).1 = false := by kernel_rfl
theorem kn_g : (kt1.ask kk 253402300799 4613937818241073152).1 = true := by kernel_rfl
theorem kn_h : (kt2.note kk 20 4697254411347427328).1 = 0 := by kernel_rfl
theorem kn_h1 : (kt2.note kk 20 4697254415642394624).1 = 2 := by kernel_rfl
theorem kn_h2 : (kt2.note kk (-1) 9221120237041090561).1 = 5 := by kernel_rfl
theorem kn_h3 : (kt2.note kk 20 9221120237041090561).1 = 2 := by kernel_rfl
theorem kn_h4 : (kt2.note kk 20 13920626448202203136).1 = 0 := by kernel_rfl
theorem kn_n1 : (kt2.note kk 20 4697254415642394624).2 = kt2 := note_no (by rw [kn_h1]; decide)
theorem kn_n2 : (kt2.note kk (-1) 9221120237041090561).2 = kt2 := note_no (by rw [kn_h2]; decide)
theorem kn_n3 : (kt2.note kk 20 9221120237041090561).2 = kt2 := note_no (by rw [kn_h3]; decide)
theorem kn_l : kt3.level kk (-1) = 0 := by kernel_rfl
theorem kn_s : kt3.standing kk 253402300800 = some 0 := by kernel_rfl
theorem kn_k : kt3.L.map (fun e => e.key) = [ko, kk] := by kernel_rfl
theorem kn_p1 : pw (some 13830554455654793216) (some 0) 1 = some 9223372036854775808 := by
  rw [pw_pwF 1 _ _ _ (by decide)]; kernel_rfl
theorem kn_p2 : pw (some 4613937818241073152) (some 4602678819172646912) 2 = some 4604930618986332160 := by
  rw [pw_pwF 2 _ _ _ (by decide)]; kernel_rfl
theorem kn_p3 : pw (some 4613937818241073152) (some 4602678819172646912) 0 = some 4613937818241073152 := pw_zero _ _
end Rt
end Go.Proofs.Ytplkoephgmdgkaa
