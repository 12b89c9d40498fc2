/- x / (1 + |x|): its size, its sign. No program in sight. -/
import Derived.Test.YtplkoephgmdgkaaFltS
namespace Go.Proofs.Ytplkoephgmdgkaa
open Go

def ONE : Nat := 4607182418800017408
/-- 1074, not to be reckoned with. -/
def BB : Nat := 1074
theorem quo_le (m n e e' more : Nat) (hmore : more = 54 + n.log2 - m.log2) (h : m * 2 ^ e ≤ n * 2 ^ e') :
    (2 * ((m <<< more) / n) + ((m <<< more) % n != 0).toNat) * 2 ^ e ≤ 2 ^ (e' + more + 1) := by
  rw [Nat.shiftLeft_eq]
  by_cases hm : m = 0
  · rw [hm]; simp
  · have l1 : 2 ^ (m.log2 + e) ≤ m * 2 ^ e := by rw [Nat.pow_add]; exact Nat.mul_le_mul_right _ (Nat.log2_self_le hm)
    have l2 : n * 2 ^ e' < 2 ^ (n.log2 + 1 + e') := by rw [Nat.pow_add]; exact Nat.mul_lt_mul_of_pos_right Nat.lt_log2_self (Nat.two_pow_pos _)
    have l3 : m.log2 + e < n.log2 + 1 + e' := (Nat.pow_lt_pow_iff_right (show 1 < 2 by decide)).1 (by omega)
    obtain ⟨f, hf⟩ : ∃ f, e' + more = f + e := ⟨e' + more - e, by omega⟩
    have hD : m * 2 ^ more ≤ n * 2 ^ f := by
      have h1 : m * 2 ^ more * 2 ^ e ≤ n * 2 ^ f * 2 ^ e := by
        have h2 := Nat.mul_le_mul_right (2 ^ more) h
        have e1 : m * 2 ^ more * 2 ^ e = m * 2 ^ e * 2 ^ more := Nat.mul_right_comm ..
        have e2 : n * 2 ^ f * 2 ^ e = n * 2 ^ e' * 2 ^ more := by rw [Nat.mul_assoc, ← Nat.pow_add, ← hf, Nat.pow_add, Nat.mul_assoc]
        rw [e1, e2]; exact h2
      exact Nat.le_of_mul_le_mul_right h1 (Nat.two_pow_pos e)
    have hT : 2 * ((m * 2 ^ more) / n) + ((m * 2 ^ more) % n != 0).toNat ≤ 2 * 2 ^ f := by
      generalize m * 2 ^ more = D at *
      generalize 2 ^ f = T at *
      have hd := Nat.div_add_mod D n
      by_cases hr : D % n = 0
      · rw [hr]
        have : D / n ≤ T := Nat.div_le_of_le_mul hD
        simp; omega
      · have h3 : n * (D / n) < n * T := by omega
        have h4 : D / n < T := Nat.lt_of_mul_lt_mul_left h3
        have : (D % n != 0).toNat ≤ 1 := by cases (D % n != 0) <;> decide
        omega
    have e3 : 2 ^ (e' + more + 1) = 2 * 2 ^ f * 2 ^ e := by rw [hf, Nat.pow_succ, Nat.pow_add, Nat.mul_comm _ 2, Nat.mul_assoc]
    rw [e3]
    exact Nat.mul_le_mul_right _ hT
theorem U_pos {r : Nat} (h : 0 < r) : 0 < U r := by have := U_mono h; rw [U_zero] at this; exact this
theorem U_of {r e p : Nat} (h1 : sig r = 2 ^ 52) (h2 : exo r = e) (h : 52 + e = p) : U r = 2 ^ p := by
  subst h
  unfold U
  rw [h1, h2, Nat.pow_add]
theorem U_one : U ONE = 2 ^ BB := U_of (e := 1022) (by decide) (by decide) (by decide)
theorem quo_soft {a q : Nat} (ha : a < INF) (hq : q ≤ INF) (h1 : a ≤ q) (h0 : 0 < q) :
    ∃ ρ, ρ ≤ ONE ∧ (a = 0 → ρ = 0) ∧ ∀ x, x < 2 ^ 64 → x % 2 ^ 63 = a → floatBits .quo .f64 x q = some (Ieee.double.word (sg x) ρ) := by
  have hi : INF = 0x7ff0000000000000 := rfl
  have hB : BB = 1074 := rfl
  have hqm : q % 2 ^ 63 = q := Nat.mod_eq_of_lt (by omega)
  have hsq : sg q = false := decide_eq_false (by omega)
  rcases Nat.lt_or_eq_of_le hq with hq1 | hq1
  · have hn : sig q ≠ 0 := by
      intro e
      have := U_pos h0
      unfold U at this
      rw [e, Nat.zero_mul] at this
      omega
    obtain ⟨more, hmore⟩ : ∃ more, more = 54 + (sig q).log2 - (sig a).log2 := ⟨_, rfl⟩
    have hle := quo_le (sig a) (sig q) (exo a) (exo q) more hmore (U_le h1)
    obtain ⟨mag, hmag⟩ : ∃ mag, mag = 2 * ((sig a <<< more) / sig q) + ((sig a <<< more) % sig q != 0).toNat := ⟨_, rfl⟩
    rw [← hmag] at hle
    refine ⟨rung (exo q + more + 1) (mag * 2 ^ (exo a + BB)), ?_, ?_, ?_⟩
    · have ho := rung_own (r := ONE) (by decide) (exo q + more + 1)
      rw [U_one] at ho
      have hm : mag * 2 ^ (exo a + BB) ≤ 2 ^ BB * 2 ^ (exo q + more + 1) := by
        rw [Nat.pow_add 2 (exo a), ← Nat.mul_assoc, Nat.mul_comm (2 ^ BB)]
        exact Nat.mul_le_mul_right _ hle
      have := rung_mono (k := exo q + more + 1) hm
      rw [ho] at this
      exact this
    · intro e
      have : mag = 0 := by
        rw [hmag, e, show sig 0 = 0 from rfl, Nat.zero_shiftLeft]
        simp
      rw [this, Nat.zero_mul, rung_zero]
    · intro x hx hxa
      show Ieee.double.div x q = _
      unfold Ieee.Format.div
      rw [read_fin hx (by omega), read_fin (by omega) (by omega), hxa, hqm, hsq]
      simp only [Ieee.Datum.quotient, dbl_frac]
      rw [if_neg hn, show 52 + 2 + (sig q).log2 - (sig a).log2 = more from hmore.symm]
      simp only [Option.map_some, Ieee.Format.write, Bool.xor_false]
      apply congrArg some
      rw [nearest_rung _ _ (exo q + more + 1) (exo a + BB) _ (by omega), hmag]
  · refine ⟨0, Nat.zero_le _, fun _ => rfl, ?_⟩
    intro x hx hxa
    show Ieee.double.div x q = _
    unfold Ieee.Format.div
    rw [read_fin hx (by omega), read_inf (by omega), sgn_of (by omega), show decide (2 ^ 63 ≤ q) = false from hsq]
    simp only [Ieee.Datum.quotient, Option.map_some, Ieee.Format.write, Bool.xor_false]
    rfl
theorem add_one {a : Nat} (ha : a < INF) : ∃ q, floatBits .add .f64 ONE a = some q ∧ ONE ≤ q ∧ a ≤ q ∧ q ≤ INF := by
  have hi : INF = 0x7ff0000000000000 := rfl
  have ho : ONE = 4607182418800017408 := rfl
  have ham : a % 2 ^ 63 = a := Nat.mod_eq_of_lt (by omega)
  have hom : ONE % 2 ^ 63 = ONE := by decide
  have v1 : V ONE = (U ONE : Int) := by rw [V_sg, hom]; rfl
  have v2 : V a = (U a : Int) := by
    rw [V_sg, ham, show sg a = false from decide_eq_false (by omega)]; rfl
  have hp := U_pos (show 0 < ONE by decide)
  refine ⟨_, add_fin (by decide) (by omega) (by rw [hom]; decide) (by omega), ?_, ?_, ?_⟩
  all_goals
    rw [v1, v2, if_neg (by omega), decide_eq_false (by omega), show ((U ONE : Int) + (U a : Int)).natAbs = U ONE + U a by omega]
    show _
    simp only [Ieee.Format.word, Bool.false_eq_true, if_false]
  · have h1 := rung_own (r := ONE) (by decide) 0
    have h2 := rung_mono (k := 0) (show U ONE * 2 ^ 0 ≤ U ONE + U a by omega)
    rw [h1] at h2; exact h2
  · have h1 := rung_own (r := a) (Nat.le_of_lt ha) 0
    have h2 := rung_mono (k := 0) (show U a * 2 ^ 0 ≤ U ONE + U a by omega)
    rw [h1] at h2; exact h2
  · exact rung_le _ _
end Go.Proofs.Ytplkoephgmdgkaa
