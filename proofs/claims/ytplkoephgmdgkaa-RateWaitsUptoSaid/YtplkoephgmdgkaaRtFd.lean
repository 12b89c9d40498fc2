/- Powers: of what is no more than 1 they do not grow; halves are exact. No program in sight. -/
import Derived.Test.YtplkoephgmdgkaaRtFlt
namespace Go.Proofs.Ytplkoephgmdgkaa
open Go
namespace Rt
/-- Every small number times a power of two has its rung. -/
theorem rep {a e : Nat} (ha : a < 2 ^ 53) (h52 : 52 ≤ e) (he : e ≤ 2040) : ∃ r, r < INF ∧ U r = a * 2 ^ e := by
  by_cases h0 : a = 0
  · exact ⟨0, by decide, by rw [h0, U_zero, Nat.zero_mul]⟩
  · have hl : a.log2 ≤ 52 := by have := (Nat.log2_lt h0).2 ha; omega
    have l1 := Nat.log2_self_le h0
    have l2 : a < 2 ^ (a.log2 + 1) := Nat.lt_log2_self
    obtain ⟨d, hd⟩ : ∃ d, a.log2 + d = 52 := ⟨52 - a.log2, by omega⟩
    obtain ⟨e', he'⟩ : ∃ e', e' + d = e := ⟨e - d, by omega⟩
    have s1 : 2 ^ 52 ≤ a * 2 ^ d := by
      rw [← hd, Nat.pow_add]; exact Nat.mul_le_mul_right _ l1
    have s2 : a * 2 ^ d < 2 ^ 53 := by
      have : 2 ^ 53 = 2 ^ (a.log2 + 1) * 2 ^ d := by rw [← Nat.pow_add]; congr 1; omega
      rw [this]; exact Nat.mul_lt_mul_of_pos_right l2 (Nat.two_pow_pos d)
    have hu : a * 2 ^ e = a * 2 ^ d * 2 ^ e' := by rw [← he', Nat.add_comm, Nat.pow_add, Nat.mul_assoc]
    rw [hu]
    generalize a * 2 ^ d = s at *
    have q1 : ((e' + 1) * 2 ^ 52 + (s - 2 ^ 52)) / 2 ^ 52 = e' + 1 := by omega
    have q2 : ((e' + 1) * 2 ^ 52 + (s - 2 ^ 52)) % 2 ^ 52 = s - 2 ^ 52 := by omega
    refine ⟨(e' + 1) * 2 ^ 52 + (s - 2 ^ 52), ?_, ?_⟩
    · have : INF = 2047 * 2 ^ 52 := by decide
      rw [this]; omega
    · unfold U sig exo
      rw [if_neg (by omega), q1, q2, Nat.add_sub_cancel, show 2 ^ 52 + (s - 2 ^ 52) = s by omega]
def TWO : Nat := 4611686018427387904
/-- A QUOTIENT by a power of two that comes out. -/
theorem quo_pow {x y b t : Nat} (hx : x < 2 ^ 64) (fx : x % 2 ^ 63 < INF) (hy : y < INF) (s52 : sig y = 2 ^ 52) (ey : exo y = 1022 + t) (hb : b ≤ INF) (h : U (x % 2 ^ 63) = U b * 2 ^ t) :
    floatBits .quo .f64 x y = some (Ieee.double.word (sg x) b) := by
  have hB : BB = 1074 := rfl
  show Ieee.double.div x y = _
  unfold Ieee.Format.div
  rw [read_fin hx fx, read_fin (lt64 hy) (by rw [mod_pos hy]; exact hy), mod_pos hy, sg_pos hy, s52, ey]
  simp only [Ieee.Datum.quotient, dbl_frac]
  have l52 : Nat.log2 (2 ^ 52) = 52 := by decide
  rw [if_neg (by decide), l52]
  generalize x % 2 ^ 63 = a at *
  have hsl := sig_lt a
  have hlog : (sig a).log2 ≤ 52 := by
    by_cases h0 : sig a = 0
    · rw [h0]; decide
    · have := (Nat.log2_lt h0).2 hsl; omega
  obtain ⟨m, hm⟩ : ∃ m, 52 + 2 + 52 - (sig a).log2 = m + 52 := ⟨52 + 2 - (sig a).log2, by omega⟩
  rw [hm, Nat.shiftLeft_eq, Nat.pow_add, ← Nat.mul_assoc, Nat.mul_div_cancel _ (Nat.two_pow_pos 52), Nat.mul_mod_left]
  simp only [Option.map_some, Ieee.Format.write, Bool.xor_false]
  apply congrArg some
  rw [nearest_rung _ _ (1022 + t + (m + 52) + 1) (exo a + BB) _ (by omega)]
  have key : (2 * (sig a * 2 ^ m) + ((0 : Nat) != 0).toNat) * 2 ^ (exo a + BB) = U b * 2 ^ (1022 + t + (m + 52) + 1) := by
    have e1 : (2 * (sig a * 2 ^ m) + ((0 : Nat) != 0).toNat) * 2 ^ (exo a + BB) = U a * 2 ^ (m + 1 + BB) := by
      show (2 * (sig a * 2 ^ m) + 0) * 2 ^ (exo a + BB) = sig a * 2 ^ exo a * 2 ^ (m + 1 + BB)
      rw [Nat.add_zero, Nat.mul_assoc (sig a), ← Nat.pow_add, show exo a + (m + 1 + BB) = m + 1 + (exo a + BB) by omega, Nat.pow_add 2 (m + 1), Nat.pow_add 2 m 1, ← Nat.mul_assoc, ← Nat.mul_assoc]
      congr 1
      rw [Nat.pow_one, Nat.mul_comm 2, Nat.mul_assoc, Nat.mul_comm 2]
    rw [e1, h, Nat.mul_assoc, ← Nat.pow_add, show t + (m + 1 + BB) = 1022 + t + (m + 52) + 1 by omega]
  rw [key, rung_own hb]
theorem quo_two {x b : Nat} (hx : x < 2 ^ 64) (fx : x % 2 ^ 63 < INF) (hb : b ≤ INF) (h : U (x % 2 ^ 63) = U b * 2) :
    floatBits .quo .f64 x TWO = some (Ieee.double.word (sg x) b) := quo_pow (t := 1) hx fx (by decide) (by decide) (by decide) hb (by rw [h, Nat.pow_one])
theorem word_lt {s : Bool} {r : Nat} (h : r ≤ INF) : Ieee.double.word s r < 2 ^ 64 := (word_lt' s h).1
theorem word_mod {s : Bool} {r : Nat} (h : r ≤ INF) : Ieee.double.word s r % 2 ^ 63 = r := (word_lt' s h).2.1
theorem word_sg {s : Bool} {r : Nat} (h : r ≤ INF) : sg (Ieee.double.word s r) = s := by
  have := (word_lt' s h).2.2
  unfold sg
  cases s
  · have h1 := this.2 rfl
    rw [decide_eq_false_iff_not]; omega
  · have h1 : ¬ (Ieee.double.word true r < 2 ^ 63) := fun g => Bool.noConfusion (this.1 g)
    rw [decide_eq_true_eq]; omega
theorem word_own {x : Nat} (h : x < 2 ^ 64) : Ieee.double.word (sg x) (x % 2 ^ 63) = x := by
  unfold Ieee.Format.word sg
  rw [dbl_sw]
  by_cases g : 2 ^ 63 ≤ x
  · rw [decide_eq_true g, if_pos rfl]; omega
  · rw [decide_eq_false g, if_neg (by decide)]; omega
/-- Times what is no more than 1. -/
theorem mul_small {a b : Nat} (ha : a ≤ INF) (hb : b ≤ ONE) : rung 1074 (U a * U b) ≤ a := by
  have h1 : U a * U b ≤ U a * 2 ^ BB := Nat.mul_le_mul_left _ (by have := U_le hb; rwa [U_one] at this)
  have h2 := rung_mono (k := BB) h1
  rw [rung_own ha] at h2
  exact h2
theorem one_inf : ONE < INF := by decide
/-- POWERS OF WHAT IS NO MORE THAN 1. -/
theorem pw_small : ∀ (n x f : Nat), x < 2 ^ 64 → x % 2 ^ 63 < INF → f < 2 ^ 64 → f % 2 ^ 63 ≤ ONE → ∃ y, pw (some x) (some f) n = some y ∧ y < 2 ^ 64 ∧ y % 2 ^ 63 ≤ x % 2 ^ 63 := by
  intro n
  induction n using Nat.strongRecOn with
  | ind n ih =>
    intro x f hx fx hf ff
    by_cases h0 : n = 0
    · subst h0; exact ⟨x, pw_zero _ _, hx, Nat.le_refl _⟩
    · rw [pw_step _ _ h0]
      have oi := one_inf
      have f1 : f % 2 ^ 63 < INF := by omega
      have hff : fo .mul (some f) (some f) = some (Ieee.double.word (sg f ^^ sg f) (rung 1074 (U (f % 2 ^ 63) * U (f % 2 ^ 63)))) := mul_fin hf hf f1 f1
      have l1 := mul_small (a := f % 2 ^ 63) (Nat.le_of_lt f1) ff
      have l2 := rung_le 1074 (U (f % 2 ^ 63) * U (f % 2 ^ 63))
      rw [hff]
      by_cases h1 : n % 2 = 1
      · rw [if_pos h1]
        have hxf : fo .mul (some x) (some f) = some (Ieee.double.word (sg x ^^ sg f) (rung 1074 (U (x % 2 ^ 63) * U (f % 2 ^ 63)))) := mul_fin hx hf fx f1
        have m1 := mul_small (a := x % 2 ^ 63) (Nat.le_of_lt fx) ff
        have m2 := rung_le 1074 (U (x % 2 ^ 63) * U (f % 2 ^ 63))
        rw [hxf]
        obtain ⟨y, e, g1, g2⟩ := ih (n / 2) (by omega) _ _ (word_lt (s := sg x ^^ sg f) m2) (by rw [word_mod m2]; omega) (word_lt (s := sg f ^^ sg f) l2) (by rw [word_mod l2]; omega)
        exact ⟨y, e, g1, by rw [word_mod m2] at g2; omega⟩
      · rw [if_neg h1]
        obtain ⟨y, e, g1, g2⟩ := ih (n / 2) (by omega) x _ hx fx (word_lt (s := sg f ^^ sg f) l2) (by rw [word_mod l2]; omega)
        exact ⟨y, e, g1, g2⟩
/-- A word, or that it is a NaN. -/
def cn (x : Nat) : Option Nat := if isN x = true then none else some x
theorem cn_fs {x : Nat} (h : x < 2 ^ 64) : FS (cn x) x := by
  unfold cn
  by_cases g : isN x = true
  · rw [if_pos g]; exact ⟨h, g⟩
  · rw [if_neg g]; exact FS.some h
theorem pw_none (f : Option Nat) (n : Nat) : pw none f n = none := by
  induction n using Nat.strongRecOn generalizing f with
  | ind n ih =>
    by_cases h0 : n = 0
    · subst h0; exact pw_zero _ _
    · rw [pw_step _ _ h0]
      have : fo .mul none f = none := by cases f <;> rfl
      rw [this]; simp only [ite_self]
      exact ih (n / 2) (by omega) _
theorem mul_one {x : Nat} (hx : x < 2 ^ 64) (nx : isN x = false) : floatBits .mul .f64 x ONE = some x := by
  have hn : ¬ INF < x % 2 ^ 63 := fun h => by rw [(isN_iff x).2 h] at nx; cases nx
  by_cases fx : x % 2 ^ 63 < INF
  · rw [mul_fin hx (by decide) fx (by decide), show ONE % 2 ^ 63 = ONE by decide, U_one, show sg ONE = false by decide, Bool.xor_false]
    have : rung 1074 (U (x % 2 ^ 63) * 2 ^ BB) = x % 2 ^ 63 := rung_own (Nat.le_of_lt fx) BB
    rw [this, word_own hx]
  · have hi : x % 2 ^ 63 = INF := by omega
    have : x = INF ∨ x = 2 ^ 63 + INF := by omega
    rcases this with rfl | rfl <;> decide +kernel
theorem pw_one {x : Nat} (hx : x < 2 ^ 64) (n : Nat) : pw (cn x) (some ONE) n = cn x := by
  unfold cn
  by_cases g : isN x = true
  · rw [if_pos g]; exact pw_none _ _
  · rw [if_neg g]
    have g' : isN x = false := by simpa using g
    induction n using Nat.strongRecOn with
    | ind n ih =>
      by_cases h0 : n = 0
      · subst h0; exact pw_zero _ _
      · rw [pw_step _ _ h0]
        have e1 : fo .mul (some x) (some ONE) = some x := mul_one hx g'
        have e2 : fo .mul (some ONE) (some ONE) = some ONE := mul_one (by decide) (by decide)
        rw [e1, e2]; simp only [ite_self]
        exact ih (n / 2) (by omega)
/-- The rung of a / 2^j. -/
def hv (a j : Nat) : Nat := rung 0 (a * 2 ^ (BB - j))
theorem hv_fact {a j : Nat} (ha : a < 2 ^ 53) (hj : j ≤ 1000) : hv a j < INF ∧ U (hv a j) = a * 2 ^ (BB - j) := by
  have hB : BB = 1074 := rfl
  obtain ⟨r, h1, h2⟩ := rep ha (e := BB - j) (by omega) (by omega)
  have : hv a j = r := by
    unfold hv
    rw [← h2]
    have := rung_own (Nat.le_of_lt h1) 0
    simpa using this
  rw [this]; exact ⟨h1, h2⟩
theorem hv_succ {a j : Nat} (ha : a < 2 ^ 53) (hj : j + 1 ≤ 1000) : U (hv a j) = U (hv a (j + 1)) * 2 := by
  have hB : BB = 1074 := rfl
  rw [(hv_fact ha (by omega)).2, (hv_fact ha hj).2, show BB - j = BB - (j + 1) + 1 by omega, Nat.pow_succ, Nat.mul_assoc]
/-- A HALF. -/
theorem hv_half (s : Bool) {a j : Nat} (ha : a < 2 ^ 53) (hj : j + 1 ≤ 1000) : floatBits .quo .f64 (Ieee.double.word s (hv a j)) TWO = some (Ieee.double.word s (hv a (j + 1))) := by
  have h1 := (hv_fact ha (show j ≤ 1000 by omega)).1
  have h2 := (hv_fact ha hj).1
  have := quo_two (x := Ieee.double.word s (hv a j)) (b := hv a (j + 1)) (word_lt (Nat.le_of_lt h1)) (by rw [word_mod (Nat.le_of_lt h1)]; exact h1) (Nat.le_of_lt h2) (by rw [word_mod (Nat.le_of_lt h1)]; exact hv_succ ha hj)
  rw [this, word_sg (Nat.le_of_lt h1)]
theorem hv_one : hv 1 0 = ONE := by
  unfold hv
  rw [Nat.one_mul, show BB - 0 = BB from rfl, ← U_one]
  have := rung_own (r := ONE) (by decide) 0
  simpa using this
theorem hv_mul (s : Bool) {a i j : Nat} (ha : a < 2 ^ 53) (h : i + j ≤ 1000) : floatBits .mul .f64 (Ieee.double.word s (hv a i)) (hv 1 j) = some (Ieee.double.word s (hv a (i + j))) := by
  have hB : BB = 1074 := rfl
  have h1 := hv_fact ha (show i ≤ 1000 by omega)
  have h2 := hv_fact (a := 1) (by decide) (show j ≤ 1000 by omega)
  have h3 := hv_fact ha h
  have w1 := Nat.le_of_lt h1.1
  rw [mul_fin (word_lt w1) (lt64 h2.1) (by rw [word_mod w1]; exact h1.1) (by rw [mod_pos h2.1]; exact h2.1), word_mod w1, mod_pos h2.1, word_sg w1, sg_pos h2.1, Bool.xor_false]
  have : U (hv a i) * U (hv 1 j) = U (hv a (i + j)) * 2 ^ BB := by
    rw [h1.2, h2.2, h3.2, Nat.one_mul, Nat.mul_assoc, Nat.mul_assoc, ← Nat.pow_add, ← Nat.pow_add]
    congr 2; omega
  have h4 : rung 1074 (U (hv a (i + j)) * 2 ^ BB) = hv a (i + j) := rung_own (Nat.le_of_lt h3.1) BB
  rw [this, h4]
/-- A POWER OF A HALF'S POWER is exact. -/
theorem pw_half (s : Bool) {a : Nat} (ha : a < 2 ^ 53) : ∀ (m i j : Nat) (F : Option Nat), i + j * m ≤ 1000 → (m ≠ 0 → F = some (hv 1 j)) → pw (some (Ieee.double.word s (hv a i))) F m = some (Ieee.double.word s (hv a (i + j * m))) := by
  intro m
  induction m using Nat.strongRecOn with
  | ind m ih =>
    intro i j F h hF
    by_cases h0 : m = 0
    · subst h0; rw [pw_zero]; simp
    · rw [pw_step _ _ h0, hF h0]
      have hF2 : m / 2 ≠ 0 → fo .mul (some (hv 1 j)) (some (hv 1 j)) = some (hv 1 (2 * j)) := by
        intro hm
        have hjm : j * 2 ≤ j * m := Nat.mul_le_mul_left _ (by omega)
        have := hv_mul false (a := 1) (i := j) (j := j) (by decide) (by omega)
        rw [word_f, word_f] at this
        rw [show 2 * j = j + j by omega]
        exact this
      by_cases h1 : m % 2 = 1
      · have e1 : j * m = j + 2 * j * (m / 2) := by
          have e2 : m = 1 + 2 * (m / 2) := by omega
          have e3 : j * (1 + 2 * (m / 2)) = j + 2 * j * (m / 2) := by rw [Nat.mul_add, Nat.mul_one, ← Nat.mul_assoc, Nat.mul_comm j 2]
          rw [← e3, ← e2]
        have hx : fo .mul (some (Ieee.double.word s (hv a i))) (some (hv 1 j)) = some (Ieee.double.word s (hv a (i + j))) := hv_mul s ha (by omega)
        rw [if_pos h1, hx, ih (m / 2) (by omega) (i + j) (2 * j) _ (by omega) hF2, e1, Nat.add_assoc]
      · have e1 : j * m = 2 * j * (m / 2) := by
          have e2 : m = 2 * (m / 2) := by omega
          have e3 : j * (2 * (m / 2)) = 2 * j * (m / 2) := by rw [← Nat.mul_assoc, Nat.mul_comm j 2]
          rw [← e3, ← e2]
        rw [if_neg h1, ih (m / 2) (by omega) i (2 * j) _ (by omega) hF2, e1]
/-- A whole number as a float. -/
theorem fi_int (z : Int) : floatOfInt .f64 z = Ieee.double.word (decide (z < 0)) (hv z.natAbs 0) := by
  have h := nearest_rung (decide (z < 0)) z.natAbs 0 BB 0 (by decide)
  unfold hv
  rw [show BB - 0 = BB from rfl, ← h]
  rfl
/-- Finite: what less itself is nought. -/
theorem sub_self_iff {x : Nat} (hx : x < 2 ^ 64) {y : Nat} (h : FS (fo .sub (cn x) (cn x)) y) : (Ieee.double.order y 0 == some .eq) = decide (x % 2 ^ 63 < INF) := by
  by_cases g : isN x = true
  · have hn := (isN_iff x).1 g
    have : cn x = none := by unfold cn; rw [if_pos g]
    rw [this] at h
    rw [order_nan_left _ h.2, decide_eq_false (by omega)]; rfl
  · have g' : isN x = false := by simpa using g
    have hn : ¬ INF < x % 2 ^ 63 := fun e => g ((isN_iff x).2 e)
    have : cn x = some x := by unfold cn; rw [if_neg g]
    rw [this] at h
    by_cases fx : x % 2 ^ 63 < INF
    · have e : fo .sub (some x) (some x) = some 0 := by
        show floatBits .sub .f64 x x = _
        have hv0 : V x + V (fneg x) = 0 := by
          rw [V_sg, V_sg, fneg_sg hx, fneg_mod hx]; cases sg x <;> simp <;> omega
        rw [sub_add hx fx, add_fin hx (fneg_lt hx) fx (by rw [fneg_mod hx]; exact fx), if_pos hv0, hv0, fneg_sg hx, Int.natAbs_zero, rung_zero]
        cases sg x <;> rfl
      rw [e] at h
      rw [show y = 0 from h.2, decide_eq_true fx]; decide
    · have hi : x % 2 ^ 63 = INF := by omega
      have e : fo .sub (some x) (some x) = none := by
        have : x = INF ∨ x = 2 ^ 63 + INF := by omega
        rcases this with rfl | rfl <;> decide +kernel
      rw [e] at h
      rw [order_nan_left _ h.2, decide_eq_false fx]; rfl
end Rt
end Go.Proofs.Ytplkoephgmdgkaa
