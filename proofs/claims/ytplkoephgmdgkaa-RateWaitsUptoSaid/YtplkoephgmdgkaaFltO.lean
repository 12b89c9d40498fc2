/- The order of words: by their rungs, with the sign. No program in sight. -/
import Derived.Test.YtplkoephgmdgkaaFltP
namespace Go.Proofs.Ytplkoephgmdgkaa
open Go

def INF : Nat := 0x7ff0000000000000
/-- A rung's exact value, in units of the least place. -/
def sig (r : Nat) : Nat := if r < 2 ^ 52 then r else 2 ^ 52 + r % 2 ^ 52
def exo (r : Nat) : Nat := r / 2 ^ 52 - 1
def U (r : Nat) : Nat := sig r * 2 ^ exo r
/-- A word's place in the order. -/
def key (x : Nat) : Int := if x < 2 ^ 63 then ((x % 2 ^ 63 : Nat) : Int) else -((x % 2 ^ 63 : Nat) : Int)

theorem sig_lt (r : Nat) : sig r < 2 ^ 53 := by
  unfold sig
  split <;> omega
theorem U_mono {r s : Nat} (h : r < s) : U r < U s := by
  by_cases hs : s < 2 ^ 52
  · have hr : r < 2 ^ 52 := by omega
    unfold U sig exo
    rw [if_pos hs, if_pos hr, Nat.div_eq_of_lt hs, Nat.div_eq_of_lt hr]
    simpa using h
  · have hsd : 1 ≤ s / 2 ^ 52 := by omega
    have es : U s = (2 ^ 52 + s % 2 ^ 52) * 2 ^ (s / 2 ^ 52 - 1) := by unfold U sig exo; rw [if_neg hs]
    by_cases hr : r < 2 ^ 52
    · have er : U r = r := by unfold U sig exo; rw [if_pos hr, Nat.div_eq_of_lt hr]; simp
      rw [er, es]
      have : 2 ^ 52 * 1 ≤ (2 ^ 52 + s % 2 ^ 52) * 2 ^ (s / 2 ^ 52 - 1) := Nat.mul_le_mul (by omega) Nat.one_le_two_pow
      omega
    · have er : U r = (2 ^ 52 + r % 2 ^ 52) * 2 ^ (r / 2 ^ 52 - 1) := by unfold U sig exo; rw [if_neg hr]
      rw [er, es]
      by_cases hq : r / 2 ^ 52 = s / 2 ^ 52
      · rw [hq]
        have : r % 2 ^ 52 < s % 2 ^ 52 := by omega
        exact Nat.mul_lt_mul_of_pos_right (by omega) (Nat.two_pow_pos _)
      · have hlt : r / 2 ^ 52 < s / 2 ^ 52 := by omega
        have hrd : 1 ≤ r / 2 ^ 52 := by omega
        obtain ⟨a, ha⟩ : ∃ a, r / 2 ^ 52 = a + 1 := ⟨r / 2 ^ 52 - 1, by omega⟩
        obtain ⟨b, hb⟩ : ∃ b, s / 2 ^ 52 = a + 1 + (b + 1) := ⟨s / 2 ^ 52 - (a + 2), by omega⟩
        rw [ha, hb, show a + 1 - 1 = a from rfl, show a + 1 + (b + 1) - 1 = a + (b + 1) by omega]
        have h1 : (2 ^ 52 + r % 2 ^ 52) * 2 ^ a < 2 ^ 53 * 2 ^ a := Nat.mul_lt_mul_of_pos_right (by omega) (Nat.two_pow_pos _)
        have h2 : 2 ^ 52 * 2 ^ (a + 1) ≤ (2 ^ 52 + s % 2 ^ 52) * 2 ^ (a + (b + 1)) := Nat.mul_le_mul (by omega) (Nat.pow_le_pow_right (by decide) (by omega))
        have h3 : 2 ^ 53 * 2 ^ a = 2 ^ 52 * 2 ^ (a + 1) := by rw [Nat.pow_succ]; omega
        omega
theorem U_zero : U 0 = 0 := rfl
theorem U_le {r s : Nat} (h : r ≤ s) : U r ≤ U s := by
  rcases Nat.lt_or_eq_of_le h with h | rfl
  · exact Nat.le_of_lt (U_mono h)
  · exact Nat.le_refl _
theorem U_lt_iff {r s : Nat} : U r < U s ↔ r < s := ⟨fun h => by
  rcases Nat.lt_or_ge r s with g | g
  · exact g
  · have := U_le g; omega, U_mono⟩
theorem U_inj {r s : Nat} (h : U r = U s) : r = s := by
  rcases Nat.lt_trichotomy r s with g | g | g
  · have := U_mono g; omega
  · exact g
  · have := U_mono g; omega

theorem dbl_sw : Ieee.double.signWeight = 2 ^ 63 := rfl
theorem dbl_bin : Ieee.double.binade = 2 ^ 52 := rfl
theorem dbl_inf : Ieee.double.infRung = INF := by decide
theorem dbl_low : Ieee.double.leastPlace = -1074 := by decide
theorem read_num {x : Nat} (h : x % 2 ^ 63 < INF) : Ieee.double.read x = .number (x / 2 ^ 63 % 2 == 1) (sig (x % 2 ^ 63)) (-1074 + (exo (x % 2 ^ 63) : Nat)) := by
  unfold Ieee.Format.read
  simp only [dbl_sw, dbl_bin, dbl_inf, dbl_low]
  by_cases h1 : x % 2 ^ 63 < 2 ^ 52
  · rw [if_pos h1]
    unfold sig exo
    rw [if_pos h1, Nat.div_eq_of_lt h1]
    rfl
  · rw [if_neg h1, if_pos h]
    unfold sig exo
    rw [if_neg h1]
theorem read_inf {x : Nat} (h : x % 2 ^ 63 = INF) : Ieee.double.read x = .infinity (x / 2 ^ 63 % 2 == 1) := by
  unfold Ieee.Format.read
  simp only [dbl_sw, dbl_bin, dbl_inf, dbl_low, h]
  rw [if_neg (by decide), if_neg (by decide), if_pos trivial]
theorem read_isN {x : Nat} (h : INF < x % 2 ^ 63) : isN x = true := by
  unfold isN Ieee.Format.read
  simp only [dbl_sw, dbl_bin, dbl_inf, dbl_low]
  have hi : INF = 0x7ff0000000000000 := rfl
  rw [if_neg (by omega), if_neg (by omega), if_neg (by omega)]
  rfl
theorem isN_iff (x : Nat) : isN x = true ↔ INF < x % 2 ^ 63 := by
  refine ⟨fun h => ?_, read_isN⟩
  rcases Nat.lt_trichotomy (x % 2 ^ 63) INF with g | g | g
  · rw [isN, read_num g] at h; cases h
  · rw [isN, read_inf g] at h; cases h
  · exact g
theorem sgn_of {x : Nat} (h : x < 2 ^ 64) : (x / 2 ^ 63 % 2 == 1) = decide (2 ^ 63 ≤ x) := by
  rw [Bool.eq_iff_iff]
  simp only [beq_iff_eq, decide_eq_true_eq]
  omega

theorem cmp_mul (a b : Int) (c : Nat) (hc : 0 < c) : compare a b = compare (a * c) (b * c) := by
  have hc' : (0 : Int) < c := by omega
  rcases Int.lt_trichotomy a b with h | h | h
  · rw [Int.compare_eq_lt.2 h, Int.compare_eq_lt.2 (Int.mul_lt_mul_of_pos_right h hc')]
  · subst h; rw [Int.compare_eq_eq.2 rfl, Int.compare_eq_eq.2 rfl]
  · rw [Int.compare_eq_gt.2 h, Int.compare_eq_gt.2 (Int.mul_lt_mul_of_pos_right h hc')]
/-- The exact value with its sign. -/
def V (x : Nat) : Int := if x < 2 ^ 63 then (U (x % 2 ^ 63) : Int) else -(U (x % 2 ^ 63) : Int)
theorem signed_mul (s : Bool) (m k b : Nat) : Ieee.signed s m k * ((2 ^ b : Nat) : Int) = if s then -((m * 2 ^ (k + b) : Nat) : Int) else ((m * 2 ^ (k + b) : Nat) : Int) := by
  unfold Ieee.signed
  rw [Nat.shiftLeft_eq, Nat.pow_add, ← Nat.mul_assoc]
  cases s
  · simp
  · simp [Int.neg_mul]
theorem order_num {x y : Nat} (hx : x < 2 ^ 64) (hy : y < 2 ^ 64) (h1 : x % 2 ^ 63 < INF) (h2 : y % 2 ^ 63 < INF) : Ieee.double.order x y = some (compare (V x) (V y)) := by
  unfold Ieee.Format.order
  rw [read_num h1, read_num h2, sgn_of hx, sgn_of hy]
  simp only [Ieee.Datum.order]
  congr 1
  obtain ⟨b, hb⟩ : ∃ b, b = min (exo (x % 2 ^ 63)) (exo (y % 2 ^ 63)) := ⟨_, rfl⟩
  rw [cmp_mul _ _ (2 ^ b) (Nat.two_pow_pos _), signed_mul, signed_mul]
  have e1 : ((-1074 + (exo (x % 2 ^ 63) : Int)) - min (-1074 + (exo (x % 2 ^ 63) : Int)) (-1074 + (exo (y % 2 ^ 63) : Int))).toNat + b = exo (x % 2 ^ 63) := by omega
  have e2 : ((-1074 + (exo (y % 2 ^ 63) : Int)) - min (-1074 + (exo (x % 2 ^ 63) : Int)) (-1074 + (exo (y % 2 ^ 63) : Int))).toNat + b = exo (y % 2 ^ 63) := by omega
  rw [e1, e2]
  congr 1
  · unfold V U
    by_cases g : x < 2 ^ 63
    · rw [if_pos g, decide_eq_false (by omega)]; rfl
    · rw [if_neg g, decide_eq_true (by omega)]; rfl
  · unfold V U
    by_cases g : y < 2 ^ 63
    · rw [if_pos g, decide_eq_false (by omega)]; rfl
    · rw [if_neg g, decide_eq_true (by omega)]; rfl
theorem V_lt_iff (x y : Nat) : V x < V y ↔ key x < key y := by
  have hm : ∀ {r s : Nat}, U r < U s ↔ r < s := U_lt_iff
  have hp : ∀ r, 0 < U r ↔ 0 < r := fun r => by have := hm (r := 0) (s := r); rw [U_zero] at this; exact this
  have a := hp (x % 2 ^ 63)
  have b := hp (y % 2 ^ 63)
  have c := hm (r := x % 2 ^ 63) (s := y % 2 ^ 63)
  have d := hm (r := y % 2 ^ 63) (s := x % 2 ^ 63)
  unfold V key
  generalize U (x % 2 ^ 63) = p at *
  generalize U (y % 2 ^ 63) = q at *
  generalize x % 2 ^ 63 = r at *
  generalize y % 2 ^ 63 = s at *
  split <;> split <;> omega
theorem cmp_congr {a b c d : Int} (h1 : a < b ↔ c < d) (h2 : b < a ↔ d < c) : compare a b = compare c d := by
  rcases Int.lt_trichotomy a b with h | h | h
  · rw [Int.compare_eq_lt.2 h, Int.compare_eq_lt.2 (h1.1 h)]
  · rw [Int.compare_eq_eq.2 h, Int.compare_eq_eq.2 (by omega)]
  · rw [Int.compare_eq_gt.2 h, Int.compare_eq_gt.2 (h2.1 h)]
/-- THE ORDER OF WORDS. -/
theorem order_key {x y : Nat} (hx : x < 2 ^ 64) (hy : y < 2 ^ 64) (nx : isN x = false) (ny : isN y = false) : Ieee.double.order x y = some (compare (key x) (key y)) := by
  have ix : x % 2 ^ 63 ≤ INF := by
    rcases Nat.lt_or_ge INF (x % 2 ^ 63) with g | g
    · rw [read_isN g] at nx; cases nx
    · exact g
  have iy : y % 2 ^ 63 ≤ INF := by
    rcases Nat.lt_or_ge INF (y % 2 ^ 63) with g | g
    · rw [read_isN g] at ny; cases ny
    · exact g
  have hi : INF = 0x7ff0000000000000 := rfl
  rcases Nat.lt_or_eq_of_le ix with hx1 | hx1
  · rcases Nat.lt_or_eq_of_le iy with hy1 | hy1
    · rw [order_num hx hy hx1 hy1, cmp_congr (V_lt_iff x y) (V_lt_iff y x)]
    · unfold Ieee.Format.order
      rw [read_num hx1, read_inf hy1, sgn_of hy]
      simp only [Ieee.Datum.order]
      congr 1
      unfold key
      by_cases g : y < 2 ^ 63
      · rw [decide_eq_false (by omega), if_pos g, hy1]
        exact (Int.compare_eq_lt.2 (by split <;> omega)).symm
      · rw [decide_eq_true (by omega), if_neg g, hy1]
        exact (Int.compare_eq_gt.2 (by split <;> omega)).symm
  · rcases Nat.lt_or_eq_of_le iy with hy1 | hy1
    · unfold Ieee.Format.order
      rw [read_inf hx1, read_num hy1, sgn_of hx]
      simp only [Ieee.Datum.order]
      congr 1
      unfold key
      by_cases g : x < 2 ^ 63
      · rw [decide_eq_false (by omega), if_pos g, hx1]
        exact (Int.compare_eq_gt.2 (by split <;> omega)).symm
      · rw [decide_eq_true (by omega), if_neg g, hx1]
        exact (Int.compare_eq_lt.2 (by split <;> omega)).symm
    · unfold Ieee.Format.order
      rw [read_inf hx1, read_inf hy1, sgn_of hx, sgn_of hy]
      simp only [Ieee.Datum.order]
      congr 1
      unfold key
      rw [hx1, hy1]
      by_cases g : x < 2 ^ 63 <;> by_cases g' : y < 2 ^ 63
      · rw [decide_eq_false (show ¬ 2 ^ 63 ≤ x by omega), decide_eq_false (show ¬ 2 ^ 63 ≤ y by omega), if_pos g, if_pos g']; decide
      · rw [decide_eq_false (show ¬ 2 ^ 63 ≤ x by omega), decide_eq_true (show 2 ^ 63 ≤ y by omega), if_pos g, if_neg g']; decide
      · rw [decide_eq_true (show 2 ^ 63 ≤ x by omega), decide_eq_false (show ¬ 2 ^ 63 ≤ y by omega), if_neg g, if_pos g']; decide
      · rw [decide_eq_true (show 2 ^ 63 ≤ x by omega), decide_eq_true (show 2 ^ 63 ≤ y by omega), if_neg g, if_neg g']; decide

/-- As Go compares. -/
theorem lt_iff {x y : Nat} (hx : x < 2 ^ 64) (hy : y < 2 ^ 64) (nx : isN x = false) (ny : isN y = false) : (Ieee.double.order x y == some .lt) = decide (key x < key y) := by
  rw [order_key hx hy nx ny, Bool.eq_iff_iff]
  simp [Int.compare_eq_lt]
theorem gt_iff {x y : Nat} (hx : x < 2 ^ 64) (hy : y < 2 ^ 64) (nx : isN x = false) (ny : isN y = false) : (Ieee.double.order x y == some .gt) = decide (key y < key x) := by
  rw [order_key hx hy nx ny, Bool.eq_iff_iff]
  simp [Int.compare_eq_gt]
theorem eq_iff {x y : Nat} (hx : x < 2 ^ 64) (hy : y < 2 ^ 64) (nx : isN x = false) (ny : isN y = false) : (Ieee.double.order x y == some .eq) = decide (key x = key y) := by
  rw [order_key hx hy nx ny, Bool.eq_iff_iff]
  simp

/-- Above the greatest float: infinity alone. -/
theorem big_iff {x : Nat} (hx : x < 2 ^ 64) : (Ieee.double.order x 9218868437227405311 == some .gt) = decide (x = INF) := by
  have hi : INF = 0x7ff0000000000000 := rfl
  cases hn : isN x
  · have nf : ¬ INF < x % 2 ^ 63 := fun h => by rw [(isN_iff x).2 h] at hn; cases hn
    rw [gt_iff hx (by decide) hn (by decide), Bool.eq_iff_iff]
    simp only [decide_eq_true_eq]
    have ek : key 9218868437227405311 = 9218868437227405311 := by decide
    rw [ek]
    unfold key
    split <;> omega
  · have nf := (isN_iff x).1 hn
    rw [order_nan_left _ hn, decide_eq_false (by omega)]
    rfl
/-- The other sign. -/
def fneg (x : Nat) : Nat := x ^^^ 2 ^ 63
theorem fneg_eq {x : Nat} (hx : x < 2 ^ 64) : fneg x = if x < 2 ^ 63 then x + 2 ^ 63 else x - 2 ^ 63 := by
  have hd : ∀ a : Nat, a < 2 ^ 63 → a ^^^ 2 ^ 63 = a + 2 ^ 63 := by
    intro a ha
    apply Nat.eq_of_testBit_eq
    intro i
    rw [Nat.testBit_xor, Nat.testBit_two_pow]
    by_cases h : 63 = i
    · subst h
      rw [Nat.testBit_lt_two_pow ha, Nat.add_comm, Nat.testBit_two_pow_add_eq, Nat.testBit_lt_two_pow ha]
      simp
    · rcases Nat.lt_or_gt_of_ne h with g | g
      · have e1 : a.testBit i = false := Nat.testBit_lt_two_pow (Nat.lt_of_lt_of_le ha (Nat.pow_le_pow_right (by decide) (by omega)))
        have e2 : (a + 2 ^ 63).testBit i = false := Nat.testBit_lt_two_pow (Nat.lt_of_lt_of_le (show a + 2 ^ 63 < 2 ^ 64 by omega) (Nat.pow_le_pow_right (by decide) (by omega)))
        rw [e1, e2]; simp [h]
      · rw [Nat.add_comm, Nat.testBit_two_pow_add_gt g]
        simp [h]
  unfold fneg
  split
  · exact hd x ‹_›
  · have := hd (x - 2 ^ 63) (by omega)
    rw [show x = (x - 2 ^ 63) + 2 ^ 63 by omega, ← this, Nat.xor_assoc, Nat.xor_self, Nat.xor_zero, this]
    omega
end Go.Proofs.Ytplkoephgmdgkaa
