/- What sums, products, quotients of finite floats are, by rungs. No program in sight. -/
import Derived.Test.YtplkoephgmdgkaaFltR
namespace Go.Proofs.Ytplkoephgmdgkaa
open Go

theorem rne_scale (n e j : Nat) : rne (n * 2 ^ j) (e + j) = rne n e := by
  unfold rne
  have hp : 0 < 2 ^ j := Nat.two_pow_pos j
  rw [Nat.pow_add, Nat.mul_div_mul_right _ _ hp, Nat.mul_mod_mul_right]
  congr 1
  have e1 : (2 ^ e * 2 ^ j < 2 * (n % 2 ^ e * 2 ^ j)) ↔ 2 ^ e < 2 * (n % 2 ^ e) := by
    rw [← Nat.mul_assoc]; exact Nat.mul_lt_mul_right hp
  have e2 : (2 ^ e * 2 ^ j = 2 * (n % 2 ^ e * 2 ^ j)) ↔ 2 ^ e = 2 * (n % 2 ^ e) := by
    rw [← Nat.mul_assoc]
    exact ⟨fun h => Nat.eq_of_mul_eq_mul_right hp h, fun h => congrArg (fun t => t * 2 ^ j) h⟩
  simp only [e1, e2]
theorem lt_four (n : Nat) : 2 * n < 2 ^ (n.log2 + 2) := by
  have h : n < 2 ^ (n.log2 + 1) := Nat.lt_log2_self
  rw [Nat.pow_succ]
  omega
theorem cut_even (neg : Bool) (n d : Nat) : Ieee.Toward.even.cut neg n d = rne n d := by
  unfold Ieee.Toward.cut
  simp only [Nat.shiftLeft_eq, Nat.one_mul]
  by_cases h : d ≤ n.log2 + 2
  · rw [Nat.min_eq_left h]
    unfold rne
    congr 1
    by_cases c1 : 2 ^ d < 2 * (n % 2 ^ d)
    · simp [c1]
    · by_cases c2 : 2 ^ d = 2 * (n % 2 ^ d)
      · by_cases c3 : n / 2 ^ d % 2 = 1
        · rw [if_pos (.inr ⟨c2, c3⟩), decide_eq_false c1]
          simp [← c2, c3]
        · rw [if_neg (by rintro (g | ⟨_, g⟩) <;> contradiction), decide_eq_false c1]
          simp [c3]
      · rw [if_neg (by rintro (g | ⟨g, _⟩) <;> contradiction), decide_eq_false c1]
        simp [c2]
  · have h' : n.log2 + 2 ≤ d := by omega
    rw [Nat.min_eq_right h']
    have h1 := lt_four n
    have h2 : 2 ^ (n.log2 + 2) ≤ 2 ^ d := Nat.pow_le_pow_right (Nat.zero_lt_succ 1) h'
    unfold rne
    generalize 2 ^ (n.log2 + 2) = p at *
    generalize 2 ^ d = q at *
    rw [Nat.div_eq_of_lt (show n < p by omega), Nat.mod_eq_of_lt (show n < p by omega), Nat.div_eq_of_lt (show n < q by omega), Nat.mod_eq_of_lt (show n < q by omega)]
    rw [if_neg (by omega), decide_eq_false (show ¬ p < 2 * n by omega), beq_eq_false_iff_ne.2 (show p ≠ 2 * n by omega)]
    rfl
theorem dbl_frac : Ieee.double.fractionBits = 52 := rfl
/-- The nearest word, over the place -1074 - k. -/
theorem nearest_rung (neg : Bool) (m k j : Nat) (place : Int) (hp : place = -1074 - (k : Int) + j) : Ieee.double.nearest neg m place = Ieee.double.word neg (rung k (m * 2 ^ j)) := by
  unfold Ieee.Format.nearest
  by_cases hm : m = 0
  · rw [if_pos hm, hm, Nat.zero_mul, rung_zero]
  · rw [if_neg hm]
    simp only [dbl_low, dbl_frac, dbl_bin, dbl_inf, cut_even]
    apply congrArg (Ieee.double.word neg)
    have hl := log2_mul_pow (k := j) hm
    have hd : dropOf k (m * 2 ^ j) = max k (m.log2 + j - 52) := by unfold dropOf; rw [hl]
    have hlast : max (place + (m.log2 : Int) - ((52 : Nat) : Int)) (-1074) = -1074 - (k : Int) + (dropOf k (m * 2 ^ j) : Nat) := by rw [hd]; omega
    rw [hlast]
    unfold rung
    generalize dropOf k (m * 2 ^ j) = d at *
    have hk : k ≤ d := by rw [hd]; omega
    have t1 : (-1074 - (k : Int) + (d : Int) - -1074).toNat = d - k := by omega
    have t2 : (place - (-1074 - (k : Int) + (d : Int))).toNat = j - d := by omega
    have t3 : (-1074 - (k : Int) + (d : Int) - place).toNat = d - j := by omega
    rw [t1, t2, t3]
    suffices key : rne (m <<< (j - d)) (d - j) = rne (m * 2 ^ j) d by rw [key]
    rw [Nat.shiftLeft_eq]
    by_cases g : j ≤ d
    · rw [show j - d = 0 by omega, Nat.pow_zero, Nat.mul_one]
      have := rne_scale m (d - j) j
      rw [show d - j + j = d by omega] at this
      exact this.symm
    · have e1 : d - j = 0 := by omega
      have e2 : m * 2 ^ j = (m * 2 ^ (j - d)) * 2 ^ d := by rw [Nat.mul_assoc, ← Nat.pow_add, show j - d + d = j by omega]
      rw [e1, e2, rne_mul]
      have := rne_mul (m * 2 ^ (j - d)) 0
      simpa using this

theorem word_lt' (neg : Bool) {r : Nat} (h : r ≤ INF) : Ieee.double.word neg r < 2 ^ 64 ∧ Ieee.double.word neg r % 2 ^ 63 = r ∧ (Ieee.double.word neg r < 2 ^ 63 ↔ neg = false) := by
  have hi : INF = 0x7ff0000000000000 := rfl
  unfold Ieee.Format.word
  rw [dbl_sw]
  cases neg
  · simp; omega
  · simp; omega
theorem rung_le (k n : Nat) : rung k n ≤ INF := Nat.min_le_right ..
/-- A finite word's sign. -/
def sg (x : Nat) : Bool := decide (2 ^ 63 ≤ x)
theorem V_sg (x : Nat) : V x = if sg x then -(U (x % 2 ^ 63) : Int) else (U (x % 2 ^ 63) : Int) := by
  unfold V sg
  by_cases h : x < 2 ^ 63
  · rw [if_pos h, decide_eq_false (by omega)]; rfl
  · rw [if_neg h, decide_eq_true (by omega)]; rfl
theorem read_fin {x : Nat} (hx : x < 2 ^ 64) (h : x % 2 ^ 63 < INF) : Ieee.double.read x = .number (sg x) (sig (x % 2 ^ 63)) (-1074 + (exo (x % 2 ^ 63) : Nat)) := by
  rw [read_num h, sgn_of hx]; rfl
theorem signed_V (x b : Nat) (k : Nat) (h : k + b = exo (x % 2 ^ 63)) : Ieee.signed (sg x) (sig (x % 2 ^ 63)) k * ((2 ^ b : Nat) : Int) = V x := by
  rw [signed_mul, h, V_sg]; rfl
theorem int_sg {t v : Int} {p : Nat} (hp : 0 < p) (h : t * (p : Int) = v) : (t = 0 ↔ v = 0) ∧ (t < 0 ↔ v < 0) ∧ t.natAbs * p = v.natAbs := by
  subst h
  have hp' : (0 : Int) < p := by omega
  refine ⟨⟨fun h => by rw [h, Int.zero_mul], fun h => ?_⟩, ⟨fun h => Int.mul_neg_of_neg_of_pos h hp', fun h => ?_⟩, by rw [Int.natAbs_mul]; rfl⟩
  · rcases Int.mul_eq_zero.1 h with h | h
    · exact h
    · omega
  · by_cases g : t < 0
    · exact g
    · have := Int.mul_nonneg (Int.not_lt.1 g) (Int.le_of_lt hp'); omega
/-- THE SUM of two finite words. -/
theorem add_fin {x y : Nat} (hx : x < 2 ^ 64) (hy : y < 2 ^ 64) (fx : x % 2 ^ 63 < INF) (fy : y % 2 ^ 63 < INF) :
    floatBits .add .f64 x y = some (Ieee.double.word (if V x + V y = 0 then sg x && sg y else decide (V x + V y < 0)) (rung 0 (V x + V y).natAbs)) := by
  show Ieee.double.add x y = _
  unfold Ieee.Format.add
  rw [read_fin hx fx, read_fin hy fy]
  simp only [Ieee.Datum.sum, Option.map_some, Ieee.Format.write]
  apply congrArg some
  obtain ⟨b, hb⟩ : ∃ b, b = min (exo (x % 2 ^ 63)) (exo (y % 2 ^ 63)) := ⟨_, rfl⟩
  have hbase : min (-1074 + (exo (x % 2 ^ 63) : Int)) (-1074 + (exo (y % 2 ^ 63) : Int)) = -1074 + (b : Int) := by omega
  rw [hbase]
  have e1 := signed_V x b ((-1074 + (exo (x % 2 ^ 63) : Int)) - (-1074 + (b : Int))).toNat (by omega)
  have e2 := signed_V y b ((-1074 + (exo (y % 2 ^ 63) : Int)) - (-1074 + (b : Int))).toNat (by omega)
  generalize Ieee.signed (sg x) (sig (x % 2 ^ 63)) ((-1074 + (exo (x % 2 ^ 63) : Int)) - (-1074 + (b : Int))).toNat = p at *
  generalize Ieee.signed (sg y) (sig (y % 2 ^ 63)) ((-1074 + (exo (y % 2 ^ 63) : Int)) - (-1074 + (b : Int))).toNat = q at *
  obtain ⟨g1, g2, g3⟩ := int_sg (Nat.two_pow_pos b) (show (p + q) * ((2 ^ b : Nat) : Int) = V x + V y by rw [Int.add_mul, e1, e2])
  rw [nearest_rung _ _ 0 b _ (by omega), g3]
  simp only [g1, g2]
/-- THE PRODUCT of two finite words. -/
theorem mul_fin {x y : Nat} (hx : x < 2 ^ 64) (hy : y < 2 ^ 64) (fx : x % 2 ^ 63 < INF) (fy : y % 2 ^ 63 < INF) :
    floatBits .mul .f64 x y = some (Ieee.double.word (sg x ^^ sg y) (rung 1074 (U (x % 2 ^ 63) * U (y % 2 ^ 63)))) := by
  show Ieee.double.mul x y = _
  unfold Ieee.Format.mul
  rw [read_fin hx fx, read_fin hy fy]
  simp only [Ieee.Datum.product, Option.map_some, Ieee.Format.write]
  apply congrArg some
  rw [nearest_rung _ _ 1074 (exo (x % 2 ^ 63) + exo (y % 2 ^ 63)) _ (by omega)]
  have key : sig (x % 2 ^ 63) * sig (y % 2 ^ 63) * 2 ^ (exo (x % 2 ^ 63) + exo (y % 2 ^ 63)) = U (x % 2 ^ 63) * U (y % 2 ^ 63) := by
    unfold U
    rw [Nat.pow_add]
    generalize 2 ^ exo (x % 2 ^ 63) = p
    generalize 2 ^ exo (y % 2 ^ 63) = q
    rw [Nat.mul_mul_mul_comm]
  rw [key]
end Go.Proofs.Ytplkoephgmdgkaa
