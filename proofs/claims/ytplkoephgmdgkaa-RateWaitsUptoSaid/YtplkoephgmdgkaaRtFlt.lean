/- Sums, products and whole numbers at words that are not below nought. No program in sight. -/
import Derived.Test.YtplkoephgmdgkaaRtSpec
namespace Go.Proofs.Ytplkoephgmdgkaa
open Go
namespace Rt
theorem inf_lt : INF < 2 ^ 63 := by decide
theorem mod_pos {x : Nat} (h : x < INF) : x % 2 ^ 63 = x := Nat.mod_eq_of_lt (Nat.lt_trans h inf_lt)
theorem sg_pos {x : Nat} (h : x < INF) : sg x = false := by have := inf_lt; unfold sg; rw [decide_eq_false_iff_not]; omega
theorem V_pos {x : Nat} (h : x < INF) : V x = (U x : Int) := by rw [V_sg, sg_pos h, mod_pos h]; rfl
theorem lt64 {x : Nat} (h : x < INF) : x < 2 ^ 64 := by have := inf_lt; omega
theorem word_f (r : Nat) : Ieee.double.word false r = r := rfl
theorem nn (a b : Nat) : ((a : Int) + b).natAbs = a + b := by omega
theorem nl (a b : Nat) : ¬ ((a : Int) + b < 0) := by omega
theorem add_pos1 {x y : Nat} (hx : x < INF) (hy : y < INF) : floatBits .add .f64 x y = some (Ieee.double.word (if V x + V y = 0 then sg x && sg y else decide (V x + V y < 0)) (rung 0 (V x + V y).natAbs)) :=
  add_fin (lt64 hx) (lt64 hy) (by rw [mod_pos hx]; exact hx) (by rw [mod_pos hy]; exact hy)
theorem add_pos2 {x y : Nat} (hx : x < INF) (hy : y < INF) : floatBits .add .f64 x y = some (Ieee.double.word (if V x + V y = 0 then sg x && sg y else decide (V x + V y < 0)) (rung 0 (U x + U y))) := by
  rw [add_pos1 hx hy, V_pos hx, V_pos hy, nn]
theorem add_pos3 {x y : Nat} (hx : x < INF) (hy : y < INF) : (if V x + V y = 0 then sg x && sg y else decide (V x + V y < 0)) = false := by
  rw [V_pos hx, V_pos hy, sg_pos hx, sg_pos hy, decide_eq_false (nl _ _)]
  simp
theorem add_pos {x y : Nat} (hx : x < INF) (hy : y < INF) : floatBits .add .f64 x y = some (rung 0 (U x + U y)) := by
  rw [add_pos2 hx hy, add_pos3 hx hy, word_f]
theorem add_ge {x y : Nat} (hx : x ≤ INF) : x ≤ rung 0 (U x + U y) := by
  have h := rung_own hx 0
  have := rung_mono (k := 0) (show U x * 2 ^ 0 ≤ U x + U y by simp)
  omega
theorem mul_pos {x y : Nat} (hx : x < INF) (hy : y < INF) : floatBits .mul .f64 x y = some (rung BB (U x * U y)) := by
  rw [mul_fin (lt64 hx) (lt64 hy) (by rw [mod_pos hx]; exact hx) (by rw [mod_pos hy]; exact hy), sg_pos hx, sg_pos hy, mod_pos hx, mod_pos hy, Bool.xor_self, word_f]
  rfl
theorem fneg_mod {y : Nat} (hy : y < 2 ^ 64) : fneg y % 2 ^ 63 = y % 2 ^ 63 := by rw [fneg_eq hy]; split <;> omega
theorem fneg_lt {y : Nat} (hy : y < 2 ^ 64) : fneg y < 2 ^ 64 := by rw [fneg_eq hy]; split <;> omega
theorem fneg_sg {y : Nat} (hy : y < 2 ^ 64) : sg (fneg y) = !sg y := by
  unfold sg
  rw [fneg_eq hy]
  by_cases h : y < 2 ^ 63
  · rw [if_pos h, decide_eq_true (show 2 ^ 63 ≤ y + 2 ^ 63 by omega), decide_eq_false (show ¬ 2 ^ 63 ≤ y by omega)]; rfl
  · rw [if_neg h, decide_eq_false (show ¬ 2 ^ 63 ≤ y - 2 ^ 63 by omega), decide_eq_true (show 2 ^ 63 ≤ y by omega)]; rfl
theorem sub_add {x y : Nat} (hy : y < 2 ^ 64) (fy : y % 2 ^ 63 < INF) : floatBits .sub .f64 x y = floatBits .add .f64 x (fneg y) := by
  show Ieee.double.sub x y = Ieee.double.add x (fneg y)
  unfold Ieee.Format.sub Ieee.Format.add
  rw [read_fin hy fy, read_fin (fneg_lt hy) (by rw [fneg_mod hy]; exact fy), fneg_mod hy, fneg_sg hy]
  rfl
theorem V_neg {c : Nat} (hc : c < INF) : V (fneg c) = -(U c : Int) := by
  rw [V_sg, fneg_sg (lt64 hc), sg_pos hc, fneg_mod (lt64 hc), mod_pos hc]; rfl
theorem sn {a b : Nat} (h : b ≤ a) : ((a : Int) + -(b : Int)).natAbs = a - b := by omega
theorem sl {a b : Nat} (h : b ≤ a) : ¬ ((a : Int) + -(b : Int) < 0) := by omega
theorem sub_pos1 {x c : Nat} (hx : x < INF) (hc : c < INF) : floatBits .sub .f64 x c = some (Ieee.double.word (if V x + V (fneg c) = 0 then sg x && sg (fneg c) else decide (V x + V (fneg c) < 0)) (rung 0 (V x + V (fneg c)).natAbs)) := by
  rw [sub_add (lt64 hc) (by rw [mod_pos hc]; exact hc)]
  exact add_fin (lt64 hx) (fneg_lt (lt64 hc)) (by rw [mod_pos hx]; exact hx) (by rw [fneg_mod (lt64 hc), mod_pos hc]; exact hc)
theorem sub_pos2 {x c : Nat} (hx : x < INF) (hc : c ≤ x) : (if V x + V (fneg c) = 0 then sg x && sg (fneg c) else decide (V x + V (fneg c) < 0)) = false := by
  rw [V_pos hx, V_neg (by omega), sg_pos hx, decide_eq_false (sl (U_le hc))]
  simp
theorem sub_pos3 {x c : Nat} (hx : x < INF) (hc : c ≤ x) : (V x + V (fneg c)).natAbs = U x - U c := by
  rw [V_pos hx, V_neg (by omega), sn (U_le hc)]
theorem sub_pos {x c : Nat} (hx : x < INF) (hc : c ≤ x) : floatBits .sub .f64 x c = some (rung 0 (U x - U c)) := by
  rw [sub_pos1 hx (by omega), sub_pos2 hx hc, sub_pos3 hx hc, word_f]
theorem sub_le {x c : Nat} (hx : x ≤ INF) : rung 0 (U x - U c) ≤ x := by
  have h := rung_own hx 0
  have := rung_mono (k := 0) (show U x - U c ≤ U x * 2 ^ 0 by simp)
  omega
theorem sub_negz {x : Nat} (hx : x < INF) : floatBits .sub .f64 x (2 ^ 63) = some x := by
  have hz : (2 ^ 63 : Nat) % 2 ^ 63 = 0 := by decide
  rw [sub_add (by decide) (by decide)]
  have hn : fneg (2 ^ 63) = 0 := by rw [fneg_eq (by decide)]; decide
  rw [hn, add_pos hx (by decide), U_zero, Nat.add_zero]
  have h := rung_own (Nat.le_of_lt hx) 0
  rw [Nat.pow_zero, Nat.mul_one] at h
  rw [h]
theorem fi_eq (n : Nat) : fi n = rung 0 (n * 2 ^ BB) := by
  have h := nearest_rung false n 0 BB 0 (by decide)
  rw [word_f] at h
  rw [← h]
  unfold fi floatOfInt FloatKind.nearest
  have : ((n : Int) < 0) = False := by simp
  simp only [this, decide_false, Int.natAbs_natCast]
  rfl
theorem fi_zero : fi 0 = 0 := by rw [fi_eq, Nat.zero_mul, rung_zero]
theorem fi_mono {n m : Nat} (h : n ≤ m) : fi n ≤ fi m := by rw [fi_eq, fi_eq]; exact rung_mono (Nat.mul_le_mul_right _ h)
/-- The word of 2^38. -/
def R38 : Nat := 4778319204640096256
theorem U_R38 : U R38 = 2 ^ (BB + 38) := U_of (e := 1060) (by decide) (by decide) (by decide)
theorem fi_small {n : Nat} (h : n ≤ 2 ^ 38) : fi n ≤ R38 := by
  rw [fi_eq]
  have h1 : n * 2 ^ BB ≤ U R38 * 2 ^ 0 := by
    rw [U_R38, Nat.pow_zero, Nat.mul_one, Nat.add_comm, Nat.pow_add]
    exact Nat.mul_le_mul_right _ h
  have h2 := rung_mono (k := 0) h1
  rw [rung_own (by decide)] at h2
  exact h2
/-- The words of 2^-20, 2^20, 2^58. -/
def LEAST : Nat := 4517110426252607488
def MOST : Nat := 4697254411347427328
def R58 : Nat := 4868391197187506176
theorem U_MOST : U MOST = 2 ^ (BB + 20) := U_of (e := 1042) (by decide) (by decide) (by decide)
theorem U_R58 : U R58 = 2 ^ (BB + 58) := U_of (e := 1080) (by decide) (by decide) (by decide)
/-- What is added in so many seconds. -/
def more (per d : Nat) : Nat := rung BB (U (fi d) * U per)
theorem more_eq {per d : Nat} (hp : per ≤ MOST) (hd : d ≤ 2 ^ 38) : floatBits .mul .f64 (fi d) per = some (more per d) := by
  have h1 := fi_small hd
  have h2 : R38 < INF := by decide
  have h3 : MOST < INF := by decide
  exact mul_pos (by omega) (by omega)
theorem more_small {per d : Nat} (hp : per ≤ MOST) (hd : d ≤ 2 ^ 38) : more per d ≤ R58 := by
  have h1 := U_le (fi_small hd)
  have h2 := U_le hp
  rw [U_R38] at h1
  rw [U_MOST] at h2
  have h3 : U (fi d) * U per ≤ U R58 * 2 ^ BB := by
    rw [U_R58, ← Nat.pow_add]
    refine Nat.le_trans (Nat.mul_le_mul h1 h2) ?_
    rw [← Nat.pow_add, show BB + 38 + (BB + 20) = BB + 58 + BB by omega]
    exact Nat.le_refl _
  have h4 := rung_mono (k := BB) h3
  rw [rung_own (by decide)] at h4
  exact h4
end Rt
end Go.Proofs.Ytplkoephgmdgkaa
