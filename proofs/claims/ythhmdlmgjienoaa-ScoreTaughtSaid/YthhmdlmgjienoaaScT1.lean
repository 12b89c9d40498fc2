/- What is taught goes the right way: plainly. -/
import Derived.Test.YthhmdlmgjienoaaScS2
namespace Go.Proofs.Ythhmdlmgjienoaa
open Go Go.RowKit

/-- A whole number of least units, rounded: its place in the order. -/
def Rz (t : Int) : Int := if t < 0 then -(rung 0 t.natAbs : Int) else (rung 0 t.natAbs : Int)
theorem Rz_mono {a b : Int} (h : a ≤ b) : Rz a ≤ Rz b := by
  unfold Rz
  by_cases ha : a < 0
  · rw [if_pos ha]
    by_cases hb : b < 0
    · rw [if_pos hb]
      have := rung_mono (k := 0) (show b.natAbs ≤ a.natAbs by omega)
      omega
    · rw [if_neg hb]; omega
  · rw [if_neg ha, if_neg (by omega)]
    have := rung_mono (k := 0) (show a.natAbs ≤ b.natAbs by omega)
    omega
theorem Rz_zero : Rz 0 = 0 := by
  unfold Rz
  rw [if_neg (by omega)]
  have : rung 0 (0 : Int).natAbs = 0 := rung_zero 0
  rw [this]; rfl
theorem Rz_own {x : Nat} (h : x % 2 ^ 63 < INF) : Rz (V x) = key x := by
  have ho := rung_own (r := x % 2 ^ 63) (Nat.le_of_lt h) 0
  rw [Nat.pow_zero, Nat.mul_one] at ho
  unfold Rz
  rw [V_abs, ho, key_of]
  by_cases h0 : V x = 0
  · rw [V_key_zero h0, h0]; cases sg x <;> rfl
  · have hp : 0 < U (x % 2 ^ 63) := by have := V_abs x; omega
    rw [V_sg]
    cases sg x
    · rw [if_neg (show ¬ (if false = true then -(U (x % 2 ^ 63) : Int) else (U (x % 2 ^ 63) : Int)) < 0 by simp)]; rfl
    · rw [if_pos (show (if true = true then -(U (x % 2 ^ 63) : Int) else (U (x % 2 ^ 63) : Int)) < 0 by simp; omega)]; rfl
theorem sum_key {n : Bool} {t : Int} (hn : t ≠ 0 → n = decide (t < 0)) : key (Ieee.double.word n (rung 0 t.natAbs)) = Rz t := by
  rw [key_word (rung_le _ _)]
  unfold Rz
  by_cases h0 : t = 0
  · subst h0
    have : rung 0 (0 : Int).natAbs = 0 := rung_zero 0
    rw [this]
    cases n <;> simp
  · rw [hn h0]
    by_cases g : t < 0
    · rw [if_pos g, decide_eq_true g, if_pos (Eq.refl true)]
    · rw [if_neg g, decide_eq_false g, if_neg Bool.false_ne_true]
theorem add_key {x y s : Nat} (hx : x < 2 ^ 64) (hy : y < 2 ^ 64) (fx : x % 2 ^ 63 < INF) (fy : y % 2 ^ 63 < INF) (h : floatBits .add .f64 x y = some s) : key s = Rz (V x + V y) := by
  rw [add_fin hx hy fx fy] at h
  injection h with h
  rw [← h]
  exact sum_key (fun h0 => if_neg h0)
theorem V_neg {x : Nat} (hx : x < 2 ^ 64) : V (fneg x) = - V x := by
  rw [V_sg, V_sg, fneg_mod hx, sg_fneg hx]
  cases sg x <;> simp
theorem sub_is {x y : Nat} (hx : x < 2 ^ 64) (hy : y < 2 ^ 64) (fx : x % 2 ^ 63 < INF) (fy : y % 2 ^ 63 < INF) : floatBits .sub .f64 x y = floatBits .add .f64 x (fneg y) := by
  show Ieee.double.sub x y = Ieee.double.add x (fneg y)
  unfold Ieee.Format.sub Ieee.Format.add
  rw [read_fin hx fx, read_fin hy fy, read_fin (fneg_lt hy) (by rw [fneg_mod hy]; exact fy), fneg_mod hy, sg_fneg hy]
  rfl
theorem key_V {x : Nat} : (0 ≤ key x ↔ 0 ≤ V x) ∧ (key x ≤ 0 ↔ V x ≤ 0) := by
  have h0 : V 0 = 0 := by decide
  have k0 : key 0 = 0 := by decide
  have a := V_lt_iff x 0
  have b := V_lt_iff 0 x
  rw [h0, k0] at a b
  omega
theorem V_le_iff (x y : Nat) : V x ≤ V y ↔ key x ≤ key y := by
  have := V_lt_iff y x
  omega
/-- The product's sign, by the places in the order. -/
theorem mul_key {x y s : Nat} (hx : x < 2 ^ 64) (hy : y < 2 ^ 64) (fx : x % 2 ^ 63 < INF) (fy : y % 2 ^ 63 < INF) (hpos : 0 ≤ key x) (h : floatBits .mul .f64 x y = some s) : (0 ≤ key y → 0 ≤ key s) ∧ (key y ≤ 0 → key s ≤ 0) := by
  rw [mul_fin hx hy fx fy] at h
  injection h with h
  rw [← h, key_word (rung_le _ _)]
  have z : ∀ a : Nat, a % 2 ^ 63 = 0 → U (a % 2 ^ 63) = 0 := fun a h => by rw [h]; rfl
  by_cases x0 : x % 2 ^ 63 = 0
  · rw [z x x0, Nat.zero_mul, rung_zero]
    constructor <;> intro _ <;> split <;> simp
  · by_cases y0 : y % 2 ^ 63 = 0
    · rw [z y y0, Nat.mul_zero, rung_zero]
      constructor <;> intro _ <;> split <;> simp
    · have hsx : sg x = false := by
        rw [key_of] at hpos
        cases hs : sg x
        · rfl
        · rw [hs] at hpos; simp at hpos; omega
      rw [hsx, Bool.false_xor, key_of y]
      cases sg y
      · simp; omega
      · simp; omega
theorem fin_of_word {n : Bool} (h : ffin (Ieee.double.word n INF) = true) : False := by
  unfold ffin at h
  rw [(word_lt' n (Nat.le_refl INF)).2.1] at h
  simp at h
/-- A finite sum has finite parts. -/
theorem add_parts {x y s : Nat} (hx : x < 2 ^ 64) (hy : y < 2 ^ 64) (fx : x % 2 ^ 63 < INF) (h : floatBits .add .f64 x y = some s) (fs : ffin s = true) : y % 2 ^ 63 < INF := by
  rcases Nat.lt_trichotomy (y % 2 ^ 63) INF with g | g | g
  · exact g
  · exfalso
    have : floatBits .add .f64 x y = some (Ieee.double.word (sg y) INF) := by
      show Ieee.double.add x y = _
      unfold Ieee.Format.add
      rw [read_inf g, sgn_of hy, read_fin hx fx]
      simp only [Ieee.Datum.sum, Option.map_some, Ieee.Format.write, dbl_inf]
      rfl
    rw [this] at h
    injection h with h
    rw [← h] at fs
    exact fin_of_word fs
  · rw [fb_nan_right .add x (read_isN g)] at h; cases h
theorem mul_parts {x y s : Nat} (hx : x < 2 ^ 64) (hy : y < 2 ^ 64) (fy : y % 2 ^ 63 < INF) (h : floatBits .mul .f64 x y = some s) (fs : s % 2 ^ 63 < INF) : x % 2 ^ 63 < INF := by
  rcases Nat.lt_trichotomy (x % 2 ^ 63) INF with g | g | g
  · exact g
  · exfalso
    have h' : Ieee.double.mul x y = some s := h
    unfold Ieee.Format.mul at h'
    rw [read_inf g, sgn_of hx, read_fin hy fy] at h'
    simp only [Ieee.Datum.product] at h'
    split at h'
    · cases h'
    · simp only [Option.map_some, Ieee.Format.write, dbl_inf] at h'
      injection h' with h'
      rw [← h', (word_lt' _ (Nat.le_refl INF)).2.1] at fs
      omega
  · rw [fb_nan_left .mul y (read_isN g)] at h; cases h
end Go.Proofs.Ythhmdlmgjienoaa
