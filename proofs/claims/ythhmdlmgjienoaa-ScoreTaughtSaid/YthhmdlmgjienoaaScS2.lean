/- One weight alone: the sum, plainly. -/
import Derived.Test.YthhmdlmgjienoaaScS1
namespace Go.Proofs.Ythhmdlmgjienoaa
open Go Go.RowKit

theorem V_key_zero {z : Nat} (h : V z = 0) : z % 2 ^ 63 = 0 := by
  rw [V_sg] at h
  rcases Nat.eq_zero_or_pos (z % 2 ^ 63) with g | g
  · exact g
  · have := U_pos g
    split at h <;> omega
theorem V_abs (z : Nat) : (V z).natAbs = U (z % 2 ^ 63) := by
  rw [V_sg]; split <;> omega
theorem V_of_zero {z : Nat} (h : z % 2 ^ 63 = 0) : V z = 0 := by
  rw [V_sg, h, U_zero]; split <;> rfl
theorem key_of (z : Nat) : key z = if sg z then -((z % 2 ^ 63 : Nat) : Int) else ((z % 2 ^ 63 : Nat) : Int) := by
  unfold key sg
  by_cases h : z < 2 ^ 63
  · rw [if_pos h, decide_eq_false (by omega)]; rfl
  · rw [if_neg h, decide_eq_true (by omega)]; rfl
theorem inf_not {z : Nat} (hn : isN z = false) : z % 2 ^ 63 ≤ INF := by
  rcases Nat.lt_or_ge INF (z % 2 ^ 63) with g | g
  · rw [read_isN g] at hn; cases hn
  · exact g
/-- What a sum with nought is, as compared. -/
theorem word_key {z : Nat} {n : Bool} (hz : z % 2 ^ 63 < INF) (hn : n = if V z = 0 then n else decide (V z < 0)) :
    key (Ieee.double.word n (rung 0 (V z).natAbs)) = key z := by
  have ho := rung_own (r := z % 2 ^ 63) (Nat.le_of_lt hz) 0
  rw [Nat.pow_zero, Nat.mul_one] at ho
  rw [V_abs, ho, key_word (Nat.le_of_lt hz), key_of]
  by_cases h0 : V z = 0
  · rw [V_key_zero h0]
    cases n <;> cases sg z <;> rfl
  · rw [if_neg h0] at hn
    have : n = sg z := by
      rw [hn]
      have hp : 0 < U (z % 2 ^ 63) := by
        have := V_abs z
        omega
      rw [V_sg]
      cases sg z
      · exact decide_eq_false (by simp <;> omega)
      · exact decide_eq_true (by simp <;> omega)
    rw [this]
theorem add_zero_right {z y : Nat} (hz : z < 2 ^ 64) (hy : y < 2 ^ 64) (nz : isN z = false) (y0 : y % 2 ^ 63 = 0) :
    ∃ s, floatBits .add .f64 z y = some s ∧ s < 2 ^ 64 ∧ isN s = false ∧ key s = key z := by
  have hi : INF = 0x7ff0000000000000 := rfl
  rcases Nat.lt_or_eq_of_le (inf_not nz) with g | g
  · have ha := add_fin hz hy g (by omega)
    rw [V_of_zero y0, Int.add_zero] at ha
    refine ⟨_, ha, (word_lt' _ (rung_le _ _)).1, isN_word (rung_le _ _), ?_⟩
    refine word_key g ?_
    by_cases h0 : V z = 0
    · rw [if_pos h0, if_pos h0]
    · rw [if_neg h0, if_neg h0]
  · refine ⟨Ieee.double.word (sg z) INF, ?_, (word_lt' _ (Nat.le_refl _)).1, isN_word (Nat.le_refl _), ?_⟩
    · show Ieee.double.add z y = _
      unfold Ieee.Format.add
      rw [read_inf g, sgn_of hz, read_fin hy (by omega)]
      simp only [Ieee.Datum.sum, Option.map_some, Ieee.Format.write, dbl_inf]
      rfl
    · rw [key_word (Nat.le_refl _), key_of, g]
theorem add_zero_left {z y : Nat} (hz : z < 2 ^ 64) (hy : y < 2 ^ 64) (ny : isN y = false) (z0 : z % 2 ^ 63 = 0) :
    ∃ s, floatBits .add .f64 z y = some s ∧ s < 2 ^ 64 ∧ isN s = false ∧ key s = key y := by
  have hi : INF = 0x7ff0000000000000 := rfl
  rcases Nat.lt_or_eq_of_le (inf_not ny) with g | g
  · have ha := add_fin hz hy (by omega) g
    rw [V_of_zero z0, Int.zero_add] at ha
    refine ⟨_, ha, (word_lt' _ (rung_le _ _)).1, isN_word (rung_le _ _), ?_⟩
    refine word_key g ?_
    by_cases h0 : V y = 0
    · rw [if_pos h0, if_pos h0]
    · rw [if_neg h0, if_neg h0]
  · refine ⟨Ieee.double.word (sg y) INF, ?_, (word_lt' _ (Nat.le_refl _)).1, isN_word (Nat.le_refl _), ?_⟩
    · show Ieee.double.add z y = _
      unfold Ieee.Format.add
      rw [read_inf g, sgn_of hy, read_fin hz (by omega)]
      simp only [Ieee.Datum.sum, Option.map_some, Ieee.Format.write, dbl_inf]
      rfl
    · rw [key_word (Nat.le_refl _), key_of, g]
theorem key_zero {z : Nat} (h : key z = 0) : z % 2 ^ 63 = 0 := by
  rw [key_of] at h; split at h <;> omega
theorem mul_zero {x : Nat} (hx : x < 2 ^ 64) (fx : x % 2 ^ 63 < INF) : ∃ s, floatBits .mul .f64 0 x = some s ∧ s < 2 ^ 64 ∧ s % 2 ^ 63 = 0 := by
  have h := mul_fin (x := 0) (by decide) hx (by decide) fx
  rw [show U (0 % 2 ^ 63) = 0 from rfl, Nat.zero_mul, rung_zero] at h
  exact ⟨_, h, (word_lt' _ (Nat.zero_le _)).1, (word_lt' _ (Nat.zero_le _)).2.1⟩
/-- ONE WEIGHT ALONE: the sum is that weight times its measure, as compared. -/
theorem wsum_single {l xs : List Nat} {i wt p : Nat} (hi : i < 8) (hl : ∀ k, k < 8 → l.getD k 0 = if k = i then wt else 0) (hx : ∀ k, k < 8 → xs.getD k 0 < 2 ^ 64 ∧ xs.getD k 0 % 2 ^ 63 < INF)
    (hp : floatBits .mul .f64 wt (xs.getD i 0) = some p) (np : isN p = false) (pl : p < 2 ^ 64) :
    ∀ j, j ≤ 8 → ∃ z, wsum l xs j = some z ∧ z < 2 ^ 64 ∧ isN z = false ∧ key z = if j ≤ i then 0 else key p
  | 0, _ => ⟨0, rfl, by decide, by decide, by rw [if_pos (Nat.zero_le _)]; decide⟩
  | j + 1, hj => by
    obtain ⟨z, h1, h2, h3, h4⟩ := wsum_single hi hl hx hp np pl j (by omega)
    rw [wsum, h1, hl j (by omega)]
    by_cases e : j = i
    · subst e
      rw [if_pos rfl]
      have hm : fo .mul (some wt) (some (xs.getD j 0)) = some p := hp
      rw [hm]
      rw [if_pos (Nat.le_refl _)] at h4
      obtain ⟨s, s1, s2, s3, s4⟩ := add_zero_left h2 pl np (key_zero h4)
      exact ⟨s, s1, s2, s3, by rw [s4, if_neg (by omega)]⟩
    · rw [if_neg e]
      obtain ⟨m, m1, m2, m3⟩ := mul_zero (hx j (by omega)).1 (hx j (by omega)).2
      have hm : fo .mul (some 0) (some (xs.getD j 0)) = some m := m1
      rw [hm]
      obtain ⟨s, s1, s2, s3, s4⟩ := add_zero_right h2 m2 h3 m3
      refine ⟨s, s1, s2, s3, ?_⟩
      rw [s4, h4]
      by_cases g : j ≤ i
      · rw [if_pos g, if_pos (by omega)]
      · rw [if_neg g, if_neg (by omega)]
end Go.Proofs.Ythhmdlmgjienoaa
