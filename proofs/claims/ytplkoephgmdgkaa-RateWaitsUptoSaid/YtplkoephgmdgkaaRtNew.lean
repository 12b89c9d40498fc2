/- Which paces may be. No program in sight. -/
import Derived.Test.YtplkoephgmdgkaaRtAsk
namespace Go.Proofs.Ytplkoephgmdgkaa
open Go
namespace Rt
theorem ge_iff {x a : Nat} (hx : x < 2 ^ 64) (ha : a < INF) : (Ieee.double.order x a == some .gt || Ieee.double.order x a == some .eq) = true ↔ isN x = false ∧ (a : Int) ≤ Go.Proofs.Ytplkoephgmdgkaa.key x := by
  cases hn : isN x
  · have hi := inf_lt
    rw [order_key hx (by omega) hn (num_pos ha), key_pos ha]
    simp only [Bool.or_eq_true, beq_iff_eq, Option.some.injEq, Int.compare_eq_gt, Int.compare_eq_eq, true_and]
    omega
  · rw [order_nan_left a hn]; simp
theorem le_iff {x a : Nat} (hx : x < 2 ^ 64) (ha : a < INF) : (Ieee.double.order x a == some .lt || Ieee.double.order x a == some .eq) = true ↔ isN x = false ∧ Go.Proofs.Ytplkoephgmdgkaa.key x ≤ (a : Int) := by
  cases hn : isN x
  · have hi := inf_lt
    rw [order_key hx (by omega) hn (num_pos ha), key_pos ha]
    simp only [Bool.or_eq_true, beq_iff_eq, Option.some.injEq, Int.compare_eq_lt, Int.compare_eq_eq, true_and]
    omega
  · rw [order_nan_left a hn]; simp
theorem within_iff {x a b : Nat} (hx : x < 2 ^ 64) (ha : a < INF) (hb : b < INF) : withinB x a b = true ↔ isN x = false ∧ (a : Int) ≤ Go.Proofs.Ytplkoephgmdgkaa.key x ∧ Go.Proofs.Ytplkoephgmdgkaa.key x ≤ (b : Int) := by
  unfold withinB
  rw [Bool.and_eq_true, ge_iff hx ha, le_iff hx hb]
  constructor
  · rintro ⟨⟨h1, h2⟩, _, h3⟩; exact ⟨h1, h2, h3⟩
  · rintro ⟨h1, h2, h3⟩; exact ⟨⟨h1, h2⟩, h1, h3⟩
theorem key_of_pos {x a : Nat} (ha : 0 < a) (h : (a : Int) ≤ Go.Proofs.Ytplkoephgmdgkaa.key x) : x < 2 ^ 63 ∧ Go.Proofs.Ytplkoephgmdgkaa.key x = x := by
  unfold Go.Proofs.Ytplkoephgmdgkaa.key at *
  by_cases hs : x < 2 ^ 63
  · rw [if_pos hs] at *; exact ⟨hs, by rw [Nat.mod_eq_of_lt hs]⟩
  · rw [if_neg hs] at h; omega
theorem within_pos {x a b : Nat} (hx : x < 2 ^ 64) (ha : a < INF) (hb : b < INF) (h0 : 0 < a) (h : withinB x a b = true) : a ≤ x ∧ x ≤ b := by
  obtain ⟨_, h2, h3⟩ := (within_iff hx ha hb).1 h
  obtain ⟨_, e⟩ := key_of_pos h0 h2
  rw [e] at h2 h3
  omega
/-- A pace's fade without a sign. -/
def fadeN (x : Nat) : Nat := if Ieee.double.order x 0 = some .eq then 0 else x
theorem fade_le {x : Nat} (hx : x < 2 ^ 64) (h : withinB x 0 ONE = true) : fadeN x ≤ ONE := by
  have h1 : ONE < INF := by decide
  have hi := inf_lt
  obtain ⟨hn, h2, h3⟩ := (within_iff hx (by omega) h1).1 h
  unfold fadeN
  by_cases e : Ieee.double.order x 0 = some .eq
  · rw [if_pos e]; omega
  · rw [if_neg e]
    rw [order_key hx (by decide) hn (by decide), show Go.Proofs.Ytplkoephgmdgkaa.key 0 = 0 by decide] at e
    have h4 : Go.Proofs.Ytplkoephgmdgkaa.key x ≠ 0 := fun h => e (by rw [h]; rfl)
    obtain ⟨_, e1⟩ := key_of_pos (x := x) (a := 1) (by decide) (by omega)
    rw [e1] at h3; omega
def newT (per burst fade : Nat) : Tb := ⟨per, burst, fadeN fade, []⟩
theorem new_table {per burst fade : Nat} (hp : per < 2 ^ 64) (hb : burst < 2 ^ 64) (hf : fade < 2 ^ 64) (h1 : withinB per LEAST MOST = true) (h2 : withinB burst LEAST MOST = true) (h3 : withinB fade 0 ONE = true) : (newT per burst fade).ok := by
  have hl : LEAST < INF := by decide
  have a := within_pos hp hl most_inf (by decide) h1
  have b := within_pos hb hl most_inf (by decide) h2
  exact ⟨a.2, a.1, b.2, b.1, fade_le hf h3, List.Pairwise.nil, fun e (he : e ∈ ([] : List Ent)) => absurd he (List.not_mem_nil), Nat.zero_le _⟩
end Rt
end Go.Proofs.Ytplkoephgmdgkaa
