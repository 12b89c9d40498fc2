/- Rounding: a number's nearest rung, over a common place; it is monotone, and a rung's own value comes back. No program in sight. -/
import Derived.Test.YtplkoephgmdgkaaFltO
namespace Go.Proofs.Ytplkoephgmdgkaa
open Go

/-- n / 2 ^ d to the nearest whole number, ties to even. -/
def rne (n d : Nat) : Nat := n / 2 ^ d + (if 2 ^ d < 2 * (n % 2 ^ d) ∨ (2 ^ d = 2 * (n % 2 ^ d) ∧ n / 2 ^ d % 2 = 1) then 1 else 0)
/-- How many digits go: of n units of the place -1074 - k. -/
def dropOf (k n : Nat) : Nat := max k (n.log2 - 52)
/-- The rung nearest to n units of the place -1074 - k. -/
def rung (k n : Nat) : Nat := min ((dropOf k n - k) * 2 ^ 52 + rne n (dropOf k n)) INF

theorem rne_mul (q d : Nat) : rne (q * 2 ^ d) d = q := by
  unfold rne
  have h : 0 < 2 ^ d := Nat.two_pow_pos d
  rw [Nat.mul_mod_left, Nat.mul_div_cancel _ h, if_neg (by omega)]
  rfl
theorem rne_bounds (n d : Nat) : n / 2 ^ d ≤ rne n d ∧ rne n d ≤ n / 2 ^ d + 1 := by
  unfold rne
  split <;> omega
theorem rne_mono {n m d : Nat} (h : n ≤ m) : rne n d ≤ rne m d := by
  have hp : 0 < 2 ^ d := Nat.two_pow_pos d
  have hq : n / 2 ^ d ≤ m / 2 ^ d := Nat.div_le_div_right h
  rcases Nat.lt_or_eq_of_le hq with g | g
  · have := (rne_bounds n d).2
    have := (rne_bounds m d).1
    omega
  · have e1 := Nat.div_add_mod n (2 ^ d)
    have e2 := Nat.div_add_mod m (2 ^ d)
    rw [← g] at e2
    have hr : n % 2 ^ d ≤ m % 2 ^ d := by omega
    unfold rne
    rw [← g]
    generalize n % 2 ^ d = r at *
    generalize m % 2 ^ d = s at *
    generalize n / 2 ^ d = q at *
    generalize 2 ^ d = p at *
    split <;> split <;> omega
/-- A number below 2 ^ (d + 53) rounds to no more than 2 ^ 53. -/
theorem rne_le {n d c : Nat} (h : n ≤ c * 2 ^ d) : rne n d ≤ c := by
  have := rne_mono (d := d) h
  rwa [rne_mul] at this
theorem le_rne {n d c : Nat} (h : c * 2 ^ d ≤ n) : c ≤ rne n d := by
  have := rne_mono (d := d) h
  rwa [rne_mul] at this

theorem log2_le {n m : Nat} (h : n ≤ m) : n.log2 ≤ m.log2 := by
  rcases Nat.eq_zero_or_pos n with rfl | hn
  · simp
  · exact (Nat.le_log2 (by omega)).2 (Nat.le_trans (Nat.log2_self_le (by omega)) h)
theorem dropOf_mono {k n m : Nat} (h : n ≤ m) : dropOf k n ≤ dropOf k m := by
  have := log2_le h
  unfold dropOf
  omega
theorem step_arith (a b B x y : Nat) (h1 : B ≤ y) (h2 : x ≤ 2 * B) : a * B + x ≤ (a + 1 + b) * B + y := by
  rw [Nat.add_mul, Nat.add_mul]
  have := Nat.zero_le (b * B)
  omega
theorem big_rne {k m : Nat} (h : k < dropOf k m) : 2 ^ 52 ≤ rne m (dropOf k m) := by
  have hm : dropOf k m = m.log2 - 52 := by unfold dropOf at *; omega
  have hm0 : m ≠ 0 := by
    intro e
    rw [hm, e] at h
    have : Nat.log2 0 = 0 := by decide
    rw [this] at h
    omega
  have hl : 52 + (m.log2 - 52) = m.log2 := by omega
  refine le_rne ?_
  rw [hm, ← Nat.pow_add, hl]
  exact Nat.log2_self_le hm0
theorem small_rne (k n : Nat) : rne n (dropOf k n) ≤ 2 * 2 ^ 52 := by
  refine rne_le ?_
  have hx : n.log2 + 1 ≤ 53 + dropOf k n := by unfold dropOf; omega
  have h1 : n < 2 ^ (n.log2 + 1) := Nat.lt_log2_self
  have h2 := Nat.pow_le_pow_right (Nat.zero_lt_succ 1) hx
  rw [Nat.pow_add 2 53] at h2
  exact Nat.le_of_lt (Nat.lt_of_lt_of_le h1 h2)
theorem rung_main {k n m : Nat} (h : n ≤ m) : (dropOf k n - k) * 2 ^ 52 + rne n (dropOf k n) ≤ (dropOf k m - k) * 2 ^ 52 + rne m (dropOf k m) := by
  have hd := dropOf_mono (k := k) h
  have hk : k ≤ dropOf k n := by unfold dropOf; omega
  rcases Nat.lt_or_eq_of_le hd with g | g
  · have h1 := big_rne (Nat.lt_of_le_of_lt hk g)
    have h2 := small_rne k n
    obtain ⟨a, ha⟩ : ∃ a, dropOf k n - k = a := ⟨_, rfl⟩
    obtain ⟨b, hb⟩ : ∃ b, dropOf k m - k = a + 1 + b := ⟨dropOf k m - k - a - 1, by omega⟩
    rw [ha, hb]
    exact step_arith a b _ _ _ h1 h2
  · rw [← g]
    exact Nat.add_le_add_left (rne_mono h) _
theorem rung_mono {k n m : Nat} (h : n ≤ m) : rung k n ≤ rung k m :=
  Nat.le_min.2 ⟨Nat.le_trans (Nat.min_le_left ..) (rung_main h), Nat.min_le_right ..⟩
theorem rung_zero (k : Nat) : rung k 0 = 0 := by
  have : dropOf k 0 = k := by unfold dropOf; simp
  unfold rung
  rw [this]
  have h : rne 0 k = 0 := by have := rne_mul 0 k; simpa using this
  rw [h]; simp
theorem log2_mul_pow {m k : Nat} (h : m ≠ 0) : (m * 2 ^ k).log2 = m.log2 + k := by
  have h1 := Nat.log2_self_le h
  have h2 : m < 2 ^ (m.log2 + 1) := Nat.lt_log2_self
  have hne : m * 2 ^ k ≠ 0 := Nat.mul_ne_zero h (by have := Nat.two_pow_pos k; omega)
  apply Nat.le_antisymm
  · have : (m * 2 ^ k).log2 < m.log2 + k + 1 := by
      rw [Nat.log2_lt hne, show m.log2 + k + 1 = (m.log2 + 1) + k by omega, Nat.pow_add]
      exact Nat.mul_lt_mul_of_pos_right h2 (Nat.two_pow_pos k)
    omega
  · rw [Nat.le_log2 hne, Nat.pow_add]
    exact Nat.mul_le_mul_right _ h1
/-- A RUNG's OWN VALUE COMES BACK. -/
theorem rung_own {r : Nat} (h : r ≤ INF) (k : Nat) : rung k (U r * 2 ^ k) = r := by
  by_cases hr : r < 2 ^ 52
  · have eu : U r = r := by unfold U sig exo; rw [if_pos hr, Nat.div_eq_of_lt hr]; simp
    rw [eu]
    have hd : dropOf k (r * 2 ^ k) = k := by
      unfold dropOf
      rcases Nat.eq_zero_or_pos r with rfl | hp
      · simp
      · rw [log2_mul_pow (by omega)]
        have : r.log2 < 52 := (Nat.log2_lt (by omega)).2 hr
        omega
    unfold rung
    rw [hd, rne_mul]
    omega
  · have eu : U r = (2 ^ 52 + r % 2 ^ 52) * 2 ^ (r / 2 ^ 52 - 1) := by unfold U sig exo; rw [if_neg hr]
    have hlog : (2 ^ 52 + r % 2 ^ 52).log2 = 52 := by
      have hm := Nat.mod_lt r (show 0 < 2 ^ 52 by decide)
      apply Nat.le_antisymm
      · have : (2 ^ 52 + r % 2 ^ 52).log2 < 53 := (Nat.log2_lt (by omega)).2 (by omega)
        omega
      · exact (Nat.le_log2 (by omega)).2 (by omega)
    have en : U r * 2 ^ k = (2 ^ 52 + r % 2 ^ 52) * 2 ^ (r / 2 ^ 52 - 1 + k) := by rw [eu, Nat.mul_assoc, ← Nat.pow_add]
    have hd : dropOf k (U r * 2 ^ k) = r / 2 ^ 52 - 1 + k := by
      unfold dropOf
      rw [en, log2_mul_pow (by omega), hlog]
      omega
    unfold rung
    rw [hd, en, rne_mul]
    have : 1 ≤ r / 2 ^ 52 := by omega
    have := Nat.div_add_mod r (2 ^ 52)
    have e : (r / 2 ^ 52 - 1 + k - k) * 2 ^ 52 + (2 ^ 52 + r % 2 ^ 52) = r := by
      obtain ⟨q, hq⟩ : ∃ q, r / 2 ^ 52 = q + 1 := ⟨r / 2 ^ 52 - 1, by omega⟩
      rw [hq] at this ⊢
      rw [show q + 1 - 1 + k - k = q by omega]
      omega
    rw [e]; omega
end Go.Proofs.Ytplkoephgmdgkaa
