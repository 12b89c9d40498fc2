/- A running mean lies between the least and the greatest; its spread is not below nought. No program in sight. -/
import Derived.Test.YtplkoephgmdgkaaRtFd
namespace Go.Proofs.Ytplkoephgmdgkaa
open Go
namespace Rt
/-- Rounded, with its sign. -/
def kr (v : Int) : Int := if v < 0 then -(rung 0 v.natAbs : Int) else (rung 0 v.natAbs : Int)
def fin (x : Nat) : Prop := x < 2 ^ 64 ∧ x % 2 ^ 63 < INF
theorem kr_mono {a b : Int} (h : a ≤ b) : kr a ≤ kr b := by
  unfold kr
  by_cases ha : a < 0
  · rw [if_pos ha]
    by_cases hb : b < 0
    · rw [if_pos hb]
      have := rung_mono (k := 0) (show b.natAbs ≤ a.natAbs by omega)
      omega
    · rw [if_neg hb]; omega
  · rw [if_neg ha, if_neg (show ¬ b < 0 by omega)]
    have := rung_mono (k := 0) (show a.natAbs ≤ b.natAbs by omega)
    omega
theorem key_word {s : Bool} {r : Nat} (h : r ≤ INF) : key (Ieee.double.word s r) = if s then -(r : Int) else (r : Int) := by
  have h1 := (word_lt' s h).2.2
  unfold key
  rw [word_mod h]
  cases s
  · rw [if_pos (h1.2 rfl)]; rfl
  · rw [if_neg (fun g => Bool.noConfusion (h1.1 g))]; rfl
theorem key_sg {x : Nat} : key x = if sg x then -((x % 2 ^ 63 : Nat) : Int) else ((x % 2 ^ 63 : Nat) : Int) := by
  unfold key sg
  by_cases h : x < 2 ^ 63
  · rw [if_pos h, decide_eq_false (by omega)]; rfl
  · rw [if_neg h, decide_eq_true (by omega)]; rfl
theorem kr_own {x : Nat} (h : fin x) : kr (V x) = key x := by
  have ho := rung_own (r := x % 2 ^ 63) (Nat.le_of_lt h.2) 0
  rw [Nat.pow_zero, Nat.mul_one] at ho
  rw [V_sg, key_sg]
  unfold kr
  by_cases hs : sg x = true
  · rw [hs]
    simp only [if_true]
    by_cases h0 : U (x % 2 ^ 63) = 0
    · have h2 : x % 2 ^ 63 = 0 := U_inj (by rw [h0, U_zero])
      rw [h0, h2]
      have := rung_zero 0
      simp [this]
    · rw [if_pos (by omega), Int.natAbs_neg, Int.natAbs_natCast, ho]
  · have hs' : sg x = false := by simpa using hs
    rw [hs']
    simp only [Bool.false_eq_true, if_false]
    rw [if_neg (by omega), Int.natAbs_natCast, ho]
theorem V_le_iff {x y : Nat} : V x ≤ V y ↔ key x ≤ key y := by
  have := V_lt_iff y x
  omega
theorem V_eq_of {x y : Nat} (h : key x = key y) : V x = V y := by
  have h1 := V_lt_iff x y
  have h2 := V_lt_iff y x
  omega
/-- A SUM, by its place. -/
theorem add_key {x y : Nat} (hx : fin x) (hy : fin y) : ∃ z, floatBits .add .f64 x y = some z ∧ z < 2 ^ 64 ∧ z % 2 ^ 63 = rung 0 (V x + V y).natAbs ∧ key z = kr (V x + V y) := by
  have hl := rung_le 0 (V x + V y).natAbs
  refine ⟨_, add_fin hx.1 hy.1 hx.2 hy.2, word_lt hl, word_mod hl, ?_⟩
  rw [key_word hl]
  unfold kr
  by_cases h0 : V x + V y = 0
  · rw [if_pos h0, h0, Int.natAbs_zero, rung_zero]; simp
  · rw [if_neg h0]
    by_cases h1 : V x + V y < 0
    · rw [decide_eq_true h1, if_pos h1, if_pos rfl]
    · rw [decide_eq_false h1, if_neg h1, if_neg (by decide)]
theorem key_abs {z : Nat} : (key z).natAbs = z % 2 ^ 63 := by
  unfold key; split <;> omega
theorem add_between {x y lo hi : Nat} (hx : fin x) (hy : fin y) (hl : fin lo) (hh : fin hi) (h1 : V lo ≤ V x + V y) (h2 : V x + V y ≤ V hi) :
    ∃ z, floatBits .add .f64 x y = some z ∧ fin z ∧ key lo ≤ key z ∧ key z ≤ key hi ∧ key z = kr (V x + V y) ∧ z % 2 ^ 63 = rung 0 (V x + V y).natAbs := by
  obtain ⟨z, e, zl, zm, zk⟩ := add_key hx hy
  have k1 := kr_mono h1
  have k2 := kr_mono h2
  rw [kr_own hl, ← zk] at k1
  rw [kr_own hh, ← zk] at k2
  refine ⟨z, e, ⟨zl, ?_⟩, k1, k2, zk, zm⟩
  have a1 := key_abs (z := lo)
  have a2 := key_abs (z := hi)
  have a3 := key_abs (z := z)
  have b1 := hl.2
  have b2 := hh.2
  omega
theorem fin_fneg {x : Nat} (h : fin x) : fin (fneg x) := ⟨fneg_lt h.1, by rw [fneg_mod h.1]; exact h.2⟩
theorem V_fneg {x : Nat} (h : fin x) : V (fneg x) = - V x := by
  rw [V_sg, V_sg, fneg_sg h.1, fneg_mod h.1]
  cases sg x <;> simp
theorem key_fneg {x : Nat} (h : fin x) : key (fneg x) = - key x := by
  rw [key_sg, key_sg, fneg_sg h.1, fneg_mod h.1]
  cases sg x <;> simp
theorem U_succ (z : Nat) : U (z + 1) = U z + 2 ^ exo z := by
  by_cases h1 : z + 1 < 2 ^ 52
  · have e1 : U (z + 1) = z + 1 := by unfold U sig exo; rw [if_pos h1, Nat.div_eq_of_lt h1]; simp
    have e2 : U z = z := by unfold U sig exo; rw [if_pos (by omega), Nat.div_eq_of_lt (by omega)]; simp
    have e3 : exo z = 0 := by unfold exo; rw [Nat.div_eq_of_lt (by omega)]
    rw [e1, e2, e3]
  · by_cases h2 : z < 2 ^ 52
    · have : z = 2 ^ 52 - 1 := by omega
      subst this
      decide
    · have e2 : U z = (2 ^ 52 + z % 2 ^ 52) * 2 ^ exo z := by unfold U sig; rw [if_neg h2]
      have e1 : U (z + 1) = (2 ^ 52 + (z + 1) % 2 ^ 52) * 2 ^ exo (z + 1) := by unfold U sig; rw [if_neg (by omega)]
      rw [e1, e2]
      by_cases h3 : z % 2 ^ 52 = 2 ^ 52 - 1
      · have q1 : (z + 1) % 2 ^ 52 = 0 := by omega
        have q2 : exo (z + 1) = exo z + 1 := by unfold exo; omega
        rw [q1, q2, h3, Nat.pow_succ 2 (exo z)]
        generalize 2 ^ exo z = p
        omega
      · have q1 : (z + 1) % 2 ^ 52 = z % 2 ^ 52 + 1 := by omega
        have q2 : exo (z + 1) = exo z := by unfold exo; omega
        rw [q1, q2]
        generalize 2 ^ exo z = p
        rw [← Nat.add_assoc, Nat.add_mul _ 1, Nat.one_mul]
theorem U_dbl {z : Nat} (h : 0 < z) : U (z + 1) ≤ 2 * U z := by
  rw [U_succ]
  have : 2 ^ exo z ≤ U z := by
    have hs : 0 < sig z := by unfold sig; split <;> omega
    unfold U
    exact Nat.le_mul_of_pos_left _ hs
  omega
/-- A number's rung is no more than twice a rung below it. -/
theorem near (n : Nat) (h : rung 0 n < INF) : ∃ z, z ≤ INF ∧ U z ≤ n ∧ U (rung 0 n) ≤ 2 * U z ∧ (n = 0 → z = 0) := by
  by_cases h0 : n = 0
  · subst h0
    exact ⟨0, by decide, by simp [U_zero], by rw [rung_zero, U_zero]; omega, fun _ => rfl⟩
  · obtain ⟨d, hd⟩ : ∃ d, d = dropOf 0 n := ⟨_, rfl⟩
    have hr : rung 0 n = min (d * 2 ^ 52 + rne n d) INF := by unfold rung; rw [← hd, Nat.sub_zero]
    have hb := rne_bounds n d
    by_cases hd0 : d = 0
    · subst hd0
      have hz : U n ≤ n ∨ 2 ^ 52 ≤ n := by
        by_cases g : n < 2 ^ 52
        · left; unfold U sig exo; rw [if_pos g, Nat.div_eq_of_lt g]; simp
        · right; omega
      have hlog : n.log2 ≤ 52 := by unfold dropOf at hd; omega
      have h53 : n < 2 ^ 53 := (Nat.log2_lt h0).1 (by omega)
      have hu : U n = n := by
        by_cases g : n < 2 ^ 52
        · unfold U sig exo; rw [if_pos g, Nat.div_eq_of_lt g]; simp
        · unfold U sig exo; rw [if_neg g, show n / 2 ^ 52 - 1 = 0 by omega, show 2 ^ 52 + n % 2 ^ 52 = n by omega]; simp
      have hrn : rne n 0 = n := by have := rne_mul n 0; simpa using this
      have hI : INF = 2047 * 2 ^ 52 := by decide
      have hr' : rung 0 n = n := by rw [hr, hrn]; omega
      exact ⟨n, by omega, by omega, by rw [hr']; omega, fun e => absurd e h0⟩
    · have hk : 0 < dropOf 0 n := by omega
      have hld : n.log2 = d + 52 := by unfold dropOf at hd; omega
      have l1 := Nat.log2_self_le h0
      have l2 : n < 2 ^ (n.log2 + 1) := Nat.lt_log2_self
      have q1 : 2 ^ 52 ≤ n / 2 ^ d := by
        rw [Nat.le_div_iff_mul_le (Nat.two_pow_pos d), ← Nat.pow_add, Nat.add_comm 52 d, ← hld]; exact l1
      have q2 : n / 2 ^ d < 2 ^ 53 := by
        rw [Nat.div_lt_iff_lt_mul (Nat.two_pow_pos d), ← Nat.pow_add, show 53 + d = n.log2 + 1 by omega]; exact l2
      have hle : n / 2 ^ d * 2 ^ d ≤ n := Nat.div_mul_le_self _ _
      generalize n / 2 ^ d = q at *
      have e1 : (d * 2 ^ 52 + q) / 2 ^ 52 = d + 1 := by omega
      have e2 : (d * 2 ^ 52 + q) % 2 ^ 52 = q - 2 ^ 52 := by omega
      have hu : U (d * 2 ^ 52 + q) = q * 2 ^ d := by
        unfold U sig exo
        rw [if_neg (by omega), e1, e2, Nat.add_sub_cancel, show 2 ^ 52 + (q - 2 ^ 52) = q by omega]
      refine ⟨d * 2 ^ 52 + q, by omega, by rw [hu]; exact hle, ?_, fun e => absurd e h0⟩
      exact Nat.le_trans (U_le (show rung 0 n ≤ d * 2 ^ 52 + q + 1 by omega)) (U_dbl (by omega))
/-- A QUOTIENT is bounded. -/
theorem quo_bound {x y z : Nat} (hx : fin x) (hy : y < INF) (hy0 : 0 < y) (hz : z ≤ INF) (h : U (x % 2 ^ 63) * 2 ^ BB ≤ U z * U y) :
    ∃ ρ, ρ ≤ z ∧ floatBits .quo .f64 x y = some (Ieee.double.word (sg x) ρ) := by
  have hB : BB = 1074 := rfl
  have hn : sig y ≠ 0 := by
    intro e
    have := U_pos hy0
    unfold U at this
    rw [e, Nat.zero_mul] at this
    omega
  obtain ⟨x1, x2⟩ := hx
  obtain ⟨a, ha⟩ : ∃ a, a = x % 2 ^ 63 := ⟨_, rfl⟩
  rw [← ha] at h
  obtain ⟨more, hmore⟩ : ∃ more, more = 54 + (sig y).log2 - (sig a).log2 := ⟨_, rfl⟩
  obtain ⟨mag, hmag⟩ : ∃ mag, mag = 2 * ((sig a <<< more) / sig y) + ((sig a <<< more) % sig y != 0).toNat := ⟨_, rfl⟩
  refine ⟨rung (exo y + more + 1) (mag * 2 ^ (exo a + BB)), ?_, ?_⟩
  · by_cases hs : sig a = 0
    · have : mag = 0 := by rw [hmag, hs, Nat.zero_shiftLeft]; simp
      rw [this, Nat.zero_mul, rung_zero]; omega
    · have hsl := sig_lt a
      have hlog : (sig a).log2 ≤ 52 := by have := (Nat.log2_lt hs).2 hsl; omega
      have hm' : more + (sig a).log2 = 54 + (sig y).log2 := by omega
      have l1 : 2 ^ (sig a).log2 ≤ sig a := Nat.log2_self_le hs
      have l2 : sig y < 2 ^ ((sig y).log2 + 1) := Nat.lt_log2_self
      have l3 := sig_lt z
      have lt1 : 2 ^ ((sig a).log2 + exo a + BB) < 2 ^ (53 + exo z + ((sig y).log2 + 1 + exo y)) := by
        have a1 : 2 ^ ((sig a).log2 + exo a + BB) ≤ U a * 2 ^ BB := by
          unfold U; rw [Nat.pow_add, Nat.pow_add]; exact Nat.mul_le_mul_right _ (Nat.mul_le_mul_right _ l1)
        have a2 : U z * U y < 2 ^ (53 + exo z) * 2 ^ ((sig y).log2 + 1 + exo y) := by
          have b1 : U z < 2 ^ (53 + exo z) := by unfold U; rw [Nat.pow_add 2 53]; exact Nat.mul_lt_mul_of_pos_right l3 (Nat.two_pow_pos _)
          have b2 : U y ≤ 2 ^ ((sig y).log2 + 1 + exo y) := by unfold U; rw [Nat.pow_add]; exact Nat.mul_le_mul_right _ (Nat.le_of_lt l2)
          exact Nat.lt_of_lt_of_le (Nat.mul_lt_mul_of_pos_right b1 (U_pos hy0)) (Nat.mul_le_mul_left _ b2)
        rw [← Nat.pow_add] at a2
        omega
      have le1 := (Nat.pow_lt_pow_iff_right (show 1 < 2 by decide)).1 lt1
      obtain ⟨f, hf⟩ : ∃ f, exo z + exo y + more = f + (exo a + BB) := ⟨exo z + exo y + more - (exo a + BB), by omega⟩
      have hD : sig a * 2 ^ more ≤ sig y * (sig z * 2 ^ f) := by
        have h1 : sig a * 2 ^ more * 2 ^ (exo a + BB) ≤ sig y * (sig z * 2 ^ f) * 2 ^ (exo a + BB) := by
          have h2 := Nat.mul_le_mul_right (2 ^ more) h
          have e1 : sig a * 2 ^ more * 2 ^ (exo a + BB) = U a * 2 ^ BB * 2 ^ more := by
            unfold U; rw [Nat.pow_add]
            generalize 2 ^ more = p
            generalize 2 ^ exo a = q
            generalize 2 ^ BB = r
            rw [Nat.mul_right_comm, ← Nat.mul_assoc (sig a) q r]
          have e2 : sig y * (sig z * 2 ^ f) * 2 ^ (exo a + BB) = U z * U y * 2 ^ more := by
            have e3 : 2 ^ f * 2 ^ (exo a + BB) = 2 ^ exo z * 2 ^ exo y * 2 ^ more := by rw [← Nat.pow_add, ← Nat.pow_add, ← Nat.pow_add, ← hf]
            unfold U
            rw [Nat.mul_assoc, Nat.mul_assoc, e3]
            generalize 2 ^ exo z = p
            generalize 2 ^ exo y = q
            generalize 2 ^ more = r
            generalize sig y = m
            generalize sig z = k
            rw [Nat.mul_mul_mul_comm k p m q, ← Nat.mul_assoc k, ← Nat.mul_assoc m, ← Nat.mul_assoc m, Nat.mul_comm m k, Nat.mul_assoc (k * m)]
          rw [e1, e2]; exact h2
        exact Nat.le_of_mul_le_mul_right h1 (Nat.two_pow_pos _)
      have hT : mag ≤ 2 * (sig z * 2 ^ f) := by
        rw [hmag, Nat.shiftLeft_eq]
        generalize sig a * 2 ^ more = D at *
        generalize sig z * 2 ^ f = T at *
        generalize sig y = n at *
        have hd := Nat.div_add_mod D n
        by_cases hr : D % n = 0
        · rw [hr]
          have : D / n ≤ T := Nat.div_le_of_le_mul hD
          simp; omega
        · have h3 : n * (D / n) < n * T := by omega
          have h4 : D / n < T := Nat.lt_of_mul_lt_mul_left h3
          have : (D % n != 0).toNat ≤ 1 := by cases (D % n != 0) <;> decide
          omega
      have fin1 : mag * 2 ^ (exo a + BB) ≤ U z * 2 ^ (exo y + more + 1) := by
        refine Nat.le_trans (Nat.mul_le_mul_right _ hT) (Nat.le_of_eq ?_)
        unfold U
        rw [Nat.mul_assoc 2, Nat.mul_assoc (sig z), Nat.mul_assoc (sig z), ← Nat.pow_add, ← Nat.pow_add, ← hf, show exo z + (exo y + more + 1) = exo z + exo y + more + 1 by omega, Nat.pow_succ]
        generalize 2 ^ (exo z + exo y + more) = p
        rw [Nat.mul_left_comm, Nat.mul_comm 2]
      have := rung_mono (k := exo y + more + 1) fin1
      rwa [rung_own hz] at this
  · show Ieee.double.div x y = _
    unfold Ieee.Format.div
    rw [read_fin x1 x2, read_fin (lt64 hy) (by rw [mod_pos hy]; exact hy), mod_pos hy, sg_pos hy, ← ha]
    simp only [Ieee.Datum.quotient, dbl_frac]
    rw [if_neg hn, show 52 + 2 + (sig y).log2 - (sig a).log2 = more from hmore.symm]
    simp only [Option.map_some, Ieee.Format.write, Bool.xor_false]
    apply congrArg some
    rw [nearest_rung _ _ (exo y + more + 1) (exo a + BB) _ (by omega), hmag]
end Rt
end Go.Proofs.Ytplkoephgmdgkaa
