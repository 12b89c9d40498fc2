/- What Learn gives goes the right way: plainly. -/
import Derived.Test.YthhmdlmgjienoaaScT1
namespace Go.Proofs.Ythhmdlmgjienoaa
open Go Go.RowKit

theorem fo_some {op : BinOp} {a b : Option Nat} {s : Nat} (h : fo op a b = some s) : ∃ x y, a = some x ∧ b = some y ∧ floatBits op .f64 x y = some s := by
  cases a with
  | none => cases h
  | some x =>
    cases b with
    | none => cases h
    | some y => exact ⟨x, y, rfl, rfl, h⟩
theorem off_key {bad : Bool} {y s : Nat} (hy : y < 2 ^ 64) {ρ : Nat} {n : Bool} (hr : ρ ≤ ONE) (e : y = Ieee.double.word n ρ) (h : floatBits .sub .f64 (wantOf bad) y = some s) :
    if bad then 0 ≤ key s else key s ≤ 0 := by
  have hoi : ONE < INF := by decide
  have fy : y % 2 ^ 63 < INF := by rw [e, (word_lt' n (by omega)).2.1]; omega
  have ky : key y = if n then -(ρ : Int) else (ρ : Int) := by rw [e]; exact key_word (by omega)
  have hw := wantOf_lt bad
  have fw : wantOf bad % 2 ^ 63 < INF := by cases bad <;> decide
  rw [sub_is hw hy fw fy] at h
  have hk := add_key hw (fneg_lt hy) fw (by rw [fneg_mod hy]; exact fy) h
  rw [V_neg hy] at hk
  rw [hk]
  cases bad
  · have hle : V (wantOf false) ≤ V y := by
      rw [V_le_iff, ky, show key (wantOf false) = -(ONE : Int) by decide]
      split <;> omega
    have := Rz_mono (show V (wantOf false) + -V y ≤ 0 by omega)
    rw [Rz_zero] at this
    simpa using this
  · have hle : V y ≤ V (wantOf true) := by
      rw [V_le_iff, ky, show key (wantOf true) = (ONE : Int) by decide]
      split <;> omega
    have := Rz_mono (show 0 ≤ V (wantOf true) + -V y by omega)
    rw [Rz_zero] at this
    simpa using this
theorem okStep_key {step : Nat} (h : step < 2 ^ 64) (ho : okStep step = true) : 0 ≤ key step ∧ step % 2 ^ 63 < INF := by
  unfold okStep at ho
  rw [Bool.and_eq_true] at ho
  obtain ⟨h1, h2⟩ := ho
  have nn : isN step = false := by
    cases hn : isN step
    · rfl
    · rw [order_nan_left 0 hn] at h1; cases h1
  rw [gt_iff h (by decide) nn (by decide)] at h1
  rw [lt_iff h (by decide) nn (by decide), eq_iff h (by decide) nn (by decide)] at h2
  have k0 : key 0 = 0 := by decide
  have k1 : key 4607182418800017408 = 4607182418800017408 := by decide
  have hi : INF = 0x7ff0000000000000 := rfl
  rw [k0] at h1
  rw [k1] at h2
  simp only [decide_eq_true_eq, Bool.or_eq_true] at h1 h2
  refine ⟨Int.le_of_lt h1, ?_⟩
  rw [key_of] at h1 h2
  cases hs : sg step
  · rw [hs] at h1 h2
    simp only [Bool.false_eq_true, if_false] at h1 h2
    omega
  · rw [hs] at h1 h2
    simp only [if_true] at h1 h2
    omega
theorem U_two : U 4611686018427387904 = 2 ^ (BB + 1) := U_of (e := 1023) (by decide) (by decide) (by decide)
theorem off_fin {bad : Bool} {y s : Nat} (hy : y < 2 ^ 64) {ρ : Nat} {n : Bool} (hr : ρ ≤ ONE) (e : y = Ieee.double.word n ρ) (h : floatBits .sub .f64 (wantOf bad) y = some s) : s % 2 ^ 63 < INF := by
  have hoi : ONE < INF := by decide
  have ym : y % 2 ^ 63 = ρ := by rw [e, (word_lt' n (by omega)).2.1]
  have fy : y % 2 ^ 63 < INF := by omega
  have hw := wantOf_lt bad
  have wm : wantOf bad % 2 ^ 63 = ONE := by cases bad <;> decide
  have fw : wantOf bad % 2 ^ 63 < INF := by omega
  rw [sub_is hw hy fw fy, add_fin hw (fneg_lt hy) fw (by rw [fneg_mod hy]; exact fy)] at h
  injection h with h
  rw [← h, (word_lt' _ (rung_le _ _)).2.1, V_neg hy]
  have a1 := V_abs (wantOf bad)
  have a2 := V_abs y
  rw [wm] at a1
  rw [ym] at a2
  have a3 := U_le hr
  have a4 : U 4611686018427387904 = U ONE * 2 := by rw [U_two, U_one, Nat.pow_succ]
  have h1 := rung_own (r := 4611686018427387904) (by decide) 0
  have h2 := rung_mono (k := 0) (show (V (wantOf bad) + -V y).natAbs ≤ U 4611686018427387904 * 2 ^ 0 by omega)
  rw [h1] at h2
  exact Nat.lt_of_le_of_lt h2 (by decide)
/-- THE RIGHT WAY. -/
theorem taught {ws xs : List Nat} {bad : Bool} {step i v : Nat} (hst : step < 2 ^ 64) (ho : okStep step = true)
    (wl : ws.getD i 0 < 2 ^ 64) (xl : xs.getD i 0 < 2 ^ 64) (wf : ws.getD i 0 % 2 ^ 63 < INF) (xf : xs.getD i 0 % 2 ^ 63 < INF) (hv : learnI (learnD ws xs bad step) ws xs i = some v) (fv : ffin v = true) :
    (key (xs.getD i 0) = 0 → key v = key (ws.getD i 0)) ∧ (0 < key (xs.getD i 0) → if bad then key (ws.getD i 0) ≤ key v else key v ≤ key (ws.getD i 0)) := by
  obtain ⟨w, m, ew, em, hadd⟩ := fo_some hv
  injection ew with ew
  subst ew
  obtain ⟨d, x, ed, ex, hmul⟩ := fo_some em
  injection ex with ex
  subst ex
  obtain ⟨st, off, est, eo, hd⟩ := fo_some ed
  injection est with est
  subst est
  obtain ⟨wa, y, ewa, ey, hsub⟩ := fo_some eo
  injection ewa with ewa
  subst ewa
  have ml := fb_lt hmul
  have dl := fb_lt hd
  have ol := fb_lt hsub
  have mf := add_parts wl ml wf hadd fv
  have df := mul_parts dl xl xf hmul mf
  obtain ⟨sk, sf⟩ := okStep_key hst ho
  -- the softened sum is a word of size no more than 1
  have hy : ∃ ρ n, ρ ≤ ONE ∧ y = Ieee.double.word n ρ := by
    cases hs : wsum ws xs 8 with
    | none => rw [hs] at ey; cases ey
    | some s =>
      rw [hs] at ey
      have ey' : softO s = some y := ey
      cases hn : isN s
      · have hsl : s < 2 ^ 64 := by
          obtain ⟨_, _, _, _, h⟩ := fo_some hs
          exact fb_lt h
        obtain ⟨ρ, r1, _, r3, _⟩ := soft_shape hsl hn
        rw [r3] at ey'
        injection ey' with ey'
        exact ⟨ρ, sg s, r1, ey'.symm⟩
      · rw [soft_none hn] at ey'; cases ey'
  obtain ⟨ρ, n, hr, hyw⟩ := hy
  have hoi : ONE ≤ INF := by decide
  have yl : y < 2 ^ 64 := by rw [hyw]; exact (word_lt' n (Nat.le_trans hr hoi)).1
  have hoff := off_key (bad := bad) yl hr hyw hsub
  have off_f := off_fin (bad := bad) yl hr hyw hsub
  have hkm := add_key wl ml wf mf hadd
  have hkd := mul_key hst ol sf off_f sk hd
  constructor
  · intro hx0
    have hm0 : key m = 0 := by
      rw [mul_fin dl xl df xf] at hmul
      injection hmul with hmul
      rw [← hmul, key_zero hx0, U_zero, Nat.mul_zero, rung_zero]
      cases (sg d ^^ sg (xs.getD i 0)) <;> decide
    rw [hkm, V_of_zero (key_zero hm0), Int.add_zero, Rz_own wf]
  · intro hx1
    have hcomm : floatBits .mul .f64 (xs.getD i 0) d = some m := by
      rw [mul_fin xl dl xf df, Bool.xor_comm, Nat.mul_comm, ← mul_fin dl xl df xf]; exact hmul
    have hkm2 := mul_key xl dl xf df (Int.le_of_lt hx1) hcomm
    rw [hkm, ← Rz_own wf]
    cases bad
    · have h1 : V m ≤ 0 := key_V.2.1 (hkm2.2 (hkd.2 hoff))
      have := Rz_mono (show V (ws.getD i 0) + V m ≤ V (ws.getD i 0) by omega)
      simpa using this
    · have h1 : 0 ≤ V m := key_V.1.1 (hkm2.1 (hkd.1 hoff))
      have := Rz_mono (show V (ws.getD i 0) ≤ V (ws.getD i 0) + V m by omega)
      simpa using this
end Go.Proofs.Ythhmdlmgjienoaa
