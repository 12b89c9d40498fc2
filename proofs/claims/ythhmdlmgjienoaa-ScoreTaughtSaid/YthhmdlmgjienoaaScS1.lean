/- ScoreSoft. No condition but what each states. -/
import Derived.Test.YthhmdlmgjienoaaScL1
import Derived.Test.YthhmdlmgjienoaaFltQ
namespace Go.Proofs.Ythhmdlmgjienoaa
open Go Go.RowKit
attribute [local go_sem] run_fadd run_fsub run_fmul run_fquo store_f64

theorem soft_none {x : Nat} (h : isN x = true) : softO x = none := by
  have hn : INF < x % 2 ^ 63 := (isN_iff x).1 h
  rw [softO, fbig_eq (show x % 2 ^ 63 < 2 ^ 64 by omega), decide_eq_false (show ¬ x % 2 ^ 63 = INF by omega)]
  have : fo .add (some 4607182418800017408) (some (x % 2 ^ 63)) = none := fb_nan_right .add _ ((isN_iff _).2 (by omega))
  rw [this]
  rfl
theorem fneg_mod {x : Nat} (hx : x < 2 ^ 64) : fneg x % 2 ^ 63 = x % 2 ^ 63 := by
  rw [fneg_eq hx]; split <;> omega
theorem sg_fneg {x : Nat} (hx : x < 2 ^ 64) : sg (fneg x) = !sg x := by
  rw [fneg_eq hx]
  unfold sg
  split
  · rw [decide_eq_true (by omega), decide_eq_false (by omega)]; rfl
  · rw [decide_eq_false (by omega), decide_eq_true (by omega)]; rfl
theorem one_as_word (x : Nat) : one_as x = Ieee.double.word (sg x) ONE := by
  unfold one_as sg
  by_cases h : x < 2 ^ 63
  · rw [if_pos h, decide_eq_false (by omega)]; rfl
  · rw [if_neg h, decide_eq_true (by omega)]; rfl
/-- Soft of no NaN: its sign is x's; its size is no more than 1, and hangs on |x| alone. -/
theorem soft_shape {x : Nat} (hx : x < 2 ^ 64) (hn : isN x = false) :
    ∃ ρ, ρ ≤ ONE ∧ (x % 2 ^ 63 = 0 → ρ = 0) ∧ softO x = some (Ieee.double.word (sg x) ρ) ∧ softO (fneg x) = some (Ieee.double.word (!sg x) ρ) := by
  have hi : INF = 0x7ff0000000000000 := rfl
  have hle : x % 2 ^ 63 ≤ INF := by
    rcases Nat.lt_or_ge INF (x % 2 ^ 63) with g | g
    · rw [read_isN g] at hn; cases hn
    · exact g
  have b1 := fbig_eq (x := x % 2 ^ 63) (by omega)
  rcases Nat.lt_or_eq_of_le hle with g | g
  · obtain ⟨q, hq, q1, q2, q3⟩ := add_one g
    obtain ⟨ρ, r1, r2, r3⟩ := quo_soft g q3 q2 (Nat.lt_of_lt_of_le (by decide) q1)
    have hq' : fo .add (some 4607182418800017408) (some (x % 2 ^ 63)) = some q := hq
    refine ⟨ρ, r1, r2, ?_, ?_⟩
    · rw [softO, b1, decide_eq_false (by omega), hq']
      exact r3 x hx rfl
    · rw [softO, fneg_mod hx, b1, decide_eq_false (by omega), hq', ← sg_fneg hx]
      exact r3 (fneg x) (fneg_lt hx) (fneg_mod hx)
  · refine ⟨ONE, Nat.le_refl _, fun h => by omega, ?_, ?_⟩
    · rw [softO, b1, decide_eq_true g, one_as_word]; rfl
    · rw [softO, fneg_mod hx, b1, decide_eq_true g, one_as_word, sg_fneg hx]; rfl

theorem m_signbit (x : Nat) (hx : x < 2 ^ 64) (w : World) : Calls Try.prog 22 #[.float .f64 x] w fun r w' => r = .returned (.bool (sg x)) ∧ w' = w := by
  have h1 := run_bits x w
  by_cases h : x < 2 ^ 63
  · rw [show sg x = false from decide_eq_false (by omega)]
    have e : wrap64 (x : Int) = x := by unfold wrap64; omega
    have hl : ¬ (x : Int) < 0 := by omega
    go_enter Try.func22, Try.ntmps22
    go_wp2
    go_ret
    exact ⟨rfl, rfl⟩
  · rw [show sg x = true from decide_eq_true (by omega)]
    have e : wrap64 (x : Int) = (x : Int) - 18446744073709551616 := by unfold wrap64; omega
    have hl : (x : Int) - 18446744073709551616 < 0 := by omega
    go_enter Try.func22, Try.ntmps22
    go_wp2
    go_ret
    exact ⟨rfl, rfl⟩

theorem isN_word {neg : Bool} {r : Nat} (h : r ≤ INF) : isN (Ieee.double.word neg r) = false := by
  cases hn : isN (Ieee.double.word neg r)
  · rfl
  · have := (isN_iff _).1 hn
    rw [(word_lt' neg h).2.1] at this
    omega
theorem key_word {neg : Bool} {r : Nat} (h : r ≤ INF) : key (Ieee.double.word neg r) = if neg then -(r : Int) else (r : Int) := by
  obtain ⟨h1, h2, h3⟩ := word_lt' neg h
  unfold key
  rw [h2]
  cases neg
  · rw [if_pos (h3.2 rfl)]; rfl
  · rw [if_neg (fun g => by cases h3.1 g)]; rfl
theorem sg_word {neg : Bool} {r : Nat} (h : r ≤ INF) : sg (Ieee.double.word neg r) = neg := by
  obtain ⟨h1, h2, h3⟩ := word_lt' neg h
  unfold sg
  cases neg
  · exact decide_eq_false (by have := h3.2 rfl; omega)
  · refine decide_eq_true ?_
    rcases Nat.lt_or_ge (Ieee.double.word true r) (2 ^ 63) with g | g
    · cases h3.1 g
    · exact g
theorem fneg_word {neg : Bool} {r : Nat} (h : r ≤ INF) : fneg (Ieee.double.word neg r) = Ieee.double.word (!neg) r := by
  have hi : INF = 0x7ff0000000000000 := rfl
  rw [fneg_eq (word_lt' neg h).1]
  unfold Ieee.Format.word
  rw [dbl_sw]
  cases neg
  · simp only [Bool.false_eq_true, if_false, Bool.not_false, if_true]
    rw [if_pos (by omega)]
    omega
  · simp only [Bool.false_eq_true, if_false, Bool.not_true, if_true]
    rw [if_neg (by omega)]
    omega

theorem soft_walk (x : Nat) (hx : x < 2 ^ 64) (W : World) : Calls Try.prog 7 #[.float .f64 x] W fun r w' => r = .returned (.bool true) ∧ Below W.heap.size W w' := by
  go_enter Try.func7, Try.ntmps7
  go_wp2_with fail
  refine (sc_head W).mono ?_
  rintro e w1 ⟨rfl, c1⟩
  have C1 := Lib.hid c1
  clear c1
  go_wp2_with fail
  refine (s_soft x hx w1).mono ?_
  rintro e w2 ⟨s, rfl, hs, c2⟩
  have C2 := Lib.hid (C1.out.trans c2 (fun _ _ h => h))
  clear c2 C1
  go_wp2_with fail
  refine (m_isNaN x w2).mono ?_
  rintro e w3 ⟨rfl, rfl⟩
  cases hn : isN x
  · obtain ⟨ρ, r1, r2, r3, r4⟩ := soft_shape hx hn
    have hi : ONE ≤ INF := by decide
    have rI := Nat.le_trans r1 hi
    rw [r3] at hs
    have es : s = Ieee.double.word (sg x) ρ := hs.2
    have hsl := hs.1
    have ns : isN s = false := by rw [es]; exact isN_word rI
    have ks : key s = if sg x then -(ρ : Int) else (ρ : Int) := by rw [es]; exact key_word rI
    have ss : sg s = sg x := by rw [es]; exact sg_word rI
    have fs : fneg s = Ieee.double.word (!sg x) ρ := by rw [es]; exact fneg_word rI
    have o1 : (FloatKind.f64.format.order s 4607182418800017408 == some .lt || FloatKind.f64.format.order s 4607182418800017408 == some .eq) = true := by
      have a1 : (FloatKind.f64.format.order s 4607182418800017408 == some .lt) = _ := lt_iff hsl (by decide) ns (by decide)
      have a2 : (FloatKind.f64.format.order s 4607182418800017408 == some .eq) = _ := eq_iff hsl (by decide) ns (by decide)
      have ek : key 4607182418800017408 = (ONE : Int) := by decide
      rw [a1, a2, ek, ks]
      simp only [Bool.or_eq_true, decide_eq_true_eq]
      split <;> omega
    have o2 : (FloatKind.f64.format.order s 13830554455654793216 == some .gt || FloatKind.f64.format.order s 13830554455654793216 == some .eq) = true := by
      have a1 : (FloatKind.f64.format.order s 13830554455654793216 == some .gt) = _ := gt_iff hsl (by decide) ns (by decide)
      have a2 : (FloatKind.f64.format.order s 13830554455654793216 == some .eq) = _ := eq_iff hsl (by decide) ns (by decide)
      have ek : key 13830554455654793216 = -(ONE : Int) := by decide
      rw [a1, a2, ek, ks]
      simp only [Bool.or_eq_true, decide_eq_true_eq]
      split <;> omega
    have ox : (FloatKind.f64.format.order x 0 != some .eq) = false → x % 2 ^ 63 = 0 := by
      intro h
      have a2 : (FloatKind.f64.format.order x 0 == some .eq) = _ := eq_iff hx (by decide) hn (by decide)
      rw [bne, a2] at h
      have : key x = key 0 := by simpa using h
      have e0 : key 0 = 0 := by decide
      rw [e0] at this
      unfold key at this
      split at this <;> omega
    have os : x % 2 ^ 63 = 0 → (FloatKind.f64.format.order s 0 == some .eq) = true := by
      intro h
      have a2 : (FloatKind.f64.format.order s 0 == some .eq) = _ := eq_iff hsl (by decide) ns (by decide)
      have e0 : key 0 = 0 := by decide
      rw [a2, ks, r2 h, e0]
      cases sg x <;> decide
    have R4 := Lib.hid r4
    have FSN := Lib.hid fs
    have HSL := Lib.hid hsl
    have SS := Lib.hid ss
    have nn : Op.unary .neg (.float .f64 x) = pure (.float .f64 (fneg x)) := rfl
    have nn2 : Op.unary .neg (.float .f64 s) = pure (.float .f64 (fneg s)) := rfl
    have hfl := fneg_lt hx
    clear r1 r2 r3 r4 rI es hs hi ns ks fs hsl ss
    go_wp2_with fail
    refine (m_signbit s HSL.out w3).mono ?_
    rintro e w4 ⟨rfl, rfl⟩
    go_wp2_with fail
    refine (m_signbit x hx w4).mono ?_
    rintro e w5 ⟨rfl, rfl⟩
    rw [SS.out]
    have bb : (sg x == sg x) = true := by simp
    generalize sg x = b at *
    generalize fneg x = xn at *
    go_wp2_with fail
    refine (s_soft xn hfl w5).mono ?_
    rintro e w6 ⟨s2, rfl, hs2, c6⟩
    rw [R4.out] at hs2
    have e2 : fneg s = s2 := by rw [FSN.out]; exact hs2.2.symm
    rw [e2] at nn2
    have h1 := run_bits s2 w6
    have C6 := Lib.hid (C2.out.trans c6 (fun _ _ h => h))
    clear hs2 e2 c6 FSN SS R4 C2
    cases hz : (FloatKind.f64.format.order x 0 != some .eq)
    · have o3 := os (ox hz)
      clear os ox
      go_wp2
      go_ret
      exact ⟨rfl, C6.out.below (Nat.le_refl _) (fun _ _ h => h)⟩
    · clear os ox
      go_wp2
      go_ret
      exact ⟨rfl, C6.out.below (Nat.le_refl _) (fun _ _ h => h)⟩
  · rw [soft_none hn] at hs
    have ns : isN s = true := hs.2
    clear hs
    go_wp2_with fail
    refine (m_isNaN s w3).mono ?_
    rintro e w4 ⟨rfl, rfl⟩
    rw [ns]
    go_wp2
    go_ret
    exact ⟨rfl, C2.out.below (Nat.le_refl _) (fun _ _ h => h)⟩
end Go.Proofs.Ythhmdlmgjienoaa
