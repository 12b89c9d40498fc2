/- RateFades walked. Conditions as stated. -/
import Derived.Test.YtplkoephgmdgkaaRtKn
import Derived.Test.YtplkoephgmdgkaaRtMath
import Derived.Test.YtplkoephgmdgkaaRtBn
import Derived.Test.YtplkoephgmdgkaaRtW10
import Derived.Deep.CutBlock
import Derived.Laws.BitsAllLaws
import Derived.Laws.BitsAll
namespace Go.Proofs.Ytplkoephgmdgkaa
open Go Go.RowKit Rt
set_option linter.unusedVariables false
attribute [local go_sem] run_fadd run_fsub run_fmul run_fquo store_f64
theorem m_Abs (x : Nat) (hx : x < 2 ^ 64) (w : World) : Calls Try.prog 39 #[.float .f64 x] w fun r w' => r = .returned (.float .f64 (x % 2 ^ 63)) ∧ w' = w := by
  have h1 : (callFunc 56 #[.float .f64 x]).run Try.prog w = .ok (.value (.int .u64 x)) w := run_bits x w
  have e : bits .andNot .u64 (x : Int) 9223372036854775808 = ((x % 9223372036854775808 : Nat) : Int) := by
    have h := u64_andNot_nat x 9223372036854775808 (by omega) (by decide)
    rw [show (9223372036854775808 : Int) = ((9223372036854775808 : Nat) : Int) from rfl, h]
    congr 1
    exact Nat.and_two_pow_sub_one_eq_mod x 63
  have h2 : (callFunc 60 #[.int .u64 ((x % 9223372036854775808 : Nat) : Int)]).run Try.prog w = .ok (.value (.float .f64 (x % 9223372036854775808))) w := run_frombits _ w
  rw [show 2 ^ 63 = 9223372036854775808 from rfl]
  generalize hm : x % 9223372036854775808 = m at *
  clear hm hx
  go_enter Try.func39, Try.ntmps39
  go_wp2
  go_ret
  exact ⟨rfl, rfl⟩
theorem pw_cn {x f : Nat} (hx : x < 2 ^ 64) (hf : f < 2 ^ 64) (fx : x % 2 ^ 63 < INF) (ff : f % 2 ^ 63 ≤ ONE) {n y : Nat} (h : FS (pw (cn x) (cn f) n) y) : y < 2 ^ 64 ∧ y % 2 ^ 63 ≤ x % 2 ^ 63 := by
  have hi := inf_lt
  have ho := one_inf
  have c1 : cn x = some x := by unfold cn; rw [if_neg]; intro g; have := (isN_iff x).1 g; omega
  have c2 : cn f = some f := by unfold cn; rw [if_neg]; intro g; have := (isN_iff f).1 g; omega
  rw [c1, c2] at h
  obtain ⟨z, e, z1, z2⟩ := pw_small n x f hx fx hf ff
  rw [e] at h
  rw [show y = z from h.2]
  exact ⟨z1, z2⟩
theorem abs_le {x y : Nat} (h : y % 2 ^ 63 ≤ x % 2 ^ 63) (fx : x % 2 ^ 63 < INF) : (FloatKind.f64.format.order (y % 2 ^ 63) (x % 2 ^ 63) == some .lt || FloatKind.f64.format.order (y % 2 ^ 63) (x % 2 ^ 63) == some .eq) = true := by
  have h1 : y % 2 ^ 63 < INF := by omega
  have h2 : FloatKind.f64.format.order (y % 2 ^ 63) (x % 2 ^ 63) = some (compare ((y % 2 ^ 63 : Nat) : Int) ((x % 2 ^ 63 : Nat) : Int)) := order_pos h1 (Nat.le_of_lt fx)
  rw [h2]
  rcases Nat.lt_or_eq_of_le h with g | g
  · rw [Int.compare_eq_lt.2 (by omega)]; rfl
  · rw [Int.compare_eq_eq.2 (by omega)]; rfl
/-- Between nought and one. -/
theorem one_of {f : Nat} (hf : f < 2 ^ 64) (h1 : (FloatKind.f64.format.order f 0 == some .gt || FloatKind.f64.format.order f 0 == some .eq) = true) (h2 : (FloatKind.f64.format.order f 4607182418800017408 == some .lt || FloatKind.f64.format.order f 4607182418800017408 == some .eq) = true) : f % 2 ^ 63 ≤ ONE := by
  have g1 := (ge_iff hf (show 0 < INF by decide)).1 h1
  have g2 := (le_iff hf (show ONE < INF by decide)).1 h2
  have := key_abs (z := f)
  have := g1.2
  have := g2.2
  omega
theorem u64_wrap_bounds (k : Int) : 0 ≤ IntKind.u64.wrap k ∧ IntKind.u64.wrap k < 18446744073709551616 := by
  rw [IntKind.wrap_u64]
  omega
theorem wrap64_in' {x : Int} (h1 : -9223372036854775808 ≤ x) (h2 : x ≤ 9223372036854775807) : wrap64 x = x := IntWalk.wrap64_in _ ⟨h1, h2⟩
set_option maxHeartbeats 4000000 in
set_option maxRecDepth 100000 in
theorem fd_walk (W : World) (x f : Nat) (hx : x < 2 ^ 64) (hf : f < 2 ^ 64) (n whole k m : Int) (hn : n ≤ 9223372036854775807) (hw : -9223372036854775808 ≤ whole ∧ whole ≤ 9223372036854775807) :
    Calls Try.prog 8 #[.float .f64 x, .float .f64 f, .int .i64 n, .int .i64 whole, .int .i64 k, .int .i64 m] W fun r w' => r = .returned (.bool true) ∧ Chg (fun _ => False) W w' := by
  have P1 := Lib.hid (fun w => rt_power w x f (cn x) (cn f) n (cn_fs hx) (cn_fs hf) hn)
  have P2 := Lib.hid (fun w => rt_power w x ONE (cn x) (some ONE) n (cn_fs hx) (FS.some (by decide)) hn)
  have HX := Lib.hid hx
  have HF := Lib.hid hf
  clear hx hf
  go_enter Try.func8, Try.ntmps8
  go_wp2_with fail
  refine (P1.out _).mono ?_
  rintro e w1 ⟨y1, rfl, f1, c1⟩
  have hd := fres_fs w1 .sub (cn_fs HX.out) (cn_fs HX.out)
  have G1 : (FloatKind.f64.format.order (fres w1 .sub x x) 0 == some .eq) = decide (x % 2 ^ 63 < INF) := sub_self_iff HX.out hd
  have C1 := Lib.hid c1
  have F1 := Lib.hid f1
  clear hd c1 f1
  go_upto_region 2 with (fail)
  go_cut [40] (fun a wx => a = .bool false ∧ Chg (fun _ => False) W wx)
  case first =>
    by_cases hfin : x % 2 ^ 63 < INF
    · rw [decide_eq_true hfin] at G1
      have HFIN := Lib.hid hfin
      clear hfin
      cases g2 : (FloatKind.f64.format.order f 0 == some .gt || FloatKind.f64.format.order f 0 == some .eq)
      · go_wp2
        go_meet
        exact ⟨rfl, C1.out.drewN _⟩
      · cases g3 : (FloatKind.f64.format.order f 4607182418800017408 == some .lt || FloatKind.f64.format.order f 4607182418800017408 == some .eq)
        · go_wp2
          go_meet
          exact ⟨rfl, C1.out.drewN _⟩
        · have hle := pw_cn HX.out HF.out HFIN.out (one_of HF.out g2 g3) F1.out
          have AB := abs_le hle.2 HFIN.out
          have A1 := Lib.hid (fun w => m_Abs y1 hle.1 w)
          have A2 := Lib.hid (fun w => m_Abs x HX.out w)
          clear hle
          go_wp2_with fail
          refine (A1.out _).mono ?_
          rintro e w' ⟨rfl, h9⟩
          have h9 := h9.symm; subst h9
          go_wp2_with fail
          refine (A2.out _).mono ?_
          rintro e w' ⟨rfl, h9⟩
          have h9 := h9.symm; subst h9
          go_wp2
          go_meet
          exact ⟨rfl, C1.out.drewN _⟩
    · rw [decide_eq_false hfin] at G1
      clear hfin
      go_wp2
      go_meet
      exact ⟨rfl, C1.out.drewN _⟩
  case rest =>
    obtain ⟨rfl, c2⟩ := hcut
    have C2 := Lib.hid c2
    clear c2 C1 G1 F1
    go_upto_region 4 with (fail)
    go_cut [56] (fun a wx => a = .bool false ∧ Chg (fun _ => False) W wx)
    case first =>
      go_wp2_with fail
      refine (P2.out _).mono ?_
      rintro e w1 ⟨y1, rfl, f1, c1⟩
      rw [pw_one HX.out] at f1
      have al := f1.alike (cn_fs HX.out)
      have C3 := Lib.hid (C2.out.trans c1 (fun _ _ h => h))
      clear f1 c1
      go_wp2_with fail
      refine (rt_alike y1 x w1).mono ?_
      rintro e w2 ⟨he, h9⟩
      have h9 := h9.symm; subst h9
      rw [al] at he
      subst he
      clear al
      have P3 := Lib.hid (fun w => rt_power w x f (cn x) (cn f) (min n 0) (cn_fs HX.out) (cn_fs HF.out) (by omega))
      rw [show (min n 0).toNat = 0 by omega, pw_zero] at P3
      go_wp2_with fail
      refine (P3.out _).mono ?_
      rintro e w3 ⟨y2, rfl, f2, c2⟩
      have al := f2.alike (cn_fs HX.out)
      have C4 := Lib.hid (C3.out.trans c2 (fun _ _ h => h))
      clear f2 c2
      go_wp2_with fail
      refine (rt_alike y2 x w3).mono ?_
      rintro e w2 ⟨he, h9⟩
      have h9 := h9.symm; subst h9
      rw [al] at he
      subst he
      clear al
      go_wp2
      go_meet
      exact ⟨rfl, C4.out⟩
    case rest =>
      obtain ⟨rfl, c3⟩ := hcut
      have C3 := Lib.hid c3
      obtain ⟨a, ha, ha1⟩ : ∃ a : Int, whole.tmod 1125899906842624 = a ∧ a.natAbs < 2 ^ 53 := ⟨_, rfl, by
        rw [Int.natAbs_tmod]
        exact Nat.lt_trans (Nat.mod_lt _ (by decide)) (by decide)⟩
      obtain ⟨kn, hk, hk1⟩ : ∃ kn : Nat, wrap64 ((IntKind.u64.wrap k).tmod 1001) = (kn : Int) ∧ kn ≤ 1000 := by
        have e1 := u64_wrap_bounds k
        have e2 : (IntKind.u64.wrap k).tmod 1001 = IntKind.u64.wrap k % 1001 := Int.tmod_eq_emod_of_nonneg e1.1
        have e3 : wrap64 ((IntKind.u64.wrap k).tmod 1001) = (IntKind.u64.wrap k).tmod 1001 := wrap64_in' (by omega) (by omega)
        exact ⟨((IntKind.u64.wrap k) % 1001).toNat, by rw [e3, e2]; omega, by omega⟩
      have HA := Lib.hid ha1
      have HK := Lib.hid hk1
      have HK1 := Lib.hid hk
      have HA1 := Lib.hid ha
      clear c3 C2 P1 P2 HX HF ha1 hk1
      go_upto_if 64 with (fail)
      try rw [HA1.out]
      try rw [HK1.out]
      clear ha hk HA1 HK1
      obtain ⟨q, hq⟩ : ∃ q : Nat, q = if kn = 0 then 1000 else 1000 / kn := ⟨_, rfl⟩
      have hq1 : q ≤ 1000 := by rw [hq]; split <;> (first | omega | exact Nat.div_le_self _ _)
      have hq2 : kn * q ≤ 1000 := by
        rw [hq]; split
        · rename_i h; rw [h]; omega
        · exact Nat.mul_div_le _ _
      have HQ := Lib.hid hq
      have HQ1 := Lib.hid hq1
      have HQ2 := Lib.hid hq2
      clear hq hq1 hq2
      go_cut [14] (fun b wx => b = .int .i64 q ∧ wx = wc)
      case first =>
        by_cases h0 : kn = 0
        · have hn0 : ¬ (0 : Int) < (kn : Int) := by omega
          have hqe := Lib.hid (show q = 1000 by have := HQ.out; rw [if_pos h0] at this; exact this)
          clear h0
          go_wp2
          go_meet
          exact ⟨by rw [hqe.out]; rfl, rfl⟩
        · have hn0 : (0 : Int) < (kn : Int) := by omega
          have hqe := Lib.hid (show q = 1000 / kn by have := HQ.out; rw [if_neg h0] at this; exact this)
          clear h0
          go_wp2
          go_meet
          exact ⟨by rw [hqe.out]; rfl, rfl⟩
      case rest =>
        obtain ⟨rfl, h9⟩ := hcut
        have h9 := h9.symm; subst h9
        obtain ⟨mn, hm, hm1⟩ : ∃ mn : Nat, wrap64 ((IntKind.u64.wrap m).tmod ((q : Int) + 1)) = (mn : Int) ∧ mn ≤ q := by
          have e1 := u64_wrap_bounds m
          have hq9 := HQ1.out
          have e2 : (IntKind.u64.wrap m).tmod ((q : Int) + 1) = IntKind.u64.wrap m % ((q : Int) + 1) := Int.tmod_eq_emod_of_nonneg e1.1
          have e4 := Int.emod_lt_of_pos (IntKind.u64.wrap m) (show (0 : Int) < (q : Int) + 1 by omega)
          have e5 := Int.emod_nonneg (IntKind.u64.wrap m) (show (q : Int) + 1 ≠ 0 by omega)
          have e3 : wrap64 ((IntKind.u64.wrap m).tmod ((q : Int) + 1)) = (IntKind.u64.wrap m).tmod ((q : Int) + 1) := wrap64_in' (by omega) (by omega)
          exact ⟨((IntKind.u64.wrap m) % ((q : Int) + 1)).toNat, by rw [e3, e2]; omega, by omega⟩
        have hw1 : wrap64 ((q : Int) + 1) = (q : Int) + 1 := wrap64_in' (by omega) (by have := HQ1.out; omega)
        have hw2 : IntKind.u64.wrap ((q : Int) + 1) = (q : Int) + 1 := by rw [IntKind.wrap_u64]; have := HQ1.out; omega
        have hne : ((q : Int) + 1 == 0) = false := by simp; omega
        have hne2 : ¬ ((q : Int) + 1 = 0) := by omega
        go_upto_region 14 with (fail)
        have HM1 := Lib.hid hm1
        clear hm hm1 hw1 hw2 hne hne2
        have hkn : kn ≤ 1000 := HK.out
        have hkm : kn * mn ≤ 1000 := Nat.le_trans (Nat.mul_le_mul_left _ HM1.out) HQ2.out
        have HKN := Lib.hid hkn
        have HKM := Lib.hid hkm
        have HMN := Lib.hid (show mn ≤ 1000 from Nat.le_trans HM1.out HQ1.out)
        have hu : (FloatKind.f64, floatOfInt .f64 a) = (FloatKind.f64, Ieee.double.word (decide (a < 0)) (hv a.natAbs 0)) := by rw [fi_int]
        have hfi : floatOfInt .f64 a = Ieee.double.word (decide (a < 0)) (hv a.natAbs 0) := fi_int a
        obtain ⟨s, hs⟩ : ∃ s, s = decide (a < 0) := ⟨_, rfl⟩
        rw [← hs] at hfi
        obtain ⟨an, han⟩ : ∃ an, an = a.natAbs := ⟨_, rfl⟩
        have HAN := Lib.hid (show an < 2 ^ 53 by rw [han]; exact HA.out)
        rw [← han] at hfi
        have HFI := Lib.hid hfi
        rw [hfi]
        obtain ⟨w1, hw1⟩ : ∃ w1, w1 = wc := ⟨_, rfl⟩
        rw [← hw1] at C3 ⊢
        clear hw1 hs han hfi hu hkn hkm HA HQ HQ1 HQ2 HK HM1 hw
        go_loopg [15, 77] kn (fun g h i wr => ∃ j, j + g = kn ∧ h = .float .f64 (hv 1 j) ∧ i = .int .i64 (j : Int) ∧ Chg (fun _ => False) w1 wr)
        case atStart => exact ⟨0, by omega, by rw [hv_one]; rfl, rfl, Chg.refl _ _⟩
        case round =>
          obtain ⟨j, hj, rfl, rfl, hc⟩ := hrel
          by_cases hg : gk = 0
          · have hlt : ¬ (j : Int) < (kn : Int) := by omega
            have hjk : j = kn := by omega
            subst hjk
            have C4 := Lib.hid (C3.out.trans hc (fun _ _ h => h))
            clear hc C3
            obtain ⟨N, hN⟩ : ∃ N : Nat, N = j * mn := ⟨_, rfl⟩
            have hmul : wrap64 ((j : Int) * (mn : Int)) = (N : Int) := by
              rw [hN, Int.natCast_mul]
              exact wrap64_in' (by have := HKM.out; have h2 : (j : Int) * mn = ((j * mn : Nat) : Int) := by rw [Int.natCast_mul]
                                   omega) (by have := HKM.out; have h2 : (j : Int) * mn = ((j * mn : Nat) : Int) := by rw [Int.natCast_mul]
                                              omega)
            have HN := Lib.hid hN
            have HN1 := Lib.hid (show N ≤ 1000 by rw [hN]; exact HKM.out)
            clear hN
            go_upto_region 18 with (fail)
            clear hmul
            obtain ⟨w2, hw2⟩ : ∃ w2, w2 = wr := ⟨_, rfl⟩
            rw [← hw2] at C4 ⊢
            clear hw2
            go_loopg [16, 85] N (fun g h i wr => ∃ i', i' + g = N ∧ h = .float .f64 (Ieee.double.word s (hv an i')) ∧ i = .int .i64 (i' : Int) ∧ Chg (fun _ => False) w2 wr)
            case atStart => exact ⟨0, by omega, rfl, rfl, Chg.refl _ _⟩
            case round =>
              obtain ⟨i', hi, rfl, rfl, hc⟩ := hrel
              by_cases hg2 : gk = 0
              · have hlt2 : ¬ (i' : Int) < (N : Int) := by omega
                have hik : i' = N := by omega
                subst hik
                have C5 := Lib.hid (C4.out.trans hc (fun _ _ h => h))
                have hx : FS (some (Ieee.double.word s (hv an 0))) (Ieee.double.word s (hv an 0)) := FS.some (word_lt (Nat.le_of_lt (hv_fact HAN.out (by omega)).1))
                have hf : FS (some (hv 1 j)) (hv 1 j) := FS.some (lt64 (hv_fact (by decide) HKN.out).1)
                have P4 := Lib.hid (fun w => rt_power w _ _ _ _ (mn : Int) hx hf (by have := HKM.out; have := HMN.out; omega))
                have hp := pw_half s HAN.out mn 0 j (some (hv 1 j)) (by have := HKM.out; omega) (fun _ => rfl)
                have e0 : ((mn : Int)).toNat = mn := by simp
                rw [e0, hp, Nat.zero_add, ← HN.out] at P4
                have HFI2 := HFI.out
                clear hx hf hp e0 hc C4
                go_wp2_with fail
                refine (P4.out _).mono ?_
                rintro e w5 ⟨y5, rfl, f5, c5⟩
                have he : y5 = Ieee.double.word s (hv an i') := f5.2
                subst he
                have hn5 : isN (Ieee.double.word s (hv an i')) = false := by
                  have h1 := (hv_fact HAN.out (show i' ≤ 1000 from HN1.out)).1
                  rw [Bool.eq_false_iff]; intro g
                  have := (isN_iff _).1 g
                  rw [word_mod (Nat.le_of_lt h1)] at this
                  omega
                have EQ := fcmp_eq_same _ hn5
                have C6 := Lib.hid (C5.out.trans c5 (fun _ _ h => h))
                clear f5 c5 hn5 C5
                go_wp2_with fail
                refine (rt_wakes _).mono ?_
                rintro e w8 ⟨rfl, d8⟩
                have C7 := Lib.hid (C6.out.trans d8 (fun _ _ h => h))
                clear d8
                go_wp2
                go_ret
                exact ⟨rfl, C7.out⟩
              · have hlt2 : (i' : Int) < (N : Int) := by omega
                have hib : (i' : Int) ≤ 1000 := by have := HN1.out; omega
                have hb : floatBits .quo .f64 (Ieee.double.word s (hv an i')) 4611686018427387904 = some (Ieee.double.word s (hv an (i' + 1))) :=
                  hv_half s HAN.out (by have := HN1.out; omega)
                have hq := fres_some hb
                have hd := fdr_some hb
                have HC := Lib.hid hc
                clear hc hb
                go_wp2
                go_roundg (gk - 1)
                case measure => omega
                case rel => exact ⟨i' + 1, by omega, rfl, by norm_cast, by first | exact HC.out | exact HC.out.drewN _⟩
          · have hlt : (j : Int) < (kn : Int) := by omega
            have hjb : (j : Int) ≤ 1000 := by have := HKN.out; omega
            have hb : floatBits .quo .f64 (hv 1 j) 4611686018427387904 = some (hv 1 (j + 1)) := by
              have := hv_half false (a := 1) (j := j) (by decide) (by have := HKN.out; omega)
              rw [word_f, word_f] at this; exact this
            have hq := fres_some hb
            have hd := fdr_some hb
            have HC := Lib.hid hc
            clear hc hb
            go_wp2
            go_roundg (gk - 1)
            case measure => omega
            case rel => exact ⟨j + 1, by omega, rfl, by norm_cast, by first | exact HC.out | exact HC.out.drewN _⟩
theorem walk_RateFades {H : Type} {enc : TypeId × Value → H} (W : World) (v0 v1 v2 v3 v4 v5 : Value) (d0 d1 d2 d3 d4 d5 : DataW H) (p0 p1 p2 p3 p4 p5 : List MemPlace)
    (ok0 : ∃ base, Value.okWide Try.prog W .any base 22 v0) (ok1 : ∃ base, Value.okWide Try.prog W .any base 22 v1) (ok2 : ∃ base, Value.okWide Try.prog W .any base 2 v2) (ok3 : ∃ base, Value.okWide Try.prog W .any base 2 v3) (ok4 : ∃ base, Value.okWide Try.prog W .any base 3 v4) (ok5 : ∃ base, Value.okWide Try.prog W .any base 3 v5)
    (h0 : DataW.Trod enc Try.prog W 0 (fun _ => true) true 22 v0 d0 p0) (h1 : DataW.Trod enc Try.prog W 0 (fun _ => true) true 22 v1 d1 p1) (h2 : DataW.Trod enc Try.prog W 0 (fun _ => true) true 2 v2 d2 p2) (h3 : DataW.Trod enc Try.prog W 0 (fun _ => true) true 2 v3 d3 p3) (h4 : DataW.Trod enc Try.prog W 0 (fun _ => true) true 3 v4 d4 p4) (h5 : DataW.Trod enc Try.prog W 0 (fun _ => true) true 3 v5 d5 p5) :
    Calls Try.prog 8 #[v0, v1, v2, v3, v4, v5] W fun r w' => r = .returned (.bool true) ∧ Below W.heap.size W w' := by
  obtain ⟨x, rfl, b0⟩ := arg_f64 Try.underlying22 ok0 h0
  obtain ⟨f, rfl, b1⟩ := arg_f64 Try.underlying22 ok1 h1
  obtain ⟨n, rfl, b2⟩ := arg_i64 Try.underlying2 ok2 h2
  obtain ⟨a, rfl, b3⟩ := arg_i64 Try.underlying2 ok3 h3
  obtain ⟨k, rfl, b4⟩ := arg_i64 Try.underlying3 ok4 h4
  obtain ⟨m, rfl, b5⟩ := arg_i64 Try.underlying3 ok5 h5
  refine (fd_walk W x f b0 b1 n a k m (by omega) (by omega)).mono ?_
  rintro r w' ⟨rfl, c⟩
  exact ⟨rfl, c.below (Nat.le_refl _) (fun _ _ h => h)⟩
end Go.Proofs.Ytplkoephgmdgkaa
