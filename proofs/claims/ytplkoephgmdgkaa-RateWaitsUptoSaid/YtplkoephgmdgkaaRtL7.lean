/- RateWaits walked. Conditions as stated. -/
import Derived.Test.YtplkoephgmdgkaaRtOne
import Derived.Deep.CutBlock
namespace Go.Proofs.Ytplkoephgmdgkaa
open Go Go.RowKit Rt Go.Maps
set_option linter.unusedVariables false
attribute [local go_sem] run_fadd run_fsub run_fmul run_fquo store_f64
/-- Nothing has changed up to block B. -/
def SB (B : Nat) (w0 w' : World) : Prop := Chg (fun i => B < i) w0 w'
theorem SB.refl (B : Nat) (w : World) : SB B w w := Chg.refl _ w
theorem SB.drew {B : Nat} {w0 w : World} (h : SB B w0 w) : SB B w0 w.drew := Chg.drew h
theorem SB.more {B : Nat} {w0 w w' : World} (h : SB B w0 w) (c : Chg (fun i => B < i) w w') : SB B w0 w' := Chg.trans h c (fun _ _ h => h)
theorem laid_par {t u : Tb} {k : ByteArray} {n : Nat} (e : t.laid k n = some u) : u.per = t.per ∧ u.burst = t.burst ∧ u.fade = t.fade := by
  unfold Tb.laid at e
  cases hg : t.get k with
  | some y => rw [hg] at e; simp only [Option.some.injEq] at e; rw [← e]; exact ⟨rfl, rfl, rfl⟩
  | none =>
    rw [hg] at e
    simp only at e
    split at e
    · simp only [Option.some.injEq] at e
      subst e; exact ⟨rfl, rfl, rfl⟩
    · cases hb : best t n with
      | none => rw [hb] at e; cases e
      | some g => rw [hb] at e; simp only [Option.some.injEq] at e; subst e; exact ⟨rfl, rfl, rfl⟩
theorem ask_par (t : Tb) (k : ByteArray) (now : Int) (c : Nat) : (t.ask k now c).2.per = t.per ∧ (t.ask k now c).2.burst = t.burst ∧ (t.ask k now c).2.fade = t.fade := by
  unfold Tb.ask
  split
  · cases h : t.laid k now.toNat with
    | none => exact ⟨rfl, rfl, rfl⟩
    | some u => exact ⟨(laid_par h).1, (laid_par h).2.1, (laid_par h).2.2⟩
  · exact ⟨rfl, rfl, rfl⟩
theorem note_par (t : Tb) (k : ByteArray) (now : Int) (x : Nat) : (t.note k now x).2.per = t.per ∧ (t.note k now x).2.burst = t.burst ∧ (t.note k now x).2.fade = t.fade := by
  unfold Tb.note
  split
  · exact ⟨rfl, rfl, rfl⟩
  · split
    · exact ⟨rfl, rfl, rfl⟩
    · cases h : t.laid k now.toNat with
      | none => exact ⟨rfl, rfl, rfl⟩
      | some u => exact ⟨(laid_par h).1, (laid_par h).2.1, (laid_par h).2.2⟩
theorem pay_self {b : Nat} (hb : b < INF) : payable b b = true := by
  have := num_pos hb
  have := key_nat hb
  unfold payable
  simp [*]
theorem part_cost {p b : Nat} (hp : p < 2 ^ 64) (hb : b < INF) (h1 : (FloatKind.f64.format.order p 0 == some .gt || FloatKind.f64.format.order p 0 == some .eq) = true) (h2 : (FloatKind.f64.format.order p 4607182418800017408 == some .lt || FloatKind.f64.format.order p 4607182418800017408 == some .eq) = true) :
    ∃ q, floatBits .mul .f64 p b = some q ∧ q < 2 ^ 64 ∧ isN q = false ∧ isN b = false ∧ payable (fmn b q) b = true ∧ fmn b q < 2 ^ 64 := by
  have g1 := (ge_iff hp (show 0 < INF by decide)).1 h1
  have ho := one_of hp h1 h2
  have oi := one_inf
  have hl := rung_le 1074 (U (p % 2 ^ 63) * U b)
  have hn : isN (Ieee.double.word (sg p) (rung 1074 (U (p % 2 ^ 63) * U b))) = false := by
    rw [Bool.eq_false_iff]; intro g
    have := (isN_iff _).1 g
    rw [word_mod hl] at this
    omega
  have hk : 0 ≤ key (Ieee.double.word (sg p) (rung 1074 (U (p % 2 ^ 63) * U b))) := by
    rw [key_word hl]
    have k0 := g1.2
    rw [key_sg] at k0
    cases hs : sg p <;> rw [hs] at k0 <;> simp only [if_true, Bool.false_eq_true, if_false] at k0 ⊢
    · omega
    · have : p % 2 ^ 63 = 0 := by omega
      rw [this, U_zero, Nat.zero_mul, rung_zero]; decide
  have nb := num_pos hb
  have kb := key_nat hb
  have hls := fmn_lsr (lt64 hb) (word_lt (s := sg p) hl) nb hn
  refine ⟨_, by rw [mul_fin hp (lt64 hb) (by omega) (by rw [mod_pos hb]; exact hb), mod_pos hb, sg_pos hb, Bool.xor_false], word_lt hl, hn, nb, ?_, ?_⟩
  · unfold payable
    obtain ⟨e, l1, l2⟩ := hls
    rcases e with e | e <;> rw [e] at l1 ⊢
    · simp [nb, kb]
    · simp only [hn, Bool.not_false, Bool.true_and, Bool.and_eq_true, decide_eq_true_eq]
      exact ⟨hk, by rw [kb] at l1; exact l1⟩
  · rcases hls.1 with e | e <;> rw [e]
    · exact lt64 hb
    · exact word_lt hl
def WtRel (W0 : World) (B tb m per burst n most : Nat) (g : Nat) (lv xv iv : Value) (wr : World) : Prop :=
  ∃ (j L : Nat) (T : Tb), j + g = n ∧ iv = .int .i64 j ∧ lv = .int .i64 L ∧ L ≤ most ∧ OneX B B tb m T wr ∧ Old T L ∧ T.per = per ∧ T.burst = burst ∧ Chg (fun i => B < i) W0 wr
def lstOf (L : Nat) (now : Int) : Nat := if timely now = true then max L now.toNat else L
theorem lstOf_le {L : Nat} (h : L ≤ MAXT) (now : Int) : lstOf L now ≤ MAXT ∧ L ≤ lstOf L now ∧ (timely now = true → now ≤ lstOf L now) := by
  have hM : MAXT = 253402300799 := rfl
  unfold lstOf
  split
  · rename_i ht
    unfold timely at ht
    simp at ht
    exact ⟨by omega, by omega, fun _ => by omega⟩
  · rename_i ht
    exact ⟨h, Nat.le_refl _, fun e => absurd e ht⟩
set_option maxHeartbeats 4000000 in
set_option maxRecDepth 100000 in
theorem wt_walk (W : World) (per burst fade : Nat) (hp : F64 per) (hb : F64 burst) (hf : F64 fade) (many : Int) (sa : Option Addr) (sc : Nat) (ls : List Sv) (hs : Rd W (.slice sa ls.length sc) 5 (ls.flatMap svC)) (hso : ∀ s ∈ ls, SvOk s) (key : ByteArray) (hkey : key.size ≤ maxLen) (part : Nat) (hpart : part < 2 ^ 64) (hls : ls.length ≤ 1048576) :
    Calls Try.prog 3 #[paceV per burst fade, .int .i64 many, .slice sa ls.length sc, .string key, .float .f64 part] W fun r w' => r = .returned (.bool true) ∧ Chg (fun i => W.heap.size ≤ i) W w' := by
  have NEW := Lib.hid (fun w => rt_New w per burst fade hp hb hf)
  have RC := Lib.hid (fun w => rr_check per burst fade w)
  have HS := Lib.hid hs
  have HSO := Lib.hid hso
  have HPART := Lib.hid hpart
  unfold paceV at NEW ⊢
  clear hp hb hf hs hso hpart
  cases hq : checkB per burst fade
  · have hr : rateE false = 200 := rfl
    rw [hq] at NEW RC
    rw [hr] at RC
    clear hr hq
    go_enter Try.func3, Try.ntmps3
    go_wp2_with fail
    refine (NEW.out _).mono ?_
    rintro e w1 ⟨c1, rfl⟩
    have hp1 := c1.obj (heap_alloc_at W (.cells #[.float .f64 per, .float .f64 burst, .float .f64 fade] 24)) (fun h => h)
    have C1 := Lib.hid (((Chg.refl (fun _ => False) W).alloc (.cells #[.float .f64 per, .float .f64 burst, .float .f64 fade] 24)).trans c1 (fun _ _ h => h))
    have q0 := cell_of_blk hp1 0
    have q1 := cell_of_blk hp1 1
    have q2 := cell_of_blk hp1 2
    simp at q0 q1 q2
    clear c1 hp1
    go_wp2_with fail
    refine (RC.out _).mono ?_
    rintro e w3 ⟨rfl, c3⟩
    have C3 := Lib.hid (C1.out.trans c3 (fun _ _ h => h))
    clear c3 q0 q1 q2
    go_wp2_with fail
    refine (rt_wakes _).mono ?_
    rintro e w4 ⟨rfl, c4⟩
    have C4 := Lib.hid (C3.out.trans c4 (fun _ _ h => h))
    clear c4
    go_wp2
    go_ret
    exact ⟨rfl, C4.out.mono (fun _ _ h => h.elim)⟩
  · have hr : rateE true = 0 := rfl
    rw [hq] at NEW RC
    rw [hr] at RC
    clear hr hq
    obtain ⟨N, hN, hN1⟩ : ∃ N : Nat, wrap64 ((IntKind.u64.wrap many).tmod 1100) = (N : Int) ∧ N ≤ 1099 := by
      have e1 := u64_wrap_bounds many
      have e2 : (IntKind.u64.wrap many).tmod 1100 = IntKind.u64.wrap many % 1100 := Int.tmod_eq_emod_of_nonneg e1.1
      have e3 : wrap64 ((IntKind.u64.wrap many).tmod 1100) = (IntKind.u64.wrap many).tmod 1100 := wrap64_in' (by omega) (by omega)
      exact ⟨((IntKind.u64.wrap many) % 1100).toNat, by rw [e3, e2]; omega, by omega⟩
    have HN1 := Lib.hid hN1
    clear hN1
    obtain ⟨B, hB⟩ : ∃ B, B = W.heap.size := ⟨_, rfl⟩
    go_enter Try.func3, Try.ntmps3
    rw [← hB]
    go_wp2_with fail
    rw [← hB]
    refine (NEW.out _).mono ?_
    rintro e w1 ⟨c1, tb, m, F1, rfl, t1, hF1⟩
    have hp1 := c1.obj (heap_alloc_at W (.cells #[.float .f64 per, .float .f64 burst, .float .f64 fade] 24)) (fun h => h)
    rw [← hB] at hp1
    have C1 := Lib.hid (((Chg.refl (fun _ => False) W).alloc (.cells #[.float .f64 per, .float .f64 burst, .float .f64 fade] 24)).trans c1 (fun _ _ h => h))
    have P1 := Lib.hid hp1
    have T1 := Lib.hid (show OneX B B tb m (newT per burst fade) w1 from by
      have hlt : B < w1.heap.size := lt_of_block hp1
      have hz : (W.alloc (.cells #[.float .f64 per, .float .f64 burst, .float .f64 fade] 24)).heap.size = B + 1 := by simp [hB]
      exact ⟨hlt, hlt, _, F1, t1, fun i hi => by have := hF1 i hi; omega, fun hi => by have := hF1 B hi; omega⟩)
    have q0 := cell_of_blk hp1 0
    have q1 := cell_of_blk hp1 1
    have q2 := cell_of_blk hp1 2
    simp at q0 q1 q2
    have HB := Lib.hid hB
    clear c1 hp1 hF1 t1 hB
    go_wp2_with fail
    refine (RC.out _).mono ?_
    rintro e w3 ⟨rfl, c3⟩
    have C3 := Lib.hid (C1.out.trans c3 (fun _ _ h => h))
    have T3 := Lib.hid (T1.out.same c3)
    have P3 := Lib.hid (c3.obj P1.out (fun h => h))
    clear c3 q0 q1 q2 C1 P1 T1 NEW RC
    have T3E := Lib.hid (show (newT per burst fade).L = [] from rfl)
    have T3P := Lib.hid (show (newT per burst fade).per = per from rfl)
    have T3B := Lib.hid (show (newT per burst fade).burst = burst from rfl)
    generalize newT per burst fade = T0 at *
    go_wp2
    rw [hN]
    clear hN
    go_loopg [13, 14, 39] N (WtRel w3 B tb m per burst N 7)
    case atStart => exact ⟨0, 0, T0, by omega, rfl, rfl, Nat.zero_le _, T3.out, (fun e he => by rw [T3E.out] at he; cases he), T3P.out, T3B.out, Chg.refl _ _⟩
    case round =>
      obtain ⟨j, L, T, hj, rfl, rfl, hL, ht, ho, hTp, hTb, hc⟩ := hrel
      by_cases hg : gk = 0
      · have hlt : ¬ (j : Int) < (N : Int) := by omega
        have CW := Lib.hid ((C3.out.mono (T := fun i => B ≤ i) (fun _ _ h => h.elim)).trans hc (fun i hi h => by omega))
        have PW := Lib.hid (hc.obj P3.out (fun e => by omega))
        have TW := Lib.hid ht
        have HO := Lib.hid ho
        have HTP := Lib.hid (And.intro hTp hTb)
        have HL := Lib.hid hL
        clear ht ho hTp hTb hc hL T3 P3 C3 T3E T3P T3B
        obtain ⟨w4, hw4⟩ : ∃ w4, w4 = wr := ⟨_, rfl⟩
        rw [← hw4] at CW PW TW ⊢
        clear hw4 hg hj
        go_upto_region 14 with (fail)
        clear hlt
        go_loopg [13, 16, 51] (ls.length) (WtRel w4 B tb m per burst ls.length MAXT)
        case atStart => exact ⟨0, L, T, by omega, rfl, rfl, by have := HL.out; have hM : MAXT = 253402300799 := rfl; omega, TW.out, HO.out, HTP.out.1, HTP.out.2, Chg.refl _ _⟩
        case round =>
          obtain ⟨j2, L2, T2, hj2, rfl, rfl, hL2, ht2, ho2, hTp2, hTb2, hc2⟩ := hrel
          by_cases hg2 : gk = 0
          · have hlt : ¬ (j2 : Int) < (ls.length : Int) := by omega
            have C6 := Lib.hid (CW.out.trans hc2 (fun i hi e => by omega))
            have hpb := hc2.obj PW.out (fun e => by omega)
            have PB := Lib.hid hpb
            have T6 := Lib.hid ht2
            have hok := ht2.ok
            have hb2 := hok.burst
            have hp2 := hok.per
            obtain ⟨ρ, hq, hρ1, hρ2⟩ := quo_pace hok.burst hok.per hok.burst0 hok.per0
            have WAIT := Lib.hid (fun now h1 h2 => ho2.full hok (l := L2) (ρ := ρ) (now := now) hq h1 h2 key)
            rw [hTb2, hTp2] at hq
            have hmi : MOST < INF := by decide
            have hbi : burst < INF := by rw [hTb2] at hb2; omega
            have htr := trunc_pos hρ1 (by omega)
            obtain ⟨n0, hn0⟩ : ∃ n0 : Nat, n0 = U ρ / 2 ^ BB := ⟨_, rfl⟩
            rw [← hn0] at htr hρ2
            have hwt : waitOf ρ = n0 + 3 := by unfold waitOf; rw [hn0]
            have hcv : ∀ w, (convert 22 2 (.float .f64 ρ)).run Try.prog w = .ok (.int .i64 n0) w := fun w => run_convert_float_int w _ _ _ _ _ _ (by kernel_rfl) Try.underlying2 htr
            have hq1 := fres_some hq
            have hq2 := fdr_some hq
            have q0 := cell_of_blk hpb 0
            have q1 := cell_of_blk hpb 1
            simp at q0 q1
            have hn1 : (n0 : Int) ≤ 1099511627776 := by omega
            rw [hwt, hTb2] at WAIT
            have HBI := Lib.hid hbi
            have hLb : (L2 : Int) ≤ 253402300799 := by have hM : MAXT = 253402300799 := rfl; omega
            clear ht2 ho2 hTp2 hTb2 hc2 hok hb2 hp2 hq hρ1 hρ2 htr hn0 hwt hmi hbi hpb CW PW TW HO HTP HL hL2
            go_upto_region 23 with (fail)
            clear hcv hq1
            obtain ⟨w6, hw6⟩ : ∃ w6 : World, w6 = wr := ⟨_, rfl⟩
            try rw [hq2]
            by_cases hgt : 253402300799 - ((n0 : Int) + 3) < (L2 : Int)
            · clear hq2
              go_wp2_with fail
              refine (rt_wakes _).mono ?_
              rintro e w8 ⟨rfl, d8⟩
              have C7 := Lib.hid (C6.out.trans (⟨d8.os, d8.tape, d8.output, d8.size, d8.block⟩ : Chg (fun _ => False) wr w8) (fun _ _ h => h.elim))
              clear d8
              go_wp2
              go_ret
              exact ⟨rfl, C7.out⟩
            · have hle : L2 + (n0 + 3) ≤ MAXT := by have hM : MAXT = 253402300799 := rfl; omega
              have WT := Lib.hid (WAIT.out (L2 + (n0 + 3)) (by omega) hle)
              have hnow : (((L2 + (n0 + 3) : Nat)) : Int) = (L2 : Int) + ((n0 : Int) + 3) := by omega
              rw [hnow] at WT
              have hgt' : ¬ 253402300799 - ((n0 : Int) + 3) < (L2 : Int) := hgt
              clear hq2 hle WAIT hnow hw6
              go_upto_region 26 with (fail)
              obtain ⟨w7, hw7⟩ : ∃ w7 : World, w7 = wr.drewN 0 := ⟨_, rfl⟩
              have c7 : Chg (fun _ => False) wr w7 := by rw [hw7]; exact (Chg.refl _ _).drewN _
              have T7 := Lib.hid (T6.out.same c7)
              have PB7 := Lib.hid (c7.obj PB.out (fun h => h))
              have C7 := Lib.hid (C6.out.trans c7 (fun _ _ h => h.elim))
              rw [← hw7]
              clear c7 hw7 T6 PB C6 hgt hgt' q0 q1
              go_cut [106] (fun a wx => ∃ b : Bool, a = .bool b ∧ wx = w7 ∧ (b = true → (FloatKind.f64.format.order part 0 == some .gt || FloatKind.f64.format.order part 0 == some .eq) = true ∧ (FloatKind.f64.format.order part 4607182418800017408 == some .lt || FloatKind.f64.format.order part 4607182418800017408 == some .eq) = true))
              case first =>
                cases g1 : (FloatKind.f64.format.order part 0 == some .gt || FloatKind.f64.format.order part 0 == some .eq)
                · go_wp2
                  go_meet
                  exact ⟨false, rfl, rfl, fun h => by cases h⟩
                · cases g2 : (FloatKind.f64.format.order part 4607182418800017408 == some .lt || FloatKind.f64.format.order part 4607182418800017408 == some .eq)
                  · go_wp2
                    go_meet
                    exact ⟨false, rfl, rfl, fun h => by cases h⟩
                  · go_wp2
                    go_meet
                    exact ⟨true, rfl, rfl, fun _ => ⟨by first | rfl | exact g1, by first | rfl | exact g2⟩⟩
              case rest =>
                obtain ⟨b, rfl, h9, hg⟩ := hcut
                have h9 := h9.symm; subst h9
                have HG := Lib.hid hg
                clear hg
                go_upto_if 106 with (fail)
                go_cut [18] (fun a wx => ∃ c, a = .float .f64 c ∧ c < 2 ^ 64 ∧ payable c burst = true ∧ Chg (fun _ => False) w7 wx)
                case first =>
                  cases b
                  · go_wp2
                    go_meet
                    exact ⟨burst, rfl, lt64 HBI.out, pay_self HBI.out, Chg.refl _ _⟩
                  · obtain ⟨p, e1, e2, e3, e4, e5, e6⟩ := part_cost HPART.out HBI.out (HG.out rfl).1 (HG.out rfl).2
                    have r1 := fres_some e1
                    have r2 := fdr_some e1
                    have hmin : ∀ (z : World) (ts : Array TypeId) (ty : TypeId), (Builtin.min_ ts ty #[.float .f64 burst, .float .f64 p]).run Try.prog z = .ok (.float .f64 (fmn burst p)) z := fun z ts ty => run_fmin z ts ty _ _ (lt64 HBI.out) e2 e4 e3
                    have q1 := cell_of_blk PB7.out 1
                    simp at q1
                    have PAY := Lib.hid (And.intro e5 e6)
                    clear e1 e2 e3 e4 e5 e6
                    go_wp2
                    go_meet
                    exact ⟨_, rfl, PAY.out.2, PAY.out.1, by first | exact Chg.refl _ _ | exact (Chg.refl _ _).drewN _⟩
                case rest =>
                  obtain ⟨c, rfl, hc1, hc2, c8⟩ := hcut
                  have T8 := Lib.hid (T7.out.same c8)
                  have PB8 := Lib.hid (c8.obj PB7.out (fun h => h))
                  have C8 := Lib.hid (C7.out.trans c8 (fun _ _ h => h.elim))
                  have ASK1 := Lib.hid (WT.out.2 c hc2)
                  have LEV := Lib.hid WT.out.1
                  have HC1 := Lib.hid hc1
                  have hnb := num_pos HBI.out
                  have EQ := fcmp_eq_same _ hnb
                  have q1 : ∀ w', SB B wc w' → w'.cell? ⟨B, 1, none⟩ = some (.float .f64 burst) := fun w' h => by
                    have := cell_of_blk (Chg.obj h PB8.out (fun h => by omega)) 1
                    simpa using this
                  have s0 := SB.refl B wc
                  clear c8 hc1 hc2 T7 PB7 C7 WT hnb
                  go_upto_region 28 with (fail)
                  have hww : IntKind.i64.wrap ((L2 : Int) + ((n0 : Int) + 3)) = (L2 : Int) + ((n0 : Int) + 3) := IntWalk.i64_in _ (by omega)
                  go_region_held3 (fun w' => SB B wc w') (first | assumption | exact SB.drew (by assumption)) (first
                    | (go_at_call 19
                       refine (one_level (X := B) (B := B) (T := T2) (m := m) (by first | exact T8.out | exact T8.out.same (Chg.drewN (Chg.refl _ _) _) | exact T8.out.same (Chg.drew (Chg.refl _ _))) key hkey _).mono ?_
                       rintro e x1 ⟨rfl, d1'⟩
                       have d1 : Chg (fun _ => False) wc x1 := ⟨d1'.os, d1'.tape, d1'.output, d1'.size, d1'.block⟩
                       rw [LEV.out]
                       have sx1 : SB B wc x1 := SB.more (SB.refl B wc) (d1.mono (fun _ _ h => h.elim))
                       have t9 := Lib.hid (T8.out.same d1)
                       clear d1 d1')
                    | (go_at_call 16
                       refine (one_ask (X := B) (B := B) (T := T2) (m := m) (by first | exact t9.out | exact t9.out.same (Chg.drewN (Chg.refl _ _) _) | exact t9.out.same (Chg.drew (Chg.refl _ _))) key hkey _ c HC1.out).mono ?_
                       rintro e x2 ⟨rfl, t10, d2'⟩
                       have d2 : Chg (fun i => B < i) x1 x2 := Chg.mono (S := fun i => B < i ∧ i ≠ B) ⟨d2'.os, d2'.tape, d2'.output, d2'.size, d2'.block⟩ (fun _ _ h => h.1)
                       rw [ASK1.out]
                       have sx2 : SB B wc x2 := SB.more sx1 d2
                       clear d2 d2' t10)
                    | (go_at_call 15
                       refine (rt_wakes _).mono ?_
                       rintro e x3 ⟨rfl, d3'⟩
                       have sx3 : SB B wc x3 := SB.more sx2 (show Chg (fun i => B < i) x2 x3 from Chg.mono (S := fun _ => False) ⟨d3'.os, d3'.tape, d3'.output, d3'.size, d3'.block⟩ (fun _ _ h => h.elim))
                       clear d3'))
                  have C9 := Lib.hid (C8.out.trans sx3 (fun i hi h => by have := HB.out; omega))
                  all_goals
                    go_wp2
                    go_ret
                    exact ⟨rfl, C9.out⟩
          · have hlt : (j2 : Int) < (ls.length : Int) := by omega
            have hjl : j2 < ls.length := by omega
            have hcw := CW.out.trans hc2 (fun i hi e => by omega)
            have hrd := HS.out.kept hcw (fun hne b hb => by have := HS.out.lt hne b hb; have := HB.out; omega)
            obtain ⟨bl, o, rfl, v0, v1, v2, v3, v4⟩ := hrd.step j2 hjl
            have hok := HSO.out _ (List.getElem_mem hjl)
            generalize ls[j2] = s at *
            obtain ⟨kind, who, skey, now, x⟩ := s
            simp only at v0 v1 v2 v3 v4
            have HOK := Lib.hid hok
            have HT2 := Lib.hid ht2
            have HO2 := Lib.hid ho2
            have HTP2 := Lib.hid (And.intro hTp2 hTb2)
            have HC2 := Lib.hid hc2
            have HL2 := Lib.hid hL2
            have hLb : (L2 : Int) ≤ 253402300799 := by have hM : MAXT = 253402300799 := rfl; omega
            clear hrd hok ht2 ho2 hTp2 hTb2 hc2 hL2 hcw
            go_upto_region 16 with (fail)
            obtain ⟨w5, hw5⟩ : ∃ w5, w5 = wr.alloc (.cells #[.int .i64 kind, .int .i64 who, .string skey, .int .i64 now, .float .f64 x] 36) := ⟨_, rfl⟩
            obtain ⟨X, hX⟩ : ∃ X, X = wr.heap.size := ⟨_, rfl⟩
            rw [← hw5, ← hX]
            have T5 := Lib.hid (show OneX B X tb m T2 w5 by rw [hw5, hX]; exact HT2.out.put _)
            have k5 : w5.heap[X]? = some (.cells #[.int .i64 kind, .int .i64 who, .string skey, .int .i64 now, .float .f64 x] 36 (0, 0)) := by rw [hw5, hX]; exact heap_alloc_at _ _
            have C5 := Lib.hid (show Chg (fun i => B < i) w4 w5 by rw [hw5]; exact HC2.out.alloc _)
            obtain ⟨s0, s1, s2, s3, s4, sf⟩ := cells5' k5
            have l5 := lt_of_block k5
            clear hw5 hX k5 HT2 HC2 v0 v1 v2 v3 v4
            go_cut [62] (fun a wx => a = .bool (timely now) ∧ wx = w5)
            case first =>
              by_cases h1 : 0 ≤ now
              · have HE := Lib.hid (show timely now = decide (now ≤ 253402300799) by simp [timely, h1])
                go_wp2
                go_meet
                exact ⟨by rw [HE.out], rfl⟩
              · have h1' : now < 0 := by omega
                have HE := Lib.hid (show timely now = false by simp [timely, h1])
                go_wp2
                go_meet
                exact ⟨by rw [HE.out], rfl⟩
            case rest =>
              obtain ⟨rfl, h9⟩ := hcut
              have h9 := h9.symm; subst h9
              have hlst := lstOf_le HL2.out now
              have HLE := Lib.hid hlst
              have HLV := Lib.hid (show lstOf L2 now = if timely now = true then max L2 now.toNat else L2 from rfl)
              generalize lstOf L2 now = L3 at *
              clear hlst
              go_upto_if 62 with (fail)
              go_cut [13] (fun a wx => a = .int .i64 L3 ∧ wx = w5)
              case first =>
                cases htm : timely now
                · have HE := Lib.hid (show L3 = L2 by have := HLV.out; rw [htm, if_neg (by decide)] at this; exact this)
                  go_wp2
                  go_meet
                  exact ⟨by rw [HE.out], rfl⟩
                · have hmx : max (L2 : Int) now = (L3 : Int) := by
                    have := HLV.out
                    rw [htm, if_pos rfl] at this
                    have h2 := (timely_yes htm)
                    obtain ⟨n9, rfl, _⟩ := h2
                    rw [this]; simp; omega
                  go_wp2
                  go_meet
                  exact ⟨rfl, rfl⟩
              case rest =>
                obtain ⟨rfl, h9⟩ := hcut
                have h9 := h9.symm; subst h9
                have tle : timely now = true → now ≤ L3 := fun h => by have := (HLE.out.2.2 h); omega
                have TLE := Lib.hid tle
                clear tle HLV hLb
                by_cases h2 : kind = 2
                · subst h2
                  have NT := Lib.hid (one_note T5.out skey HOK.out.key now x HOK.out.x)
                  go_wp2_with fail
                  refine NT.out.mono ?_
                  rintro e w6 ⟨rfl, t6, c6⟩
                  have R := Lib.hid (show WtRel w4 B tb m per burst ls.length MAXT (gk - 1) (.int .i64 L3) (.pointer (some ⟨X, 0, none⟩)) (.int .i64 ((j2 : Int) + 1)) w6 from ⟨j2 + 1, L3, _, by omega, by norm_cast, rfl, HLE.out.1, t6.back, (HO2.out.mono HLE.out.2.1).note TLE.out, by rw [(note_par _ _ _ _).1]; exact HTP2.out.1, by rw [(note_par _ _ _ _).2.1]; exact HTP2.out.2, C5.out.trans c6 (fun _ _ h => h.1)⟩)
                  clear t6 c6 NT
                  go_wp2
                  go_roundg (gk - 1)
                  case measure => omega
                  case rel => exact R.out
                · have h2' : (kind == 2) = false := by simpa using h2
                  have NT := Lib.hid (one_ask T5.out skey HOK.out.key now x HOK.out.x)
                  clear h2
                  go_wp2_with fail
                  refine NT.out.mono ?_
                  rintro e w6 ⟨rfl, t6, c6⟩
                  have R := Lib.hid (show WtRel w4 B tb m per burst ls.length MAXT (gk - 1) (.int .i64 L3) (.pointer (some ⟨X, 0, none⟩)) (.int .i64 ((j2 : Int) + 1)) w6 from ⟨j2 + 1, L3, _, by omega, by norm_cast, rfl, HLE.out.1, t6.back, (HO2.out.mono HLE.out.2.1).ask TLE.out, by rw [(ask_par _ _ _ _).1]; exact HTP2.out.1, by rw [(ask_par _ _ _ _).2.1]; exact HTP2.out.2, C5.out.trans c6 (fun _ _ h => h.1)⟩)
                  clear t6 c6 NT
                  go_wp2
                  go_roundg (gk - 1)
                  case measure => omega
                  case rel => exact R.out
      · have hlt : (j : Int) < (N : Int) := by omega
        have hjb : (j : Int) ≤ 1099 := by have := HN1.out; omega
        have hpb := hc.obj P3.out (fun e => by omega)
        have PB := Lib.hid hpb
        have q1 := cell_of_blk hpb 1
        simp at q1
        have NM := Lib.hid (fun w => nm_calls j (by omega) w)
        have HT := Lib.hid ht
        have hbu : burst < 2 ^ 64 := by
          have := ht.ok.burst
          rw [hTb] at this
          have h2 : MOST < 2 ^ 64 := by decide
          omega
        have HBU := Lib.hid hbu
        have HO := Lib.hid ho
        have HTP := Lib.hid (And.intro hTp hTb)
        have HC := Lib.hid hc
        have HL := Lib.hid hL
        clear ht ho hTp hTb hc hpb hbu hL
        go_upto_region 10 with (fail)
        go_region_with (first
          | (go_at_call 17
             refine (NM.out _).mono ?_
             rintro e w5 ⟨rfl, c5'⟩
             have c5 : Chg (fun _ => False) wr w5 := ⟨c5'.os, c5'.tape, c5'.output, c5'.size, c5'.block⟩
             clear c5'
             have q5 := cell_of_blk (Chg.obj c5 PB.out (fun h => h)) 1
             simp at q5
             have t5 := Lib.hid (HT.out.same c5)
             have C5 := Lib.hid c5
             clear c5)
          | (go_at_call 16
             refine (one_ask t5.out (nm j) (nm_size j) 7 burst HBU.out).mono ?_
             rintro e w6 ⟨rfl, t6, c6⟩
             have R := Lib.hid (show WtRel w3 B tb m per burst N 7 (gk - 1) (.int .i64 7) (.int .i64 j) (.int .i64 ((j : Int) + 1)) w6 from ⟨j + 1, 7, _, by omega, by norm_cast, rfl, by omega, t6, (HO.out.mono (show L ≤ max L 7 by omega)).ask (fun _ => by omega) |>.mono (by have := HL.out; omega), by rw [(ask_par _ _ _ _).1]; exact HTP.out.1, by rw [(ask_par _ _ _ _).2.1]; exact HTP.out.2, (HC.out.trans (C5.out.mono (T := fun i => B < i) (fun _ _ h => h.elim)) (fun _ _ h => h)).trans c6 (fun _ _ h => h.1)⟩)
             clear t6 c6))
        all_goals
          go_wp2
          go_roundg (gk - 1)
          case measure => omega
          case rel => exact R.out
set_option maxRecDepth 100000 in
theorem walk_RateWaits {H : Type} {enc : TypeId × Value → H} (W : World) (v0 v1 v2 v3 v4 : Value) (d0 d1 d2 d3 d4 : DataW H) (p0 p1 p2 p3 p4 : List MemPlace)
    (ok0 : ∃ base, Value.okWide Try.prog W .any base 24 v0) (ok1 : ∃ base, Value.okWide Try.prog W .any base 3 v1) (ok2 : ∃ base, Value.okWide Try.prog W .any base 25 v2) (ok3 : ∃ base, Value.okWide Try.prog W .any base 9 v3) (ok4 : ∃ base, Value.okWide Try.prog W .any base 22 v4)
    (h0 : DataW.Trod enc Try.prog W 0 (fun _ => true) true 24 v0 d0 p0) (h1 : DataW.Trod enc Try.prog W 0 (fun _ => true) true 3 v1 d1 p1) (h2 : DataW.Trod enc Try.prog W 0 (fun _ => true) true 25 v2 d2 p2) (h3 : DataW.Trod enc Try.prog W 0 (fun _ => true) true 9 v3 d3 p3) (h4 : DataW.Trod enc Try.prog W 0 (fun _ => true) true 22 v4 d4 p4)
    (hk : Rows.uptoBulkAll [d0, d1, d2, d3, d4] ≤ 1048576) :
    Calls Try.prog 3 #[v0, v1, v2, v3, v4] W fun r w' => r = .returned (.bool true) ∧ Below W.heap.size W w' := by
  obtain ⟨a, b, c, rfl, ha, hb, hc⟩ := arg_pace ok0 h0
  obtain ⟨n, rfl, hn⟩ := arg_i64 Try.underlying3 ok1 h1
  obtain ⟨sa, sc, ls, rfl, hs, hso, hls⟩ := arg_steps ok2 h2
  obtain ⟨key, rfl, hkey⟩ : ∃ s : ByteArray, v3 = .string s ∧ s.size ≤ maxLen := by
    obtain ⟨_, ok⟩ := ok3
    obtain ⟨s, e, _, _, hs⟩ := Go.ChangeMaps.open_string Try.underlying9 ok h3
    exact ⟨s, e, hs⟩
  obtain ⟨x, rfl, hx⟩ := arg_f64 Try.underlying22 ok4 h4
  simp only [Rows.uptoBulkAll] at hk
  refine (wt_walk W a b c ha hb hc n sa sc ls hs hso key hkey x hx (by omega)).mono ?_
  rintro r w' ⟨rfl, cc⟩
  exact ⟨rfl, cc.below (Nat.le_refl _) (fun k hk h => by first | exact h | omega)⟩
end Go.Proofs.Ytplkoephgmdgkaa
