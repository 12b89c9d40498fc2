/- The law FramerWaits, walked. -/
import Derived.Test.YtnjloldhmjadoaaFrT1
import Derived.Deep.DeepCutAuto
import Derived.BigQuiet
namespace Go.Proofs.Ytnjloldhmjadoaa
set_option linter.unusedVariables false
open Go Go.RowKit Ln Dt Fr

def WL : Lim := ⟨1024, 9, 9⟩
structure WtRel (W : World) (k p q : Nat) (mm : FM) (g : Nat) (iv : Value) (wr : World) : Prop where
  is : ∃ (i : Nat) (X : Nat → Prop), i + g = 2 ∧ iv = .int .i64 i ∧ FTwo wr X p q WL (if 0 < i then mm else FM.new) (if 1 < i then mm else FM.new) ∧ wr.heap[k]? = some (.cells #[.pointer (some ⟨p, 0, none⟩), .pointer (some ⟨q, 0, none⟩)] 29 (0, 0)) ∧ X k ∧ (∀ b, b < W.heap.size → X b) ∧ Chg (fun b => W.heap.size ≤ b) W wr

set_option maxHeartbeats 2000000 in
set_option maxRecDepth 100000 in
theorem waits_walk (W : World) (s : List UInt8) (mode n room : Int) (ao : Option Addr) (cap : Nat) (l : List UInt8) (hl : Rd W (.slice ao l.length cap) 1 (bvs l)) (hn : n ≤ 9223372036854775807) (hr : room ≤ 9223372036854775807) (hs : s.length + l.length ≤ 1048576) :
    Calls Try.prog 8 #[.agg #[.string ⟨s.toArray⟩, .int .i64 mode, .int .i64 n, .int .i64 room, .slice ao l.length cap]] W fun e w' => e = .returned (.bool true) ∧ Below W.heap.size W w' := by
  obtain ⟨i0, hi0, hx0, hz0, hb0⟩ := info_parts Try.infoByte
  have HL := Lib.hid hl
  clear hl
  go_enter Try.func8, Try.ntmps8
  go_wp2_with fail
  refine (head_calls _).mono ?_
  rintro e w1 ⟨rfl, c1⟩
  have hch1 := ((Chg.refl (fun _ => False) W).alloc _).trans c1 (fun _ _ h => h)
  have bx := c1.obj (heap_alloc_at _ _) (fun h => h)
  obtain ⟨y0, y1, y2, y3, y4, yf⟩ := cells5 bx
  have hl1 := lt_of_block bx
  have C1 := Lib.hid hch1
  clear hch1 bx c1 yf
  go_upto_region 3 with (fail)
  go_cut [3, 4, 5, 6, 7] (fun a b c d e wx => a = .string ⟨s.toArray⟩ ∧ b = .int .i64 mode ∧ c = .int .i64 n ∧ d = .int .i64 room ∧ e = .slice ao l.length cap ∧ Chg (fun _ => False) W wx)
  case first =>
    go_region
    all_goals
      go_wp2
      go_meet
      exact ⟨rfl, rfl, rfl, rfl, rfl, by first | exact C1.out | exact C1.out.drew | exact C1.out.drewN _⟩
  case rest =>
    obtain ⟨rfl, rfl, rfl, rfl, rfl, c2⟩ := hcut
    have C2 := Lib.hid c2
    clear c2 C1
    have hlt : ¬ (1048576 : Int) < l.length := by omega
    clear y0 y1 y2 y3 y4
    go_wp2_with fail
    refine (fr_New 1024 9 9 1 1 1 _).mono ?_
    rintro e w2 h
    rcases h with ⟨_, p, F1, rfl, a1, a2, a3, a4⟩ | ⟨h, _⟩
    case inr => exact absurd h (by decide)
    have bl := a4.obj (heap_alloc_at _ _) (fun h => h)
    have z0 := cell_of_blk bl 0
    have z1 := cell_of_blk bl 1
    have z2 := cell_of_blk bl 2
    have z3 := cell_of_blk bl 3
    have z4 := cell_of_blk bl 4
    have z5 := cell_of_blk bl 5
    have hl2 := lt_of_block bl
    have A1 := Lib.hid (And.intro a1 (And.intro a2 (And.intro a3 a4)))
    clear a1 a2 a3 a4 bl
    simp at z0 z1 z2 z3 z4 z5
    go_wp2_with fail
    refine (fr_New 1024 9 9 1 1 1 _).mono ?_
    rintro e w3 h
    rcases h with ⟨_, q, F2, rfl, a1, a2, a3, a4⟩ | ⟨h, _⟩
    case inr => exact absurd h (by decide)
    have hpq : FTwo w3 (fun b => b < wc.heap.size + 1) p q WL FM.new FM.new ∧ Chg (fun b => W.heap.size ≤ b) W w3 := by
      obtain ⟨b1, b2, b3, b4⟩ := A1.out
      have s0 := b4.size
      have s1 := a4.size
      simp only [World.size_alloc] at s0 b3
      refine ⟨⟨⟨F1, F2, b1.kept a4 (fun _ _ h => h), a1, b2.of a4, a2, ?_, ?_, ?_⟩, ?_⟩, ?_⟩
      · intro k x y; have := b2 k x; have := a3 k y; omega
      · intro k x y; have := b3 k x; omega
      · intro k x y; have := a3 k x; omega
      · intro k x; omega
      · exact ((((C2.out.alloc _).trans b4 (fun _ _ h => h)).trans a4 (fun _ _ h => h))).mono (fun _ _ h => h.elim)
    have HPQ := Lib.hid hpq
    have hsz3 : W.heap.size ≤ wc.heap.size := C2.out.size
    clear hpq a1 a2 a3 a4 A1 z0 z1 z2 z3 z4 z5 hl2 C2
    go_wp2_with fail
    refine (plain_calls w3 s 512 (by omega) (by omega)).mono ?_
    rintro e w4 ⟨rfl, c4⟩
    have hadd : ∀ w, (Op.stringOp .add ⟨(plainL s 512).toArray⟩ ⟨#[120]⟩).run Try.prog w = .ok (.string ⟨(begP s).toArray⟩) w := fun w =>
      run_string_add_lists w (plainL s 512) [120] (by unfold plainL; simp; omega) (by simp)
    have two4 := HPQ.out.1.kept (c4.mono (fun _ _ h => h.elim))
    have cc4 := HPQ.out.2.trans c4 (fun _ _ h => h.elim)
    have HT4 := Lib.hid (And.intro two4 cc4)
    clear two4 cc4 c4 HPQ
    go_wp2_with fail
    clear hadd
    obtain ⟨mm, hmm⟩ : ∃ mm, mm = begM mode s := ⟨_, rfl⟩
    have hbusy := begM_busy mode s
    rw [← hmm] at hbusy
    have HMM := Lib.hid hmm
    have HB := Lib.hid hbusy
    have hs4 := HT4.out.2.size
    have hw3 := HT4.out.1.ins
    have hbeg := begP_len s
    clear hmm hbusy
    go_loopg [62] 2 (WtRel W w4.heap.size p q mm)
    case atStart =>
      have ho := HT4.out.1.more (((Chg.refl (fun b => b < wc.heap.size + 1) w4).alloc (.cells #[.pointer (some ⟨p, 0, none⟩), .pointer (some ⟨q, 0, none⟩)] 29))) (Y := fun b => b = w4.heap.size) (fun k e => by subst e; simp)
      exact ⟨⟨0, fun b => b < wc.heap.size + 1 ∨ b = w4.heap.size, rfl, rfl, ho, heap_alloc_at _ _, Or.inr rfl, fun b hb => Or.inl (by omega), HT4.out.2.alloc _⟩⟩
    case round =>
      obtain ⟨⟨i, X, hi, rfl, ht, hk, hX, hXW, hC⟩⟩ := hrel
      have hkl := lt_of_block hk
      by_cases hg : gk = 0
      · obtain rfl : i = 2 := by omega
        rw [if_pos (by omega), if_pos (by omega)] at ht
        have HT := Lib.hid ht
        have HC := Lib.hid hC
        have HXW := Lib.hid hXW
        clear ht hk hC hXW HT4 hs4 hw3
        obtain ⟨wt, hwt⟩ : ∃ wt : Int, wt = if n < 0 ∨ room < 0 then 2 else 6 := ⟨_, rfl⟩
        have HCK : Hid (mm.chunk? n room = (wt, mm)) := Lib.hid (by rw [hwt]; exact HB.out.2.1 n room)
        have HWT := Lib.hid hwt
        clear hwt
        go_upto_region 25 with (fail)
        go_cut [87] (fun a wx => a = .bool (decide (n < 0 ∨ room < 0)) ∧ wx = wr)
        case first =>
          by_cases hn0 : n < 0
          · have hd : decide (n < 0 ∨ room < 0) = true := by simp [hn0]
            have HD := Lib.hid hd
            clear hd
            go_wp2
            go_meet
            exact ⟨by rw [HD.out], rfl⟩
          · by_cases hr0 : room < 0
            · have hd : decide (n < 0 ∨ room < 0) = true := by simp [hr0]
              have HD := Lib.hid hd
              clear hd
              go_wp2
              go_meet
              exact ⟨by rw [HD.out], rfl⟩
            · have hd : decide (n < 0 ∨ room < 0) = false := by simp; omega
              have HD := Lib.hid hd
              clear hd
              go_wp2
              go_meet
              exact ⟨by rw [HD.out], rfl⟩
        case rest =>
        obtain ⟨rfl, rfl⟩ := hcut
        obtain ⟨nb, hnb⟩ : ∃ nb, nb = decide (n < 0 ∨ room < 0) := ⟨_, rfl⟩
        rw [← hnb]
        have hwt2 : wt = if nb = true then 2 else 6 := by rw [HWT.out, hnb]; simp
        go_upto_if 87 with (fail)
        go_cut [16] (fun a wx => a = .int .i64 wt ∧ wx = wc)
        case first =>
          have HW2 := Lib.hid hwt2
          clear hwt2 hnb
          cases nb
          · go_wp2
            go_meet
            exact ⟨by rw [HW2.out]; rfl, rfl⟩
          · go_wp2
            go_meet
            exact ⟨by rw [HW2.out]; rfl, rfl⟩
        case rest =>
          obtain ⟨rfl, rfl⟩ := hcut
          clear HWT hwt2 hnb
          go_wp2_with fail
          have td := two_data HT.out
          rw [HB.out.1] at td
          refine td.mono ?_
          clear td
          rintro e w5 ⟨rfl, t5, c5⟩
          have T5 := Lib.hid t5
          have C5 := Lib.hid (HC.out.trans c5 (T := fun k => ¬ X k) (fun b hb e => by
            by_cases hbW : b < W.heap.size
            · exact absurd (HXW.out b hbW) e
            · show W.heap.size ≤ b; omega))
          clear t5 c5
          go_wp2_with fail
          have td := two_chunk T5.out n room hn hr
          rw [HCK.out] at td
          refine td.mono ?_
          clear td
          rintro e w6 ⟨rfl, t6, c6⟩
          have T6 := Lib.hid t6
          have C6 := Lib.hid (C5.out.trans c6 (T := fun k => ¬ X k) (fun b hb e => by
            by_cases hbW : b < W.heap.size
            · exact absurd (HXW.out b hbW) e
            · show W.heap.size ≤ b; omega))
          clear t6 c6 T5 C5
          go_wp2_with fail
          refine (two_mode T6.out).mono ?_
          rintro e w5 ⟨rfl, rfl⟩
          go_wp2_with fail
          refine (two_mode T6.out.swap).mono ?_
          rintro e w5 ⟨rfl, rfl⟩
          go_wp2_with fail
          refine (two_held T6.out).mono ?_
          rintro e w5 ⟨rfl, rfl⟩
          go_wp2_with fail
          refine (two_held T6.out.swap).mono ?_
          rintro e w5 ⟨rfl, rfl⟩
          obtain ⟨⟨nt, it, m2⟩, hq⟩ : ∃ x, x = FM.take WL mm l := ⟨_, rfl⟩
          have HQ := Lib.hid hq
          have hms := HB.out.2.2
          clear hq
          go_wp2_with (at_builtin; refine wpList_append_arr _ rfl _ _ 24 24 rfl 5 i0 (.int .u8 0) 1 1 Try.underlying24 hi0 hx0 hz0 hb0 rfl (by decide) _ [] rfl (arr_empty_new _ _ rfl _ 1) (.slice ao l.length cap) rfl l.length (bvs l) ?c1 ?c2 ?c3 ?c4)
          case c1 => exact ((HL.out.kept C6.out (fun hx b hb e => by have := HL.out.lt hx b hb; omega)).kept ((Chg.refl (fun _ => False) w6).alloc _) (fun _ _ _ h => h)).src (bvs_one _) Try.underlying24
          case c2 => simp; unfold maxLen; omega
          case c3 => simp; omega
          case c4 =>
          intro v2 w7 ha hc ho
          have c67 : Chg X w6 w7 := ((Chg.refl X w6).alloc _).trans hc (fun i hi e => by simp [Value.ownBlock] at e; omega)
          have t7 := T6.out.more c67 (Y := fun k => w6.heap.size ≤ k ∧ k < w7.heap.size) (fun k hk => hk)
          have hv2 : ∀ k, v2.ownBlock = some k → w6.heap.size ≤ k ∧ k < w7.heap.size := fun k hk => ⟨by
            rcases ho with e | e
            · rw [e] at hk; simp [Value.ownBlock] at hk; omega
            · rw [e] at hk; simp at hk; omega, ha.lt k hk⟩
          have C7 := Lib.hid ((C6.out.alloc (.cells #[] 5)).trans hc (fun i hi e => by simp [Value.ownBlock] at e; have := C6.out.size; show W.heap.size ≤ i; omega))
          have hsz67 := c67.size
          have T7 := Lib.hid t7
          have HA := Lib.hid ha
          have HV2 := Lib.hid hv2
          clear ha hc ho c67 t7 hv2 C6 T6
          go_wp2_with fail
          have tk := two_take T7.out v2 l HA.out.rd (fun k hk => Or.inr (HV2.out k hk)) (by omega)
          rw [← HQ.out] at tk
          refine tk.mono ?_
          clear tk
          rintro e w8 ⟨va, rfl, t8, a8, n8, c8⟩
          have hsz78 := c8.size
          have T8 := Lib.hid t8
          have A8 := Lib.hid a8
          have C8 := Lib.hid (C7.out.trans c8 (T := fun k => ¬ (X k ∨ w6.heap.size ≤ k ∧ k < w7.heap.size)) (fun b hb e => by
            by_cases hbW : b < W.heap.size
            · exact absurd (Or.inl (HXW.out b hbW)) e
            · show W.heap.size ≤ b; omega))
          have hla := a8.lt
          have HLA := Lib.hid hla
          obtain ⟨a1, a2, a3, rfl, _⟩ := a8.shape
          clear t8 a8 n8 c8 hla C7 HA HV2 T7
          unfold itV
          go_wp2_with (at_builtin; refine wpList_append_arr _ rfl _ _ 24 24 rfl 5 i0 (.int .u8 0) 1 1 Try.underlying24 hi0 hx0 hz0 hb0 rfl (by decide) _ [] rfl (arr_empty_new _ _ (by simp) _ 1) (.slice ao l.length cap) rfl l.length (bvs l) ?d1 ?d2 ?d3 ?d4)
          case d1 => exact (((HL.out.kept C8.out (fun hx b hb e => by have := HL.out.lt hx b hb; omega)).kept ((Chg.refl (fun _ => False) w8).alloc _) (fun _ _ _ h => h)).kept ((Chg.refl (fun _ => False) _).alloc _) (fun _ _ _ h => h)).src (bvs_one _) Try.underlying24
          case d2 => simp; unfold maxLen; omega
          case d3 => simp; omega
          case d4 =>
          intro v3 w9 ha hc ho
          obtain ⟨X8, hX8⟩ : ∃ X8 : Nat → Prop, X8 = fun k => (X k ∨ w6.heap.size ≤ k ∧ k < w7.heap.size) ∨ some k = (Value.slice a1 a2 a3).ownBlock := ⟨_, rfl⟩
          rw [← hX8] at T8
          have c89 : Chg X8 w8 w9 := (((Chg.refl X8 w8).alloc _).alloc _).trans hc (fun i hi e => by simp [Value.ownBlock] at e; omega)
          have t9 := T8.out.more c89 (Y := fun k => w8.heap.size ≤ k ∧ k < w9.heap.size) (fun k hk => hk)
          have hv3 : ∀ k, v3.ownBlock = some k → w8.heap.size ≤ k ∧ k < w9.heap.size := fun k hk => ⟨by
            rcases ho with e | e
            · rw [e] at hk; simp [Value.ownBlock] at hk; omega
            · rw [e] at hk; simp at hk; omega, ha.lt k hk⟩
          have b9 : w9.heap[w8.heap.size]? = _ := hc.obj (heap_alloc_lt _ _ (heap_alloc_at w8 _)) (fun e => by simp [Value.ownBlock] at e)
          have A9 := Lib.hid (((A8.out.kept ((Chg.refl (fun _ => False) w8).alloc _) (fun _ _ h => h)).kept ((Chg.refl (fun _ => False) _).alloc _) (fun _ _ h => h)).kept hc (fun b hb e => by have := HLA.out b hb; simp [Value.ownBlock] at e; omega))
          have C9 := Lib.hid (((C8.out.alloc _).alloc _).trans hc (fun i hi e => by simp [Value.ownBlock] at e; have := C8.out.size; show W.heap.size ≤ i; omega))
          have hsz89 := c89.size
          have T9 := Lib.hid t9
          have HA := Lib.hid ha
          have HV3 := Lib.hid hv3
          have B9 := Lib.hid b9
          have hl9 := lt_of_block b9
          clear ha hc ho c89 t9 hv3 b9 C8 T8 A8
          go_wp2_with fail
          have tk := two_take T9.out.swap v3 l HA.out.rd (fun k hk => Or.inr (HV3.out k hk)) (by omega)
          rw [← HQ.out] at tk
          refine tk.mono ?_
          clear tk
          rintro e w10 ⟨vb, rfl, t10, a10, n10, c10⟩
          have hX89 : X8 = _ := hX8
          have b10 : w10.heap[w8.heap.size]? = _ := c10.obj B9.out (fun e => e (Or.inr ⟨Nat.le_refl _, hl9⟩))
          have A10 := Lib.hid (A9.out.kept c10 (fun b hb e => e (Or.inl (by rw [hX8]; exact Or.inr hb.symm))))
          obtain ⟨z0, z1, z2, z3, z4, zf⟩ := cells5 b10
          have hl10 := lt_of_block b10
          have B10 := Lib.hid a10
          have C10 := Lib.hid (C9.out.trans c10 (fun b hb e => by
            by_cases hbW : b < W.heap.size
            · exact absurd (Or.inl (by rw [hX8]; exact Or.inl (Or.inl (HXW.out b hbW)))) e
            · show W.heap.size ≤ b; omega))
          obtain ⟨b1, b2, b3, rfl, _⟩ := a10.shape
          clear t10 a10 n10 c10 b10 zf C9 T9 HA HV3 B9 A9 hX89 hX8
          unfold itV
          go_wp2_with fail
          have sm := same_calls (w10.alloc (.cells #[.int .i64 it.kind, .string ⟨it.text.toArray⟩, .slice b1 b2 b3, .int .i64 it.why, .bool it.high] 35)) it (.slice a1 a2 a3) (.slice b1 b2 b3) (A10.out.rd.kept ((Chg.refl (fun _ => False) w10).alloc _) (fun _ _ _ h => h)) (B10.out.rd.kept ((Chg.refl (fun _ => False) w10).alloc _) (fun _ _ _ h => h))
          unfold itV at sm
          refine sm.mono ?_
          clear sm
          rintro e w11 ⟨rfl, c11⟩
          have C11 := Lib.hid ((C10.out.alloc _).trans c11 (fun _ _ h => h.elim))
          clear c11 C10 z0 z1 z2 z3 z4
          go_wp2
          go_ret
          exact ⟨rfl, C11.out.below (Nat.le_refl _) (fun k hk h => by have h' : W.heap.size ≤ k := h; omega)⟩
      · obtain ⟨bx, by_, m', hcell, ht2, hback⟩ : ∃ bx by_ m', wr.cell? ⟨w4.heap.size, i, none⟩ = some (.pointer (some ⟨bx, 0, none⟩)) ∧ FTwo wr X bx by_ WL FM.new m' ∧ ∀ w' Y, FTwo w' Y bx by_ WL mm m' → FTwo w' Y p q WL (if 0 < i + 1 then mm else FM.new) (if 1 < i + 1 then mm else FM.new) := by
          by_cases h0 : i = 0
          · subst h0
            exact ⟨p, q, FM.new, cell_of_blk hk 0, by simpa using ht, fun w' Y h => by simpa using h⟩
          · obtain rfl : i = 1 := by omega
            exact ⟨q, p, mm, cell_of_blk hk 1, by simpa using ht.swap, fun w' Y h => by simpa using h.swap⟩
        have HT := Lib.hid ht2
        have HBK := Lib.hid hback
        have HK := Lib.hid hk
        have HC := Lib.hid hC
        have HXW := Lib.hid hXW
        have hlt2 : (i : Int) < 2 := by omega
        clear ht ht2 hback hk hC hXW HT4 hs4 hw3
        by_cases h1 : mode = 1
        · have t1 : (mode == 1) = true := by simpa using h1
          have hmm : mm = FM.new.data?.2 := by rw [HMM.out]; unfold begM; rw [if_pos h1]; rfl
          have HMM2 := Lib.hid hmm
          clear hmm h1
          go_wp2_with (go_at_call 12; refine (two_data HT.out).mono ?_; rintro e w5 ⟨rfl, t5, c5⟩; have T5 := Lib.hid t5; have C5 := Lib.hid c5; clear t5 c5)
          go_roundg (gk - 1)
          case measure => omega
          case rel =>
            have h5 := T5.out
            rw [← HMM2.out] at h5
            exact ⟨⟨i + 1, X, by omega, by go_num, HBK.out _ _ h5, C5.out.obj HK.out (fun h => h hX), hX, HXW.out, HC.out.trans C5.out (fun b hb e => absurd (HXW.out b hb) e)⟩⟩
        · have t1 : (mode == 1) = false := by simpa using h1
          by_cases h2 : mode = 2
          · have t2 : (mode == 2) = true := by simpa using h2
            have hmm : mm = (FM.new.chunk? 1099511627776 3).2 := by rw [HMM.out]; unfold begM; rw [if_neg h1, if_pos h2]; rfl
            have HMM2 := Lib.hid hmm
            clear hmm h1 h2
            go_wp2_with (go_at_call 27; refine (two_chunk HT.out 1099511627776 3 (by omega) (by omega)).mono ?_; rintro e w5 ⟨rfl, t5, c5⟩; have T5 := Lib.hid t5; have C5 := Lib.hid c5; clear t5 c5)
            go_roundg (gk - 1)
            case measure => omega
            case rel =>
              have h5 := T5.out
              rw [← HMM2.out] at h5
              exact ⟨⟨i + 1, X, by omega, by go_num, HBK.out _ _ h5, C5.out.obj HK.out (fun h => h hX), hX, HXW.out, HC.out.trans C5.out (fun b hb e => absurd (HXW.out b hb) e)⟩⟩
          · have t2 : (mode == 2) = false := by simpa using h2
            have hmm : mm = (FM.take WL FM.new (begP s)).2.2 := by rw [HMM.out]; unfold begM; rw [if_neg h1, if_neg h2]; rfl
            have HMM2 := Lib.hid hmm
            clear hmm h1 h2
            obtain ⟨cap2, o, hrun, hrd⟩ := run_str_bytes (P := Try.prog) wr 9 24 5 (begP s) (by unfold maxLen; omega) Try.underlying9 Try.underlying24 Try.underlying5
            have ho := HT.out.more (((Chg.refl X wr).drew).alloc o) (Y := fun b => b = wr.heap.size) (fun k e => by subst e; simp)
            have HO := Lib.hid ho
            have HRD := Lib.hid hrd
            clear ho hrd
            go_wp2_with fail
            refine (two_take HO.out _ (begP s) HRD.out (fun k hk => by simp [Value.ownBlock] at hk; exact Or.inr hk.symm) (by show 0 + 2 * _ ≤ _; omega)).mono ?_
            rintro e w5 ⟨v', rfl, t5, g5, g6, c5⟩
            have T5 := Lib.hid t5
            have C5 := Lib.hid c5
            clear t5 g5 g6 c5 hrun
            go_wp2
            go_roundg (gk - 1)
            case measure => omega
            case rel =>
              have h5 := T5.out
              rw [← HMM2.out] at h5
              exact ⟨⟨i + 1, _, by omega, by go_num, HBK.out _ _ h5, C5.out.obj (heap_alloc_lt _ _ HK.out) (fun h => h (Or.inl hX)), Or.inl (Or.inl hX), fun b hb => Or.inl (Or.inl (HXW.out b hb)), (HC.out.drew.alloc o).trans C5.out (fun b hb e => by
                by_cases hbW : b < W.heap.size
                · exact absurd (Or.inl (HXW.out b hbW)) e
                · show W.heap.size ≤ b; omega)⟩⟩
end Go.Proofs.Ytnjloldhmjadoaa
