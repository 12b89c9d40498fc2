/- The law DotsBack, walked. No condition but what is stated. -/
import Derived.Test.YtmenphpilckphaaDoorDtL2
import Derived.Test.YtmenphpilckphaaDoorDtC8
import Derived.Deep.RegionHeld3
import Derived.IntWalk
namespace Go.Proofs.YtmenphpilckphaaDoor
set_option linter.unusedVariables false
open Go Go.RowKit Go.ChangeShapes Go.WideShapes Go.ChangeAt Dt

theorem check_most {b : List UInt8} (h : b.length ≤ 16777216) : checkP b 16777216 = lookP b := by
  unfold checkP
  rw [if_neg (by omega)]
  by_cases h0 : lookP b = 0
  · rw [if_neg (by simpa using h0), h0, if_neg]
    have : longD 16777216 b = false := by
      unfold longD
      rw [List.any_eq_false]
      intro x hx
      have hj := congrArg List.length (lines_join b)
      rw [List.length_append] at hj
      rcases List.mem_append.1 hx with h1 | h1
      · have := rows_mem_len' _ x h1
        unfold rows at this
        simp; omega
      · simp at h1; subst h1
        simp; omega
    show ¬ longD (16777216 : Int).toNat b = true
    simp [this]
  · rw [if_pos h0]
def Sam (w0 w : World) : Prop := Chg (fun _ => False) w0 w
theorem Sam.refl (w : World) : Sam w w := Chg.refl _ w
theorem Sam.drew {w0 w : World} (h : Sam w0 w) : Sam w0 w.drew := Chg.drew h
theorem Sam.alloc {w0 w : World} (h : Sam w0 w) (o : Obj) : Sam w0 (w.alloc o) := Chg.alloc h o
theorem Sam.more {w0 w w' : World} (h : Sam w0 w) (c : Chg (fun _ => False) w w') : Sam w0 w' := Chg.trans h c (fun _ _ h => h)
set_option maxHeartbeats 8000000 in
set_option maxRecDepth 100000 in
theorem back_walk (W : World) (hg : Glb W) (sa ca ma : Option Addr) (sc cc mc : Nat) (b m : List UInt8) (cs : List Int) (hs : Rd W (.slice sa b.length sc) 1 (bvs b)) (hc : Rd W (.slice ca cs.length cc) 1 (cs.map (Value.int .i64))) (hm : Rd W (.slice ma m.length mc) 1 (bvs m)) (hl : b.length ≤ 1048576) (hcl : cs.length ≤ 1048576) (hml : m.length ≤ 1048576) :
    Calls Tryd.prog 10 #[.slice sa b.length sc, .slice ca cs.length cc, .slice ma m.length mc] W fun r w' => r = .returned (.bool true) ∧ Chg (fun _ => False) W w' := by
  obtain ⟨i0, hi0, hx0, hz0, hb0⟩ := info_parts Tryd.infoByte
  have HG := Lib.hid hg
  have HS := Lib.hid hs
  have HCS := Lib.hid hc
  have HM := Lib.hid hm
  clear hg hs hc hm
  have hbig : ¬ (16777216 : Int) < b.length := by omega
  have HCM := Lib.hid (check_most (show b.length ≤ 16777216 by omega))
  by_cases h0 : lookP b = 0
  · have H0 := Lib.hid h0
    clear h0
    go_enter Tryd.func10, Tryd.ntmps10
    go_wp2_with fail
    refine (check_calls W HG.out sa sc b 16777216 HS.out (by omega)).mono ?_
    rintro e w1 ⟨rfl, c1⟩
    rw [HCM.out, H0.out]
    have C1 := Lib.hid c1
    clear c1
    go_wp2_with fail
    refine (stuff_calls w1 sa sc b (HS.out.kept C1.out (fun _ _ _ h => h)) (by omega)).mono ?_
    intro e w2 h2
    unfold StuffSays at h2
    rw [if_pos H0.out] at h2
    obtain ⟨ua, uc, rfl, o2⟩ := h2
    have O2 := Lib.hid o2
    have C2 := Lib.hid (C1.out.trans o2.chg (fun _ _ h => h))
    obtain ⟨s, hs⟩ : ∃ s, s = stuffP b := ⟨_, rfl⟩
    have hsl : s.length ≤ 2 * b.length + 3 := by
      rw [hs]; unfold stuffP
      have := stN_len b b.length
      rw [stN_all] at this
      unfold stfB
      rw [List.length_append]; simp; omega
    rw [← hs] at O2 ⊢
    have HSP := Lib.hid hs
    clear o2 hs
    go_wp2_with fail
    refine (rcheck_calls w2 sa sc b 16777216 (HS.out.kept C2.out (fun _ _ _ h => h)) (by omega)).mono ?_
    rintro e w3 ⟨rfl, c3⟩
    rw [HCM.out, H0.out]
    have C3 := Lib.hid (C2.out.trans c3 (fun _ _ h => h))
    have O3 := Lib.hid (O2.out.rd.kept c3 (fun _ _ _ h => h))
    clear c3
    obtain ⟨al, hal⟩ : ∃ al : Nat, max (1 : Int) (b.length : Int) = (al : Int) := ⟨max 1 b.length, by omega⟩
    have hal1 : 1 ≤ al := by omega
    have hal2 : al ≤ 1048576 := by omega
    have hal3 : b.length ≤ al := by omega
    go_wp2_with fail
    refine (dots_new 16777216 al w3 (by omega) (by omega) (by omega) (by omega)).mono ?_
    rintro e w4 ⟨rfl, hr4, c4⟩
    have R4 := Lib.hid hr4
    have C4 := Lib.hid (C3.out.trans c4 (fun _ _ h => h))
    have O4 := Lib.hid (O3.out.kept c4 (fun _ _ _ h => h))
    have l4 := lt_of_block hr4.blk
    clear hr4 c4 hal
    go_wp2_with fail
    refine (clone_calls w4 ua uc s O4.out (by omega)).mono ?_
    rintro e w5 ⟨xa, xc, rfl, o5⟩
    have O5 := Lib.hid o5
    have C5 := Lib.hid (C4.out.trans o5.chg (fun _ _ h => h))
    clear o5
    go_wp2_with (at_builtin; refine wpList_append_arr _ rfl _ _ 22 22 rfl 5 i0 (.int .u8 0) 1 1 Tryd.underlying22 hi0 hx0 hz0 hb0 rfl (by decide) (.slice xa s.length xc) (bvs s) rfl O5.out.arr (.slice ma m.length mc) rfl m.length (bvs m) ((HM.out.kept C5.out (fun _ _ _ h => h)).src (bvs_one _) Tryd.underlying22) (by rw [bvs_length]; unfold maxLen; omega) (by rw [bvs_length]; omega) ?d1)
    case d1 =>
      intro v6 w6 ha6 hc6 ho6 _
      have o6 := O5.out.step (Chg.refl _ _) ha6 hc6 ho6 (by omega)
      have hal4 : (s ++ m).length ≤ 4194304 := by rw [List.length_append]; omega
      obtain ⟨A, hA⟩ : ∃ A, A = s ++ m := ⟨_, rfl⟩
      rw [← hA] at o6 hal4
      obtain ⟨va, vc, rfl⟩ := o6.shape
      have O6 := Lib.hid o6
      have HA := Lib.hid hA
      have C6 := Lib.hid (C4.out.trans o6.chg (fun _ _ h => h))
      have R6 := Lib.hid (R4.out.kept o6.chg (fun h => h))
      have l6 := o6.chg.size
      clear ha6 hc6 ho6 o6 hA
      go_wp2_with fail
      refine (pieces_gen w6 w6 va ca vc cc A cs O6.out.rd (HCS.out.kept C6.out (fun _ _ _ h => h)) (by omega) (by omega)).mono ?_
      rintro e w7 ⟨oa, oc, xs, ls, rfl, o7, s7, f7, n7, b7⟩
      have C7 := Lib.hid (C6.out.trans o7.chg (fun _ _ h => h))
      have hR7 := R6.out.kept o7.chg (fun h => h)
      have l7 := o7.chg.size
      have HE := Lib.hid (hear_gen w7 w3.heap.size 16777216 al hR7 (by omega) oa oc xs ls o7.arr (s7.kept o7.chg (fun _ _ h => h)) (fun i h h' hne k hk => by
        have e1 := b7 xs[i] (List.getElem_mem h)
        rw [hk] at e1
        have h2 := O6.out.own k e1.symm
        have h3 := (s7.2 i h h').lt (bvs_ne.2 hne) k hk
        exact ⟨by omega, fun e => by have := o7.own k e.symm; omega⟩) (fun k hk e => by have := o7.own k hk; omega) (by rw [f7]; omega) (by omega))
      have OWN7 := Lib.hid o7.own
      have F7 := Lib.hid f7
      clear o7 s7 f7 n7 b7 hR7
      go_wp2_with fail
      refine HE.out.mono ?_
      rintro e w8 ⟨ta, tc, ev, rfl, p8⟩
      have hbk : hd 16777216 al ls.flatten = ⟨b, s.length, true, ⟨4, [], [], 0, high b⟩⟩ := by rw [F7.out, HA.out, HSP.out]; exact back H0.out 16777216 al (by omega) hal3 m
      have T8 := p8.arr
      rw [hbk] at T8 ⊢
      obtain ⟨ea, en, ec, rfl, _⟩ := p8.ev.shape
      obtain rfl := rd0 p8.ev
      have C8 := Lib.hid (C7.out.trans p8.chg (fun i hi e => by
        have := C4.out.size
        have := C3.out.size
        rcases e with e | e
        · omega
        · have := OWN7.out i e.symm; have := C6.out.size; omega))
      have HT8 := Lib.hid (show Rd w8 (.slice ta b.length tc) 1 (bvs b) from T8.rd)
      clear p8 T8 hbk
      unfold hdC
      go_upto_region 14 with (fail)
      have c9 := (Chg.refl (fun _ => False) w8).alloc (.cells #[.slice ta b.length tc, .int .i64 s.length, .bool true, .int .i64 4, .string ⟨#[]⟩, .slice ea 0 ec, .int .i64 0, .bool (high b), .bool true] 32)
      have b9 := heap_alloc_at w8 (.cells #[.slice ta b.length tc, .int .i64 s.length, .bool true, .int .i64 4, .string ⟨#[]⟩, .slice ea 0 ec, .int .i64 0, .bool (high b), .bool true] 32)
      have HT9 := Lib.hid (HT8.out.kept c9 (fun _ _ _ h => h))
      have C9 := Lib.hid (C8.out.trans c9 (fun _ _ h => h))
      obtain ⟨w9, hw9⟩ : ∃ w9, w9 = w8.alloc (.cells #[.slice ta b.length tc, .int .i64 s.length, .bool true, .int .i64 4, .string ⟨#[]⟩, .slice ea 0 ec, .int .i64 0, .bool (high b), .bool true] 32) := ⟨_, rfl⟩
      rw [← hw9] at c9 b9 HT9 C9
      have e9 : w8.alloc (.cells #[.slice ta b.length tc, .int .i64 s.length, .bool true, .int .i64 4, .string ⟨#[]⟩, .slice ea 0 ec, .int .i64 0, .bool (high b), .bool true] 32) = w9 := hw9.symm
      first | rw [e9] | skip
      have lx := lt_of_block b9
      clear hw9 e9 c9
      have q0 : ∀ w', Sam w9 w' → w'.cell? ⟨w8.heap.size, 0, none⟩ = some (.slice ta b.length tc) := fun w' h => cell_of_blk (Chg.obj h b9 (fun h => h)) 0
      have q1 : ∀ w', Sam w9 w' → w'.cell? ⟨w8.heap.size, 1, none⟩ = some (.int .i64 s.length) := fun w' h => cell_of_blk (Chg.obj h b9 (fun h => h)) 1
      have q2 : ∀ w', Sam w9 w' → w'.cell? ⟨w8.heap.size, 2, none⟩ = some (.bool true) := fun w' h => cell_of_blk (Chg.obj h b9 (fun h => h)) 2
      have q6 : ∀ w', Sam w9 w' → w'.cell? ⟨w8.heap.size, 6, none⟩ = some (.int .i64 0) := fun w' h => cell_of_blk (Chg.obj h b9 (fun h => h)) 6
      have q7 : ∀ w', Sam w9 w' → w'.cell? ⟨w8.heap.size, 7, none⟩ = some (.bool (high b)) := fun w' h => cell_of_blk (Chg.obj h b9 (fun h => h)) 7
      have q8 : ∀ w', Sam w9 w' → w'.cell? ⟨w8.heap.size, 8, none⟩ = some (.bool true) := fun w' h => cell_of_blk (Chg.obj h b9 (fun h => h)) 8
      have EQ := Lib.hid (show ∀ w', Sam w9 w' → Calls Tryd.prog 16 #[.slice ta b.length tc, .slice sa b.length sc] w' fun r w'' => r = .returned (.bool true) ∧ w' = w'' from fun w' h =>
        (equal_calls w' ta sa tc sc b b (HT9.out.kept h (fun _ _ _ h => h)) (HS.out.kept (C9.out.trans h (fun _ _ h => h)) (fun _ _ _ h => h))).mono fun e w'' ⟨h1, h2⟩ => ⟨by rw [h1, beq_self_eq_true], h2⟩)
      have CF := Lib.hid (show ∀ w', Sam w9 w' → Calls Tryd.prog 32 #[.slice sa b.length sc, predV] w' fun r w'' => r = .returned (.bool (high b)) ∧ w' = w'' from fun w' h =>
        containsFunc_calls w' sa sc b (HS.out.kept (C9.out.trans h (fun _ _ h => h)) (fun _ _ _ h => h)) (by omega))
      have WK := Lib.hid (show ∀ w', Sam w9 w' → Calls Tryd.prog 13 #[] w' fun r w'' => r = .returned (.bool true) ∧ Chg (fun _ => False) w' w'' from fun w' h =>
        wakes_calls w' (HG.out.kept (C9.out.trans h (fun _ _ h => h)) (fun h => h)))
      have s9 : Sam w9 w9 := Sam.refl w9
      generalize high b = hb at q7 CF
      clear b9
      go_region_held3 (fun w' => Sam w9 w') (first | assumption | exact Sam.drew (by assumption) | exact Sam.alloc (by assumption) _) (first
        | (go_at_call 16; refine (EQ.out _ (by assumption)).mono ?_; rintro e w5 ⟨rfl, rfl⟩)
        | (go_at_call 32; refine (CF.out _ (by assumption)).mono ?_; rintro e w5 ⟨rfl, rfl⟩)
        | (go_at_call 13; refine (WK.out _ (by assumption)).mono ?_; rintro e w5 ⟨rfl, c5⟩; have s5 := Sam.more (w0 := w9) (by assumption) c5))
      go_wp2
      go_ret
      exact ⟨rfl, C9.out.trans (by first | exact s5 | exact Sam.drew s5) (fun _ _ h => h)⟩
  · have H0 := Lib.hid h0
    have t1 : (lookP b != 0) = true := by simpa using h0
    have t2 : (lookP b != lookP b) = false := by simp
    clear h0
    go_enter Tryd.func10, Tryd.ntmps10
    go_wp2_with fail
    refine (check_calls W HG.out sa sc b 16777216 HS.out (by omega)).mono ?_
    rintro e w1 ⟨rfl, c1⟩
    rw [HCM.out]
    have C1 := Lib.hid c1
    clear c1
    go_wp2_with fail
    refine (stuff_calls w1 sa sc b (HS.out.kept C1.out (fun _ _ _ h => h)) (by omega)).mono ?_
    intro e w2 h2
    unfold StuffSays at h2
    rw [if_neg H0.out] at h2
    obtain ⟨rfl, rfl⟩ := h2
    go_wp2_with fail
    refine (rcheck_calls w1 sa sc b 16777216 (HS.out.kept C1.out (fun _ _ _ h => h)) (by omega)).mono ?_
    rintro e w3 ⟨rfl, c3⟩
    rw [HCM.out]
    have C3 := Lib.hid (C1.out.trans c3 (fun _ _ h => h))
    have W3 := Lib.hid (wakes_calls w3 (HG.out.kept C3.out (fun h => h)))
    clear c3
    go_wp2_with fail
    refine W3.out.mono ?_
    rintro e w8 ⟨rfl, c8⟩
    have C8 := Lib.hid (C3.out.trans c8 (fun _ _ h => h))
    clear c8
    go_wp2
    go_ret
    exact ⟨rfl, C8.out⟩
section
variable {H : Type} {enc : TypeId × Value → H}
theorem walk_DotsBack (W : World) (v0 v1 v2 : Value) (d0 d1 d2 : DataW H) (p0 p1 p2 : List MemPlace)
    (ok0 : ∃ base, Value.okWide Tryd.prog W .any base 22 v0) (ok1 : ∃ base, Value.okWide Tryd.prog W .any base 23 v1) (ok2 : ∃ base, Value.okWide Tryd.prog W .any base 22 v2)
    (h0 : DataW.Trod enc Tryd.prog W 0 (fun _ => true) true 22 v0 d0 p0) (h1 : DataW.Trod enc Tryd.prog W 0 (fun _ => true) true 23 v1 d1 p1) (h2 : DataW.Trod enc Tryd.prog W 0 (fun _ => true) true 22 v2 d2 p2)
    (hk : Rows.uptoBulkAll [d0, d1, d2] ≤ 1048576) (hsh : W.ShapedOpen Tryd.prog) :
    Calls Tryd.prog 10 #[v0, v1, v2] W fun e w' => e = .returned (.bool true) ∧ Below W.heap.size W w' := by
  simp only [Rows.uptoBulkAll] at hk
  obtain ⟨S, hs, hs2⟩ := arg_bytes Tryd.underlying22 Tryd.underlying5 Tryd.cellsByte ok0 h0
  obtain ⟨cs, hc, hw, hc2⟩ := arg_ints Tryd.underlying23 Tryd.underlying3 Tryd.cellsInt ok1 h1
  obtain ⟨M, hm, hm2⟩ := arg_bytes Tryd.underlying22 Tryd.underlying5 Tryd.cellsByte ok2 h2
  obtain ⟨sa, sn, sc, rfl, _⟩ := hs.shape
  obtain rfl : sn = S.length := hs.len
  obtain ⟨ma, mn, mc, rfl, _⟩ := hm.shape
  obtain rfl : mn = M.length := hm.len
  obtain ⟨ca, cn, cc, rfl, hcn, _⟩ := hc.shape
  obtain rfl : cn = cs.length := by simpa using hcn.symm
  exact (back_walk W (glb_of hsh) sa ca ma sc cc mc S M cs hs hc hm (by omega) (by omega) (by omega)).mono fun e w' ⟨he, c⟩ => ⟨he, c.below (Nat.le_refl _) (fun _ _ h => h)⟩
end
end Go.Proofs.YtmenphpilckphaaDoor
