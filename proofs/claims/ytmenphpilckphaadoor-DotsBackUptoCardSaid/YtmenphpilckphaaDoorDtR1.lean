/- The definition's May, Lines, Long, Whole, Check, Stuff, walked. Conditions as stated. -/
import Derived.Test.YtmenphpilckphaaDoorDtC7
import Derived.Test.YtmenphpilckphaaDoorDtLns
namespace Go.Proofs.YtmenphpilckphaaDoor
set_option linter.unusedVariables false
open Go Go.RowKit Dt

def mayB (n : Int) : Bool := decide (1 ≤ n ∧ n ≤ 16777216)
theorem may_calls (w : World) (n : Int) : Calls Tryd.prog 43 #[.int .i64 n] w fun r w' => r = .returned (.bool (mayB n)) ∧ w = w' := by
  by_cases h1 : 1 ≤ n
  · by_cases h2 : n ≤ 16777216
    · have HE := Lib.hid (show mayB n = true by unfold mayB; simp; omega)
      go_enter Tryd.func43, Tryd.ntmps43
      go_wp2
      go_ret
      exact ⟨by rw [HE.out]; rfl, rfl⟩
    · have HE := Lib.hid (show mayB n = false by unfold mayB; simp; omega)
      go_enter Tryd.func43, Tryd.ntmps43
      go_wp2
      go_ret
      exact ⟨by rw [HE.out]; rfl, rfl⟩
  · have HE := Lib.hid (show mayB n = false by unfold mayB; simp; omega)
    go_enter Tryd.func43, Tryd.ntmps43
    go_wp2
    go_ret
    exact ⟨by rw [HE.out]; rfl, rfl⟩

def LsRel (W0 W : World) (b : List UInt8) (g : Nat) (ov fv iv : Value) (wr : World) : Prop :=
  ∃ (i f : Nat) (oa : Option Addr) (oc : Nat) (xs : List Value) (L : List (List UInt8)), i + g = b.length - 1 ∧ iv = .int .i64 i ∧ fv = .int .i64 f ∧ ov = .slice oa xs.length oc ∧ OwnV 22 W wr (.slice oa xs.length oc) xs ∧ SlsAt W0 xs L ∧ LnAt b i f L ∧ xs.length ≤ i
/-- What Lines tells. -/
def LinesSays (W0 W : World) (b : List UInt8) (r : Ending) (w' : World) : Prop :=
  ∃ (oa ra : Option Addr) (oc rc : Nat) (xs : List Value), r = .returned (.tuple #[.slice oa xs.length oc, .slice ra (lines b).2.length rc]) ∧ OwnV 22 W w' (.slice oa xs.length oc) xs ∧ SlsAt W0 xs (lines b).1 ∧ Rd W0 (.slice ra (lines b).2.length rc) 1 (bvs (lines b).2)
set_option maxHeartbeats 2000000 in
set_option maxRecDepth 100000 in
theorem lines_calls (W0 W : World) (c0 : Chg (fun _ => False) W0 W) (ba : Option Addr) (bc : Nat) (b : List UInt8) (hb : Rd W0 (.slice ba b.length bc) 1 (bvs b)) (hl : b.length ≤ 1099511627776) :
    Calls Tryd.prog 41 #[.slice ba b.length bc] W (LinesSays W0 W b) := by
  obtain ⟨i0, hi0, hx0, hz0, hb0⟩ := info_parts Tryd.infoByte
  obtain ⟨i1, hi1, hy0, hy1, hy2⟩ := info_parts Tryd.infoBytes
  have HB := Lib.hid hb
  have C0 := Lib.hid c0
  clear hb c0
  go_enter Tryd.func41, Tryd.ntmps41
  go_wp2_with fail
  go_loopg [4, 5, 6] (b.length - 1) (LsRel W0 W b)
  case atStart => exact ⟨0, 0, none, 0, [], [], by omega, rfl, rfl, rfl, OwnV.nil _ _, SlsAt.nil _, LnAt.start b, Nat.le_refl _⟩
  case round =>
    obtain ⟨i, f, oa, oc, xs, L, hig, rfl, rfl, rfl, hown, hsl, hat, hxi⟩ := hrel
    have HO := Lib.hid hown
    have HS := Lib.hid hsl
    clear hown hsl
    by_cases hg : gk = 0
    · have hlt : ¬ ((i : Int) + 1 < b.length) := by omega
      have hd := hat.done (by omega)
      have hfb : f ≤ b.length ∨ b = [] := by
        rcases Nat.eq_zero_or_pos b.length with e | e
        · exact .inr (List.eq_nil_of_length_eq_zero e)
        · left; have := hat.le; omega
      have hfl : f ≤ b.length := by
        rcases hfb with h | h
        · exact h
        · subst h
          have := hat.lf
          rcases this with e | e
          · omega
          · simp at e
      obtain ⟨ta, tn, tc, htl, hrt⟩ := HB.out.tail Tryd.underlying22 (by kernel_rfl : Tryd.prog.elem 22 = 5) hi0 hz0 f hfl
      obtain ⟨rr, hrr⟩ : ∃ rr, rr = b.drop f := ⟨_, rfl⟩
      rw [← hrr] at hrt hd
      obtain rfl : tn = rr.length := hrt.len
      have HD := Lib.hid hd
      have HRT := Lib.hid hrt
      clear hat hd hfb hrt hrr
      go_wp2
      go_quiet (fail)
      go_wp2
      go_ret2
      refine ⟨oa, ta, oc, tc, xs, ?_, HO.out.more (by first | exact Chg.refl _ _ | exact Chg.ofDrewN _ _ _), ?_, ?_⟩
      · rw [HD.out]; rfl
      · rw [HD.out]; exact HS.out
      · rw [HD.out]; exact HRT.out
    · have hlt : (i : Int) + 1 < b.length := by omega
      have hi0' : i < b.length := by omega
      have hi1' : i + 1 < b.length := by omega
      have hrd : Rd wr (.slice ba b.length bc) 1 (bvs b) := HB.out.kept (C0.out.trans HO.out.chg (fun _ _ h => h)) (fun _ _ _ h => h)
      obtain ⟨bl, o, rfl, hc0⟩ := hrd.byte i hi0'
      obtain ⟨bl', o', he, hc1⟩ := hrd.byte (i + 1) hi1'
      injection he with he; injection he with he1 he2; subst he1 he2
      have hb0' : b[i]? = some b[i] := List.getElem?_eq_getElem hi0'
      have hb1' : b[i + 1]? = some b[i + 1] := List.getElem?_eq_getElem hi1'
      have hfi := hat.le
      by_cases h13 : b[i] = 13
      · have t1 : ((b[i].toNat : Int) == 13) = true := by rw [h13]; rfl
        by_cases h10 : b[i + 1] = 10
        · have t2 : ((b[i + 1].toNat : Int) == 10) = true := by rw [h10]; rfl
          obtain ⟨hh, hfi2⟩ := hat.hit (by rw [hb0', h13]) (by rw [hb1', h10])
          have HAT := Lib.hid hh
          obtain ⟨ta, tn, tc, hmid, hrt⟩ := HB.out.mid Tryd.underlying22 (by kernel_rfl : Tryd.prog.elem 22 = 5) hi0 hz0 f i hfi2 (by omega)
          have HRT := Lib.hid hrt
          clear hat hh hrd h13 h10 hb0' hb1' hrt
          go_wp2_with (at_builtin; refine wpList_append_arr _ rfl _ _ 34 34 rfl 22 i1 _ 1 24 Tryd.underlying34 hi1 hy0 hy1 hy2 rfl (by decide) (.slice oa xs.length oc) xs rfl (HO.out.more ((Chg.refl _ wr).alloc _)).arr (.slice (some ⟨wr.heap.size, 0, none⟩) 1 1) rfl 1 [.slice ta tn tc] (src_val Tryd.underlying34 rfl (cell_alloc_eq (by simp) rfl)) (by rw [Nat.div_one]; unfold maxLen; omega) (by rw [Nat.div_one]; omega) ?d2)
          case d2 =>
            intro v4 w4 ha4 hc4 ho4
            have ho := HO.out.step ((Chg.refl _ wr).alloc _) ha4 hc4 ho4 (by omega)
            obtain ⟨va, vc, rfl⟩ := ho.shape
            have HO2 := Lib.hid ho
            have HLEN := Lib.hid (show (xs ++ [Value.slice ta tn tc]).length ≤ i + 1 by simp; omega)
            clear ha4 hc4 ho4 ho
            go_wp2
            go_roundg (gk - 1)
            case measure => omega
            case rel => exact ⟨i + 1, i + 2, va, vc, _, _, by omega, by go_num, by go_num, rfl, HO2.out, HS.out.snoc HRT.out, HAT.out, HLEN.out⟩
        · have t2 : ((b[i + 1].toNat : Int) == 10) = false := byte_ne h10
          have HAT := Lib.hid (hat.miss hi1' (by rw [hb0', hb1']; simp [h10]))
          clear hat hrd h13 h10 hb0' hb1'
          go_wp2
          go_roundg (gk - 1)
          case measure => omega
          case rel => exact ⟨i + 1, f, oa, oc, xs, L, by omega, by go_num, rfl, rfl, HO.out, HS.out, HAT.out, by omega⟩
      · have t1 : ((b[i].toNat : Int) == 13) = false := byte_ne13 h13
        have HAT := Lib.hid (hat.miss hi1' (by rw [hb0', hb1']; simp [h13]))
        clear hat hrd h13 hb0' hb1' hc1
        go_wp2
        go_roundg (gk - 1)
        case measure => omega
        case rel => exact ⟨i + 1, f, oa, oc, xs, L, by omega, by go_num, rfl, rfl, HO.out, HS.out, HAT.out, by omega⟩

/-- Long. -/
theorem long_calls (W : World) (ba : Option Addr) (bc : Nat) (b : List UInt8) (text : Nat) (hb : Rd W (.slice ba b.length bc) 1 (bvs b)) (hl : b.length ≤ 1099511627776) (ht : text ≤ 1099511627776) :
    Calls Tryd.prog 44 #[.slice ba b.length bc, .int .i64 text] W fun r w' => r = .returned (.bool (longD text b)) ∧ Chg (fun _ => False) W w' := by
  obtain ⟨i1, hi1, hy0, hy1, hy2⟩ := info_parts Tryd.infoBytes
  have HB := Lib.hid hb
  clear hb
  go_enter Tryd.func44, Tryd.ntmps44
  go_wp2_with fail
  refine (lines_calls W W (Chg.refl _ _) ba bc b HB.out hl).mono ?_
  rintro e w1 ⟨oa, ra, oc, rc, xs, rfl, o1, s1, r1⟩
  have hlen := lines_le b
  have hxl : xs.length ≤ b.length := by rw [s1.1]; exact hlen
  have O1 := Lib.hid o1
  have S1 := Lib.hid s1
  have R1 := Lib.hid r1
  obtain ⟨rs, hrs⟩ : ∃ rs, rs = (lines b).2 := ⟨_, rfl⟩
  rw [← hrs] at R1 ⊢
  have HRS := Lib.hid hrs
  clear o1 s1 r1 hlen hrs
  go_wp2_with (at_builtin; refine wpList_append_arr _ rfl _ _ 34 34 rfl 22 i1 _ 1 24 Tryd.underlying34 hi1 hy0 hy1 hy2 rfl (by decide) (.slice oa xs.length oc) xs rfl (O1.out.more ((Chg.refl _ w1).alloc _)).arr (.slice (some ⟨w1.heap.size, 0, none⟩) 1 1) rfl 1 [.slice ra rs.length rc] (src_val Tryd.underlying34 rfl (cell_alloc_eq (by simp) rfl)) (by rw [Nat.div_one]; unfold maxLen; omega) (by rw [Nat.div_one]; omega) ?d1)
  case d1 =>
    intro v4 w4 ha4 hc4 ho4
    have ho := O1.out.step ((Chg.refl _ w1).alloc _) ha4 hc4 ho4 (by have := O1.out.chg.size; omega)
    obtain ⟨va, vc, rfl⟩ := ho.shape
    rw [List.length_append, List.length_singleton] at ho ⊢
    have HO := Lib.hid ho
    have HSL := Lib.hid (S1.out.snoc R1.out)
    have HLG := Lib.hid (show longD text b = ((lines b).1 ++ [rs]).any fun x => decide (text < x.length) by rw [HRS.out]; rfl)
    obtain ⟨ls, hls⟩ : ∃ ls, ls = (lines b).1 ++ [rs] := ⟨_, rfl⟩
    rw [← hls] at HSL HLG
    have hn1 : xs.length + 1 ≤ ls.length := by have := HSL.out.1; simp at this; omega
    have hn2 : ls.length ≤ xs.length + 1 := by have := HSL.out.1; simp at this; omega
    clear ha4 hc4 ho4 ho hls
    go_wp2_with fail
    go_loopg [19] ls.length (CkRel w4 ls text)
    case atStart => exact ⟨0, by omega, rfl, fun i h hi => by omega, rfl⟩
    case round =>
      obtain ⟨j, hj, rfl, hz, rfl⟩ := hrel
      by_cases hgk : gk = 0
      · have hlt : ¬ (j : Int) < (xs.length : Int) + 1 := by omega
        have HA := Lib.hid (show longD text b = false by
          rw [HLG.out, List.any_eq_false]
          intro x hx
          obtain ⟨i, hi, rfl⟩ := List.getElem_of_mem hx
          have := hz i hi (by omega)
          simpa using this)
        clear hz
        go_wp2
        go_ret
        exact ⟨by rw [HA.out]; rfl, HO.out.chg⟩
      · have hlt : (j : Int) < (xs.length : Int) + 1 := by omega
        have hjl : j < ls.length := by omega
        have hjx : j < (xs ++ [Value.slice ra rs.length rc]).length := by rw [HSL.out.1]; exact hjl
        obtain ⟨bl, o, rfl, hcell⟩ := HO.out.arr.rd.at (by intro e; rw [e] at hjx; simp at hjx)
        have hc := hcell j hjx
        have hp := HSL.out.2 j hjx hjl
        generalize (xs ++ [Value.slice ra rs.length rc])[j] = pv at hc hp
        obtain ⟨pa, pn, pc, rfl, hpn, _⟩ := hp.shape
        rw [bvs_length, Nat.mul_one] at hpn
        subst hpn
        clear hp hcell
        by_cases hlg : text < ls[j].length
        · have hlg' : (text : Int) < ls[j].length := by omega
          have HA := Lib.hid (show longD text b = true by
            rw [HLG.out, List.any_eq_true]
            exact ⟨ls[j], List.getElem_mem hjl, by simpa using hlg⟩)
          clear hz hlg
          go_wp2
          go_ret
          exact ⟨by rw [HA.out]; rfl, HO.out.chg⟩
        · have hlg' : ¬ (text : Int) < ls[j].length := by omega
          have HZ := Lib.hid (show ∀ i (h : i < ls.length), i < j + 1 → ls[i].length ≤ text from fun i h hi => by
            by_cases e : i = j
            · subst e; omega
            · exact hz i h (by omega))
          clear hz hlg
          go_wp2
          go_roundg (gk - 1)
          case measure => omega
          case rel => exact ⟨j + 1, by omega, by go_num, HZ.out, rfl⟩

theorem whole_calls (W : World) (ba : Option Addr) (bc : Nat) (b : List UInt8) (hb : Rd W (.slice ba b.length bc) 1 (bvs b)) (hl : b.length ≤ 1099511627776) :
    Calls Tryd.prog 40 #[.slice ba b.length bc] W fun r w' => r = .returned (.int .i64 (wholeP b)) ∧ Chg (fun _ => False) W w' := by
  have HB := Lib.hid hb
  clear hb
  cases hbr : bareI b
  · have HBR := Lib.hid hbr
    clear hbr
    go_enter Tryd.func40, Tryd.ntmps40
    go_wp2_with fail
    refine (Bare_calls W ba bc b HB.out hl).mono ?_
    rintro e w1 ⟨rfl, rfl⟩
    rw [HBR.out]
    go_wp2_with fail
    refine (lines_calls W W (Chg.refl _ _) ba bc b HB.out hl).mono ?_
    rintro e w1 ⟨oa, ra, oc, rc, xs, rfl, o1, s1, r1⟩
    have C1 := Lib.hid o1.chg
    clear o1 s1 r1
    by_cases hr : (lines b).2 = []
    · have hr0 : ¬ 0 < (lines b).2.length := by rw [hr]; decide
      have HE := Lib.hid (show wholeP b = 0 by unfold wholeP; rw [HBR.out, if_neg (by decide), if_neg (by simpa using hr)])
      clear hr
      go_wp2
      go_ret
      exact ⟨ret_i HE.out.symm, C1.out⟩
    · have hr0 : 0 < (lines b).2.length := List.length_pos_iff.2 hr
      have HE := Lib.hid (show wholeP b = 141 by unfold wholeP; rw [HBR.out, if_neg (by decide), if_pos hr])
      clear hr
      go_wp2
      go_ret
      exact ⟨ret_i HE.out.symm, C1.out⟩
  · have HE := Lib.hid (show wholeP b = 130 by unfold wholeP; rw [hbr]; rfl)
    have HBR := Lib.hid hbr
    clear hbr
    go_enter Tryd.func40, Tryd.ntmps40
    go_wp2_with fail
    refine (Bare_calls W ba bc b HB.out hl).mono ?_
    rintro e w1 ⟨rfl, rfl⟩
    rw [HBR.out]
    go_wp2
    go_ret
    exact ⟨ret_i HE.out.symm, Chg.refl _ _⟩

theorem rcheck_calls (W : World) (ba : Option Addr) (bc : Nat) (b : List UInt8) (text : Int) (hb : Rd W (.slice ba b.length bc) 1 (bvs b)) (hl : b.length ≤ 1099511627776) :
    Calls Tryd.prog 24 #[.slice ba b.length bc, .int .i64 text] W fun r w' => r = .returned (.int .i64 (checkP b text)) ∧ Chg (fun _ => False) W w' := by
  have HB := Lib.hid hb
  clear hb
  cases hm : mayB text
  · have HE := Lib.hid (show checkP b text = 2 by unfold mayB at hm; simp only [decide_eq_false_iff_not] at hm; unfold checkP; rw [if_pos (by omega)])
    have HM := Lib.hid hm
    clear hm
    go_enter Tryd.func24, Tryd.ntmps24
    go_wp2_with fail
    refine (may_calls W text).mono ?_
    rintro e w1 ⟨rfl, rfl⟩
    rw [HM.out]
    go_wp2
    go_ret
    exact ⟨ret_i HE.out.symm, Chg.refl _ _⟩
  · have hm2 : 1 ≤ text ∧ text ≤ 16777216 := by unfold mayB at hm; simpa using hm
    obtain ⟨tx, rfl⟩ : ∃ tx : Nat, text = tx := ⟨text.toNat, by omega⟩
    have HM := Lib.hid hm
    clear hm
    by_cases h0 : wholeP b = 0
    · have HE := Lib.hid (show checkP b tx = if longD tx b = true then 140 else 0 by
        rw [check_ref]; unfold checkR; rw [if_neg (by omega), h0]; simp)
      have H0 := Lib.hid h0
      clear h0
      go_enter Tryd.func24, Tryd.ntmps24
      go_wp2_with fail
      refine (may_calls W tx).mono ?_
      rintro e w1 ⟨rfl, rfl⟩
      rw [HM.out]
      go_wp2_with fail
      refine (whole_calls W ba bc b HB.out hl).mono ?_
      rintro e w1 ⟨rfl, c1⟩
      have C1 := Lib.hid c1
      rw [H0.out]
      clear c1
      go_wp2_with fail
      refine (long_calls w1 ba bc b tx (HB.out.kept C1.out (fun _ _ _ h => h)) hl (by omega)).mono ?_
      rintro e w2 ⟨rfl, c2⟩
      have C2 := Lib.hid (C1.out.trans c2 (fun _ _ h => h))
      clear c2
      cases hlg : longD tx b
      · have HF := Lib.hid (show checkP b tx = 0 by rw [HE.out, hlg]; rfl)
        clear hlg
        go_wp2
        go_ret
        exact ⟨ret_i HF.out.symm, C2.out⟩
      · have HF := Lib.hid (show checkP b tx = 140 by rw [HE.out, hlg]; rfl)
        clear hlg
        go_wp2
        go_ret
        exact ⟨ret_i HF.out.symm, C2.out⟩
    · have HE := Lib.hid (show checkP b tx = wholeP b by
        rw [check_ref]; unfold checkR; rw [if_neg (by omega), if_neg (fun e => h0 e.1)])
      have t1 : (wholeP b == 0) = false := by simpa using h0
      clear h0
      go_enter Tryd.func24, Tryd.ntmps24
      go_wp2_with fail
      refine (may_calls W tx).mono ?_
      rintro e w1 ⟨rfl, rfl⟩
      rw [HM.out]
      go_wp2_with fail
      refine (whole_calls W ba bc b HB.out hl).mono ?_
      rintro e w1 ⟨rfl, c1⟩
      have C1 := Lib.hid c1
      clear c1
      go_wp2
      go_ret
      exact ⟨ret_i HE.out.symm, C1.out⟩
end Go.Proofs.YtmenphpilckphaaDoor
