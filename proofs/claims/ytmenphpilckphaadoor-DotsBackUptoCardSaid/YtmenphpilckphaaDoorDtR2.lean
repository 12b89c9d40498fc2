/- slices.Clone at bytes; the definition's Stuff; the law DotsChecks, walked. Conditions as stated. -/
import Derived.Test.YtmenphpilckphaaDoorDtR1
import Derived.Test.YtmenphpilckphaaDoorDtL1
namespace Go.Proofs.YtmenphpilckphaaDoor
set_option linter.unusedVariables false
open Go Go.RowKit Go.ChangeShapes Go.WideShapes Go.ChangeAt Dt

theorem Own.mk0 {W w : World} (c : Chg (fun _ => False) W w) (f : Nat × Nat) : Own W (w.alloc (.cells #[] 5 f)) (.slice (some ⟨w.heap.size, 0, none⟩) 0 0) [] :=
  ⟨.inr ⟨w.heap.size, 0, 0, 0, _, _, rfl, Nat.le_refl _, by unfold maxLen; omega, heap_alloc_at _ _, by simp, fun i h1 h2 => by omega, by simp [bvs], by simp [bvs]⟩, fun k hk => by simp [Value.ownBlock] at hk; have := c.size; omega, c.alloc _⟩
set_option maxRecDepth 100000 in
theorem clone_calls (W : World) (ba : Option Addr) (bc : Nat) (b : List UInt8) (hb : Rd W (.slice ba b.length bc) 1 (bvs b)) (hl : b.length ≤ 1099511627776) :
    Calls Tryd.prog 22 #[.slice ba b.length bc] W fun r w' => ∃ oa oc, r = .returned (.slice oa b.length oc) ∧ Own W w' (.slice oa b.length oc) b := by
  obtain ⟨i0, hi0, hx0, hz0, hb0⟩ := info_parts Tryd.infoByte
  have HB := Lib.hid hb
  cases ba with
  | none =>
    obtain ⟨_, _, _, he, _, _, _, _, h0⟩ := hb.shape
    injection he with e1 e2 e3
    subst e1 e2 e3
    obtain ⟨hl0, rfl⟩ := h0 rfl
    have : b = [] := List.eq_nil_of_length_eq_zero hl0
    subst this
    clear hb h0 hl0
    have hnil := fun (w : World) (a : Option Addr) (n c : Nat) => Lib.run_eql_slice_nil (P := Tryd.prog) w 22 5 a n c 0 0 Tryd.underlying22
    go_enter Tryd.func22, Tryd.ntmps22
    go_wp2
    go_ret
    exact ⟨none, 0, rfl, Own.nil _⟩
  | some a =>
    clear hb
    have HK := Lib.hid (Own.mk0 (Chg.refl _ W) (0, 0))
    have hnil := fun (w : World) (a : Option Addr) (n c : Nat) => Lib.run_eql_slice_nil (P := Tryd.prog) w 22 5 a n c 0 0 Tryd.underlying22
    go_enter Tryd.func22, Tryd.ntmps22
    go_wp2_with (at_builtin; refine wpList_append_arr _ rfl _ _ 22 22 rfl 5 i0 (.int .u8 0) 1 1 Tryd.underlying22 hi0 hx0 hz0 hb0 rfl (by decide) (.slice (some ⟨W.heap.size, 0, none⟩) 0 0) (bvs []) rfl HK.out.arr (.slice (some a) b.length bc) rfl b.length (bvs b) ((HB.out.kept HK.out.chg (fun _ _ _ h => h)).src (bvs_one _) Tryd.underlying22) (by simp [bvs]; unfold maxLen; omega) (by simp [bvs]; omega) ?d1)
    case d1 =>
      intro v4 w4 ha4 hc4 ho4
      have ho := HK.out.step (Chg.refl _ _) ha4 hc4 ho4 (by simp)
      obtain ⟨va, vc, rfl⟩ := ho.shape
      have HO := Lib.hid ho
      clear ha4 hc4 ho4 ho
      go_wp2
      go_ret
      exact ⟨va, vc, rfl, HO.out⟩

/-! The definition's Stuff. -/
def RsRel (w2 : World) (b : List UInt8) (g : Nat) (ov iv : Value) (wr : World) : Prop :=
  ∃ (j : Nat) (oa : Option Addr) (oc : Nat), j + g = (lines b).1.length ∧ iv = .int .i64 j ∧ ov = .slice oa (rows (((lines b).1.take j).map dot)).length oc ∧ Own w2 wr (.slice oa (rows (((lines b).1.take j).map dot)).length oc) (rows (((lines b).1.take j).map dot))
def RStuffSays (W : World) (b : List UInt8) (r : Ending) (w' : World) : Prop :=
  if lookP b = 0 then ∃ oa oc, r = .returned (.tuple #[.slice oa (stuffP b).length oc, .int .i64 0]) ∧ Own W w' (.slice oa (stuffP b).length oc) (stuffP b)
  else r = .returned (.tuple #[.slice none 0 0, .int .i64 (lookP b)]) ∧ Chg (fun _ => False) W w'
theorem dot_len (x : List UInt8) : (dot x).length ≤ x.length + 1 := by unfold dot; split <;> simp
theorem rowsD_len : ∀ (ls : List (List UInt8)), (rows (ls.map dot)).length ≤ 2 * (rows ls).length
  | [] => by simp [rows]
  | x :: ls => by
    have := rowsD_len ls
    have h := dot_len x
    simp only [rows, List.map_cons, List.flatMap_cons, List.length_append, List.length_cons, List.length_nil] at this ⊢
    omega
theorem rows_take (ls : List (List UInt8)) (j : Nat) : (rows (ls.take j)).length ≤ (rows ls).length := by
  have : rows ls = rows (ls.take j) ++ rows (ls.drop j) := by rw [← rows_append', List.take_append_drop]
  rw [this, List.length_append]; omega
set_option maxHeartbeats 2000000 in
set_option maxRecDepth 100000 in
theorem rstuff_calls (W : World) (ba : Option Addr) (bc : Nat) (b : List UInt8) (hb : Rd W (.slice ba b.length bc) 1 (bvs b)) (hl : b.length ≤ 1099511627776) :
    Calls Tryd.prog 21 #[.slice ba b.length bc] W (RStuffSays W b) := by
  obtain ⟨i0, hi0, hx0, hz0, hb0⟩ := info_parts Tryd.infoByte
  have HB := Lib.hid hb
  clear hb
  by_cases h0 : lookP b = 0
  · have HL := Lib.hid h0
    have HW := Lib.hid (show wholeP b = 0 by rw [← look_whole]; exact h0)
    have HJ := Lib.hid (show (rows (lines b).1).length ≤ b.length by
      have := lines_join b
      conv => rhs; rw [← this]
      rw [List.length_append]; unfold rows; omega)
    clear h0
    go_enter Tryd.func21, Tryd.ntmps21
    go_wp2_with fail
    refine (whole_calls W ba bc b HB.out hl).mono ?_
    rintro e w1 ⟨rfl, c1⟩
    have C1 := Lib.hid c1
    rw [HW.out]
    clear c1
    go_wp2_with fail
    refine (lines_calls W w1 C1.out ba bc b HB.out hl).mono ?_
    rintro e w2 ⟨la, ra, lc, rc, xs, rfl, o2, s2, r2⟩
    have O2 := Lib.hid o2
    have S2 := Lib.hid s2
    have C2 := Lib.hid (C1.out.trans o2.chg (fun _ _ h => h))
    obtain ⟨L, hL⟩ : ∃ L, L = (lines b).1 := ⟨_, rfl⟩
    have HLL := Lib.hid hL
    have hx1 : xs.length ≤ L.length := by rw [hL, s2.1]; exact Nat.le_refl _
    have hx2 : L.length ≤ xs.length := by rw [hL, s2.1]; exact Nat.le_refl _
    have hLb : L.length ≤ b.length := by rw [hL]; exact lines_le b
    clear o2 s2 r2 hL
    go_wp2_with fail
    go_loopg [5, 22] L.length (RsRel w2 b)
    case atStart => exact ⟨0, none, 0, by rw [HLL.out]; omega, rfl, rfl, Own.nil _⟩
    case round =>
      obtain ⟨j, oa, oc, hj, rfl, rfl, hown⟩ := hrel
      rw [← HLL.out] at hj hown ⊢
      have HO := Lib.hid hown
      have hrl := rowsD_len (L.take j)
      have hrt := rows_take L j
      have hjb : (rows L).length ≤ b.length := by rw [HLL.out]; exact HJ.out
      obtain ⟨D, hD⟩ : ∃ D, D = rows ((L.take j).map dot) := ⟨_, rfl⟩
      rw [← hD] at HO hrl ⊢
      have HD := Lib.hid hD
      clear hown hD
      by_cases hg : gk = 0
      · have hlt : ¬ (j : Int) < xs.length := by omega
        have HE := Lib.hid (show D ++ [46, 13, 10] = stuffP b by
          rw [stuff_ref HL.out, HD.out]; unfold stuffR
          rw [← HLL.out, List.take_of_length_le (by omega)])
        go_wp2_with (at_builtin; refine wpList_append_arr _ rfl _ _ 22 22 rfl 5 i0 (.int .u8 0) 1 1 Tryd.underlying22 hi0 hx0 hz0 hb0 rfl (by decide) (.slice oa D.length oc) (bvs D) rfl (HO.out.more ((Chg.refl _ wr).alloc _)).arr (.slice (some ⟨wr.heap.size, 0, none⟩) 3 3) rfl 3 (bvs [46, 13, 10]) ((Rd.fresh wr _ _ _ 3 3 [46, 13, 10] (by rfl) (by rfl) (by decide) (by decide)).src (bvs_one _) Tryd.underlying22) (by rw [bvs_length]; unfold maxLen; omega) (by rw [bvs_length]; omega) ?d1)
        case d1 =>
          intro v4 w4 ha4 hc4 ho4
          have ho := HO.out.step ((Chg.refl _ wr).alloc _) ha4 hc4 ho4 (by omega)
          rw [HE.out] at ho
          obtain ⟨va, vc, rfl⟩ := ho.shape
          have HO2 := Lib.hid ho
          clear ha4 hc4 ho4 ho
          go_wp2
          go_ret2
          unfold RStuffSays
          rw [if_pos HL.out]
          exact ⟨va, vc, rfl, HO2.out.from C2.out⟩
      · have hlt : (j : Int) < xs.length := by omega
        have hjl : j < L.length := by omega
        have hjx : j < xs.length := by omega
        have hvr := (O2.out.arr.kept HO.out.chg (fun _ _ h => h)).rd
        obtain ⟨bl, o, rfl, hcell⟩ := hvr.at (by intro e; rw [e] at hjx; simp at hjx)
        have hcj := hcell j hjx
        have hpj := S2.out.2 j hjx (by rw [← HLL.out]; exact hjl)
        generalize xs[j] = pv at hcj hpj
        have hsu : rows ((L.take (j + 1)).map dot) = D ++ (dot L[j] ++ [13, 10]) := by
          rw [List.take_succ_eq_append_getElem hjl, List.map_append, HD.out]; exact rows_snoc _ _
        have hmem := rows_mem_len' L L[j] (List.getElem_mem hjl)
        have eLj : (lines b).1[j]'(by rw [← HLL.out]; exact hjl) = L[j] := by congr 1; exact HLL.out.symm
        rw [eLj] at hpj
        clear eLj hcell hvr
        generalize L[j] = x at hpj hsu hmem
        obtain ⟨pa, pn, pc, rfl, hpn, _⟩ := hpj.shape
        rw [bvs_length, Nat.mul_one] at hpn
        subst hpn
        have HPW := Lib.hid (hpj.kept C2.out (fun _ _ _ h => h))
        have HPR := Lib.hid (HPW.out.kept HO.out.chg (fun _ _ _ h => h))
        have HSU := Lib.hid hsu
        clear hpj hsu
        by_cases h46 : x.head? = some 46
        · have HFIN0 := Lib.hid (show rows ((L.take (j + 1)).map dot) = D ++ [46] ++ x ++ [13, 10] by rw [HSU.out]; unfold dot; rw [if_pos h46]; simp)
          obtain ⟨c, r, hxr⟩ : ∃ c r, x = c :: r := by cases x with | nil => simp at h46 | cons c r => exact ⟨c, r, rfl⟩
          have hc46 : c = 46 := by rw [hxr] at h46; simpa using h46
          have hxp : 0 < x.length := by rw [hxr]; simp
          have hxp2 : (0 : Int) < x.length := by omega
          obtain ⟨bl2, o2, rfl, hc0⟩ := HPR.out.byte 0 hxp
          have t46 : ((x[0].toNat : Int) == 46) = true := by
            have : x[0] = 46 := by simp [hxr, hc46]
            rw [this]; rfl
          simp only [Nat.add_zero] at hc0
          generalize x[0] = c0 at hc0 t46
          clear hxr hc46 h46
          go_wp2_with (at_builtin; refine wpList_append_arr _ rfl _ _ 22 22 rfl 5 i0 (.int .u8 0) 1 1 Tryd.underlying22 hi0 hx0 hz0 hb0 rfl (by decide) (.slice oa D.length oc) (bvs D) rfl (HO.out.more ((Chg.refl _ wr).alloc _)).arr (.slice (some ⟨wr.heap.size, 0, none⟩) 1 1) rfl 1 (bvs [46]) (src_byte (c := 46) (cell_alloc_eq (by simp) rfl)) (by rw [bvs_length]; unfold maxLen; omega) (by rw [bvs_length]; omega) ?x0)
          case x0 =>
            intro v4 w4 ha4 hc4 ho4
            have ho := HO.out.step ((Chg.refl _ wr).alloc _) ha4 hc4 ho4 (by omega)
            have hEl : (D ++ [46]).length ≤ D.length + 1 := by simp
            generalize hE : D ++ [46] = E at ho hEl
            obtain ⟨va, vc, rfl⟩ := ho.shape
            have HO2 := Lib.hid ho
            have HFIN := Lib.hid (show rows ((L.take (j + 1)).map dot) = E ++ x ++ [13, 10] by rw [HFIN0.out, hE])
            clear ha4 hc4 ho4 ho hE
            go_wp2_with (at_builtin; refine wpList_append_arr _ rfl _ _ 22 22 rfl 5 i0 (.int .u8 0) 1 1 Tryd.underlying22 hi0 hx0 hz0 hb0 rfl (by decide) (.slice va E.length vc) (bvs E) rfl HO2.out.arr (.slice (some ⟨bl2, o2, none⟩) x.length pc) rfl x.length (bvs x) ((HPW.out.kept HO2.out.chg (fun _ _ _ h => h)).src (bvs_one _) Tryd.underlying22) (by rw [bvs_length]; unfold maxLen; omega) (by rw [bvs_length]; omega) ?x1)
            case x1 =>
              intro v5 w5 ha5 hc5 ho5 _
              have ho := HO2.out.step (Chg.refl _ _) ha5 hc5 ho5 (by omega)
              have hln : (E ++ x).length ≤ 4 * b.length + 4 := by rw [List.length_append]; omega
              generalize hG : E ++ x = G at ho hln
              obtain ⟨vb, vd, rfl⟩ := ho.shape
              have HO3 := Lib.hid ho
              have HG := Lib.hid hG
              clear ha5 hc5 ho5 ho hG
              go_wp2_with (at_builtin; refine wpList_append_arr _ rfl _ _ 22 22 rfl 5 i0 (.int .u8 0) 1 1 Tryd.underlying22 hi0 hx0 hz0 hb0 rfl (by decide) (.slice vb G.length vd) (bvs G) rfl (HO3.out.more ((Chg.refl _ w5).alloc _)).arr (.slice (some ⟨w5.heap.size, 0, none⟩) 2 2) rfl 2 (bvs [13, 10]) ((Rd.fresh w5 _ _ _ 2 2 [13, 10] (by rfl) (by rfl) (by decide) (by decide)).src (bvs_one _) Tryd.underlying22) (by rw [bvs_length]; unfold maxLen; omega) (by rw [bvs_length]; omega) ?x2)
              case x2 =>
                intro v6 w6 ha6 hc6 ho6
                have ho := HO3.out.step ((Chg.refl _ w5).alloc _) ha6 hc6 ho6 (by omega)
                rw [← HG.out] at ho
                obtain ⟨vf, vg, rfl⟩ := ho.shape
                have HO4 := Lib.hid ho
                clear ha6 hc6 ho6 ho
                go_wp2
                go_roundg (gk - 1)
                case measure => omega
                case rel =>
                  refine ⟨j + 1, vf, vg, by rw [← HLL.out]; omega, by go_num, ?_, ?_⟩
                  · rw [← HLL.out, HFIN.out]
                  · rw [← HLL.out, HFIN.out]; exact HO4.out
        · have HFIN := Lib.hid (show rows ((L.take (j + 1)).map dot) = D ++ x ++ [13, 10] by rw [HSU.out]; unfold dot; rw [if_neg h46]; simp)
          by_cases hx0' : x = []
          · have hxp : ¬ 0 < x.length := by rw [hx0']; decide
            have hxp2 : ¬ (0 : Int) < x.length := by rw [hx0']; decide
            clear hx0' h46
            go_wp2_with (at_builtin; refine wpList_append_arr _ rfl _ _ 22 22 rfl 5 i0 (.int .u8 0) 1 1 Tryd.underlying22 hi0 hx0 hz0 hb0 rfl (by decide) (.slice oa D.length oc) (bvs D) rfl HO.out.arr (.slice pa x.length pc) rfl x.length (bvs x) ((HPW.out.kept HO.out.chg (fun _ _ _ h => h)).src (bvs_one _) Tryd.underlying22) (by rw [bvs_length]; unfold maxLen; omega) (by rw [bvs_length]; omega) ?x1)
            case x1 =>
              intro v5 w5 ha5 hc5 ho5 _
              have ho := HO.out.step (Chg.refl _ _) ha5 hc5 ho5 (by omega)
              have hln : (D ++ x).length ≤ 4 * b.length + 4 := by rw [List.length_append]; omega
              generalize hG : D ++ x = G at ho hln
              obtain ⟨vb, vd, rfl⟩ := ho.shape
              have HO3 := Lib.hid ho
              have HG := Lib.hid hG
              clear ha5 hc5 ho5 ho hG
              go_wp2_with (at_builtin; refine wpList_append_arr _ rfl _ _ 22 22 rfl 5 i0 (.int .u8 0) 1 1 Tryd.underlying22 hi0 hx0 hz0 hb0 rfl (by decide) (.slice vb G.length vd) (bvs G) rfl (HO3.out.more ((Chg.refl _ w5).alloc _)).arr (.slice (some ⟨w5.heap.size, 0, none⟩) 2 2) rfl 2 (bvs [13, 10]) ((Rd.fresh w5 _ _ _ 2 2 [13, 10] (by rfl) (by rfl) (by decide) (by decide)).src (bvs_one _) Tryd.underlying22) (by rw [bvs_length]; unfold maxLen; omega) (by rw [bvs_length]; omega) ?x2)
              case x2 =>
                intro v6 w6 ha6 hc6 ho6
                have ho := HO3.out.step ((Chg.refl _ w5).alloc _) ha6 hc6 ho6 (by omega)
                rw [← HG.out] at ho
                obtain ⟨vf, vg, rfl⟩ := ho.shape
                have HO4 := Lib.hid ho
                clear ha6 hc6 ho6 ho
                go_wp2
                go_roundg (gk - 1)
                case measure => omega
                case rel =>
                  refine ⟨j + 1, vf, vg, by rw [← HLL.out]; omega, by go_num, ?_, ?_⟩
                  · rw [← HLL.out, HFIN.out]
                  · rw [← HLL.out, HFIN.out]; exact HO4.out
          · have hxp : 0 < x.length := List.length_pos_iff.2 hx0'
            have hxp2 : (0 : Int) < x.length := by omega
            obtain ⟨bl2, o2, rfl, hc0⟩ := HPR.out.byte 0 hxp
            have t46 : ((x[0].toNat : Int) == 46) = false := by
              simp only [beq_eq_false_iff_ne, ne_eq]
              intro e
              have e2 : x[0] = 46 := by apply UInt8.toNat_inj.1; simpa using (by omega : x[0].toNat = 46)
              apply h46; rw [List.head?_eq_getElem?, List.getElem?_eq_getElem hxp, e2]
            simp only [Nat.add_zero] at hc0
            generalize x[0] = c0 at hc0 t46
            clear hx0' h46
            go_wp2_with (at_builtin; refine wpList_append_arr _ rfl _ _ 22 22 rfl 5 i0 (.int .u8 0) 1 1 Tryd.underlying22 hi0 hx0 hz0 hb0 rfl (by decide) (.slice oa D.length oc) (bvs D) rfl HO.out.arr (.slice (some ⟨bl2, o2, none⟩) x.length pc) rfl x.length (bvs x) ((HPW.out.kept HO.out.chg (fun _ _ _ h => h)).src (bvs_one _) Tryd.underlying22) (by rw [bvs_length]; unfold maxLen; omega) (by rw [bvs_length]; omega) ?x1)
            case x1 =>
              intro v5 w5 ha5 hc5 ho5 _
              have ho := HO.out.step (Chg.refl _ _) ha5 hc5 ho5 (by omega)
              have hln : (D ++ x).length ≤ 4 * b.length + 4 := by rw [List.length_append]; omega
              generalize hG : D ++ x = G at ho hln
              obtain ⟨vb, vd, rfl⟩ := ho.shape
              have HO3 := Lib.hid ho
              have HG := Lib.hid hG
              clear ha5 hc5 ho5 ho hG
              go_wp2_with (at_builtin; refine wpList_append_arr _ rfl _ _ 22 22 rfl 5 i0 (.int .u8 0) 1 1 Tryd.underlying22 hi0 hx0 hz0 hb0 rfl (by decide) (.slice vb G.length vd) (bvs G) rfl (HO3.out.more ((Chg.refl _ w5).alloc _)).arr (.slice (some ⟨w5.heap.size, 0, none⟩) 2 2) rfl 2 (bvs [13, 10]) ((Rd.fresh w5 _ _ _ 2 2 [13, 10] (by rfl) (by rfl) (by decide) (by decide)).src (bvs_one _) Tryd.underlying22) (by rw [bvs_length]; unfold maxLen; omega) (by rw [bvs_length]; omega) ?x2)
              case x2 =>
                intro v6 w6 ha6 hc6 ho6
                have ho := HO3.out.step ((Chg.refl _ w5).alloc _) ha6 hc6 ho6 (by omega)
                rw [← HG.out] at ho
                obtain ⟨vf, vg, rfl⟩ := ho.shape
                have HO4 := Lib.hid ho
                clear ha6 hc6 ho6 ho
                go_wp2
                go_roundg (gk - 1)
                case measure => omega
                case rel =>
                  refine ⟨j + 1, vf, vg, by rw [← HLL.out]; omega, by go_num, ?_, ?_⟩
                  · rw [← HLL.out, HFIN.out]
                  · rw [← HLL.out, HFIN.out]; exact HO4.out
  · have t1 : (wholeP b != 0) = true := by rw [← look_whole]; simpa using h0
    have HL := Lib.hid h0
    have HW := Lib.hid (look_whole b)
    clear h0
    go_enter Tryd.func21, Tryd.ntmps21
    go_wp2_with fail
    refine (whole_calls W ba bc b HB.out hl).mono ?_
    rintro e w1 ⟨rfl, c1⟩
    have C1 := Lib.hid c1
    clear c1
    go_wp2
    go_ret2
    unfold RStuffSays
    rw [if_neg HL.out, HW.out]
    exact ⟨rfl, C1.out⟩
end Go.Proofs.YtmenphpilckphaaDoor
