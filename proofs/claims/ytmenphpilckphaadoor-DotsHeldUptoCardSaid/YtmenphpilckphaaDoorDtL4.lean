/- The law DotsHeld, walked. No condition but what is stated. -/
import Derived.Test.YtmenphpilckphaaDoorDtL3
import Derived.Test.YtmenphpilckphaaDoorDtHlp
import Derived.Test.YtmenphpilckphaaDoorDtG
namespace Go.Proofs.YtmenphpilckphaaDoor
set_option linter.unusedVariables false
open Go Go.RowKit Go.ChangeShapes Go.WideShapes Go.ChangeAt Dt

def HlRel (w5 : World) (b : Nat) (ls : List (List UInt8)) (g : Nat) (kv tv iv : Value) (wr : World) : Prop :=
  ∃ j : Nat, j + g = ls.length ∧ iv = .int .i64 j ∧ kv = .int .i64 (upTo ls j).length ∧ tv = .int .i64 (hd 16777216 16777216 (upTo ls j)).told.length ∧ (hd 16777216 16777216 (upTo ls j)).ended = false ∧ RdrAt wr b 16777216 16777216 (rs 16777216 (upTo ls j)).d false ∧ Chg (· = b) w5 wr
def dpN (Q : List UInt8) (j : Nat) : Nat := ((beginsN Q).take j).countP fun a => Q[a]? == some 46
theorem dpN_succ (Q : List UInt8) (j : Nat) (h : j < (beginsN Q).length) : dpN Q (j + 1) = dpN Q j + if (Q[(beginsN Q)[j]]? == some 46) = true then 1 else 0 := by
  unfold dpN
  rw [List.take_succ_eq_append_getElem h, List.countP_append, List.countP_singleton]
theorem dpN_all (Q : List UInt8) : dpN Q (beginsN Q).length = dropN Q := by unfold dpN dropN; rw [List.take_length]
theorem dpN_le (Q : List UInt8) (j : Nat) : dpN Q j ≤ j := by
  unfold dpN
  have := List.countP_le_length (p := fun a => Q[a]? == some 46) (l := (beginsN Q).take j)
  rw [List.length_take] at this; omega
def DpRel (W : World) (Q : List UInt8) (g : Nat) (dv iv : Value) (wr : World) : Prop := ∃ j : Nat, j + g = (beginsN Q).length ∧ iv = .int .i64 j ∧ dv = .int .i64 (dpN Q j) ∧ wr = W
set_option maxHeartbeats 8000000 in
set_option maxRecDepth 100000 in
theorem held_walk (W : World) (hg : Glb W) (sa ca : Option Addr) (sc cc : Nat) (S : List UInt8) (cs : List Int) (hs : Rd W (.slice sa S.length sc) 1 (bvs S)) (hc : Rd W (.slice ca cs.length cc) 1 (cs.map (Value.int .i64))) (hl : S.length ≤ 1048576) (hcl : cs.length ≤ 1048576) :
    Calls Tryd.prog 9 #[.slice sa S.length sc, .slice ca cs.length cc] W fun r w' => r = .returned (.bool true) ∧ Chg (fun _ => False) W w' := by
  obtain ⟨i0, hi0, hx0, hz0, hb0⟩ := info_parts Tryd.infoByte
  have kc := fun (w : World) (b : Nat) (hb : b = w.heap.size) (C : Array Value) (n c : Nat) => run_const (P := Tryd.prog) w b hb 22 5 C n c Tryd.underlying22 Tryd.underlying5
  have HG := Lib.hid hg
  have HS := Lib.hid hs
  have HCS := Lib.hid hc
  have hcap := hs.capLe
  clear hg hs hc
  have hbig : ¬ (16777216 : Int) < S.length := by omega
  go_enter Tryd.func9, Tryd.ntmps9
  go_wp2_with fail
  refine (dots_new 16777216 16777216 W (by omega) (by omega) (by omega) (by omega)).mono ?_
  rintro e w1 ⟨rfl, hr1, c1⟩
  have R1 := Lib.hid hr1
  have C1 := Lib.hid c1
  have l1 := lt_of_block hr1.blk
  clear hr1 c1
  go_wp2_with fail
  refine (pieces_calls W _ sa ca sc cc S cs HS.out (HCS.out.kept C1.out (fun _ _ _ h => h)) (by omega) (by omega)).mono ?_
  rintro e w5 ⟨oa, oc, xs, ls, rfl, o5, s5, f5, n5⟩
  have O5 := Lib.hid o5
  have S5 := Lib.hid s5
  have F5 := Lib.hid f5
  have N5 := Lib.hid n5
  have C5 := Lib.hid (C1.out.trans o5.chg (fun _ _ h => h))
  have R5 := Lib.hid (R1.out.kept o5.chg (fun h => h))
  have hxl1 : xs.length ≤ ls.length := by rw [s5.1]; exact Nat.le_refl _
  have hxl2 : ls.length ≤ xs.length := by rw [s5.1]; exact Nat.le_refl _
  have hxn : xs.length ≤ 1048577 := by omega
  have hw5 := o5.chg.size
  clear o5 s5 f5 n5
  go_wp2_with fail
  go_loopg [7, 8, 32] ls.length (HlRel w5 W.heap.size ls)
  case atStart =>
    refine ⟨0, by omega, rfl, rfl, ?_, ?_, ?_, Chg.refl _ _⟩
    · rw [show upTo ls 0 = [] from rfl, hd_nil]; rfl
    · rw [show upTo ls 0 = [] from rfl, hd_nil]
    · rw [show upTo ls 0 = [] from rfl, rs_nil]; exact R5.out
  case round =>
    obtain ⟨j, hj, rfl, rfl, rfl, hne, hrd, hch⟩ := hrel
    have HNE := Lib.hid hne
    have HRD := Lib.hid hrd
    have HC := Lib.hid hch
    have hsz := hch.size
    have CW := Lib.hid (C5.out.over hch (Nat.le_refl _))
    clear hne hrd hch
    by_cases hg0 : gk = 0
    · have hlt : ¬ (j : Int) < xs.length := by omega
      have W7 := Lib.hid (wakes_calls wr (HG.out.kept CW.out (fun h => h)))
      go_wp2_with fail
      refine W7.out.mono ?_
      rintro e w8 ⟨rfl, c8⟩
      have C8 := Lib.hid (CW.out.trans c8 (fun _ _ h => h))
      clear c8
      go_wp2
      go_ret
      exact ⟨rfl, C8.out⟩
    · have hlt : (j : Int) < xs.length := by omega
      have hjl : j < ls.length := by omega
      have hjx : j < xs.length := by omega
      have hvr := (O5.out.arr.kept HC.out (fun k hk e => by have := O5.out.own k hk; omega)).rd
      obtain ⟨bl, o, rfl, hcell⟩ := hvr.at (by intro e; rw [e] at hjx; simp at hjx)
      have hcj := hcell j hjx
      have hpj := S5.out.2 j hjx hjl
      generalize xs[j] = pv at hcj hpj
      have hsu := upTo_succ ls j hjl
      have hQS : ∃ r, S = upTo ls (j + 1) ++ r := ⟨(ls.drop (j + 1)).flatten, by rw [← F5.out]; unfold upTo; rw [← List.flatten_append, List.take_append_drop]⟩
      generalize ls[j] = p at hpj hsu
      obtain ⟨Q, hQ⟩ : ∃ Q, Q = upTo ls (j + 1) := ⟨_, rfl⟩
      rw [← hQ] at hsu hQS
      have HQ := Lib.hid hQ
      obtain ⟨P, hP⟩ : ∃ P, P = upTo ls j := ⟨_, rfl⟩
      rw [← hP] at hsu HNE HRD ⊢
      obtain ⟨rest, hrest⟩ := hQS
      have hQt : S.take Q.length = Q := by rw [hrest, List.take_left']; rfl
      have hQl : Q.length ≤ S.length := by rw [hrest, List.length_append]; omega
      have HQT := Lib.hid hQt
      have HREST := Lib.hid hrest
      have hPQ : (P.length : Int) + p.length = (Q.length : Int) := by rw [hsu, List.length_append]; omega
      have hPQ2 : P.length + p.length ≤ Q.length := by omega
      have HSU := Lib.hid hsu
      clear hQ hP hrest hQt hsu hcell hvr
      obtain ⟨pa, pn, pc, rfl, hpn, _⟩ := hpj.shape
      rw [bvs_length, Nat.mul_one] at hpn
      subst hpn
      have HPJ := Lib.hid hpj
      have hRdW : Hid (Rd wr (.slice pa p.length pc) 1 (bvs p)) := Lib.hid (hpj.kept CW.out (fun _ _ _ h => h))
      clear hpj
      have hsep : Hid (p ≠ [] → ∀ k, (Value.slice pa p.length pc).ownBlock = some k → k ≠ W.heap.size) := Lib.hid (fun hne k hk e => by have := HPJ.out.lt (bvs_ne.2 hne) k hk; omega)
      have hsz2 : Hid ((rs 16777216 P).d.size ≤ 2 * P.length) := Lib.hid (rs_size _ _)
      have HPQ := Lib.hid hPQ
      clear hPQ
      go_wp2_with fail
      refine (dots_takes' wr W.heap.size 16777216 16777216 (rs 16777216 P) HRD.out (.slice pa p.length pc) p hRdW.out hsep.out (by have := hsz2.out; omega) (by omega)).mono ?_
      intro e w6 h6
      obtain ⟨n, x, r', hx⟩ : ∃ n x r', RS.take 16777216 16777216 (rs 16777216 P) p = (n, x, r') := ⟨_, _, _, rfl⟩
      rw [hx] at h6
      obtain ⟨v6, rfl, t1, t2, t3, t4⟩ := h6
      obtain ⟨hn, hcase⟩ := piece_law 16777216 16777216 P p HNE.out (by rw [← HSU.out]; omega) hx
      obtain ⟨xa, xn, xc, rfl, hxn5, _⟩ := t2.shape
      rw [bvs_length, Nat.mul_one] at hxn5
      subst hxn5
      have CW6 := Lib.hid (CW.out.over t4 (Nat.le_refl _))
      have C56 := Lib.hid (HC.out.trans t4 (fun _ _ h => h))
      have T1 := Lib.hid t1
      have hs6 := t4.size
      have c7 := (Chg.refl (fun _ => False) w6).alloc (.cells #[.int .i64 x.kind, .string ⟨x.text.toArray⟩, .slice xa x.bytes.length xc, .int .i64 x.why, .bool x.high] 30)
      have CW7 := Lib.hid (CW6.out.trans c7 (fun _ _ h => h))
      have C57 := Lib.hid (C56.out.trans (c7.mono (fun _ _ h => h.elim)) (fun _ _ (h : False) => h.elim))
      have HELD := Lib.hid (dots_held _ W.heap.size 16777216 16777216 r'.d r'.waits (t1.kept c7 (fun h => h)))
      clear hx t1 t2 t3 t4 c7
      unfold itV
      rcases hcase with ⟨hstop, hh0⟩ | ⟨hk4, hnn, htl, hends, hmore⟩
      · have hh1 : RS.held ⟨r'.d, r'.waits⟩ = 0 := hh0
        have HH1 := Lib.hid hh1
        have W7 := Lib.hid (wakes_calls _ (HG.out.kept CW7.out (fun h => h)))
        have hst : x.kind = 4 ∨ (x.kind ≠ 4 ∧ n < p.length) := by
          by_cases h : x.kind = 4
          · exact .inl h
          · exact .inr ⟨h, hstop.resolve_left h⟩
        clear hstop hh0 hh1 kc
        rcases hst with hk | ⟨hk, hlt2⟩
        · have t1 : (x.kind == 4) = true := by rw [hk]; rfl
          clear hk
          go_wp2_with fail
          refine HELD.out.mono ?_
          rintro e w8 ⟨rfl, rfl⟩
          rw [HH1.out]
          go_wp2_with fail
          refine W7.out.mono ?_
          rintro e w8 ⟨rfl, c8⟩
          have C8 := Lib.hid (CW7.out.trans c8 (fun _ _ h => h))
          clear c8
          go_wp2
          go_ret
          exact ⟨rfl, C8.out⟩
        · have t1 : (x.kind == 4) = false := by simpa using hk
          clear hk
          go_wp2_with fail
          refine HELD.out.mono ?_
          rintro e w8 ⟨rfl, rfl⟩
          rw [HH1.out]
          go_wp2_with fail
          refine W7.out.mono ?_
          rintro e w8 ⟨rfl, c8⟩
          have C8 := Lib.hid (CW7.out.trans c8 (fun _ _ h => h))
          clear c8
          go_wp2
          go_ret
          exact ⟨rfl, C8.out⟩
      · have t1 : (x.kind == 4) = false := by simpa using hk4
        subst hnn
        rw [← HSU.out] at htl hends hmore
        have hq := HPQ.out
        have hQ20 : Q.length ≤ 1048576 := by omega
        have HRQ := Lib.hid (by have := HS.out.preB Q.length hQl; rw [HQT.out] at this; exact this : Rd W (.slice sa Q.length sc) 1 (bvs Q))
        have HB := Lib.hid (begins_calls _ sa sc Q (HRQ.out.kept CW7.out (fun _ _ _ h => h)) (by omega))
        have htd : ((hd 16777216 16777216 P).told.length : Int) + x.bytes.length = (hd 16777216 16777216 Q).told.length := by omega
        have htd2 : (hd 16777216 16777216 P).told.length + x.bytes.length ≤ 1099511627776 := by have := (hd_told_le 16777216 16777216 Q).1; omega
        have HEN := Lib.hid hends
        have HMO := Lib.hid hmore
        generalize (hd 16777216 16777216 P).told.length = tP at htd htd2 ⊢
        obtain ⟨tQ, htQ⟩ : ∃ tQ, tQ = (hd 16777216 16777216 Q).told.length := ⟨_, rfl⟩
        rw [← htQ] at htd
        have htq9 : tQ ≤ 1099511627776 := by rw [htQ]; have := (hd_told_le 16777216 16777216 Q).1; omega
        have HTQ := Lib.hid htQ
        clear hk4 htl hends hmore htQ
        go_wp2_with fail
        refine HB.out.mono ?_
        rintro e w8 ⟨ba, bc, rfl, o8⟩
        have C78 := Lib.hid o8.chg
        have CW8 := Lib.hid (CW7.out.trans o8.chg (fun _ _ h => h))
        have C58 := Lib.hid (C57.out.trans (o8.chg.mono (fun _ _ h => h.elim)) (fun _ _ (h : False) => h.elim))
        have HS8 := Lib.hid (HS.out.kept CW8.out (fun _ _ _ h => h))
        have HBR := Lib.hid o8.arr.rd
        have HELD8 := Lib.hid (dots_held w8 W.heap.size 16777216 16777216 r'.d r'.waits ((T1.out.kept ((Chg.refl (fun _ => False) w6).alloc _) (fun h => h)).kept o8.chg (fun h => h)))
        have hbnl : (beginsN Q).length ≤ Q.length + 1 := by have := bgN_len Q (Q.length - 1); unfold bgN at this; unfold beginsN; omega
        obtain ⟨wo, rfl⟩ : ∃ wo : World, wo = wr := ⟨_, rfl⟩
        obtain ⟨go, rfl⟩ : ∃ go : Nat, go = gk := ⟨_, rfl⟩
        have HTD := Lib.hid htd
        have hgo : go ≠ 0 := hg0
        have KC := Lib.hid kc
        clear o8 HELD htd hq HB kc
        go_wp2_with fail
        go_loopg [13, 70] (beginsN Q).length (DpRel w8 Q)
        case atStart => exact ⟨0, by omega, rfl, rfl, rfl⟩
        case round =>
          obtain ⟨jj, hjj, rfl, rfl, rfl⟩ := hrel
          by_cases hg1 : gk = 0
          · have hlt1 : ¬ (jj : Int) < (beginsN Q).length := by omega
            have hjj2 : jj = (beginsN Q).length := by omega
            have HDP := Lib.hid (show dpN Q jj = dropN Q by rw [hjj2, dpN_all])
            have hdple := dpN_le Q jj
            rw [HDP.out] at hdple ⊢
            clear hjj2
            go_wp2_with fail
            refine HELD8.out.mono ?_
            rintro e w9 ⟨rfl, rfl⟩
            have hfact : ∃ hv : Int, RS.held ⟨r'.d, r'.waits⟩ = hv ∧ 0 ≤ hv ∧ hv ≤ 2 ∧ ((endsB Q = true ∧ hv = 0) ∨ (endsB Q = false ∧ (hd 16777216 16777216 Q).ended = false ∧ r' = rs 16777216 Q ∧ (Q.length : Int) - tQ = dropN Q + max (hv - 1) 0)) := by
              have hm := HMO.out
              have he := HEN.out
              have ht := HTQ.out
              rcases hm with ⟨m1, m2⟩ | ⟨m1, m2, m3, m4, m5⟩
              · exact ⟨0, m2, by omega, by omega, .inl ⟨by rw [he]; exact m1, rfl⟩⟩
              · exact ⟨RS.held r', rfl, m4, m5, .inr ⟨by rw [he]; exact m1, m1, m2, by rw [ht]; exact m3⟩⟩
            obtain ⟨hv, hhv, hv0, hv2, hvc⟩ := hfact
            rw [hhv]
            have HVC := Lib.hid hvc
            have nv0 : ¬ hv < 0 := by omega
            have nv2 : ¬ (2 : Int) < hv := by omega
            clear hhv hvc
            go_upto_region 25 with (fail)
            go_cut [17] (fun e wx => e = .bool (endsB Q) ∧ Chg (fun _ => False) wr wx)
            case first =>
              by_cases h3 : 3 ≤ Q.length
              · have h3i : (3 : Int) ≤ (Q.length : Int) := by omega
                have kc := KC.out
                have hq9 : Q.length ≤ sc := by omega
                have c9 := (Chg.refl (fun _ => False) wr).alloc (.cells #[.int .u8 13, .int .u8 10] 5 (2, 3))
                have C9 := Lib.hid c9
                have HBASE := Lib.hid (show Arr (wr.alloc (.cells #[.int .u8 13, .int .u8 10] 5 (2, 3))) 5 1 (.slice (some ⟨wr.heap.size, 0, none⟩) 2 2) (bvs [13, 10]) from
                  .inr ⟨wr.heap.size, 0, 2, 2, _, _, rfl, by omega, by unfold maxLen; omega, heap_alloc_at _ _, by simp, fun i _ h2 h3 => by omega, by simp [bvs], by simp [bvs]⟩)
                have HRQ9 := Lib.hid ((HRQ.out.kept CW8.out (fun _ _ _ h => h)).kept c9 (fun _ _ _ h => h))
                clear c9
                go_wp2_with (at_builtin; refine wpList_append_arr_g _ (by go_simp) _ _ 22 22 rfl 5 i0 (.int .u8 0) 1 1 Tryd.underlying22 hi0 hx0 hz0 hb0 rfl (by decide) (.slice (some ⟨wr.heap.size, 0, none⟩) 2 2) (bvs [13, 10]) rfl HBASE.out (.slice sa Q.length sc) rfl Q.length (bvs Q) (HRQ9.out.src (bvs_one _) Tryd.underlying22) (by simp [bvs]; unfold maxLen; omega) (by simp [bvs]; omega) ?e1)
                case e1 =>
                  intro va wa haa hca hoa
                  have ca : Chg (fun _ => False) wr wa := C9.out.trans hca (fun k hk e => by simp [Value.ownBlock] at e; omega)
                  have haa' : Arr wa 5 1 va (bvs ([13, 10] ++ Q)) := by rw [bvs_append]; exact haa
                  obtain ⟨va1, vn1, vc1, rfl, -⟩ := haa'.shape
                  obtain rfl : vn1 = ([13, 10] ++ Q).length := haa'.rd.len
                  have HAA := Lib.hid haa'.rd
                  have CA := Lib.hid ca
                  have HE := Lib.hid (show Lib.hasSuffix ([13, 10] ++ Q) [13, 10, 46, 13, 10] = endsB Q by unfold endsB; rw [show decide (3 ≤ Q.length) = true from by simpa using h3]; rfl)
                  clear haa hca hoa ca haa'
                  go_wp2_with fail
                  have cb := (Chg.refl (fun _ => False) wa).alloc (.cells #[.int .u8 13, .int .u8 10, .int .u8 46, .int .u8 13, .int .u8 10] 5 (5, 6))
                  refine (suffix_calls _ va1 (some ⟨wa.heap.size, 0, none⟩) vc1 5 ([13, 10] ++ Q) [13, 10, 46, 13, 10] (HAA.out.kept cb (fun _ _ _ h => h)) (Rd.fresh wa _ _ _ 5 5 [13, 10, 46, 13, 10] (by rfl) (by rfl) (by decide) (by decide))).mono ?_
                  rintro e wb ⟨rfl, rfl⟩
                  rw [HE.out]
                  have CB := Lib.hid (CA.out.trans cb (fun _ _ h => h))
                  clear cb
                  go_wp2
                  go_meet
                  exact ⟨rfl, CB.out⟩
              · have h3i : ¬ (3 : Int) ≤ (Q.length : Int) := by omega
                have HE := Lib.hid (show endsB Q = false by unfold endsB; rw [show decide (3 ≤ Q.length) = false from by simpa using h3]; rfl)
                clear h3
                go_wp2
                go_meet
                exact ⟨by rw [HE.out], Chg.refl _ _⟩
            case rest =>
              obtain ⟨rfl, hcc⟩ := hcut
              have CWc := Lib.hid (CW8.out.trans hcc (fun _ _ h => h))
              have C5c := Lib.hid (C58.out.trans (hcc.mono (fun _ _ h => h.elim)) (fun _ _ (h : False) => h.elim))
              have RC := Lib.hid (((T1.out.kept ((Chg.refl (fun _ => False) w6).alloc _) (fun h => h)).kept C78.out (fun h => h)).kept hcc (fun h => h))
              have WC := Lib.hid (wakes_calls wc (HG.out.kept CWc.out (fun h => h)))
              clear hcc
              rcases HVC.out with ⟨he, rfl⟩ | ⟨he, hed, rfl, hlaw⟩
              · rw [he]
                clear he nv0 nv2
                go_wp2_with fail
                refine WC.out.mono ?_
                rintro e w11 ⟨rfl, c11⟩
                have C11 := Lib.hid (CWc.out.trans c11 (fun _ _ h => h))
                clear c11
                go_wp2
                go_ret
                exact ⟨rfl, C11.out⟩
              · rw [he]
                have tne : ((Q.length : Int) - (tQ : Int) != (dropN Q : Int) + max (hv - 1) 0) = false := by
                  rw [hlaw]; simp
                have HED := Lib.hid hed
                have hqa := HQ.out
                have HQE := Lib.hid hqa
                clear he hed hlaw hqa
                go_wp2
                go_roundg (go - 1)
                case measure => omega
                case rel => exact ⟨j + 1, by omega, by go_num, by rw [← HQE.out], by rw [← HQE.out, ← HTQ.out], by rw [← HQE.out]; exact HED.out, by rw [← HQE.out]; exact RC.out, C5c.out⟩
          · have hlt1 : (jj : Int) < (beginsN Q).length := by omega
            have hjl1 : jj < (beginsN Q).length := by omega
            obtain ⟨bl1, o1, rfl, hcell1⟩ := HBR.out.at (by intro e; have := iv_len (beginsN Q); rw [e] at this; simp at this; rw [this.symm] at hjl1; simp at hjl1)
            have hcj1 := hcell1 jj (by rw [iv_len]; exact hjl1)
            have hvj : (iv (beginsN Q))[jj]'(by rw [iv_len]; exact hjl1) = .int .i64 (((beginsN Q)[jj] : Nat) : Int) := by simp [iv]
            rw [hvj] at hcj1
            have hble := begins_le Q (beginsN Q)[jj] (List.getElem_mem hjl1)
            have hds := dpN_succ Q jj hjl1
            have hdple := dpN_le Q jj
            generalize (beginsN Q)[jj] = i at hcj1 hble hds
            clear hcell1 hvj
            by_cases hiQ : i < Q.length
            · have hi1 : (i : Int) < (Q.length : Int) := by omega
              have hiS : i < S.length := by omega
              have hiS2 : (i : Int) < (S.length : Int) := by omega
              obtain ⟨bl2, o2, rfl, hc0⟩ := HS8.out.byte i hiS
              have hSQ : S[i]? = Q[i]? := by
                have := HREST.out
                rw [this, List.getElem?_append_left hiQ]
              rw [← hSQ, List.getElem?_eq_getElem hiS] at hds
              clear hSQ
              by_cases h46 : S[i] = 46
              · have t2 : ((S[i].toNat : Int) == 46) = true := by rw [h46]; rfl
                have HDS := Lib.hid (show dpN Q (jj + 1) = dpN Q jj + 1 by rw [hds, h46]; rfl)
                clear hds h46
                go_wp2
                go_roundg (gk - 1)
                case measure => omega
                case rel => exact ⟨jj + 1, by omega, by go_num, by rw [HDS.out]; go_num, rfl⟩
              · have t2 : ((S[i].toNat : Int) == 46) = false := by
                  simp only [beq_eq_false_iff_ne, ne_eq]
                  intro e; apply h46; apply UInt8.toNat_inj.1; simpa using (by omega : S[i].toNat = 46)
                have HDS := Lib.hid (show dpN Q (jj + 1) = dpN Q jj by rw [hds]; simp [h46])
                clear hds h46
                go_wp2
                go_roundg (gk - 1)
                case measure => omega
                case rel => exact ⟨jj + 1, by omega, by go_num, by rw [HDS.out], rfl⟩
            · have hi1 : ¬ (i : Int) < (Q.length : Int) := by omega
              have HDS := Lib.hid (show dpN Q (jj + 1) = dpN Q jj by rw [hds, List.getElem?_eq_none (by omega)]; rfl)
              clear hds
              go_wp2
              go_roundg (gk - 1)
              case measure => omega
              case rel => exact ⟨jj + 1, by omega, by go_num, by rw [HDS.out], rfl⟩
section
variable {H : Type} {enc : TypeId × Value → H}
theorem walk_DotsHeld (W : World) (v0 v1 : Value) (d0 d1 : DataW H) (p0 p1 : List MemPlace)
    (ok0 : ∃ base, Value.okWide Tryd.prog W .any base 22 v0) (ok1 : ∃ base, Value.okWide Tryd.prog W .any base 23 v1)
    (h0 : DataW.Trod enc Tryd.prog W 0 (fun _ => true) true 22 v0 d0 p0) (h1 : DataW.Trod enc Tryd.prog W 0 (fun _ => true) true 23 v1 d1 p1)
    (hk : Rows.uptoBulkAll [d0, d1] ≤ 1048576) (hsh : W.ShapedOpen Tryd.prog) :
    Calls Tryd.prog 9 #[v0, v1] W fun e w' => e = .returned (.bool true) ∧ Below W.heap.size W w' := by
  simp only [Rows.uptoBulkAll] at hk
  obtain ⟨S, hs, hs2⟩ := arg_bytes Tryd.underlying22 Tryd.underlying5 Tryd.cellsByte ok0 h0
  obtain ⟨cs, hc, hw, hc2⟩ := arg_ints Tryd.underlying23 Tryd.underlying3 Tryd.cellsInt ok1 h1
  obtain ⟨sa, sn, sc, rfl, _⟩ := hs.shape
  obtain rfl : sn = S.length := hs.len
  obtain ⟨ca, cn, cc, rfl, hcn, _⟩ := hc.shape
  obtain rfl : cn = cs.length := by simpa using hcn.symm
  exact (held_walk W (glb_of hsh) sa ca sc cc S cs hs hc (by omega) (by omega)).mono fun e w' ⟨he, c⟩ => ⟨he, c.below (Nat.le_refl _) (fun _ _ h => h)⟩
end
end Go.Proofs.YtmenphpilckphaaDoor
