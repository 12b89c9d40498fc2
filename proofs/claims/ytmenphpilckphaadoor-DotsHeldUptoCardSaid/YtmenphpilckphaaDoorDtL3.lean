/- The law DotsAgain, walked. No condition but what is stated. -/
import Derived.Test.YtmenphpilckphaaDoorDtL2
import Derived.Test.YtmenphpilckphaaDoorDtC7
import Derived.Test.YtmenphpilckphaaDoorDtAgn
namespace Go.Proofs.YtmenphpilckphaaDoor
set_option linter.unusedVariables false
open Go Go.RowKit Go.ChangeShapes Go.WideShapes Go.ChangeAt Dt

theorem Rd.pre {w : World} {ao : Option Addr} {n cap sz : Nat} {xs : List Value} (h : Rd w (.slice ao n cap) sz xs) (k : Nat) (hk : k ≤ n) : Rd w (.slice ao k cap) sz (xs.take (k * sz)) := by
  obtain ⟨ao', n', cap', e1, r1, r2, r3, r4, r5⟩ := h
  injection e1 with e1 e2 e3
  subst e1 e2 e3
  have hle : k * sz ≤ n * sz := Nat.mul_le_mul_right _ hk
  refine ⟨ao, k, cap, rfl, by rw [List.length_take]; omega, by omega, r3, fun hn => ⟨by have := r4 hn; omega, (r4 hn).2⟩, fun a ha hx => ?_⟩
  have hne : xs ≠ [] := by rintro rfl; simp at hx
  refine ⟨(r5 a ha hne).1, fun i hi => ?_⟩
  rw [List.length_take] at hi
  rw [(r5 a ha hne).2 i (by omega), List.getElem_take]
theorem Rd.preB {w : World} {ao : Option Addr} {n cap : Nat} {l : List UInt8} (h : Rd w (.slice ao n cap) 1 (bvs l)) (k : Nat) (hk : k ≤ n) : Rd w (.slice ao k cap) 1 (bvs (l.take k)) := by
  have := h.pre k hk
  rw [Nat.mul_one] at this
  have e : (bvs l).take k = bvs (l.take k) := by simp [bvs]
  rw [e] at this
  exact this
def AgRel (W : World) (P : List UInt8) (g : Nat) (iv : Value) (wr : World) : Prop := ∃ j : Nat, j + g = (beginsN P).length ∧ iv = .int .i64 j ∧ (∀ i (h : i < (beginsN P).length), i < j → oneDot P (beginsN P)[i] = false) ∧ wr = W
set_option maxHeartbeats 4000000 in
set_option maxRecDepth 100000 in
theorem again_walk (W : World) (hg : Glb W) (sa ca : Option Addr) (sc cc : Nat) (S : List UInt8) (cs : List Int) (hs : Rd W (.slice sa S.length sc) 1 (bvs S)) (hc : Rd W (.slice ca cs.length cc) 1 (cs.map (Value.int .i64))) (hl : S.length ≤ 1048576) (hcl : cs.length ≤ 1048576) :
    Calls Tryd.prog 5 #[.slice sa S.length sc, .slice ca cs.length cc] W fun r w' => r = .returned (.bool true) ∧ Chg (fun _ => False) W w' := by
  have HG := Lib.hid hg
  have HS := Lib.hid hs
  have HCS := Lib.hid hc
  have hcap := hs.capLe
  clear hg hs hc
  have hbig : ¬ (16777216 : Int) < S.length := by omega
  go_enter Tryd.func5, Tryd.ntmps5
  go_wp2_with fail
  refine (dots_new 16777216 16777216 W (by omega) (by omega) (by omega) (by omega)).mono ?_
  rintro e w1 ⟨rfl, hr1, c1⟩
  have R1 := Lib.hid hr1
  have C1 := Lib.hid c1
  have l1 := lt_of_block hr1.blk
  clear hr1 c1
  go_wp2_with fail
  refine (pieces_calls W _ sa ca sc cc S cs HS.out (HCS.out.kept C1.out (fun _ _ _ h => h)) (by omega) (by omega)).mono ?_
  rintro e w5 ⟨oa, oc, xs, ls, rfl, o5, s5, f5, n5⟩
  have HH := Lib.hid (heard_calls W w5 W.heap.size 16777216 16777216 (R1.out.kept o5.chg (fun h => h)) (by omega) (by omega) (C1.out.trans o5.chg (fun _ _ h => h)) w1 l1 oa oc xs ls S o5 C1.out s5 f5 (by omega) hl)
  clear o5 s5 f5 n5
  go_wp2_with fail
  refine HH.out.mono ?_
  rintro e w6 ⟨H, ta, tc, ea, ec, rfl, p6⟩
  have P6 := Lib.hid p6
  have C6 := Lib.hid p6.chg
  clear p6
  unfold hearC
  have c7 := (Chg.refl (fun _ => False) w6).alloc (.cells (hearC H ta tc ea ec) 32)
  have b7 := heap_alloc_at w6 (.cells (hearC H ta tc ea ec) 32)
  unfold hearC at c7 b7
  have C7 := Lib.hid (C6.out.trans c7 (fun _ _ h => h))
  have W7 := Lib.hid (wakes_calls _ (HG.out.kept C7.out (fun h => h)))
  obtain ⟨w7, hw7⟩ : ∃ w7, w7 = w6.alloc (.cells #[.slice ta H.told.length tc, .int .i64 H.taken, .bool H.ended, .int .i64 H.fin.kind, .string ⟨H.fin.text.toArray⟩, .slice ea 0 ec, .int .i64 H.fin.why, .bool H.fin.high, .bool true] 32) := ⟨_, rfl⟩
  go_upto_if 30 with (fail)
  rw [← hw7] at c7 b7 C7 W7 ⊢
  have T7 := Lib.hid (P6.out.told.kept c7 (fun _ _ h => h))
  clear hw7 c7
  obtain ⟨x0, x1, x2, x3, x4, x5, x6, x7, x8⟩ := nine b7
  have lx := lt_of_block b7
  clear x3 x4 x5 x7 b7
  by_cases he : H.ended = true
  · have hw := why_law 16777216 16777216 S (by rw [← P6.out.is]; exact he) (by omega) (by omega)
    rw [← P6.out.is] at hw
    rw [he] at x2
    have HE := Lib.hid he
    clear he
    rcases hw with hw | hw
    · rw [hw] at x6
      clear hw
      go_wp2_with fail
      refine W7.out.mono ?_
      rintro e w8 ⟨rfl, c8⟩
      have C8 := Lib.hid (C7.out.trans c8 (fun _ _ h => h))
      clear c8
      go_wp2
      go_ret
      exact ⟨rfl, C8.out⟩
    · rw [hw] at x6
      have HW := Lib.hid hw
      clear hw
      obtain ⟨P, hP⟩ : ∃ P, P = S.take H.taken := ⟨_, rfl⟩
      have htl : H.taken ≤ S.length := by have := (hd_told_le 16777216 16777216 S).2; rw [← P6.out.is] at this; exact this
      have hPl : H.taken = P.length := by rw [hP, List.length_take]; omega
      rw [hPl] at x1
      have hrp := HS.out.preB H.taken htl
      rw [← hP, hPl] at hrp
      have HRP := Lib.hid (hrp.kept C7.out (fun _ _ _ h => h))
      have hpl : P.length ≤ S.length := by rw [← hPl]; exact htl
      have hbnl : (beginsN P).length ≤ P.length + 1 := by have := bgN_len P (P.length - 1); unfold bgN at this; unfold beginsN; omega
      have HPP := Lib.hid hP
      have HTL := Lib.hid hPl
      clear hP hPl htl hrp
      go_wp2_with fail
      refine (begins_calls w7 sa sc P HRP.out (by omega)).mono ?_
      rintro e w8 ⟨ba, bc, rfl, o8⟩
      have O8 := Lib.hid o8
      have hcell8 := o8.arr.rd
      have C8 := Lib.hid (C7.out.trans o8.chg (fun _ _ h => h))
      have HRP8 := Lib.hid (HRP.out.kept o8.chg (fun _ _ _ h => h))
      have T8 := Lib.hid (T7.out.kept o8.chg (fun _ _ h => h))
      have x0' := o8.chg.cell x0 (fun h => h)
      have x2' := o8.chg.cell x2 (fun h => h)
      have W8 := Lib.hid (wakes_calls w8 (HG.out.kept C8.out (fun h => h)))
      have HC8 := Lib.hid hcell8
      clear o8 hcell8 x0 x1 x2 x6 x8
      go_wp2_with fail
      go_loopg [59] (beginsN P).length (AgRel w8 P)
      case atStart => exact ⟨0, by omega, rfl, fun i h hi => by omega, rfl⟩
      case round =>
        obtain ⟨j, hj, rfl, hz, rfl⟩ := hrel
        by_cases hg0 : gk = 0
        · have hlt : ¬ (j : Int) < (beginsN P).length := by omega
          have hone : ∀ i ∈ beginsN P, oneDot P i = false := fun i hi => by
            obtain ⟨q, hq, rfl⟩ := List.getElem_of_mem hi
            exact hz q hq (by omega)
          have hag := again_law 16777216 16777216 S (by rw [← P6.out.is]; exact HE.out) (by omega) (by omega) (by rw [← P6.out.is]; exact HW.out) (by rw [← P6.out.is, ← HPP.out]; exact hone)
          rw [← P6.out.is, ← HPP.out] at hag
          have HAG := Lib.hid hag
          have hto : H.told.length ≤ 1099511627776 := by have := (hd_told_le 16777216 16777216 S).1; rw [← P6.out.is] at this; omega
          clear hz hone hag
          go_wp2_with fail
          refine (stuff_calls wr ta tc H.told T8.out.rd hto).mono ?_
          intro e w9 h9
          unfold StuffSays at h9
          rw [if_pos HAG.out.1, HAG.out.2] at h9
          obtain ⟨ua, uc, rfl, o9⟩ := h9
          have C9 := Lib.hid (C8.out.trans o9.chg (fun _ _ h => h))
          have E9 := Lib.hid (equal_calls w9 ua sa uc sc P P o9.rd (HRP8.out.kept o9.chg (fun _ _ _ h => h)))
          have W9 := Lib.hid (wakes_calls w9 (HG.out.kept C9.out (fun h => h)))
          clear o9
          go_wp2_with fail
          refine E9.out.mono ?_
          rintro e w10 ⟨rfl, rfl⟩
          rw [beq_self_eq_true]
          go_wp2_with fail
          refine W9.out.mono ?_
          rintro e w11 ⟨rfl, c11⟩
          have C11 := Lib.hid (C9.out.trans c11 (fun _ _ h => h))
          clear c11
          go_wp2
          go_ret
          exact ⟨rfl, C11.out⟩
        · have hlt : (j : Int) < (beginsN P).length := by omega
          have hjl : j < (beginsN P).length := by omega
          obtain ⟨bl, o, rfl, hcell⟩ := HC8.out.at (by intro e; have := iv_len (beginsN P); rw [e] at this; simp at this; rw [this.symm] at hjl; simp at hjl)
          have hcj := hcell j (by rw [iv_len]; exact hjl)
          have hvj : (iv (beginsN P))[j]'(by rw [iv_len]; exact hjl) = .int .i64 (((beginsN P)[j] : Nat) : Int) := by simp [iv]
          rw [hvj] at hcj
          have hble := begins_le P (beginsN P)[j] (List.getElem_mem hjl)
          have HZ := Lib.hid (show oneDot P (beginsN P)[j] = false → ∀ i (h : i < (beginsN P).length), i < j + 1 → oneDot P (beginsN P)[i] = false from fun e i h hi => by
            by_cases e2 : i = j
            · subst e2; exact e
            · exact hz i h (by omega))
          generalize (beginsN P)[j] = i at hcj hble HZ
          clear hz hcell hvj
          by_cases h3 : i + 3 < P.length
          · have hi1 : (i : Int) < (P.length : Int) - 3 := by omega
            have hi0 : i < P.length := by omega
            have hi2 : i + 1 < P.length := by omega
            obtain ⟨bl2, o2, rfl, hc0⟩ := HRP8.out.byte i hi0
            obtain ⟨bl', o', he, hc1⟩ := HRP8.out.byte (i + 1) hi2
            injection he with he; injection he with he1 he2; subst he1 he2
            have hod : oneDot P i = (P[i] == 46 && P[i + 1] != 46) := by
              unfold oneDot
              rw [List.getElem?_eq_getElem hi0, List.getElem?_eq_getElem hi2, show decide (i + 3 < P.length) = true from by simpa using h3]
              rfl
            by_cases h46 : P[i] = 46
            · have t1 : ((P[i].toNat : Int) == 46) = true := by rw [h46]; rfl
              by_cases h47 : P[i + 1] = 46
              · have t2 : ((P[i + 1].toNat : Int) != 46) = false := by rw [h47]; rfl
                have HZ2 := Lib.hid (HZ.out (by rw [hod, h46, h47]; rfl))
                clear HZ hod h46 h47 h3
                go_wp2
                go_roundg (gk - 1)
                case measure => omega
                case rel => exact ⟨j + 1, by omega, by go_num, HZ2.out, rfl⟩
              · have t2 : ((P[i + 1].toNat : Int) != 46) = true := by
                  simp only [bne, Bool.not_eq_true', beq_eq_false_iff_ne, ne_eq]
                  intro e; apply h47; apply UInt8.toNat_inj.1; simpa using (by omega : P[i + 1].toNat = 46)
                clear HZ hod h46 h47 h3
                go_wp2_with fail
                refine W8.out.mono ?_
                rintro e w11 ⟨rfl, c11⟩
                have C11 := Lib.hid (C8.out.trans c11 (fun _ _ h => h))
                clear c11
                go_wp2
                go_ret
                exact ⟨rfl, C11.out⟩
            · have t1 : ((P[i].toNat : Int) == 46) = false := by
                simp only [beq_eq_false_iff_ne, ne_eq]
                intro e; apply h46; apply UInt8.toNat_inj.1; simpa using (by omega : P[i].toNat = 46)
              have HZ2 := Lib.hid (HZ.out (by rw [hod]; simp [h46]))
              clear HZ hod h46 h3 hc1
              go_wp2
              go_roundg (gk - 1)
              case measure => omega
              case rel => exact ⟨j + 1, by omega, by go_num, HZ2.out, rfl⟩
          · have hi1 : ¬ (i : Int) < (P.length : Int) - 3 := by omega
            have HZ2 := Lib.hid (HZ.out (by unfold oneDot; simp [h3]))
            clear HZ h3
            go_wp2
            go_roundg (gk - 1)
            case measure => omega
            case rel => exact ⟨j + 1, by omega, by go_num, HZ2.out, rfl⟩
  · have he' : H.ended = false := by simpa using he
    rw [he'] at x2
    clear he he'
    go_wp2_with fail
    refine W7.out.mono ?_
    rintro e w8 ⟨rfl, c8⟩
    have C8 := Lib.hid (C7.out.trans c8 (fun _ _ h => h))
    clear c8
    go_wp2
    go_ret
    exact ⟨rfl, C8.out⟩
section
variable {H : Type} {enc : TypeId × Value → H}
theorem walk_DotsAgain (W : World) (v0 v1 : Value) (d0 d1 : DataW H) (p0 p1 : List MemPlace)
    (ok0 : ∃ base, Value.okWide Tryd.prog W .any base 22 v0) (ok1 : ∃ base, Value.okWide Tryd.prog W .any base 23 v1)
    (h0 : DataW.Trod enc Tryd.prog W 0 (fun _ => true) true 22 v0 d0 p0) (h1 : DataW.Trod enc Tryd.prog W 0 (fun _ => true) true 23 v1 d1 p1)
    (hk : Rows.uptoBulkAll [d0, d1] ≤ 1048576) (hsh : W.ShapedOpen Tryd.prog) :
    Calls Tryd.prog 5 #[v0, v1] W fun e w' => e = .returned (.bool true) ∧ Below W.heap.size W w' := by
  simp only [Rows.uptoBulkAll] at hk
  obtain ⟨S, hs, hs2⟩ := arg_bytes Tryd.underlying22 Tryd.underlying5 Tryd.cellsByte ok0 h0
  obtain ⟨cs, hc, hw, hc2⟩ := arg_ints Tryd.underlying23 Tryd.underlying3 Tryd.cellsInt ok1 h1
  obtain ⟨sa, sn, sc, rfl, _⟩ := hs.shape
  obtain rfl : sn = S.length := hs.len
  obtain ⟨ca, cn, cc, rfl, hcn, _⟩ := hc.shape
  obtain rfl : cn = cs.length := by simpa using hcn.symm
  exact (again_walk W (glb_of hsh) sa ca sc cc S cs hs hc (by omega) (by omega)).mono fun e w' ⟨he, c⟩ => ⟨he, c.below (Nat.le_refl _) (fun _ _ h => h)⟩
end
end Go.Proofs.YtmenphpilckphaaDoor
