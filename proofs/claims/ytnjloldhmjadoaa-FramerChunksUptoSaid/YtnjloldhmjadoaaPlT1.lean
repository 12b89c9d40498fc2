/- The law FramerPieces, walked. No condition but what is stated. -/
import Derived.Test.YtnjloldhmjadoaaPlB8
import Derived.Test.YtnjloldhmjadoaaPlW4
import Derived.Test.YtnjloldhmjadoaaPlA1
import Derived.Deep.DeepCutAuto
import Derived.BigQuiet
namespace Go.Proofs.Ytnjloldhmjadoaa
set_option linter.unusedVariables false
open Go Go.RowKit Ln Dt Fr Pl

theorem RdIts.kept {w w' : World} {v : Value} {n : Nat} {out : List It} (h : RdIts w v n out) (c : Chg (fun _ => False) w w') : RdIts w' v n out := by
  obtain ⟨xs, h1, h2, h3, h4⟩ := h
  exact ⟨xs, h1, h2, h3.kept c (fun _ _ _ h => h), fun x hx => (h4 x hx).kept c (fun _ _ _ h => h)⟩
theorem RdIts.num {w : World} {v : Value} {n : Nat} {out : List It} (h : RdIts w v n out) : n = out.length := by
  obtain ⟨xs, h1, h2, h3, h4⟩ := h
  rw [← h1, ← h2]; simp
def skips (ts : List Tn) (one two : List UInt8) : Bool := endl ts || (allZero one && decide (one ≠ [])) || (allZero two && decide (two ≠ []))
theorem skips_no {ts : List Tn} {one two : List UInt8} (h : skips ts one two = false) : endl ts = false ∧ (one ≠ [] → allZero one = false) ∧ (two ≠ [] → allZero two = false) := by
  simp only [skips, Bool.or_eq_false_iff, Bool.and_eq_false_iff, decide_eq_false_iff_not] at h
  obtain ⟨⟨h1, h2⟩, h3⟩ := h
  exact ⟨h1, fun e => h2.resolve_right (fun k => k e), fun e => h3.resolve_right (fun k => k e)⟩
theorem zero_cases (cs : List UInt8) : cs = [] ∧ allZero cs = true ∨ cs ≠ [] ∧ allZero cs = true ∨ cs ≠ [] ∧ allZero cs = false := by
  cases cs with
  | nil => exact .inl ⟨rfl, rfl⟩
  | cons c r =>
    cases h : allZero (c :: r)
    · exact .inr (.inr ⟨by simp, rfl⟩)
    · exact .inr (.inl ⟨by simp, rfl⟩)

set_option maxHeartbeats 4000000 in
set_option maxRecDepth 100000 in
theorem pieces_walk (W : World) (l0 l1 l2 l3 l4 l5 : Int) (bo ta oa wa : Option Addr) (bc tc oc uc : Nat) (b : List UInt8) (ts : List Tn) (one two : List UInt8)
    (hb : Rd W (.slice bo b.length bc) 1 (bvs b)) (ht : Rd W (.slice ta ts.length tc) 3 (ts.flatMap tnCs)) (ho : Rd W (.slice oa one.length oc) 1 (bvs one)) (hw : Rd W (.slice wa two.length uc) 1 (bvs two))
    (htn : ∀ o ∈ ts, TnOk o) (hs : b.length + 4 * ts.length + one.length + two.length ≤ 1048576) :
    Calls Try.prog 5 #[.agg #[.int .i64 l0, .int .i64 l1, .int .i64 l2, .int .i64 l3, .int .i64 l4, .int .i64 l5, .slice bo b.length bc, .slice ta ts.length tc, .slice oa one.length oc, .slice wa two.length uc]] W
      fun e w' => e = .returned (.bool true) ∧ Below W.heap.size W w' := by
  have hbt : b.length * (ts.length + 2) ≤ 1099511627776 := by
    have : b.length * (ts.length + 2) ≤ 1048576 * 262146 := Nat.mul_le_mul (by omega) (by omega)
    omega
  have HB := Lib.hid hb
  have HT := Lib.hid ht
  have HO := Lib.hid ho
  have HW := Lib.hid hw
  have HTN := Lib.hid htn
  clear hb ht ho hw htn
  go_enter Try.func5, Try.ntmps5
  go_wp2_with fail
  refine (head_calls _).mono ?_
  rintro e w1 ⟨rfl, c1⟩
  have hch1 := ((Chg.refl (fun _ => False) W).alloc _).trans c1 (fun _ _ h => h)
  have bx := c1.obj (heap_alloc_at _ _) (fun h => h)
  have hl1 := lt_of_block bx
  have y0 := cell_of_blk bx 0
  have y1 := cell_of_blk bx 1
  have y2 := cell_of_blk bx 2
  have y3 := cell_of_blk bx 3
  have y4 := cell_of_blk bx 4
  have y5 := cell_of_blk bx 5
  have y6 := cell_of_blk bx 6
  have y7 := cell_of_blk bx 7
  have y8 := cell_of_blk bx 8
  have y9 := cell_of_blk bx 9
  simp at y0 y1 y2 y3 y4 y5 y6 y7 y8 y9
  have C1 := Lib.hid hch1
  clear hch1 bx c1
  go_upto_region 3 with (fail)
  go_cut [3, 4, 5, 6, 7] (fun a b' t' o' w' wx => ∃ k : Nat, a = .pointer (some ⟨k, 0, none⟩) ∧ b' = .slice bo b.length bc ∧ t' = .slice ta ts.length tc ∧ o' = .slice oa one.length oc ∧ w' = .slice wa two.length uc ∧ wx.heap[k]? = some (.cells #[.int .i64 l0, .int .i64 l1, .int .i64 l2, .int .i64 l3, .int .i64 l4, .int .i64 l5] 23 (0, 0)) ∧ Chg (fun _ => False) W wx)
  case first =>
    go_region
    all_goals
      go_wp2
      go_meet
      exact ⟨_, rfl, rfl, rfl, rfl, rfl, heap_alloc_at w1 _, (C1.out.alloc _).drew⟩
  case rest =>
    obtain ⟨k, rfl, rfl, rfl, rfl, rfl, hk, c2⟩ := hcut
    obtain ⟨W2, hW2⟩ : ∃ W2 : World, W2 = wc := ⟨_, rfl⟩
    subst hW2
    have C2 := Lib.hid c2
    have HK := Lib.hid hk
    clear c2 hk C1 y0 y1 y2 y3 y4 y5 y6 y7 y8 y9 hl1
    have hlt : ¬ (1048576 : Int) < b.length := by omega
    go_upto_region 6 with (fail)
    go_cut [50] (fun a wx => a = .bool (skips ts one two) ∧ Chg (fun _ => False) W2 wx)
    case first =>
      cases e1 : endl ts with
      | true =>
        have hsk : skips ts one two = true := by simp [skips, e1]
        have HSK := Lib.hid hsk
        have E1 := Lib.hid e1
        clear hsk e1
        go_wp2_with fail
        refine (endless_calls _ ta tc ts (HT.out.kept C2.out (fun _ _ _ h => h)) (by omega)).mono ?_
        rintro e w5 ⟨rfl, c5⟩
        rw [E1.out]
        have C5 := Lib.hid c5
        clear c5
        go_wp2
        go_meet
        exact ⟨by rw [HSK.out], C5.out⟩
      | false =>
        have E1 := Lib.hid e1
        go_wp2_with fail
        refine (endless_calls _ ta tc ts (HT.out.kept C2.out (fun _ _ _ h => h)) (by omega)).mono ?_
        rintro e w5 ⟨rfl, c5⟩
        rw [e1]
        have C5 := Lib.hid c5
        clear c5
        have ho5 := HO.out.kept (C2.out.trans C5.out (fun _ _ h => h)) (fun _ _ _ h => h)
        have hw5 := HW.out.kept (C2.out.trans C5.out (fun _ _ h => h)) (fun _ _ _ h => h)
        have HO5 := Lib.hid ho5
        have HW5 := Lib.hid hw5
        clear ho5 hw5
        go_wp2_with fail
        refine (zeros_calls w5 oa oc one HO5.out (by omega)).mono ?_
        rintro e w6 ⟨rfl, rfl⟩
        have hskx : ∀ z1 z2, allZero one = z1 → allZero two = z2 → skips ts one two = ((z1 && decide (one ≠ [])) || (z2 && decide (two ≠ []))) := fun z1 z2 h1 h2 => by simp [skips, e1, h1, h2]
        have HSK := Lib.hid hskx
        clear hskx e1
        rcases zero_cases one with ⟨h1, z1⟩ | ⟨h1, z1⟩ | ⟨h1, z1⟩
        · rw [z1]
          have hsk2 : ∀ z2, allZero two = z2 → skips ts one two = (z2 && decide (two ≠ [])) := fun z2 h2 => by rw [HSK.out _ _ z1 h2]; simp [h1]
          have HS2 := Lib.hid hsk2
          have hn1 : ¬ 0 < one.length := by rw [h1]; decide
          clear h1 z1 hsk2
          go_wp2_with fail
          refine (zeros_calls w5 wa uc two HW5.out (by omega)).mono ?_
          rintro e w6 ⟨rfl, rfl⟩
          rcases zero_cases two with ⟨h2, z2⟩ | ⟨h2, z2⟩ | ⟨h2, z2⟩
          · rw [z2]
            have HS3 := Lib.hid (HS2.out _ z2)
            have hn2 : ¬ 0 < two.length := by rw [h2]; decide
            have HH := Lib.hid h2
            clear h2 z2
            go_wp2
            go_meet
            exact ⟨by rw [HS3.out]; simp [HH.out], C5.out⟩
          · rw [z2]
            have HS3 := Lib.hid (HS2.out _ z2)
            have hn2 : 0 < two.length := List.length_pos_iff.2 h2
            have HH := Lib.hid h2
            clear h2 z2
            go_wp2
            go_meet
            exact ⟨by rw [HS3.out]; simp [HH.out], C5.out⟩
          · rw [z2]
            have HS3 := Lib.hid (HS2.out _ z2)
            clear h2 z2
            go_wp2
            go_meet
            exact ⟨by rw [HS3.out]; simp, C5.out⟩
        · rw [z1]
          have hsk2 : skips ts one two = true := by rw [HSK.out _ _ z1 rfl]; simp [h1]
          have HS2 := Lib.hid hsk2
          have hn1 : 0 < one.length := List.length_pos_iff.2 h1
          clear h1 z1 hsk2
          go_wp2
          go_meet
          exact ⟨by rw [HS2.out], C5.out⟩
        · rw [z1]
          have hsk2 : ∀ z2, allZero two = z2 → skips ts one two = (z2 && decide (two ≠ [])) := fun z2 h2 => by rw [HSK.out _ _ z1 h2]; simp
          have HS2 := Lib.hid hsk2
          clear h1 z1 hsk2
          go_wp2_with fail
          refine (zeros_calls w5 wa uc two HW5.out (by omega)).mono ?_
          rintro e w6 ⟨rfl, rfl⟩
          rcases zero_cases two with ⟨h2, z2⟩ | ⟨h2, z2⟩ | ⟨h2, z2⟩
          · rw [z2]
            have HS3 := Lib.hid (HS2.out _ z2)
            have hn2 : ¬ 0 < two.length := by rw [h2]; decide
            have HH := Lib.hid h2
            clear h2 z2
            go_wp2
            go_meet
            exact ⟨by rw [HS3.out]; simp [HH.out], C5.out⟩
          · rw [z2]
            have HS3 := Lib.hid (HS2.out _ z2)
            have hn2 : 0 < two.length := List.length_pos_iff.2 h2
            have HH := Lib.hid h2
            clear h2 z2
            go_wp2
            go_meet
            exact ⟨by rw [HS3.out]; simp [HH.out], C5.out⟩
          · rw [z2]
            have HS3 := Lib.hid (HS2.out _ z2)
            clear h2 z2
            go_wp2
            go_meet
            exact ⟨by rw [HS3.out]; simp, C5.out⟩
    case rest =>
      obtain ⟨rfl, c5⟩ := hcut
      obtain ⟨W5, hW5⟩ : ∃ W5 : World, W5 = wc := ⟨_, rfl⟩
      subst hW5
      have C5 := Lib.hid (C2.out.trans c5 (fun _ _ h => h))
      have hk5 := c5.obj HK.out (fun h => h)
      have k0 := cell_of_blk hk5 0
      have k1 := cell_of_blk hk5 1
      have k2 := cell_of_blk hk5 2
      have k3 := cell_of_blk hk5 3
      have k4 := cell_of_blk hk5 4
      have k5 := cell_of_blk hk5 5
      simp at k0 k1 k2 k3 k4 k5
      have HK5 := Lib.hid hk5
      have hl5 := lt_of_block hk5
      clear c5 hk5 C2 HK hlt
      cases e1 : skips ts one two with
      | true =>
        clear e1
        go_wp2
        go_ret
        exact ⟨rfl, C5.out.below (Nat.le_refl _) (fun _ _ h => h)⟩
      | false =>
        have SK := Lib.hid (skips_no e1)
        clear e1
        go_wp2_with fail
        refine (limits_calls _ l0 l1 l2 l3 l4 l5).mono ?_
        rintro e w6 ⟨rfl, c6⟩
        have C6 := Lib.hid (C5.out.trans c6 (fun _ _ h => h))
        have HK6 := Lib.hid (c6.obj HK5.out (fun h => h))
        clear c6 k0 k1 k2 k3 k4 k5
        go_wp2_with fail
        refine (played_calls w6 (withinN l0) (withinN l1) (withinN l2) (withinN_le l0) (withinN_le l1) (withinN_le l2) bo oa ta bc oc tc b one ts (HB.out.kept C6.out (fun _ _ _ h => h)) (HO.out.kept C6.out (fun _ _ _ h => h)) (HT.out.kept C6.out (fun _ _ _ h => h)) (by omega) (by omega) (by omega) hbt SK.out.2.1 SK.out.1 HTN.out).mono ?_
        rintro e w7 ⟨S1, o1, n1, q1, rfl, r1, r2, r3, c7⟩
        have C7 := Lib.hid (C6.out.trans c7 (fun _ _ h => h))
        have hk7 := c7.obj HK6.out (fun h => h)
        have k0 := cell_of_blk hk7 0
        have k1 := cell_of_blk hk7 1
        have k2 := cell_of_blk hk7 2
        have k3 := cell_of_blk hk7 3
        have k4 := cell_of_blk hk7 4
        have k5 := cell_of_blk hk7 5
        simp at k0 k1 k2 k3 k4 k5
        have R1 := Lib.hid r1
        have R2 := Lib.hid r2
        clear c7 hk7 r1 r2
        go_wp2_with fail
        refine (limits_calls _ l0 l1 l2 l3 l4 l5).mono ?_
        rintro e w8 ⟨rfl, c8⟩
        have C8 := Lib.hid (C7.out.trans c8 (fun _ _ h => h))
        have R28 := Lib.hid (R2.out.kept c8)
        clear c8 k0 k1 k2 k3 k4 k5
        go_wp2_with fail
        refine (played_calls w8 (withinN l0) (withinN l1) (withinN l2) (withinN_le l0) (withinN_le l1) (withinN_le l2) bo wa ta bc uc tc b two ts (HB.out.kept C8.out (fun _ _ _ h => h)) (HW.out.kept C8.out (fun _ _ _ h => h)) (HT.out.kept C8.out (fun _ _ _ h => h)) (by omega) (by omega) (by omega) hbt SK.out.2.2 SK.out.1 HTN.out).mono ?_
        rintro e w9 ⟨S3, o3, n3, q3, rfl, r4, r5, r6, c9⟩
        obtain rfl := R1.out.det r4
        obtain rfl : n1 = n3 := R28.out.num.trans r5.num.symm
        have C9 := Lib.hid (C8.out.trans c9 (fun _ _ h => h))
        have R29 := Lib.hid (R28.out.kept c9)
        have R5 := Lib.hid r5
        clear c9 r4 r5
        go_wp2_with fail
        refine (sameItems_calls w9 o1 o3 n1 q1 q3 S1.out R29.out R5.out (by omega)).mono ?_
        rintro e wa ⟨rfl, ca⟩
        have CA := Lib.hid (C9.out.trans ca (fun _ _ h => h))
        clear ca
        go_wp2
        go_ret
        exact ⟨rfl, CA.out.below (Nat.le_refl _) (fun _ _ h => h)⟩

theorem walk_FramerPieces {H : Type} {enc : TypeId × Value → H} (W : World) (v0 : Value) (d0 : DataW H) (p0 : List MemPlace)
    (ok0 : ∃ base, Value.okWide Try.prog W .any base 55 v0) (h0 : DataW.Trod enc Try.prog W 0 (fun _ => true) true 55 v0 d0 p0)
    (hk : Rows.uptoBulkAll [d0] ≤ 1048576) :
    Calls Try.prog 5 #[v0] W fun e w' => e = .returned (.bool true) ∧ Below W.heap.size W w' := by
  obtain ⟨l0, l1, l2, l3, l4, l5, bo, ta, oa, wa, bc, tc, oc, wc, b, ts, one, two, rfl, h1, h2, h3, h4, h5, h6⟩ := arg_pieces15 ok0 h0
  simp only [Rows.uptoBulkAll] at hk
  exact pieces_walk W l0 l1 l2 l3 l4 l5 bo ta oa wa bc tc oc wc b ts one two h1 h2 h3 h4 h5 (by omega)
end Go.Proofs.Ytnjloldhmjadoaa
