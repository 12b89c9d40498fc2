/- The law DotsChecks, walked. No condition but what is stated. -/
import Derived.Test.YtmenphpilckphaaDoorDtR2
namespace Go.Proofs.YtmenphpilckphaaDoor
set_option linter.unusedVariables false
open Go Go.RowKit Go.ChangeShapes Go.WideShapes Go.ChangeAt Dt

set_option maxHeartbeats 4000000 in
set_option maxRecDepth 100000 in
theorem checks_walk (W : World) (hg : Glb W) (sa : Option Addr) (sc : Nat) (b : List UInt8) (text : Int) (hs : Rd W (.slice sa b.length sc) 1 (bvs b)) (hl : b.length ≤ 1048576) :
    Calls Tryd.prog 6 #[.slice sa b.length sc, .int .i64 text] W fun r w' => r = .returned (.bool true) ∧ Chg (fun _ => False) W w' := by
  have HG := Lib.hid hg
  have HS := Lib.hid hs
  clear hg hs
  have key : ∀ (e1 : Int) (a1 : Option Addr) (c1 : Nat) (l1 : List UInt8), ∃ q : Nat, q = 0 := fun _ _ _ _ => ⟨0, rfl⟩
  have tcc : (checkP b text == checkP b text) = true := by simp
  have HT := Lib.hid tcc
  by_cases h0 : lookP b = 0
  · have H0 := Lib.hid h0
    clear h0 tcc key
    go_enter Tryd.func6, Tryd.ntmps6
    go_wp2_with fail
    refine (rstuff_calls W sa sc b HS.out (by omega)).mono ?_
    intro e w1 h1
    unfold RStuffSays at h1
    rw [if_pos H0.out] at h1
    obtain ⟨ua, uc, rfl, o1⟩ := h1
    have O1 := Lib.hid o1
    have C1 := Lib.hid o1.chg
    clear o1
    go_wp2_with fail
    refine (clone_calls w1 sa sc b (HS.out.kept C1.out (fun _ _ _ h => h)) (by omega)).mono ?_
    rintro e w2 ⟨xa, xc, rfl, o2⟩
    have O2 := Lib.hid o2
    have C2 := Lib.hid (C1.out.trans o2.chg (fun _ _ h => h))
    clear o2
    go_wp2_with fail
    refine (stuff_calls w2 xa xc b O2.out.rd (by omega)).mono ?_
    intro e w3 h3
    unfold StuffSays at h3
    rw [if_pos H0.out] at h3
    obtain ⟨ga, gc, rfl, o3⟩ := h3
    have C3 := Lib.hid (C2.out.trans o3.chg (fun _ _ h => h))
    have O3 := Lib.hid o3
    clear o3
    go_wp2_with fail
    refine (clone_calls w3 sa sc b (HS.out.kept C3.out (fun _ _ _ h => h)) (by omega)).mono ?_
    rintro e w4 ⟨ya, yc, rfl, o4⟩
    have O4 := Lib.hid o4
    have C4 := Lib.hid (C3.out.trans o4.chg (fun _ _ h => h))
    clear o4
    go_wp2_with fail
    refine (check_calls w4 (HG.out.kept C4.out (fun h => h)) ya yc b text O4.out.rd (by omega)).mono ?_
    rintro e w5 ⟨rfl, c5⟩
    have C5 := Lib.hid (C4.out.trans c5 (fun _ _ h => h))
    have C15 := Lib.hid ((((O2.out.chg.trans O3.out.chg (fun _ _ h => h)).trans O4.out.chg (fun _ _ h => h))).trans c5 (fun _ _ h => h))
    have C35 := Lib.hid (O4.out.chg.trans c5 (fun _ _ h => h))
    clear c5
    go_wp2_with fail
    refine (rcheck_calls w5 sa sc b text (HS.out.kept C5.out (fun _ _ _ h => h)) (by omega)).mono ?_
    rintro e w6 ⟨rfl, c6⟩
    have C6 := Lib.hid (C5.out.trans c6 (fun _ _ h => h))
    have E6 := Lib.hid (equal_calls w6 ga ua gc uc (stuffP b) (stuffP b) ((O3.out.rd.kept C35.out (fun _ _ _ h => h)).kept c6 (fun _ _ _ h => h)) ((O1.out.rd.kept C15.out (fun _ _ _ h => h)).kept c6 (fun _ _ _ h => h)))
    have W6 := Lib.hid (wakes_calls w6 (HG.out.kept C6.out (fun h => h)))
    have tcc := HT.out
    clear c6
    go_wp2_with fail
    refine E6.out.mono ?_
    rintro e w7 ⟨rfl, rfl⟩
    rw [beq_self_eq_true]
    go_wp2_with fail
    refine W6.out.mono ?_
    rintro e w8 ⟨rfl, c8⟩
    have C8 := Lib.hid (C6.out.trans c8 (fun _ _ h => h))
    clear c8
    go_wp2
    go_ret
    exact ⟨rfl, C8.out⟩
  · have H0 := Lib.hid h0
    have tll : (lookP b == lookP b) = true := by simp
    have HTL := Lib.hid tll
    clear h0 tcc key tll
    go_enter Tryd.func6, Tryd.ntmps6
    go_wp2_with fail
    refine (rstuff_calls W sa sc b HS.out (by omega)).mono ?_
    intro e w1 h1
    unfold RStuffSays at h1
    rw [if_neg H0.out] at h1
    obtain ⟨rfl, c1⟩ := h1
    have C1 := Lib.hid c1
    clear c1
    go_wp2_with fail
    refine (clone_calls w1 sa sc b (HS.out.kept C1.out (fun _ _ _ h => h)) (by omega)).mono ?_
    rintro e w2 ⟨xa, xc, rfl, o2⟩
    have O2 := Lib.hid o2
    have C2 := Lib.hid (C1.out.trans o2.chg (fun _ _ h => h))
    clear o2
    go_wp2_with fail
    refine (stuff_calls w2 xa xc b O2.out.rd (by omega)).mono ?_
    intro e w3 h3
    unfold StuffSays at h3
    rw [if_neg H0.out] at h3
    obtain ⟨rfl, rfl⟩ := h3
    go_wp2_with fail
    refine (clone_calls _ sa sc b (HS.out.kept C2.out (fun _ _ _ h => h)) (by omega)).mono ?_
    rintro e w4 ⟨ya, yc, rfl, o4⟩
    have O4 := Lib.hid o4
    have C4 := Lib.hid (C2.out.trans o4.chg (fun _ _ h => h))
    clear o4
    go_wp2_with fail
    refine (check_calls w4 (HG.out.kept C4.out (fun h => h)) ya yc b text O4.out.rd (by omega)).mono ?_
    rintro e w5 ⟨rfl, c5⟩
    have C5 := Lib.hid (C4.out.trans c5 (fun _ _ h => h))
    clear c5
    go_wp2_with fail
    refine (rcheck_calls w5 sa sc b text (HS.out.kept C5.out (fun _ _ _ h => h)) (by omega)).mono ?_
    rintro e w6 ⟨rfl, c6⟩
    have C6 := Lib.hid (C5.out.trans c6 (fun _ _ h => h))
    have E6 := Lib.hid (equal_calls w6 none none 0 0 [] [] (Own.nil w6).rd (Own.nil w6).rd)
    have W6 := Lib.hid (wakes_calls w6 (HG.out.kept C6.out (fun h => h)))
    have tcc := HT.out
    have tll := HTL.out
    clear c6
    go_wp2_with fail
    refine E6.out.mono ?_
    rintro e w7 ⟨rfl, rfl⟩
    rw [beq_self_eq_true]
    go_wp2_with fail
    refine W6.out.mono ?_
    rintro e w8 ⟨rfl, c8⟩
    have C8 := Lib.hid (C6.out.trans c8 (fun _ _ h => h))
    clear c8
    go_wp2
    go_ret
    exact ⟨rfl, C8.out⟩
section
variable {H : Type} {enc : TypeId × Value → H}
theorem walk_DotsChecks (W : World) (v0 v1 : Value) (d0 d1 : DataW H) (p0 p1 : List MemPlace)
    (ok0 : ∃ base, Value.okWide Tryd.prog W .any base 22 v0) (ok1 : ∃ base, Value.okWide Tryd.prog W .any base 3 v1)
    (h0 : DataW.Trod enc Tryd.prog W 0 (fun _ => true) true 22 v0 d0 p0) (h1 : DataW.Trod enc Tryd.prog W 0 (fun _ => true) true 3 v1 d1 p1)
    (hk : Rows.uptoBulkAll [d0, d1] ≤ 1048576) (hsh : W.ShapedOpen Tryd.prog) :
    Calls Tryd.prog 6 #[v0, v1] W fun e w' => e = .returned (.bool true) ∧ Below W.heap.size W w' := by
  simp only [Rows.uptoBulkAll] at hk
  obtain ⟨S, hs, hs2⟩ := arg_bytes Tryd.underlying22 Tryd.underlying5 Tryd.cellsByte ok0 h0
  obtain ⟨text, rfl, _, _⟩ := arg_i64 Tryd.underlying3 ok1 h1
  obtain ⟨sa, sn, sc, rfl, _⟩ := hs.shape
  obtain rfl : sn = S.length := hs.len
  exact (checks_walk W (glb_of hsh) sa sc S text hs (by omega)).mono fun e w' ⟨he, c⟩ => ⟨he, c.below (Nat.le_refl _) (fun _ _ h => h)⟩
end
end Go.Proofs.YtmenphpilckphaaDoor
