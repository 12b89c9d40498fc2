/- The law DotsKnown, walked. No condition but what is stated. -/
import Derived.Test.YtmenphpilckphaaDoorDtK1
import Derived.Deep.RegionHeld3
import Derived.Deep.RegionWith
import Derived.IntWalk
namespace Go.Proofs.YtmenphpilckphaaDoor
set_option linter.unusedVariables false
open Go Go.RowKit Go.ChangeShapes Go.WideShapes Go.ChangeAt Dt

structure K1Rel (W : World) (k : Nat) (t : TypeId) (g : Nat) (iv : Value) (wr : World) : Prop where
  is : ∃ i : Nat, i + g = 9 ∧ iv = .int .i64 i ∧ Chg (fun _ => False) W wr ∧ wr.heap[k]? = some (.cells k1C t (0, 0))
structure K2Rel (W : World) (r k : Nat) (t : TypeId) (u v x : Value) (g : Nat) (iv : Value) (wr : World) : Prop where
  is : ∃ i : Nat, i + g = 6 ∧ iv = .int .i64 i ∧ Chg (fun _ => False) W wr ∧ RdrAt wr r 9 99 (k2S i).d (k2S i).waits ∧ wr.heap[k]? = some (.cells (k2C u v x) t (0, 0)) ∧ Rd wr u 1 (bvs [97, 98, 13, 10, 46]) ∧ Rd wr v 1 (bvs [99, 13]) ∧ Rd wr x 1 (bvs [10])
set_option maxHeartbeats 8000000 in
set_option maxRecDepth 100000 in
theorem known_walk (W : World) (hg : Glb W) :
    Calls Tryd.prog 8 #[] W fun r w' => r = .returned (.bool true) ∧ Chg (fun _ => False) W w' := by
  have kc := fun (w : World) (b : Nat) (hb : b = w.heap.size) (C : Array Value) (n c : Nat) => run_const (P := Tryd.prog) w b hb 22 5 C n c Tryd.underlying22 Tryd.underlying5
  have HG := Lib.hid hg
  clear hg
  go_enter Tryd.func8, Tryd.ntmps8
  go_wp2_with fail
  refine (wakes_calls W HG.out).mono ?_
  rintro e w1 ⟨rfl, c1⟩
  have C1 := Lib.hid c1
  clear c1
  go_wp2_with fail
  go_loopg [32] 9 (K1Rel W w1.heap.size 56)
  case atStart =>
    exact ⟨⟨0, rfl, rfl, C1.out.alloc _, heap_alloc_at _ _⟩⟩
  case round =>
    obtain ⟨⟨i, hi, rfl, cr, hk⟩⟩ := hrel
    have CR := Lib.hid cr
    have HK := Lib.hid hk
    have hkl := lt_of_block hk
    clear cr hk
    by_cases hg : gk = 0
    · obtain rfl : i = 9 := by omega
      clear C1
      have HKK := Lib.hid hkl
      go_wp2_with fail
      have ca := (Chg.refl (fun _ => False) wr).alloc (.cells #[.int .u8 46, .int .u8 97, .int .u8 13, .int .u8 10, .int .u8 98, .int .u8 13, .int .u8 10, .int .u8 13, .int .u8 10, .int .u8 46, .int .u8 46, .int .u8 13, .int .u8 10] 5 (13, 14))
      refine (stuff_calls _ (some ⟨wr.heap.size, 0, none⟩) 13 [46, 97, 13, 10, 98, 13, 10, 13, 10, 46, 46, 13, 10] (Rd.fresh wr _ _ _ 13 13 [46, 97, 13, 10, 98, 13, 10, 13, 10, 46, 46, 13, 10] (by rfl) (by rfl) (by decide) (by decide)) (by decide)).mono ?_
      intro e w2 h2
      unfold StuffSays at h2
      rw [if_pos kn_stuff.1, kn_stuff.2] at h2
      obtain ⟨sa, sc, rfl, hown⟩ := h2
      have C2 := Lib.hid ((CR.out.trans ca (fun _ _ h => h)).trans hown.chg (fun _ _ h => h))
      have HO := Lib.hid (show Rd w2 (.slice sa 18 sc) 1 (bvs [46, 46, 97, 13, 10, 98, 13, 10, 13, 10, 46, 46, 46, 13, 10, 46, 13, 10]) from hown.rd)
      clear hown ca
      go_wp2_with fail
      refine (dots_new_no 0 9 w2 (by decide)).mono ?_
      rintro e w3 ⟨rfl, rfl⟩
      go_wp2_with fail
      refine (dots_new_no 9 16777217 w2 (by decide)).mono ?_
      rintro e w3 ⟨rfl, rfl⟩
      go_wp2_with fail
      refine (dots_new 16777216 16777216 w2 (by decide) (by decide) (by decide) (by decide)).mono ?_
      rintro e w4 ⟨rfl, hr, hc⟩
      have C4 := Lib.hid (C2.out.trans hc (fun _ _ h => h))
      have hcv := run_conv_txt (P := Tryd.prog) (HO.out.kept hc (fun _ _ _ h => h)) 22 9 _ Tryd.underlying22 Tryd.underlying5 Tryd.underlying9
      clear hr hc HO
      go_wp2_with fail
      clear hcv
      refine (dots_new 9 99 w4 (by decide) (by decide) (by decide) (by decide)).mono ?_
      rintro e w5 ⟨rfl, hr, hc⟩
      have C5 := Lib.hid (C4.out.trans hc (fun _ _ h => h))
      have HR := Lib.hid hr
      have hlt5 : w4.heap.size < w5.heap.size := lt_of_block hr.blk
      have hW4 := C4.out.size
      clear hr hc
      go_wp2_with fail
      obtain ⟨u, hu⟩ : ∃ u, u = Value.slice (some ⟨w5.heap.size, 0, none⟩) 5 5 := ⟨_, rfl⟩
      obtain ⟨v, hv⟩ : ∃ u, u = Value.slice (some ⟨w5.heap.size + 1, 0, none⟩) 2 2 := ⟨_, rfl⟩
      obtain ⟨x, hx⟩ : ∃ u, u = Value.slice (some ⟨w5.heap.size + 2, 0, none⟩) 1 1 := ⟨_, rfl⟩
      have FR := Lib.hid (show Far w4.heap.size u ∧ Far w4.heap.size v ∧ Far w4.heap.size x from by
        subst hu hv hx
        refine ⟨fun k hk => ?_, fun k hk => ?_, fun k hk => ?_⟩
        all_goals
          simp [Value.ownBlock] at hk
          omega)
      go_loopg [107] 6 (K2Rel W w4.heap.size (w5.heap.size + 3) 58 u v x)
      case atStart =>
        have c1 := Chg.refl (fun _ => False) w5
        have c2 := c1.alloc (.cells #[.int .u8 97, .int .u8 98, .int .u8 13, .int .u8 10, .int .u8 46] 5 (5, 6))
        have c3 := c2.alloc (.cells #[.int .u8 99, .int .u8 13] 5 (2, 3))
        have c4 := c3.alloc (.cells #[.int .u8 10] 5 (1, 2))
        refine ⟨⟨0, rfl, rfl, (C5.out.trans c4 (fun _ _ h => h)).alloc _, (HR.out.kept c4 (fun h => h)).kept ((Chg.refl (fun _ => False) _).alloc _) (fun h => h), ?_, ?_, ?_, ?_⟩⟩
        · subst hu hv hx
          have := heap_alloc_at (((w5.alloc (.cells #[.int .u8 97, .int .u8 98, .int .u8 13, .int .u8 10, .int .u8 46] 5 (5, 6))).alloc (.cells #[.int .u8 99, .int .u8 13] 5 (2, 3))).alloc (.cells #[.int .u8 10] 5 (1, 2))) (.cells (k2C (.slice (some ⟨w5.heap.size, 0, none⟩) 5 5) (.slice (some ⟨w5.heap.size + 1, 0, none⟩) 2 2) (.slice (some ⟨w5.heap.size + 2, 0, none⟩) 1 1)) 58 (0, 0))
          simp only [World.size_alloc] at this
          exact this
        · subst hu
          exact (Rd.fresh w5 _ _ _ 5 5 [97, 98, 13, 10, 46] (by rfl) (by rfl) (by decide) (by decide)).kept ((((Chg.refl (fun _ => False) _).alloc _).alloc _).alloc _) (fun _ _ _ h => h)
        · subst hv
          exact (Rd.fresh' _ _ (by simp) _ _ _ 2 2 [99, 13] (by rfl) (by rfl) (by decide) (by decide)).kept (((Chg.refl (fun _ => False) _).alloc _).alloc _) (fun _ _ _ h => h)
        · subst hx
          exact (Rd.fresh' _ _ (by simp) _ _ _ 1 1 [10] (by rfl) (by rfl) (by decide) (by decide)).kept ((Chg.refl (fun _ => False) _).alloc _) (fun _ _ _ h => h)
      case round =>
        clear hu hv hx HG kc CR HK HR C5 C4 C2 hkl hg hi HKK
        obtain ⟨⟨i2, hi2, rfl, cr2, hr2, hk2, hu, hv, hx⟩⟩ := hrel
        have CR2 := Lib.hid cr2
        have HR2 := Lib.hid hr2
        have HK2 := Lib.hid hk2
        have HUVX := Lib.hid (And.intro hu (And.intro hv hx))
        have hkl2 := lt_of_block hk2
        have hrl2 := lt_of_block hr2.blk
        clear cr2 hr2 hk2 hu hv hx
        by_cases hg2 : gk = 0
        · obtain rfl : i2 = 6 := by omega
          go_wp2
          go_ret
          exact ⟨rfl, CR2.out⟩
        · have hlt : (i2 : Int) < 6 := by omega
          obtain ⟨b, n, it, y, y0, y1, y2, y3, y4, y5, y6, y7, hb, htk, hy, hsz, hfar⟩ := k2_at wr u v x HUVX.out.1 HUVX.out.2.1 HUVX.out.2.2 i2 (by omega)
          have z0 := cell_of_blk HK2.out (i2 * 8)
          have z1 := cell_of_blk HK2.out (i2 * 8 + 1)
          have z2 := cell_of_blk HK2.out (i2 * 8 + 2)
          have z3 := cell_of_blk HK2.out (i2 * 8 + 3)
          have z4 := cell_of_blk HK2.out (i2 * 8 + 4)
          have z5 := cell_of_blk HK2.out (i2 * 8 + 5)
          have z6 := cell_of_blk HK2.out (i2 * 8 + 6)
          have z7 := cell_of_blk HK2.out (i2 * 8 + 7)
          rw [y0] at z0
          rw [y1] at z1
          rw [y2] at z2
          rw [y3] at z3
          rw [y4] at z4
          rw [y5] at z5
          rw [y6] at z6
          rw [y7] at z7
          clear y0 y1 y2 y3 y4 y5 y6 y7
          obtain ⟨ya, yn, yc, rfl, _⟩ := hy.shape
          obtain rfl : yn = it.bytes.length := hy.len
          have HY := Lib.hid hy
          have HTK := Lib.hid htk
          clear hy htk
          generalize hS' : RS.held (k2S (i2 + 1)) = hd at z7
          obtain ⟨cap, ob, hcv, hrd⟩ := run_str_bytes (P := Tryd.prog) 9 22 5 b (by unfold maxLen; omega) Tryd.underlying9 Tryd.underlying22 Tryd.underlying5
          have HRD := Lib.hid hrd
          have HS' := Lib.hid hS'
          clear hrd hS'
          go_wp2_with fail
          have cA := (Chg.refl (fun _ => False) wr).alloc (.cells #[.string ⟨b.toArray⟩, .int .i64 n, .int .i64 it.kind, .string ⟨it.text.toArray⟩, .slice ya it.bytes.length yc, .int .i64 it.why, .bool it.high, .int .i64 hd] 58)
          have bA := heap_alloc_at wr (.cells #[.string ⟨b.toArray⟩, .int .i64 n, .int .i64 it.kind, .string ⟨it.text.toArray⟩, .slice ya it.bytes.length yc, .int .i64 it.why, .bool it.high, .int .i64 hd] 58)
          have yfar := hfar _ FR.out.1 FR.out.2.1 FR.out.2.2
          generalize hwA : wr.alloc (.cells #[.string ⟨b.toArray⟩, .int .i64 n, .int .i64 it.kind, .string ⟨it.text.toArray⟩, .slice ya it.bytes.length yc, .int .i64 it.why, .bool it.high, .int .i64 hd] 58) = wA at cA bA ⊢
          have sA : wA.heap.size = wr.heap.size + 1 := by rw [← hwA]; simp
          rw [← sA]
          have cB := (Chg.refl (fun _ => False) wA).alloc (ob wA)
          have cB' := cB.drew
          have xA := lt_of_block bA
          refine (dots_takes _ w4.heap.size 9 99 (k2S i2) ((HR2.out.kept cA (fun h => h)).kept cB' (fun h => h)) _ b ((HRD.out wA wA).kept ((Chg.refl (fun _ => False) _).drew) (fun _ _ _ h => h)) (fun k hk e => by simp [Value.ownBlock] at hk; omega) (by omega) (by decide)).mono ?_
          intro e w6 h6
          rw [HTK.out] at h6
          obtain ⟨v6, rfl, q1, q2, q3, q4⟩ := h6
          obtain ⟨va, vn, vc, rfl, _⟩ := q2.shape
          obtain rfl : vn = it.bytes.length := q2.rd.len
          have hW2 := CR2.out.size
          have cC := ((cA.trans cB' (fun _ _ h => h)).mono (fun _ _ h => h.elim)).trans q4 (T := fun k => k = w4.heap.size) (fun _ _ h => h)
          have CC := Lib.hid (CR2.out.over cC (by omega))
          have bA6 := q4.obj (cB'.obj bA (fun h => h)) (fun e => by omega)
          have HK6 := Lib.hid (cC.obj HK2.out (fun e => by omega))
          have HUVX6 := Lib.hid (And.intro (HUVX.out.1.kept cC (fun _ k hk e => FR.out.1 k hk e)) (And.intro (HUVX.out.2.1.kept cC (fun _ k hk e => FR.out.2.1 k hk e)) (HUVX.out.2.2.kept cC (fun _ k hk e => FR.out.2.2 k hk e))))
          have HV6 := Lib.hid q2.rd
          have HR6 := Lib.hid q1
          have lA6 := lt_of_block bA6
          have cC' := cC
          clear bA cA cB cB' cC q1 q2 q3 q4 HRD hcv HR2 CR2 HK2 HUVX
          unfold itV
          dsimp only
          go_upto_region 20 with (fail)
          have c7 := (Chg.refl (fun _ => False) w6).alloc (.cells #[.int .i64 it.kind, .string ⟨it.text.toArray⟩, .slice va it.bytes.length vc, .int .i64 it.why, .bool it.high] 30)
          have b7 := heap_alloc_at w6 (.cells #[.int .i64 it.kind, .string ⟨it.text.toArray⟩, .slice va it.bytes.length vc, .int .i64 it.why, .bool it.high] 30)
          have bA7 := c7.obj bA6 (fun h => h)
          have C7 := Lib.hid (CC.out.trans c7 (fun _ _ h => h))
          have HK7 := Lib.hid (c7.obj HK6.out (fun h => h))
          have HR7 := Lib.hid (HR6.out.kept c7 (fun h => h))
          have HUVX7 := Lib.hid (And.intro (HUVX6.out.1.kept c7 (fun _ _ _ h => h)) (And.intro (HUVX6.out.2.1.kept c7 (fun _ _ _ h => h)) (HUVX6.out.2.2.kept c7 (fun _ _ _ h => h))))
          have HV7 := Lib.hid (HV6.out.kept c7 (fun _ _ _ h => h))
          have HY7 := Lib.hid ((HY.out.kept cC' (fun _ k hk e => yfar k hk e)).kept c7 (fun _ _ _ h => h))
          obtain ⟨w7, hw7⟩ : ∃ w7, w7 = w6.alloc (.cells #[.int .i64 it.kind, .string ⟨it.text.toArray⟩, .slice va it.bytes.length vc, .int .i64 it.why, .bool it.high] 30) := ⟨_, rfl⟩
          rw [← hw7] at c7 b7 bA7 C7 HK7 HR7 HUVX7 HV7 HY7
          have e7 : w6.alloc (.cells #[.int .i64 it.kind, .string ⟨it.text.toArray⟩, .slice va it.bytes.length vc, .int .i64 it.why, .bool it.high] 30) = w7 := hw7.symm
          first | rw [e7] | skip
          have s7 : Sam w7 w7 := Sam.refl w7
          clear hw7 e7 c7 bA6 HK6 HR6 HUVX6 HV6 HY CC cC' z0 z1 z2 z3 z4 z5 z6 z7
          have p0 : ∀ w', Sam w7 w' → w'.cell? ⟨w6.heap.size, 0, none⟩ = some (.int .i64 it.kind) := fun w' h => cell_of_blk (Chg.obj h b7 (fun h => h)) 0
          have p1 : ∀ w', Sam w7 w' → w'.cell? ⟨w6.heap.size, 1, none⟩ = some (.string ⟨it.text.toArray⟩) := fun w' h => cell_of_blk (Chg.obj h b7 (fun h => h)) 1
          have p2 : ∀ w', Sam w7 w' → w'.cell? ⟨w6.heap.size, 2, none⟩ = some (.slice va it.bytes.length vc) := fun w' h => cell_of_blk (Chg.obj h b7 (fun h => h)) 2
          have p3 : ∀ w', Sam w7 w' → w'.cell? ⟨w6.heap.size, 3, none⟩ = some (.int .i64 it.why) := fun w' h => cell_of_blk (Chg.obj h b7 (fun h => h)) 3
          have p4 : ∀ w', Sam w7 w' → w'.cell? ⟨w6.heap.size, 4, none⟩ = some (.bool it.high) := fun w' h => cell_of_blk (Chg.obj h b7 (fun h => h)) 4
          have r1 : ∀ w', Sam w7 w' → w'.cell? ⟨wr.heap.size, 1, none⟩ = some (.int .i64 n) := fun w' h => cell_of_blk (Chg.obj h bA7 (fun h => h)) 1
          have r2 : ∀ w', Sam w7 w' → w'.cell? ⟨wr.heap.size, 2, none⟩ = some (.int .i64 it.kind) := fun w' h => cell_of_blk (Chg.obj h bA7 (fun h => h)) 2
          have r3 : ∀ w', Sam w7 w' → w'.cell? ⟨wr.heap.size, 3, none⟩ = some (.string ⟨it.text.toArray⟩) := fun w' h => cell_of_blk (Chg.obj h bA7 (fun h => h)) 3
          have r4 : ∀ w', Sam w7 w' → w'.cell? ⟨wr.heap.size, 4, none⟩ = some (.slice ya it.bytes.length yc) := fun w' h => cell_of_blk (Chg.obj h bA7 (fun h => h)) 4
          have r5 : ∀ w', Sam w7 w' → w'.cell? ⟨wr.heap.size, 5, none⟩ = some (.int .i64 it.why) := fun w' h => cell_of_blk (Chg.obj h bA7 (fun h => h)) 5
          have r6 : ∀ w', Sam w7 w' → w'.cell? ⟨wr.heap.size, 6, none⟩ = some (.bool it.high) := fun w' h => cell_of_blk (Chg.obj h bA7 (fun h => h)) 6
          have r7 : ∀ w', Sam w7 w' → w'.cell? ⟨wr.heap.size, 7, none⟩ = some (.int .i64 hd) := fun w' h => cell_of_blk (Chg.obj h bA7 (fun h => h)) 7
          have SM := Lib.hid (show ∀ w', Sam w7 w' → Calls Tryd.prog 17 #[.agg #[.int .i64 it.kind, .string ⟨it.text.toArray⟩, .slice va it.bytes.length vc, .int .i64 it.why, .bool it.high], .agg #[.int .i64 it.kind, .string ⟨it.text.toArray⟩, .slice ya it.bytes.length yc, .int .i64 it.why, .bool it.high]] w' fun r w'' => r = .returned (.bool true) ∧ Chg (fun _ => False) w' w'' from fun w' h =>
            same_calls w' it va ya vc yc (HV7.out.kept h (fun _ _ _ h => h)) (HY7.out.kept h (fun _ _ _ h => h)))
          have HH := Lib.hid (show ∀ w', Sam w7 w' → Calls Tryd.prog 30 #[.pointer (some ⟨w4.heap.size, 0, none⟩)] w' fun r w'' => r = .returned (.int .i64 hd) ∧ w' = w'' from fun w' h => by
            have := dots_held w' w4.heap.size 9 99 (k2S (i2 + 1)).d (k2S (i2 + 1)).waits (HR7.out.kept h (fun h => h))
            rw [show RS.held ⟨(k2S (i2 + 1)).d, (k2S (i2 + 1)).waits⟩ = hd from HS'.out] at this
            exact this)
          clear b7 bA7 HV7 HY7
          go_region_held3 (fun w' => Sam w7 w') (first | assumption | exact Sam.drew (by assumption) | exact Sam.alloc (by assumption) _) (first
            | (go_at_call 17; refine (SM.out _ (by assumption)).mono ?_; rintro e w5 ⟨rfl, c5⟩; have s5 := Sam.more (w0 := w7) (by assumption) c5)
            | (go_at_call 30; refine (HH.out _ (by assumption)).mono ?_; rintro e w5 ⟨rfl, rfl⟩))
          go_wp2
          go_roundg (gk - 1)
          case measure => omega
          case rel =>
            exact ⟨⟨i2 + 1, by omega, by simp, C7.out.trans (show Sam w7 _ by first | exact s5 | exact Sam.drew s5) (fun _ _ h => h), HR7.out.kept (show Sam w7 _ by first | exact s5 | exact Sam.drew s5) (fun h => h), Chg.obj (show Sam w7 _ by first | exact s5 | exact Sam.drew s5) HK7.out (fun h => h), HUVX7.out.1.kept (show Sam w7 _ by first | exact s5 | exact Sam.drew s5) (fun _ _ _ h => h), HUVX7.out.2.1.kept (show Sam w7 _ by first | exact s5 | exact Sam.drew s5) (fun _ _ _ h => h), HUVX7.out.2.2.kept (show Sam w7 _ by first | exact s5 | exact Sam.drew s5) (fun _ _ _ h => h)⟩⟩
    · have hlt : (i : Int) < 9 := by omega
      obtain ⟨b, t, y0, y1, y2, hb⟩ := k1_at i (by omega)
      have z0 := cell_of_blk HK.out (i * 3)
      have z1 := cell_of_blk HK.out (i * 3 + 1)
      have z2 := cell_of_blk HK.out (i * 3 + 2)
      rw [y0] at z0
      rw [y1] at z1
      rw [y2] at z2
      clear y0 y1 y2
      generalize hce : checkP b t = ce at z2
      clear kc C1
      go_upto_region 6 with (fail)
      have c9 := (Chg.refl (fun _ => False) wr).alloc (.cells #[.string ⟨b.toArray⟩, .int .i64 t, .int .i64 ce] 56)
      have b9 := heap_alloc_at wr (.cells #[.string ⟨b.toArray⟩, .int .i64 t, .int .i64 ce] 56)
      have C9 := Lib.hid (CR.out.trans c9 (fun _ _ h => h))
      have HK9 := Lib.hid (c9.obj HK.out (fun h => h))
      obtain ⟨w9, hw9⟩ : ∃ w9, w9 = wr.alloc (.cells #[.string ⟨b.toArray⟩, .int .i64 t, .int .i64 ce] 56) := ⟨_, rfl⟩
      rw [← hw9] at c9 b9 C9 HK9
      have e9 : wr.alloc (.cells #[.string ⟨b.toArray⟩, .int .i64 t, .int .i64 ce] 56) = w9 := hw9.symm
      first | rw [e9] | skip
      clear hw9 e9 c9 z0 z1 z2 HK CR
      have q0 : ∀ w', Sam w9 w' → w'.cell? ⟨wr.heap.size, 0, none⟩ = some (.string ⟨b.toArray⟩) := fun w' h => cell_of_blk (Chg.obj h b9 (fun h => h)) 0
      have q1 : ∀ w', Sam w9 w' → w'.cell? ⟨wr.heap.size, 1, none⟩ = some (.int .i64 t) := fun w' h => cell_of_blk (Chg.obj h b9 (fun h => h)) 1
      have q2 : ∀ w', Sam w9 w' → w'.cell? ⟨wr.heap.size, 2, none⟩ = some (.int .i64 ce) := fun w' h => cell_of_blk (Chg.obj h b9 (fun h => h)) 2
      obtain ⟨cap, ob, hcvr⟩ := run_str_bytes (P := Tryd.prog) 9 22 5 b (by unfold maxLen; omega) Tryd.underlying9 Tryd.underlying22 Tryd.underlying5
      have hcv := fun w => hcvr.1 w
      have HRD := Lib.hid hcvr.2
      have s9 : Sam w9 w9 := Sam.refl w9
      have lx9 := lt_of_block b9
      clear b9 hcvr
      have HCE := Lib.hid hce
      clear hce
      have CK := Lib.hid (show ∀ w' cap', Sam w9 w' → Rd w' (.slice (some ⟨wr.heap.size, 0, none⟩) b.length cap') 1 (bvs b) → True from fun _ _ _ _ => trivial)
      have x0 := q0 w9 s9
      have x1 := q1 w9 s9
      have x2 := q2 w9 s9
      have Q2 := Lib.hid q2
      clear q0 q1 q2
      go_region_with (go_at_call 23; refine (check_calls _ (HG.out.kept (C9.out.trans (show Sam w9 _ by unfold Sam; repeat (first | exact Chg.refl _ _ | refine Chg.drew ?_ | refine Chg.alloc ?_ _)) (fun _ _ h => h)) (fun h => h)) _ _ b t (by repeat (first | exact HRD.out _ _ | refine Rd.kept ?_ (Chg.drew (Chg.refl (fun _ => False) _)) (fun _ _ _ h => h))) (by omega)).mono ?_; rw [HCE.out]; rintro e w5 ⟨rfl, c5⟩; have s5 : Sam w9 w5 := Sam.more (w0 := w9) (by unfold Sam; repeat (first | exact Chg.refl _ _ | refine Chg.drew ?_ | refine Chg.alloc ?_ _)) c5; have x5 := Q2.out w5 s5)
      all_goals
       go_wp2
       go_roundg (gk - 1)
       case measure => omega
       case rel => exact ⟨⟨i + 1, by omega, by simp, C9.out.trans (by first | exact s5 | exact Sam.drew s5) (fun _ _ h => h), Chg.obj (by first | exact s5 | exact Sam.drew s5) HK9.out (fun h => h)⟩⟩
theorem walk_DotsKnown (W : World) (hsh : W.ShapedOpen Tryd.prog) :
    Calls Tryd.prog 8 #[] W fun e w' => e = .returned (.bool true) ∧ Below W.heap.size W w' :=
  (known_walk W (glb_of hsh)).mono fun e w' ⟨he, c⟩ => ⟨he, c.below (Nat.le_refl _) (fun _ _ h => h)⟩
end Go.Proofs.YtmenphpilckphaaDoor
