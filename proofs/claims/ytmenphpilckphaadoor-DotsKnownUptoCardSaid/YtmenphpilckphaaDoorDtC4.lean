/- What the document names: wakes. No condition but what is stated. -/
import Derived.Test.YtmenphpilckphaaDoorDtC3
namespace Go.Proofs.YtmenphpilckphaaDoor
set_option linter.unusedVariables false
open Go Go.RowKit Dt

theorem Chg.over {a b c : World} {x : Nat} (h : Chg (fun _ => False) a b) (k : Chg (· = x) b c) (hx : a.heap.size ≤ x) : Chg (fun _ => False) a c := h.trans k (fun i hi e => by omega)
theorem wk1 : lookP [46, 97, 13, 10] = 0 := by decide
theorem wk2 : stuffP [46, 97, 13, 10] = [46, 46, 97, 13, 10, 46, 13, 10] := by decide
theorem wk3 : checkP [97, 13, 10] 1 = 0 := by decide
theorem wk4 : RS.take 9 99 ⟨DS.new, false⟩ [46, 46, 97, 13, 10, 46, 13, 10, 120] = (8, It.body [46, 97, 13, 10], ⟨⟨5, 0, 4, false, false, false⟩, true⟩) := by rfl
theorem wk5 : RS.take 9 99 ⟨⟨5, 0, 4, false, false, false⟩, true⟩ [] = (0, ⟨4, [], [], 0, false⟩, ⟨⟨5, 0, 4, false, false, false⟩, false⟩) := by rfl
set_option maxHeartbeats 2000000 in
set_option maxRecDepth 100000 in
theorem wakes_calls (w : World) (hg : Glb w) : Calls Tryd.prog 13 #[] w fun r w' => r = .returned (.bool true) ∧ Chg (fun _ => False) w w' := by
  have kc := fun (w : World) (b : Nat) (hb : b = w.heap.size) (C : Array Value) (n c : Nat) => run_const (P := Tryd.prog) w b hb 22 5 C n c Tryd.underlying22 Tryd.underlying5
  have HG := Lib.hid hg
  clear hg
  go_enter Tryd.func13, Tryd.ntmps13
  go_wp2_with fail
  have ca := (Chg.refl (fun _ => False) w).alloc (.cells #[.int .u8 46, .int .u8 97, .int .u8 13, .int .u8 10] 5 (4, 5))
  refine (stuff_calls _ (some ⟨w.heap.size, 0, none⟩) 4 [46, 97, 13, 10] (Rd.fresh w _ _ _ 4 4 [46, 97, 13, 10] (by rfl) (by rfl) (by decide) (by decide)) (by decide)).mono ?_
  intro e w1 h1
  unfold StuffSays at h1
  rw [if_pos wk1, wk2] at h1
  obtain ⟨sa, sc, rfl, hown⟩ := h1
  have C1 := Lib.hid (ca.trans hown.chg (fun _ _ h => h))
  have HO := Lib.hid (show Rd w1 (.slice sa 8 sc) 1 (bvs [46, 46, 97, 13, 10, 46, 13, 10]) from hown.rd)
  clear hown ca
  go_wp2_with fail
  refine (dots_new 9 99 w1 (by decide) (by decide) (by decide) (by decide)).mono ?_
  rintro e w2 ⟨rfl, hr, hc⟩
  have C2 := Lib.hid (C1.out.trans hc (fun _ _ h => h))
  have HR := Lib.hid hr
  have hcv := run_conv_txt (P := Tryd.prog) (HO.out.kept hc (fun _ _ _ h => h)) 22 9 _ Tryd.underlying22 Tryd.underlying5 Tryd.underlying9
  have hlt2 : w1.heap.size < w2.heap.size := lt_of_block hr.blk
  have hrn := C1.out.size
  clear hr hc HO
  go_wp2_with fail
  have ca := (Chg.refl (fun _ => False) w2).alloc (.cells #[.int .u8 97, .int .u8 13, .int .u8 10] 5 (3, 4))
  refine (check_calls _ (HG.out.kept (C2.out.trans ca (fun _ _ h => h)) (fun h => h)) (some ⟨w2.heap.size, 0, none⟩) 3 [97, 13, 10] 1 (Rd.fresh w2 _ _ _ 3 3 [97, 13, 10] (by rfl) (by rfl) (by decide) (by decide)) (by decide)).mono ?_
  rintro e w3 ⟨rfl, hc⟩
  rw [wk3]
  have C23 := Lib.hid (ca.trans hc (fun _ _ h => h))
  clear ca hc hcv
  go_wp2_with fail
  have ca := (Chg.refl (fun _ => False) w3).alloc (.cells #[.int .u8 46, .int .u8 46, .int .u8 97, .int .u8 13, .int .u8 10, .int .u8 46, .int .u8 13, .int .u8 10, .int .u8 120] 5 (9, 10))
  have hs3 := C23.out.size
  refine (dots_takes _ w1.heap.size 9 99 ⟨DS.new, false⟩ ((HR.out.kept C23.out (fun h => h)).kept ca (fun h => h)) (.slice (some ⟨w3.heap.size, 0, none⟩) 9 9) [46, 46, 97, 13, 10, 46, 13, 10, 120] (Rd.fresh w3 _ _ _ 9 9 [46, 46, 97, 13, 10, 46, 13, 10, 120] (by rfl) (by rfl) (by decide) (by decide)) (fun k hk e => by simp [Value.ownBlock] at hk; omega) (by decide) (by decide)).mono ?_
  intro e w4 h4
  rw [wk4] at h4
  obtain ⟨v4, rfl, q1, q2, q3, q4⟩ := h4
  have C4 := Lib.hid (((C2.out.trans C23.out (fun _ _ h => h)).trans ca (fun _ _ h => h)).over q4 (by omega))
  obtain ⟨ra, rn, rc, rfl, hrn4, _⟩ := q2.shape
  obtain rfl : rn = 4 := by simpa [bvs, It.body] using hrn4.symm
  have HA4 := Lib.hid (show Rd w4 (.slice ra 4 rc) 1 (bvs [46, 97, 13, 10]) from q2.rd)
  have HR4 := Lib.hid q1
  have HV4 := Lib.hid (show ∀ k, (Value.slice ra 4 rc).ownBlock = some k → w1.heap.size < k from fun k hk => by have := q3 k hk; simp at this; omega)
  have hs34 := C23.out.size
  have hs4 : w1.heap.size < w4.heap.size := lt_of_block q1.blk
  clear q1 q2 q3 q4 ca hrn4
  unfold itV It.body
  go_wp2_with fail
  have ca := (Chg.refl (fun _ => False) w4).alloc (.cells #[.int .i64 3, .string ⟨#[]⟩, .slice ra 4 rc, .int .i64 0, .bool false] 30)
  refine (dots_takes _ w1.heap.size 9 99 ⟨⟨5, 0, 4, false, false, false⟩, true⟩ (HR4.out.kept ca (fun h => h)) (.slice none 0 0) [] (Own.nil _).rd (fun k hk e => by simp [Value.ownBlock] at hk) (by decide) (by decide)).mono ?_
  intro e w5 h5
  rw [wk5] at h5
  obtain ⟨v5, rfl, q1, q2, q3, q4⟩ := h5
  obtain ⟨rb, rm, rd, rfl, hrn5, _⟩ := q2.shape
  obtain rfl : rm = 0 := by simpa [bvs] using hrn5.symm
  have hsw := C4.out.size
  have hk : Chg (fun k => k = w1.heap.size) w4 w5 := (ca.mono (fun _ _ h => h.elim)).trans q4 (fun _ _ h => h)
  have C5 := Lib.hid (C4.out.over hk (by omega))
  have HA5 := Lib.hid (show Rd w5 (.slice rb 0 rd) 1 (bvs []) from q2.rd)
  have HA45 := Lib.hid (HA4.out.kept hk (fun _ k hk' e => by have := HV4.out k hk'; omega))
  have hx := q4.obj (heap_alloc_at w4 _) (fun e => by omega)
  have x0 := cell_of_blk hx 0
  have x1 := cell_of_blk hx 1
  have x2 := cell_of_blk hx 2
  have x3 := cell_of_blk hx 3
  have x4 := cell_of_blk hx 4
  have hlx := lt_of_block hx
  simp at x0 x1 x2 x3 x4
  have HX := Lib.hid hx
  clear q1 q2 q3 q4 ca hk hrn5 hx
  unfold itV
  go_wp2_with fail
  have ca := ((Chg.refl (fun _ => False) w5).alloc (.cells #[.int .i64 4, .string ⟨#[]⟩, .slice rb 0 rd, .int .i64 0, .bool false] 30)).alloc (.cells #[.int .u8 46, .int .u8 97, .int .u8 13, .int .u8 10] 5 (4, 5))
  refine (same_calls _ (It.body [46, 97, 13, 10]) ra (some ⟨w5.heap.size + 1, 0, none⟩) rc 4 (HA45.out.kept ca (fun _ _ _ h => h)) (Rd.fresh' _ _ (by simp) _ _ _ 4 4 [46, 97, 13, 10] (by rfl) (by rfl) (by decide) (by decide))).mono ?_
  rintro e w6 ⟨rfl, hc⟩
  have C6 := Lib.hid ((C5.out.trans ca (fun _ _ h => h)).trans hc (fun _ _ h => h))
  have HA56 := Lib.hid ((HA5.out.kept ca (fun _ _ _ h => h)).kept hc (fun _ _ _ h => h))
  have hx := hc.obj (heap_alloc_lt _ _ (heap_alloc_at w5 _)) (fun h => h)
  have z0 := cell_of_blk hx 0
  have z1 := cell_of_blk hx 1
  have z2 := cell_of_blk hx 2
  have z3 := cell_of_blk hx 3
  have z4 := cell_of_blk hx 4
  have hlz := lt_of_block hx
  simp at z0 z1 z2 z3 z4
  clear hx hc ca x0 x1 x2 x3 x4
  go_wp2_with fail
  refine (same_calls _ ⟨4, [], [], 0, false⟩ rb none rd 0 HA56.out (Own.nil _).rd).mono ?_
  rintro e w7 ⟨rfl, hc⟩
  have C7 := Lib.hid (C6.out.trans hc (fun _ _ h => h))
  clear hc
  go_wp2
  go_ret
  exact ⟨rfl, C7.out⟩
end Go.Proofs.YtmenphpilckphaaDoor
