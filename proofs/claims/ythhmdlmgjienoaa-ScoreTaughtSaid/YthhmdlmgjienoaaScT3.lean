/- ScoreTaught: the walk. No condition but what each states. -/
import Derived.Test.YthhmdlmgjienoaaScT2
import Derived.Test.YthhmdlmgjienoaaScL4
namespace Go.Proofs.Ythhmdlmgjienoaa
open Go Go.RowKit
attribute [local go_sem] store_f64

theorem eights_all {p : Nat → Bool} (h : eights p = true) : ∀ i, i < 8 → p i = true := by
  rw [eights, List.all_eq_true] at h
  intro i hi; exact h i (by simpa using hi)
theorem learnE_cases (ws xs : List Nat) (bad : Bool) (step : Nat) : (learnE ws xs bad step = 2 ∧ okStep step = false) ∨ (okStep step = true ∧ (learnE ws xs bad step = 210 ∨ learnE ws xs bad step = 5 ∨
    (learnE ws xs bad step = 0 ∧ (∀ i, i < 8 → ffin (ws.getD i 0) = true ∧ ffin (xs.getD i 0) = true) ∧ ∀ i, i < 8 → finO (learnI (learnD ws xs bad step) ws xs i) = true))) := by
  unfold learnE
  cases h : okStep step
  · exact .inl ⟨by simp, rfl⟩
  · refine .inr ⟨rfl, ?_⟩
    rw [if_pos rfl]
    by_cases h1 : eights (fun i => ffin (ws.getD i 0) && ffin (xs.getD i 0)) = true
    · rw [if_pos h1]
      by_cases h2 : eights (fun i => finO (learnI (learnD ws xs bad step) ws xs i)) = true
      · rw [if_pos h2]
        refine .inr (.inr ⟨rfl, fun i hi => ?_, eights_all h2⟩)
        have := eights_all h1 i hi
        simpa using this
      · rw [if_neg h2]; exact .inr (.inl rfl)
    · rw [if_neg h1]; exact .inl rfl
theorem les_w {ws xs : List Nat} {bad : Bool} {step j : Nat} (hw : ws.length = 8) (hj : j < 8) : (lesV ws xs bad step)[j]? = some (.float .f64 (ws.getD j 0)) := by
  unfold lesV
  rw [List.getElem?_toArray, List.getElem?_append_left (by simp; omega), List.getElem?_map, List.getElem?_append_left (by omega), List.getElem?_eq_getElem (by omega)]
  simp [List.getD_eq_getElem?_getD, List.getElem?_eq_getElem (show j < ws.length by omega)]
theorem les_x {ws xs : List Nat} {bad : Bool} {step j : Nat} (hw : ws.length = 8) (hx : xs.length = 8) (hj : j < 8) : (lesV ws xs bad step)[8 + j]? = some (.float .f64 (xs.getD j 0)) := by
  unfold lesV
  rw [List.getElem?_toArray, List.getElem?_append_left (by simp; omega), List.getElem?_map, List.getElem?_append_right (by omega), hw, show 8 + j - 8 = j by omega, List.getElem?_eq_getElem (by omega)]
  simp [List.getD_eq_getElem?_getD, List.getElem?_eq_getElem (show j < xs.length by omega)]
/-- The lesson and what was learnt lie in two blocks. -/
def TS (b b3 : Nat) (V : Array Value) (l : List Nat) (w : World) : Prop := w.heap[b]? = some (.cells V 43 (0, 0)) ∧ Row b3 l w
theorem TS.kept {b b3 : Nat} {V : Array Value} {l : List Nat} {w w' : World} (c : Chg (fun _ => False) w w') (h : TS b b3 V l w) : TS b b3 V l w' := ⟨c.obj h.1 (fun h => h), h.2.kept c (fun h => h)⟩
theorem TS.drew {b b3 : Nat} {V : Array Value} {l : List Nat} {w : World} (h : TS b b3 V l w) : TS b b3 V l w.drew := h

/-- What the last two tests of a round want. -/
theorem tests {x w v : Nat} {bad : Bool} (hx : x < 2 ^ 64) (hw : w < 2 ^ 64) (hv : v < 2 ^ 64) (fx : ffin x = true) (fw : ffin w = true) (fv : ffin v = true)
    (h0 : key x = 0 → key v = key w) (h1 : 0 < key x → if bad then key w ≤ key v else key v ≤ key w) :
    ((FloatKind.f64.format.order x 0 == some .eq) = true → (FloatKind.f64.format.order v w != some .eq) = false) ∧
    ((FloatKind.f64.format.order x 0 == some .gt) = true → (bad = true → (FloatKind.f64.format.order v w == some .lt) = false) ∧ (bad = false → (FloatKind.f64.format.order v w == some .gt) = false)) := by
  have hn : ∀ z, ffin z = true → isN z = false := fun z hz => by
    cases h : isN z
    · rfl
    · have := (isN_iff z).1 h
      unfold ffin at hz
      have := of_decide_eq_true hz
      omega
  have k0 : key 0 = 0 := by decide
  have e1 : (FloatKind.f64.format.order x 0 == some .eq) = _ := eq_iff hx (by decide) (hn x fx) (by decide)
  have e2 : (FloatKind.f64.format.order x 0 == some .gt) = _ := gt_iff hx (by decide) (hn x fx) (by decide)
  have e3 : (FloatKind.f64.format.order v w == some .eq) = _ := eq_iff hv hw (hn v fv) (hn w fw)
  have e4 : (FloatKind.f64.format.order v w == some .lt) = _ := lt_iff hv hw (hn v fv) (hn w fw)
  have e5 : (FloatKind.f64.format.order v w == some .gt) = _ := gt_iff hv hw (hn v fv) (hn w fw)
  rw [e1, e2, e4, e5, bne, e3, k0]
  refine ⟨fun h => ?_, fun h => ?_⟩
  · rw [h0 (of_decide_eq_true h)]; simp
  · have h2 := h1 (of_decide_eq_true h)
    refine ⟨fun hb => ?_, fun hb => ?_⟩
    · rw [hb] at h2; simp only [if_true] at h2; exact decide_eq_false (by omega)
    · rw [hb] at h2; simp only [Bool.false_eq_true, if_false] at h2; exact decide_eq_false (by omega)

set_option maxHeartbeats 1000000 in
set_option maxRecDepth 100000 in
theorem taught_walk (a0 a1 a2 a3 a4 a5 a6 a7 x0 x1 x2 x3 x4 x5 x6 x7 : Nat) (bad : Bool) (step : Nat) (hwl : ∀ v ∈ [a0, a1, a2, a3, a4, a5, a6, a7], v < 2 ^ 64) (hxl : ∀ v ∈ [x0, x1, x2, x3, x4, x5, x6, x7], v < 2 ^ 64) (hst : step < 2 ^ 64) (W : World) :
    Calls Try.prog 11 #[.agg (lesV [a0, a1, a2, a3, a4, a5, a6, a7] [x0, x1, x2, x3, x4, x5, x6, x7] bad step)] W fun r w' => r = .returned (.bool true) ∧ Below W.heap.size W w' := by
  have hch := (Chg.refl (fun _ => False) W).alloc (.cells (lesV [a0, a1, a2, a3, a4, a5, a6, a7] [x0, x1, x2, x3, x4, x5, x6, x7] bad step) 43)
  have hb : (W.alloc (.cells (lesV [a0, a1, a2, a3, a4, a5, a6, a7] [x0, x1, x2, x3, x4, x5, x6, x7] bad step) 43)).heap[W.heap.size]? = some (.cells (lesV [a0, a1, a2, a3, a4, a5, a6, a7] [x0, x1, x2, x3, x4, x5, x6, x7] bad step) 43 (0, 0)) := heap_alloc_at _ _
  have HC := Lib.hid hch
  have HB := Lib.hid hb
  have HWL := Lib.hid hwl
  have HXL := Lib.hid hxl
  clear hch hb hwl hxl
  go_enter Try.func11, Try.ntmps11
  go_upto_region 1 with (fail)
  revert HC HB
  generalize W.alloc (.cells (lesV [a0, a1, a2, a3, a4, a5, a6, a7] [x0, x1, x2, x3, x4, x5, x6, x7] bad step) 43) = W0
  intro HC HB
  go_wp2_with fail
  refine (sc_head W0).mono ?_
  rintro e w1 ⟨rfl, c1⟩
  have HC1 := Lib.hid (HC.out.trans c1 (fun _ _ h => h))
  have HB1 := Lib.hid (c1.obj HB.out (fun h => h))
  clear c1 HC HB
  have k0 : w1.cell? ⟨W.heap.size, 0, none⟩ = some (.float .f64 a0) := cell_of_blk HB1.out 0
  have k1 : w1.cell? ⟨W.heap.size, 1, none⟩ = some (.float .f64 a1) := cell_of_blk HB1.out 1
  have k2 : w1.cell? ⟨W.heap.size, 2, none⟩ = some (.float .f64 a2) := cell_of_blk HB1.out 2
  have k3 : w1.cell? ⟨W.heap.size, 3, none⟩ = some (.float .f64 a3) := cell_of_blk HB1.out 3
  have k4 : w1.cell? ⟨W.heap.size, 4, none⟩ = some (.float .f64 a4) := cell_of_blk HB1.out 4
  have k5 : w1.cell? ⟨W.heap.size, 5, none⟩ = some (.float .f64 a5) := cell_of_blk HB1.out 5
  have k6 : w1.cell? ⟨W.heap.size, 6, none⟩ = some (.float .f64 a6) := cell_of_blk HB1.out 6
  have k7 : w1.cell? ⟨W.heap.size, 7, none⟩ = some (.float .f64 a7) := cell_of_blk HB1.out 7
  have k8 : w1.cell? ⟨W.heap.size, 8, none⟩ = some (.float .f64 x0) := cell_of_blk HB1.out 8
  have k9 : w1.cell? ⟨W.heap.size, 9, none⟩ = some (.float .f64 x1) := cell_of_blk HB1.out 9
  have k10 : w1.cell? ⟨W.heap.size, 10, none⟩ = some (.float .f64 x2) := cell_of_blk HB1.out 10
  have k11 : w1.cell? ⟨W.heap.size, 11, none⟩ = some (.float .f64 x3) := cell_of_blk HB1.out 11
  have k12 : w1.cell? ⟨W.heap.size, 12, none⟩ = some (.float .f64 x4) := cell_of_blk HB1.out 12
  have k13 : w1.cell? ⟨W.heap.size, 13, none⟩ = some (.float .f64 x5) := cell_of_blk HB1.out 13
  have k14 : w1.cell? ⟨W.heap.size, 14, none⟩ = some (.float .f64 x6) := cell_of_blk HB1.out 14
  have k15 : w1.cell? ⟨W.heap.size, 15, none⟩ = some (.float .f64 x7) := cell_of_blk HB1.out 15
  have k16 : w1.cell? ⟨W.heap.size, 16, none⟩ = some (.bool bad) := cell_of_blk HB1.out 16
  have k17 : w1.cell? ⟨W.heap.size, 17, none⟩ = some (.float .f64 step) := cell_of_blk HB1.out 17
  go_wp2_with fail
  refine (s_learn a0 a1 a2 a3 a4 a5 a6 a7 x0 x1 x2 x3 x4 x5 x6 x7 bad step HWL.out HXL.out hst w1).mono ?_
  rintro e w2 ⟨l, rfl, hl, hfs, c2⟩
  obtain ⟨l0, l1, l2, l3, l4, l5, l6, l7, rfl⟩ := eight hl
  have HF := Lib.hid hfs
  have HB2 := Lib.hid (c2.obj HB1.out (fun h => h))
  have HC2 := Lib.hid (HC1.out.trans c2 (fun _ _ h => h))
  clear k0 k1 k2 k3 k4 k5 k6 k7 k8 k9 k10 k11 k12 k13 k14 k15 k16 k17 hfs c2 hl HC1 HB1
  rw [show fvs [l0, l1, l2, l3, l4, l5, l6, l7] = #[.float .f64 l0, .float .f64 l1, .float .f64 l2, .float .f64 l3, .float .f64 l4, .float .f64 l5, .float .f64 l6, .float .f64 l7] from rfl]
  obtain ⟨E, hE⟩ : ∃ E, E = learnE [a0, a1, a2, a3, a4, a5, a6, a7] [x0, x1, x2, x3, x4, x5, x6, x7] bad step := ⟨_, rfl⟩
  have hcase := learnE_cases [a0, a1, a2, a3, a4, a5, a6, a7] [x0, x1, x2, x3, x4, x5, x6, x7] bad step
  rw [← hE] at hcase
  rw [← hE]
  have HE := Lib.hid hE
  have HCA := Lib.hid hcase
  clear hE hcase
  go_upto_region 4 with (fail)
  obtain ⟨W4, hW4⟩ : ∃ W4, W4 = w2.alloc (.cells #[.float .f64 l0, .float .f64 l1, .float .f64 l2, .float .f64 l3, .float .f64 l4, .float .f64 l5, .float .f64 l6, .float .f64 l7] 23) := ⟨_, rfl⟩
  have g3 : W.heap.size < w2.heap.size := lt_of_block HB2.out
  have hr := row_stored w2 l0 l1 l2 l3 l4 l5 l6 l7
  have hg := chg_stored w2 l0 l1 l2 l3 l4 l5 l6 l7
  rw [← hW4] at hr hg
  rw [← hW4]
  have HC4 := Lib.hid (HC2.out.trans hg (fun _ _ h => h))
  have ht : TS W.heap.size w2.heap.size (lesV [a0, a1, a2, a3, a4, a5, a6, a7] [x0, x1, x2, x3, x4, x5, x6, x7] bad step) [l0, l1, l2, l3, l4, l5, l6, l7] W4 := ⟨hg.obj HB2.out (fun h => h), hr⟩
  have HT := Lib.hid ht
  generalize w2.heap.size = b3 at *
  clear hr hg hW4 HC2 HB2 ht
  rcases HCA.out with ⟨rfl, hok⟩ | ⟨hok, rfl | rfl | ⟨rfl, hfin, hfin2⟩⟩
  · have cs : W4.cell? ⟨W.heap.size, 17, none⟩ = some (.float .f64 step) := cell_of_blk HT.out.1 17
    unfold okStep at hok
    cases hp : (Ieee.double.order step 0 == some .gt)
    · have hp' : (FloatKind.f64.format.order step 0 == some .gt) = false := hp
      clear hok hp
      go_wp2
      go_ret
      exact ⟨rfl, HC4.out.below (Nat.le_refl _) (fun _ _ h => h)⟩
    · have hp' : (FloatKind.f64.format.order step 0 == some .gt) = true := hp
      rw [hp, Bool.true_and] at hok
      have hq' : (FloatKind.f64.format.order step 4607182418800017408 == some .lt || FloatKind.f64.format.order step 4607182418800017408 == some .eq) = false := hok
      clear hok hp
      go_wp2
      go_ret
      exact ⟨rfl, HC4.out.below (Nat.le_refl _) (fun _ _ h => h)⟩
  · have cs : W4.cell? ⟨W.heap.size, 17, none⟩ = some (.float .f64 step) := cell_of_blk HT.out.1 17
    unfold okStep at hok
    rw [Bool.and_eq_true] at hok
    have hp' : (FloatKind.f64.format.order step 0 == some .gt) = true := hok.1
    have hq' : (FloatKind.f64.format.order step 4607182418800017408 == some .lt || FloatKind.f64.format.order step 4607182418800017408 == some .eq) = true := hok.2
    clear hok
    go_wp2
    go_ret
    exact ⟨rfl, HC4.out.below (Nat.le_refl _) (fun _ _ h => h)⟩
  · have cs : W4.cell? ⟨W.heap.size, 17, none⟩ = some (.float .f64 step) := cell_of_blk HT.out.1 17
    unfold okStep at hok
    rw [Bool.and_eq_true] at hok
    have hp' : (FloatKind.f64.format.order step 0 == some .gt) = true := hok.1
    have hq' : (FloatKind.f64.format.order step 4607182418800017408 == some .lt || FloatKind.f64.format.order step 4607182418800017408 == some .eq) = true := hok.2
    clear hok
    go_wp2
    go_ret
    exact ⟨rfl, HC4.out.below (Nat.le_refl _) (fun _ _ h => h)⟩
  · have HOK := Lib.hid hok
    have HFIN := Lib.hid hfin
    have HFIN2 := Lib.hid hfin2
    clear hok hfin hfin2
    go_wp2_with fail
    go_loopg [5] 8 (SAt W4)
    case atStart => exact ⟨0, rfl, rfl, Chg.refl _ _⟩
    case round =>
      obtain ⟨j, hj, rfl, hc⟩ := hrel
      have HCC := Lib.hid hc
      have htr := HT.out.kept hc
      clear hc
      by_cases hg : gk = 0
      · have hlt : ¬ (j : Int) < 8 := by omega
        go_wp2
        go_ret
        exact ⟨rfl, (HC4.out.trans HCC.out (fun _ _ h => h)).below (Nat.le_refl _) (fun _ _ h => h)⟩
      · have hlt : (j : Int) < 8 := by omega
        have hj8 : j < 8 := by omega
        have k1 := fun (w' : World) (h : TS W.heap.size b3 (lesV [a0, a1, a2, a3, a4, a5, a6, a7] [x0, x1, x2, x3, x4, x5, x6, x7] bad step) [l0, l1, l2, l3, l4, l5, l6, l7] w') => (cell_of_blk h.1 j).trans (les_w rfl hj8)
        have k2 := fun (w' : World) (h : TS W.heap.size b3 (lesV [a0, a1, a2, a3, a4, a5, a6, a7] [x0, x1, x2, x3, x4, x5, x6, x7] bad step) [l0, l1, l2, l3, l4, l5, l6, l7] w') => (cell_of_blk h.1 (8 + j)).trans (les_x rfl rfl hj8)
        have k3 : ∀ (w' : World), TS W.heap.size b3 (lesV [a0, a1, a2, a3, a4, a5, a6, a7] [x0, x1, x2, x3, x4, x5, x6, x7] bad step) [l0, l1, l2, l3, l4, l5, l6, l7] w' → w'.cell? ⟨W.heap.size, 16, none⟩ = some (.bool bad) := fun w' h => cell_of_blk h.1 16
        have k4 := fun (w' : World) (h : TS W.heap.size b3 (lesV [a0, a1, a2, a3, a4, a5, a6, a7] [x0, x1, x2, x3, x4, x5, x6, x7] bad step) [l0, l1, l2, l3, l4, l5, l6, l7] w') => h.2.at (i := j) hj8
        have fs := HF.out j hj8
        rw [learnO, if_pos HE.out.symm] at fs
        have wl := HWL.out ([a0, a1, a2, a3, a4, a5, a6, a7].getD j 0) (getD_mem hj8)
        have xl := HXL.out ([x0, x1, x2, x3, x4, x5, x6, x7].getD j 0) (getD_mem hj8)
        have ff := HFIN.out j hj8
        have f2 := HFIN2.out j hj8
        have fv := (fin_fs fs).trans f2
        have hsome : learnI (learnD [a0, a1, a2, a3, a4, a5, a6, a7] [x0, x1, x2, x3, x4, x5, x6, x7] bad step) [a0, a1, a2, a3, a4, a5, a6, a7] [x0, x1, x2, x3, x4, x5, x6, x7] j = some ([l0, l1, l2, l3, l4, l5, l6, l7].getD j 0) := by
          cases h : learnI (learnD [a0, a1, a2, a3, a4, a5, a6, a7] [x0, x1, x2, x3, x4, x5, x6, x7] bad step) [a0, a1, a2, a3, a4, a5, a6, a7] [x0, x1, x2, x3, x4, x5, x6, x7] j with
          | none => rw [h] at f2; cases f2
          | some v => rw [h] at fs; rw [show [l0, l1, l2, l3, l4, l5, l6, l7].getD j 0 = v from fs.2]
        have ht := taught (i := j) hst HOK.out wl xl (by have := ff.1; unfold ffin at this; exact of_decide_eq_true this) (by have := ff.2; unfold ffin at this; exact of_decide_eq_true this) hsome fv
        have htest := tests (bad := bad) xl wl fs.lt ff.2 ff.1 fv ht.1 ht.2
        have vl := fs.lt
        clear fs f2 hsome ht
        generalize [a0, a1, a2, a3, a4, a5, a6, a7].getD j 0 = wj at *
        generalize [x0, x1, x2, x3, x4, x5, x6, x7].getD j 0 = xj at *
        generalize [l0, l1, l2, l3, l4, l5, l6, l7].getD j 0 = vj at *
        have q1 := k1 _ htr
        have q2 := k2 _ htr
        have q3 := k3 _ htr
        have q4 := k4 _ htr
        have HTEST := Lib.hid htest
        obtain ⟨ff1, ff2⟩ := ff
        clear htest
        go_wp2_with fail
        refine (l_finite vj vl wr).mono ?_
        rintro e wa ⟨rfl, rfl⟩
        rw [fv]
        go_wp2_with fail
        refine (l_finite wj wl wa).mono ?_
        rintro e wb ⟨rfl, rfl⟩
        rw [ff1]
        go_wp2_with fail
        refine (l_finite xj xl wb).mono ?_
        rintro e wc ⟨rfl, rfl⟩
        rw [ff2]
        clear ff1 ff2 fv k1 k2 k3 k4
        have cp : (FloatKind.f64.format.order xj 0 == some .eq) = false ∨ ((FloatKind.f64.format.order xj 0 == some .eq) = true ∧ (FloatKind.f64.format.order vj wj != some .eq) = false) := by
          cases h : (FloatKind.f64.format.order xj 0 == some .eq)
          · exact .inl rfl
          · exact .inr ⟨rfl, HTEST.out.1 h⟩
        have cg : (FloatKind.f64.format.order xj 0 == some .gt) = false ∨ ((FloatKind.f64.format.order xj 0 == some .gt) = true ∧ bad = true ∧ (FloatKind.f64.format.order vj wj == some .lt) = false) ∨
            ((FloatKind.f64.format.order xj 0 == some .gt) = true ∧ bad = false ∧ (FloatKind.f64.format.order vj wj == some .gt) = false) := by
          cases h : (FloatKind.f64.format.order xj 0 == some .gt)
          · exact .inl rfl
          · have := HTEST.out.2 h
            cases hbd : bad
            · exact .inr (.inr ⟨rfl, rfl, this.2 hbd⟩)
            · exact .inr (.inl ⟨rfl, rfl, this.1 hbd⟩)
        go_wp2_with fail
        clear HT HFIN HFIN2 HE HOK HF HTEST HWL HXL wl xl vl htr
        rcases cp with p1 | ⟨p1, p2⟩ <;> rcases cg with g1 | ⟨g1, g2, g4⟩ | ⟨g1, g2, g4⟩
        all_goals
          go_region
          go_wp2_with fail
          go_region
          go_wp2
          go_roundg (gk - 1)
          case measure => omega
          case rel => exact ⟨j + 1, by omega, by go_num, HCC.out.drew.drew⟩
end Go.Proofs.Ythhmdlmgjienoaa
