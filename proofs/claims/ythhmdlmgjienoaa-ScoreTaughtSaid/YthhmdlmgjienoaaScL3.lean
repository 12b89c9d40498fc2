/- Learn: the document's walk. No condition but what each states. -/
import Derived.Test.YthhmdlmgjienoaaScL2
namespace Go.Proofs.Ythhmdlmgjienoaa
open Go Go.RowKit
attribute [local go_sem] run_fadd run_fsub run_fmul run_fquo store_f64

theorem r_learn (a0 a1 a2 a3 a4 a5 a6 a7 x0 x1 x2 x3 x4 x5 x6 x7 : Nat) (bad : Bool) (step : Nat) (hwl : ∀ v ∈ [a0, a1, a2, a3, a4, a5, a6, a7], v < 2 ^ 64) (hxl : ∀ v ∈ [x0, x1, x2, x3, x4, x5, x6, x7], v < 2 ^ 64) (hst : step < 2 ^ 64) (w : World) :
    Calls Try.prog 27 #[.agg (fvs [a0, a1, a2, a3, a4, a5, a6, a7]), .agg (fvs [x0, x1, x2, x3, x4, x5, x6, x7]), .bool bad, .float .f64 step] w fun r w' =>
      ∃ l : List Nat, r = .returned (.tuple #[.agg (fvs l), .int .i64 (learnE [a0, a1, a2, a3, a4, a5, a6, a7] [x0, x1, x2, x3, x4, x5, x6, x7] bad step)]) ∧ l.length = 8 ∧ (∀ i, i < 8 → FS (learnO [a0, a1, a2, a3, a4, a5, a6, a7] [x0, x1, x2, x3, x4, x5, x6, x7] bad step i) (l.getD i 0)) ∧ Chg (fun _ => False) w w' := by
  have hch := ((((Chg.refl (fun _ => False) w).alloc (.cells (fvs [a0, a1, a2, a3, a4, a5, a6, a7]) 23)).alloc (.cells (fvs [x0, x1, x2, x3, x4, x5, x6, x7]) 23)).alloc (.cells #[.float .f64 0, .float .f64 0, .float .f64 0, .float .f64 0, .float .f64 0, .float .f64 0, .float .f64 0, .float .f64 0] 23))
  have r1 : Row w.heap.size [a0, a1, a2, a3, a4, a5, a6, a7] (((w.alloc (.cells (fvs [a0, a1, a2, a3, a4, a5, a6, a7]) 23)).alloc (.cells (fvs [x0, x1, x2, x3, x4, x5, x6, x7]) 23)).alloc (.cells #[.float .f64 0, .float .f64 0, .float .f64 0, .float .f64 0, .float .f64 0, .float .f64 0, .float .f64 0, .float .f64 0] 23)) :=
    heap_alloc_lt _ _ (heap_alloc_lt _ _ (heap_alloc_at _ _))
  have r2 : Row (w.heap.size + 1) [x0, x1, x2, x3, x4, x5, x6, x7] (((w.alloc (.cells (fvs [a0, a1, a2, a3, a4, a5, a6, a7]) 23)).alloc (.cells (fvs [x0, x1, x2, x3, x4, x5, x6, x7]) 23)).alloc (.cells #[.float .f64 0, .float .f64 0, .float .f64 0, .float .f64 0, .float .f64 0, .float .f64 0, .float .f64 0, .float .f64 0] 23)) :=
    heap_alloc_lt _ _ (Row.ofN (b := (w.alloc (.cells (fvs [a0, a1, a2, a3, a4, a5, a6, a7]) 23)).heap.size) (heap_alloc_at _ _) (by simp))
  have r3 : Row (w.heap.size + 1 + 1) z8 (((w.alloc (.cells (fvs [a0, a1, a2, a3, a4, a5, a6, a7]) 23)).alloc (.cells (fvs [x0, x1, x2, x3, x4, x5, x6, x7]) 23)).alloc (.cells #[.float .f64 0, .float .f64 0, .float .f64 0, .float .f64 0, .float .f64 0, .float .f64 0, .float .f64 0, .float .f64 0] 23)) :=
    Row.ofN (heap_alloc_at _ _) (by simp)
  have HC := Lib.hid hch
  have R1 := Lib.hid r1
  have R2 := Lib.hid r2
  have R3 := Lib.hid r3
  have HWL := Lib.hid hwl
  have HXL := Lib.hid hxl
  clear hch r1 r2 r3 hwl hxl
  go_enter Try.func27, Try.ntmps27
  go_upto_region 1 with (fail)
  revert HC R1 R2 R3
  generalize ((w.alloc (.cells (fvs [a0, a1, a2, a3, a4, a5, a6, a7]) 23)).alloc (.cells (fvs [x0, x1, x2, x3, x4, x5, x6, x7]) 23)).alloc (.cells #[.float .f64 0, .float .f64 0, .float .f64 0, .float .f64 0, .float .f64 0, .float .f64 0, .float .f64 0, .float .f64 0] 23) = W0
  intro HC R1 R2 R3
  have k3 := cells8 R3.out rfl
  have f3 := R3.out.free
  cases hp : (Ieee.double.order step 0 == some .gt)
  · have hp' : (FloatKind.f64.format.order step 0 == some .gt) = false := hp
    have hE : learnE [a0, a1, a2, a3, a4, a5, a6, a7] [x0, x1, x2, x3, x4, x5, x6, x7] bad step = 2 := by rw [learnE, okStep, hp]; rfl
    have HE := Lib.hid hE
    clear hp hE
    obtain ⟨k0, k1, k2, k3, k4, k5, k6, k7⟩ := k3
    simp only [z8, List.getD_cons_zero, List.getD_cons_succ] at k0 k1 k2 k3 k4 k5 k6 k7
    go_wp2
    refine bodyPost_ret (v := .tuple #[.agg (fvs z8), .int .i64 2]) ?_ rfl ⟨z8, by rw [HE.out], rfl, ?_, ?_⟩
    · simp [results, Try.results27, go_sem, k0, k1, k2, k3, k4, k5, k6, k7, fvs, z8]
    · exact learn_zero (by rw [HE.out]; decide)
    · exact (HC.out.trans (learn_sets W0 (w.heap.size + 1 + 1) 0 [.float .f64 0, .float .f64 0, .float .f64 0, .float .f64 0, .float .f64 0, .float .f64 0, .float .f64 0, .float .f64 0]) (fun i hi h => by omega))
  cases hq : (Ieee.double.order step 4607182418800017408 == some .lt || Ieee.double.order step 4607182418800017408 == some .eq)
  · have hp' : (FloatKind.f64.format.order step 0 == some .gt) = true := hp
    have hq' : (FloatKind.f64.format.order step 4607182418800017408 == some .lt || FloatKind.f64.format.order step 4607182418800017408 == some .eq) = false := hq
    have hE : learnE [a0, a1, a2, a3, a4, a5, a6, a7] [x0, x1, x2, x3, x4, x5, x6, x7] bad step = 2 := by rw [learnE, okStep, hp, hq]; rfl
    have HE := Lib.hid hE
    clear hp hq hE
    obtain ⟨k0, k1, k2, k3, k4, k5, k6, k7⟩ := k3
    simp only [z8, List.getD_cons_zero, List.getD_cons_succ] at k0 k1 k2 k3 k4 k5 k6 k7
    go_wp2
    refine bodyPost_ret (v := .tuple #[.agg (fvs z8), .int .i64 2]) ?_ rfl ⟨z8, by rw [HE.out], rfl, ?_, ?_⟩
    · simp [results, Try.results27, go_sem, k0, k1, k2, k3, k4, k5, k6, k7, fvs, z8]
    · exact learn_zero (by rw [HE.out]; decide)
    · exact (HC.out.trans (learn_sets W0 (w.heap.size + 1 + 1) 0 [.float .f64 0, .float .f64 0, .float .f64 0, .float .f64 0, .float .f64 0, .float .f64 0, .float .f64 0, .float .f64 0]) (fun i hi h => by omega))
  have hp' : (FloatKind.f64.format.order step 0 == some .gt) = true := hp
  have hq' : (FloatKind.f64.format.order step 4607182418800017408 == some .lt || FloatKind.f64.format.order step 4607182418800017408 == some .eq) = true := hq
  have HOK := Lib.hid (show okStep step = true by rw [okStep, hp, hq]; rfl)
  clear hp hq k3 f3
  go_wp2_with fail
  clear hp' hq'
  go_loopg [10] 8 (LAt1 W0 [a0, a1, a2, a3, a4, a5, a6, a7] [x0, x1, x2, x3, x4, x5, x6, x7])
  case atStart => exact ⟨0, rfl, rfl, fun i hi => by omega, Chg.refl _ _⟩
  case round =>
    obtain ⟨j, hj, rfl, hall, hc⟩ := hrel
    have HCC := Lib.hid hc
    by_cases hg : gk = 0
    · have hlt : ¬ (j : Int) < 8 := by omega
      have hfin := eights_yes (fun i hi => hall i (by omega))
      have HF := Lib.hid hfin
      have R1' := Lib.hid (R1.out.kept hc (fun h => h))
      have R2' := Lib.hid (R2.out.kept hc (fun h => h))
      have R3' := Lib.hid (R3.out.kept hc (fun h => h))
      clear hall hc hfin
      go_upto_if 42 with (fail)
      go_cut [11] (fun nv wx => wr = wx ∧ nv = .float .f64 (wantOf bad))
      case first =>
        cases bad
        all_goals
          go_wp2
          go_meet
          exact ⟨rfl, rfl⟩
      case rest =>
        obtain ⟨rfl, rfl⟩ := hcut
        have k1 := R1'.out.cells
        have k2 := R2'.out.cells
        go_wp2_with fail
        refine (r_weigh [a0, a1, a2, a3, a4, a5, a6, a7] [x0, x1, x2, x3, x4, x5, x6, x7] rfl rfl HWL.out HXL.out wr).mono ?_
        rintro e w1 ⟨s1, rfl, hs1, d1⟩
        have R1'' := Lib.hid (R1'.out.kept d1 (fun h => h))
        have R2'' := Lib.hid (R2'.out.kept d1 (fun h => h))
        have R3'' := Lib.hid (R3'.out.kept d1 (fun h => h))
        have CC1 := Lib.hid ((HC.out.trans HCC.out (fun _ _ h => h)).trans d1 (fun _ _ h => h))
        have HS1 := Lib.hid hs1
        clear k1 k2 hs1 d1 R1' R2' R3' HCC HC R1 R2 R3
        go_wp2_with fail
        refine (r_soft s1 HS1.out.lt w1).mono ?_
        rintro e w2 ⟨y, rfl, hy, d2⟩
        have R1 := Lib.hid (R1''.out.kept d2 (fun h => h))
        have R2 := Lib.hid (R2''.out.kept d2 (fun h => h))
        have R3 := Lib.hid (R3''.out.kept d2 (fun h => h))
        have CC := Lib.hid (CC1.out.trans d2 (fun _ _ h => h))
        have hd := fun z z' => learnD_fs (bad := bad) hst HS1.out hy z z'
        have HD := Lib.hid hd
        clear hd hy d2 R1'' R2'' R3'' CC1 HS1
        go_wp2_with fail
        obtain ⟨dv, hdv⟩ : ∃ dv, dv = fres (w2.drewN (fdr .sub (wantOf bad) y)) .mul step (fres w2 .sub (wantOf bad) y) := ⟨_, rfl⟩
        have hfd : FS (learnD [a0, a1, a2, a3, a4, a5, a6, a7] [x0, x1, x2, x3, x4, x5, x6, x7] bad step) dv := by rw [hdv]; exact HD.out _ _
        rw [← hdv]
        have HFD := Lib.hid hfd
        clear hdv hfd HD
        obtain ⟨nw, hnw⟩ : ∃ nw, nw = fdr .sub (wantOf bad) y + fdr .mul step (fres w2 .sub (wantOf bad) y) := ⟨_, rfl⟩
        obtain ⟨b4, hb4⟩ : ∃ b4, b4 = w2.heap.size := ⟨_, rfl⟩
        obtain ⟨W1, hW1⟩ : ∃ W1, W1 = (w2.drewN nw).alloc (.cells #[.float .f64 0, .float .f64 0, .float .f64 0, .float .f64 0, .float .f64 0, .float .f64 0, .float .f64 0, .float .f64 0] 23) := ⟨_, rfl⟩
        have g3 : w.heap.size + 1 + 1 < b4 := by rw [hb4]; exact lt_of_block R3.out
        have Q1 : Hid (Row w.heap.size [a0, a1, a2, a3, a4, a5, a6, a7] W1) := Lib.hid (by rw [hW1]; exact heap_alloc_lt _ _ (R1.out.drewN _))
        have Q2 : Hid (Row (w.heap.size + 1) [x0, x1, x2, x3, x4, x5, x6, x7] W1) := Lib.hid (by rw [hW1]; exact heap_alloc_lt _ _ (R2.out.drewN _))
        have Q3 : Hid (Row (w.heap.size + 1 + 1) z8 W1) := Lib.hid (by rw [hW1]; exact heap_alloc_lt _ _ (R3.out.drewN _))
        have Q4 : Hid (Row b4 z8 W1) := Lib.hid (by rw [hW1, hb4]; exact heap_alloc_at _ _)
        have QC : Hid (Chg (fun _ => False) w W1) := Lib.hid (by rw [hW1]; exact (CC.out.drewN _).alloc _)
        rw [← hnw, ← hW1, ← hb4]
        clear hW1 hb4 hnw R1 R2 R3 CC
        obtain ⟨go, hgo⟩ : ∃ go : Nat, go = gk := ⟨_, rfl⟩
        subst hgo
        go_loopg [15] 8 (LAt2 W1 b4 z8 (learnI (learnD [a0, a1, a2, a3, a4, a5, a6, a7] [x0, x1, x2, x3, x4, x5, x6, x7] bad step) [a0, a1, a2, a3, a4, a5, a6, a7] [x0, x1, x2, x3, x4, x5, x6, x7]))
        case atStart => exact ⟨0, z8, rfl, rfl, rfl, Q4.out, fun i hi => by omega, fun _ _ => rfl, Chg.refl _ _⟩
        case round =>
          obtain ⟨j2, l, hj2, rfl, hl, hrow, hdone, hrest, hc⟩ := hrel
          have r1 := Q1.out.kept hc (show ¬ (w.heap.size = b4) by omega)
          have r2 := Q2.out.kept hc (show ¬ (w.heap.size + 1 = b4) by omega)
          have r3 := Q3.out.kept hc (show ¬ (w.heap.size + 1 + 1 = b4) by omega)
          have HCC := Lib.hid hc
          by_cases hg2 : gk = 0
          · have hlt2 : ¬ (j2 : Int) < 8 := by omega
            have hfin2 := eights_yes (p := fun i => finO (learnI (learnD [a0, a1, a2, a3, a4, a5, a6, a7] [x0, x1, x2, x3, x4, x5, x6, x7] bad step) [a0, a1, a2, a3, a4, a5, a6, a7] [x0, x1, x2, x3, x4, x5, x6, x7] i)) (fun i hi => (hdone i (by omega)).2)
            have hE : learnE [a0, a1, a2, a3, a4, a5, a6, a7] [x0, x1, x2, x3, x4, x5, x6, x7] bad step = 0 := by
              rw [learnE, if_pos HOK.out, if_pos HF.out, if_pos hfin2]
            have HE := Lib.hid hE
            have hO : ∀ i, i < 8 → FS (learnO [a0, a1, a2, a3, a4, a5, a6, a7] [x0, x1, x2, x3, x4, x5, x6, x7] bad step i) (l.getD i 0) := fun i hi => by
              rw [learnO, if_pos HE.out]; exact (hdone i (by omega)).1
            have HO := Lib.hid hO
            obtain ⟨l0, l1, l2, l3, l4, l5, l6, l7, rfl⟩ := eight hl
            have m := cells8 hrow rfl
            have k3 := cells8 r3 rfl
            have f3 := r3.free
            obtain ⟨k0, k1, k2, k3, k4, k5, k6, k7⟩ := k3
            simp only [z8, List.getD_cons_zero, List.getD_cons_succ] at k0 k1 k2 k3 k4 k5 k6 k7 m
            clear hc hrow hdone hrest r1 r2 r3 hfin2 hE hO hl
            go_wp2
            refine bodyPost_ret (v := .tuple #[.agg (fvs [l0, l1, l2, l3, l4, l5, l6, l7]), .int .i64 0]) ?_ rfl ⟨[l0, l1, l2, l3, l4, l5, l6, l7], by rw [HE.out], rfl, HO.out, ?_⟩
            · simp [results, Try.results27, go_sem, k0, k1, k2, k3, k4, k5, k6, k7, fvs]
            · exact ((QC.out.trans HCC.out (fun i hi h => by omega)).trans (learn_sets wr (w.heap.size + 1 + 1) 0 [.float .f64 l0, .float .f64 l1, .float .f64 l2, .float .f64 l3, .float .f64 l4, .float .f64 l5, .float .f64 l6, .float .f64 l7]) (fun i hi h => by omega))
          · have hlt2 : (j2 : Int) < 8 := by omega
            have hj8 : j2 < 8 := by omega
            have c0 := hrow.at (i := j2) (by omega)
            have f0 := hrow.free
            have c1 := r1.at (i := j2) hj8
            have c2 := r2.at (i := j2) hj8
            have hI := fun z z' => learnI_fs (i := j2) HFD.out rfl rfl (HWL.out ([a0, a1, a2, a3, a4, a5, a6, a7].getD j2 0) (getD_mem hj8)) (HXL.out ([x0, x1, x2, x3, x4, x5, x6, x7].getD j2 0) (getD_mem hj8)) z z'
            have HI := Lib.hid hI
            have k3 := cells8 r3 rfl
            have f3 := r3.free
            have HROW := Lib.hid hrow
            have HDONE := Lib.hid hdone
            have HREST := Lib.hid hrest
            have HL := Lib.hid hl
            obtain ⟨k0, k1, k2, k3, k4, k5, k6, k7⟩ := k3
            simp only [z8, List.getD_cons_zero, List.getD_cons_succ] at k0 k1 k2 k3 k4 k5 k6 k7
            clear hI hrow hdone hrest r1 r2 r3 hc hl
            generalize [a0, a1, a2, a3, a4, a5, a6, a7].getD j2 0 = a at *
            generalize [x0, x1, x2, x3, x4, x5, x6, x7].getD j2 0 = b at *
            generalize l.getD j2 0 = lj at *
            go_wp2_with fail
            obtain ⟨v, hv⟩ : ∃ v, v = fres (wr.drewN (fdr .mul dv b)) .add a (fres wr .mul dv b) := ⟨_, rfl⟩
            have hvf : FS (learnI (learnD [a0, a1, a2, a3, a4, a5, a6, a7] [x0, x1, x2, x3, x4, x5, x6, x7] bad step) [a0, a1, a2, a3, a4, a5, a6, a7] [x0, x1, x2, x3, x4, x5, x6, x7] j2) v := by rw [hv]; exact HI.out _ _
            obtain ⟨nd, hnd⟩ : ∃ nd, nd = fdr .mul dv b + fdr .add a (fres wr .mul dv b) := ⟨_, rfl⟩
            rw [← hv, ← hnd]
            clear hv hnd HI
            refine (r_finite v _).mono ?_
            rintro e w3 ⟨rfl, n3, rfl⟩
            rw [fin_fs hvf]
            have HV := Lib.hid hvf
            clear hvf
            cases hf : finO (learnI (learnD [a0, a1, a2, a3, a4, a5, a6, a7] [x0, x1, x2, x3, x4, x5, x6, x7] bad step) [a0, a1, a2, a3, a4, a5, a6, a7] [x0, x1, x2, x3, x4, x5, x6, x7] j2)
            · have hE : learnE [a0, a1, a2, a3, a4, a5, a6, a7] [x0, x1, x2, x3, x4, x5, x6, x7] bad step = 5 := by
                rw [learnE, if_pos HOK.out, if_pos HF.out, if_neg]
                rw [eights_no (p := fun i => finO (learnI (learnD [a0, a1, a2, a3, a4, a5, a6, a7] [x0, x1, x2, x3, x4, x5, x6, x7] bad step) [a0, a1, a2, a3, a4, a5, a6, a7] [x0, x1, x2, x3, x4, x5, x6, x7] i)) (i := j2) hj8 hf]; simp
              have HE := Lib.hid hE
              clear hE hf
              go_wp2
              refine bodyPost_ret (v := .tuple #[.agg (fvs z8), .int .i64 5]) ?_ rfl ⟨z8, by rw [HE.out], rfl, ?_, ?_⟩
              · simp [results, Try.results27, go_sem, k0, k1, k2, k3, k4, k5, k6, k7, fvs, z8]
              · exact learn_zero (by rw [HE.out]; decide)
              · exact (((((QC.out.trans HCC.out (fun i hi h => by omega)).drewN nd).set (fun h => by simp at h; omega) _).drewN n3).trans (learn_sets _ (w.heap.size + 1 + 1) 0 [.float .f64 0, .float .f64 0, .float .f64 0, .float .f64 0, .float .f64 0, .float .f64 0, .float .f64 0, .float .f64 0]) (fun i hi h => by omega))
            · have HFI := Lib.hid hf
              clear hf
              go_wp2
              go_roundg (gk - 1)
              case measure => omega
              case rel =>
                refine ⟨j2 + 1, l.set j2 v, by omega, by go_num, by simp [HL.out], (HROW.out.drewN nd).set j2 v, ?_, ?_, ((HCC.out.drewN nd).set (fun _ => rfl) _).drewN n3⟩
                · intro i hi
                  by_cases e : i = j2
                  · subst e
                    rw [getD_set_same (by rw [HL.out]; exact hj8)]
                    exact ⟨HV.out, HFI.out⟩
                  · rw [getD_set_other (fun h => e h.symm)]
                    exact HDONE.out i (by omega)
                · intro i hi
                  rw [getD_set_other (by omega)]
                  exact HREST.out i (by omega)
    · have hlt : (j : Int) < 8 := by omega
      have hj8 : j < 8 := by omega
      have c1 := (R1.out.kept hc (fun h => h)).at (i := j) hj8
      have c2 := (R2.out.kept hc (fun h => h)).at (i := j) hj8
      have la := HWL.out ([a0, a1, a2, a3, a4, a5, a6, a7].getD j 0) (getD_mem hj8)
      have lx := HXL.out ([x0, x1, x2, x3, x4, x5, x6, x7].getD j 0) (getD_mem hj8)
      have r3 := R3.out.kept hc (fun h => h)
      have k3 := cells8 r3 rfl
      have f3 := r3.free
      have key : (ffin ([a0, a1, a2, a3, a4, a5, a6, a7].getD j 0) && ffin ([x0, x1, x2, x3, x4, x5, x6, x7].getD j 0)) = false → learnE [a0, a1, a2, a3, a4, a5, a6, a7] [x0, x1, x2, x3, x4, x5, x6, x7] bad step = 210 := by
        intro h
        rw [learnE, if_pos HOK.out, if_neg]
        rw [eights_no (i := j) hj8 h]; simp
      have hnext : (ffin ([a0, a1, a2, a3, a4, a5, a6, a7].getD j 0) && ffin ([x0, x1, x2, x3, x4, x5, x6, x7].getD j 0)) = true → ∀ i, i < j + 1 → (ffin ([a0, a1, a2, a3, a4, a5, a6, a7].getD i 0) && ffin ([x0, x1, x2, x3, x4, x5, x6, x7].getD i 0)) = true := by
        intro h i hi
        by_cases e : i = j
        · subst e; exact h
        · exact hall i (by omega)
      have HK := Lib.hid key
      have HN := Lib.hid hnext
      clear key hnext hall hc r3
      generalize [a0, a1, a2, a3, a4, a5, a6, a7].getD j 0 = a at *
      generalize [x0, x1, x2, x3, x4, x5, x6, x7].getD j 0 = b at *
      obtain ⟨k0, k1, k2, k3, k4, k5, k6, k7⟩ := k3
      simp only [z8, List.getD_cons_zero, List.getD_cons_succ] at k0 k1 k2 k3 k4 k5 k6 k7
      go_wp2_with fail
      refine (r_finite a wr).mono ?_
      rintro e w2 ⟨rfl, n2, rfl⟩
      cases hf : ffin a
      · have HE := Lib.hid (HK.out (by rw [hf]; rfl))
        clear HK HN
        go_wp2
        refine bodyPost_ret (v := .tuple #[.agg (fvs z8), .int .i64 210]) ?_ rfl ⟨z8, by rw [HE.out], rfl, ?_, ?_⟩
        · simp [results, Try.results27, go_sem, k0, k1, k2, k3, k4, k5, k6, k7, fvs, z8]
        · exact learn_zero (by rw [HE.out]; decide)
        · exact (((HC.out.trans HCC.out (fun _ _ h => h)).drewN _).trans (learn_sets _ (w.heap.size + 1 + 1) 0 [.float .f64 0, .float .f64 0, .float .f64 0, .float .f64 0, .float .f64 0, .float .f64 0, .float .f64 0, .float .f64 0]) (fun i hi h => by omega))
      · go_wp2_with fail
        refine (r_finite b _).mono ?_
        rintro e w3 ⟨rfl, n3, rfl⟩
        cases hfb : ffin b
        · have HE := Lib.hid (HK.out (by rw [hf, hfb]; rfl))
          clear HK HN
          go_wp2
          refine bodyPost_ret (v := .tuple #[.agg (fvs z8), .int .i64 210]) ?_ rfl ⟨z8, by rw [HE.out], rfl, ?_, ?_⟩
          · simp [results, Try.results27, go_sem, k0, k1, k2, k3, k4, k5, k6, k7, fvs, z8]
          · exact learn_zero (by rw [HE.out]; decide)
          · exact (((HC.out.trans HCC.out (fun _ _ h => h)).drewN _).trans (learn_sets _ (w.heap.size + 1 + 1) 0 [.float .f64 0, .float .f64 0, .float .f64 0, .float .f64 0, .float .f64 0, .float .f64 0, .float .f64 0, .float .f64 0]) (fun i hi h => by omega))
        · have HN2 := Lib.hid (HN.out (by rw [hf, hfb]; rfl))
          clear HK HN
          go_wp2
          go_roundg (gk - 1)
          case measure => omega
          case rel => exact ⟨j + 1, by omega, by go_num, HN2.out, HCC.out.drewN _⟩
end Go.Proofs.Ythhmdlmgjienoaa
