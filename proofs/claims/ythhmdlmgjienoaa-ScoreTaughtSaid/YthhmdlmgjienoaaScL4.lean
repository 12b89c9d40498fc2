/- same; ScoreLearns. No condition but what each states. -/
import Derived.Test.YthhmdlmgjienoaaScL3
import Derived.Deep.RegionHeld3
namespace Go.Proofs.Ythhmdlmgjienoaa
open Go Go.RowKit
attribute [local go_sem] run_fadd run_fsub run_fmul run_fquo store_f64

def SAt (w0 : World) (g : Nat) (iv : Value) (wr : World) : Prop := ∃ j : Nat, j + g = 8 ∧ iv = .int .i64 j ∧ Chg (fun _ => False) w0 wr
theorem same_rows (ws xs : List Nat) (f : Nat → Option Nat) (hw : ws.length = 8) (hx : xs.length = 8) (h1 : ∀ i, i < 8 → FS (f i) (ws.getD i 0)) (h2 : ∀ i, i < 8 → FS (f i) (xs.getD i 0)) (w : World) :
    Calls Try.prog 29 #[.agg (fvs ws), .agg (fvs xs)] w fun r w' => r = .returned (.bool true) ∧ Chg (fun _ => False) w w' := by
  have hch := ((Chg.refl (fun _ => False) w).alloc (.cells (fvs ws) 23)).alloc (.cells (fvs xs) 23)
  have ht := two_new w ws xs
  have HT := Lib.hid ht
  have HC := Lib.hid hch
  have H1 := Lib.hid h1
  have H2 := Lib.hid h2
  clear ht hch h1 h2
  go_enter Try.func29, Try.ntmps29
  go_wp2
  revert HT HC
  generalize (w.alloc (.cells (fvs ws) 23)).alloc (.cells (fvs xs) 23) = W0
  intro HT HC
  go_loopg [5] 8 (SAt W0)
  case atStart => exact ⟨0, rfl, rfl, Chg.refl _ _⟩
  case round =>
    obtain ⟨j, hj, rfl, hc⟩ := hrel
    have HCC := Lib.hid hc
    by_cases hg : gk = 0
    · have hlt : ¬ (j : Int) < 8 := by omega
      clear hc
      go_wp2
      go_ret
      exact ⟨rfl, HC.out.trans HCC.out (fun _ _ h => h)⟩
    · have hlt : (j : Int) < 8 := by omega
      have ht := HT.out.kept hc
      have k1 := fun (w' : World) (h : Two w.heap.size (w.heap.size + 1) ws xs w') => h.1.at (i := j) (by omega)
      have k2 := fun (w' : World) (h : Two w.heap.size (w.heap.size + 1) ws xs w') => h.2.at (i := j) (by omega)
      have h1 := H1.out j (by omega)
      have h2 := H2.out j (by omega)
      clear hc
      generalize ws.getD j 0 = a at *
      generalize xs.getD j 0 = b at *
      generalize f j = s at *
      go_wp2_with fail
      go_region_held3 (fun w' => Two w.heap.size (w.heap.size + 1) ws xs w') (first | assumption | exact Two.drew (by assumption)) (first
        | (go_at_call 12; refine (same_true h1 h2 _).mono ?_; rintro e w3 ⟨rfl, rfl⟩))
      go_wp2
      go_roundg (gk - 1)
      case measure => omega
      case rel => exact ⟨j + 1, by omega, by go_num, HCC.out.drew⟩

theorem row_stored (w : World) (l0 l1 l2 l3 l4 l5 l6 l7 : Nat) : Row w.heap.size [l0, l1, l2, l3, l4, l5, l6, l7] (w.alloc (.cells #[.float .f64 l0, .float .f64 l1, .float .f64 l2, .float .f64 l3, .float .f64 l4, .float .f64 l5, .float .f64 l6, .float .f64 l7] 23)) := heap_alloc_at _ _
theorem chg_stored (w : World) (l0 l1 l2 l3 l4 l5 l6 l7 : Nat) : Chg (fun _ => False) w (w.alloc (.cells #[.float .f64 l0, .float .f64 l1, .float .f64 l2, .float .f64 l3, .float .f64 l4, .float .f64 l5, .float .f64 l6, .float .f64 l7] 23)) := (Chg.refl (fun _ => False) w).alloc _

def lesV (ws xs : List Nat) (bad : Bool) (step : Nat) : Array Value := ((ws ++ xs).map (Value.float .f64) ++ [Value.bool bad, Value.float .f64 step]).toArray
theorem learns_walk (a0 a1 a2 a3 a4 a5 a6 a7 x0 x1 x2 x3 x4 x5 x6 x7 : Nat) (bad : Bool) (step : Nat) (hwl : ∀ v ∈ [a0, a1, a2, a3, a4, a5, a6, a7], v < 2 ^ 64) (hxl : ∀ v ∈ [x0, x1, x2, x3, x4, x5, x6, x7], v < 2 ^ 64) (hst : step < 2 ^ 64) (W : World) :
    Calls Try.prog 10 #[.agg (lesV [a0, a1, a2, a3, a4, a5, a6, a7] [x0, x1, x2, x3, x4, x5, x6, x7] bad step)] W fun r w' => r = .returned (.bool true) ∧ Below W.heap.size W w' := by
  have hch := (Chg.refl (fun _ => False) W).alloc (.cells (lesV [a0, a1, a2, a3, a4, a5, a6, a7] [x0, x1, x2, x3, x4, x5, x6, x7] bad step) 43)
  have hb : (W.alloc (.cells (lesV [a0, a1, a2, a3, a4, a5, a6, a7] [x0, x1, x2, x3, x4, x5, x6, x7] bad step) 43)).heap[W.heap.size]? = some (.cells #[.float .f64 a0, .float .f64 a1, .float .f64 a2, .float .f64 a3, .float .f64 a4, .float .f64 a5, .float .f64 a6, .float .f64 a7, .float .f64 x0, .float .f64 x1, .float .f64 x2, .float .f64 x3, .float .f64 x4, .float .f64 x5, .float .f64 x6, .float .f64 x7, .bool bad, .float .f64 step] 43 (0, 0)) := heap_alloc_at _ _
  have HC := Lib.hid hch
  have HB := Lib.hid hb
  have HWL := Lib.hid hwl
  have HXL := Lib.hid hxl
  clear hch hb hwl hxl
  go_enter Try.func10, Try.ntmps10
  go_upto_region 1 with (fail)
  revert HC HB
  generalize W.alloc (.cells (lesV [a0, a1, a2, a3, a4, a5, a6, a7] [x0, x1, x2, x3, x4, x5, x6, x7] bad step) 43) = W0
  intro HC HB
  have k0 := cell_of_blk HB.out 0
  have k1 := cell_of_blk HB.out 1
  have k2 := cell_of_blk HB.out 2
  have k3 := cell_of_blk HB.out 3
  have k4 := cell_of_blk HB.out 4
  have k5 := cell_of_blk HB.out 5
  have k6 := cell_of_blk HB.out 6
  have k7 := cell_of_blk HB.out 7
  have k8 := cell_of_blk HB.out 8
  have k9 := cell_of_blk HB.out 9
  have k10 := cell_of_blk HB.out 10
  have k11 := cell_of_blk HB.out 11
  have k12 := cell_of_blk HB.out 12
  have k13 := cell_of_blk HB.out 13
  have k14 := cell_of_blk HB.out 14
  have k15 := cell_of_blk HB.out 15
  have k16 := cell_of_blk HB.out 16
  have k17 := cell_of_blk HB.out 17
  simp only [List.getElem?_toArray, List.getElem?_cons_zero, List.getElem?_cons_succ] at k0 k1 k2 k3 k4 k5 k6 k7 k8 k9 k10 k11 k12 k13 k14 k15 k16 k17
  go_wp2_with fail
  refine (r_learn a0 a1 a2 a3 a4 a5 a6 a7 x0 x1 x2 x3 x4 x5 x6 x7 bad step HWL.out HXL.out hst W0).mono ?_
  rintro e w1 ⟨l, rfl, hl, hfs, c1⟩
  obtain ⟨l0, l1, l2, l3, l4, l5, l6, l7, rfl⟩ := eight hl
  have HF1 := Lib.hid hfs
  have HB1 := Lib.hid (c1.obj HB.out (fun h => h))
  have HC1 := Lib.hid (HC.out.trans c1 (fun _ _ h => h))
  clear k0 k1 k2 k3 k4 k5 k6 k7 k8 k9 k10 k11 k12 k13 k14 k15 k16 k17 hfs c1 hl HC HB
  rw [show fvs [l0, l1, l2, l3, l4, l5, l6, l7] = #[.float .f64 l0, .float .f64 l1, .float .f64 l2, .float .f64 l3, .float .f64 l4, .float .f64 l5, .float .f64 l6, .float .f64 l7] from rfl]
  generalize hE : learnE [a0, a1, a2, a3, a4, a5, a6, a7] [x0, x1, x2, x3, x4, x5, x6, x7] bad step = E at *
  go_upto_region 2 with (fail)
  obtain ⟨W2, hW2⟩ : ∃ W2, W2 = w1.alloc (.cells #[.float .f64 l0, .float .f64 l1, .float .f64 l2, .float .f64 l3, .float .f64 l4, .float .f64 l5, .float .f64 l6, .float .f64 l7] 23) := ⟨_, rfl⟩
  have g : W.heap.size < w1.heap.size := lt_of_block HB1.out
  have hr := row_stored w1 l0 l1 l2 l3 l4 l5 l6 l7
  have hg := chg_stored w1 l0 l1 l2 l3 l4 l5 l6 l7
  rw [← hW2] at hr hg
  rw [← hW2]
  have HB2 := Lib.hid (hg.obj HB1.out (fun h => h))
  have HC2 := Lib.hid (HC1.out.trans hg (fun _ _ h => h))
  have HR2 := Lib.hid hr
  generalize w1.heap.size = b1 at *
  clear hr hg hW2 HB1 HC1
  have k0 := cell_of_blk HB2.out 0
  have k1 := cell_of_blk HB2.out 1
  have k2 := cell_of_blk HB2.out 2
  have k3 := cell_of_blk HB2.out 3
  have k4 := cell_of_blk HB2.out 4
  have k5 := cell_of_blk HB2.out 5
  have k6 := cell_of_blk HB2.out 6
  have k7 := cell_of_blk HB2.out 7
  have k8 := cell_of_blk HB2.out 8
  have k9 := cell_of_blk HB2.out 9
  have k10 := cell_of_blk HB2.out 10
  have k11 := cell_of_blk HB2.out 11
  have k12 := cell_of_blk HB2.out 12
  have k13 := cell_of_blk HB2.out 13
  have k14 := cell_of_blk HB2.out 14
  have k15 := cell_of_blk HB2.out 15
  have k16 := cell_of_blk HB2.out 16
  have k17 := cell_of_blk HB2.out 17
  simp only [List.getElem?_toArray, List.getElem?_cons_zero, List.getElem?_cons_succ] at k0 k1 k2 k3 k4 k5 k6 k7 k8 k9 k10 k11 k12 k13 k14 k15 k16 k17
  go_wp2_with fail
  refine (s_learn a0 a1 a2 a3 a4 a5 a6 a7 x0 x1 x2 x3 x4 x5 x6 x7 bad step HWL.out HXL.out hst W2).mono ?_
  rintro e w3 ⟨m, rfl, hm, hfs, c3⟩
  obtain ⟨m0, m1, m2, m3, m4, m5, m6, m7, rfl⟩ := eight hm
  have HF2 := Lib.hid hfs
  have HR3 := Lib.hid (HR2.out.kept c3 (fun h => h))
  have HC3 := Lib.hid (HC2.out.trans c3 (fun _ _ h => h))
  clear k0 k1 k2 k3 k4 k5 k6 k7 k8 k9 k10 k11 k12 k13 k14 k15 k16 k17 hfs c3 hm HB2 HC2 HR2
  rw [show fvs [m0, m1, m2, m3, m4, m5, m6, m7] = #[.float .f64 m0, .float .f64 m1, .float .f64 m2, .float .f64 m3, .float .f64 m4, .float .f64 m5, .float .f64 m6, .float .f64 m7] from rfl, hE]
  go_upto_region 3 with (fail)
  obtain ⟨W4, hW4⟩ : ∃ W4, W4 = w3.alloc (.cells #[.float .f64 m0, .float .f64 m1, .float .f64 m2, .float .f64 m3, .float .f64 m4, .float .f64 m5, .float .f64 m6, .float .f64 m7] 23) := ⟨_, rfl⟩
  have g3 : b1 < w3.heap.size := lt_of_block HR3.out
  have hr := row_stored w3 m0 m1 m2 m3 m4 m5 m6 m7
  have hg := chg_stored w3 m0 m1 m2 m3 m4 m5 m6 m7
  rw [← hW4] at hr hg
  rw [← hW4]
  have HC4 := Lib.hid (HC3.out.trans hg (fun _ _ h => h))
  have k1 := (HR3.out.kept hg (fun h => h)).cells
  have k2 := hr.cells
  generalize w3.heap.size = b3 at *
  clear hr hg hW4 HR3 HC3
  go_wp2_with fail
  refine (same_rows [m0, m1, m2, m3, m4, m5, m6, m7] [l0, l1, l2, l3, l4, l5, l6, l7] (learnO [a0, a1, a2, a3, a4, a5, a6, a7] [x0, x1, x2, x3, x4, x5, x6, x7] bad step) rfl rfl HF2.out HF1.out W4).mono ?_
  rintro e w5 ⟨rfl, c5⟩
  have HC5 := Lib.hid (HC4.out.trans c5 (fun _ _ h => h))
  clear c5 k1 k2
  go_wp2_with fail
  refine (sc_head w5).mono ?_
  rintro e w6 ⟨rfl, c6⟩
  have HC6 := Lib.hid (HC5.out.trans c6 (fun _ _ h => h))
  clear c6
  go_wp2
  go_ret
  exact ⟨rfl, HC6.out.below (Nat.le_refl _) (fun _ _ h => h)⟩
end Go.Proofs.Ythhmdlmgjienoaa
