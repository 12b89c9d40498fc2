/- Weigh and Soft, the program's and the document's. No condition but what each states. -/
import Derived.Test.YthhmdlmgjienoaaScW1
import Derived.Deep.LoopGhost
import Derived.Deep.DeepCutAuto
import Derived.Outline
namespace Go.Proofs.Ythhmdlmgjienoaa
open Go Go.RowKit
attribute [local go_sem] run_fadd run_fsub run_fmul run_fquo

theorem getD_mem {l : List Nat} {j : Nat} (h : j < l.length) : l.getD j 0 ∈ l := by
  rw [List.getD_eq_getElem?_getD, List.getElem?_eq_getElem h]; exact List.getElem_mem h
def WAt (w0 : World) (ws xs : List Nat) (g : Nat) (sv iv : Value) (wr : World) : Prop :=
  ∃ (j s : Nat), j + g = 8 ∧ sv = .float .f64 s ∧ iv = .int .i64 j ∧ FS (wsum ws xs j) s ∧ Chg (fun _ => False) w0 wr

theorem s_weigh (ws xs : List Nat) (hw : ws.length = 8) (hx : xs.length = 8) (hwl : ∀ v ∈ ws, v < 2 ^ 64) (hxl : ∀ v ∈ xs, v < 2 ^ 64) (w : World) :
    Calls Try.prog 13 #[.agg (fvs ws), .agg (fvs xs)] w fun r w' => ∃ s, r = .returned (.float .f64 s) ∧ FS (wsum ws xs 8) s ∧ Chg (fun _ => False) w w' := by
  have hch := ((Chg.refl (fun _ => False) w).alloc (.cells (fvs ws) 23)).alloc (.cells (fvs xs) 23)
  have b1 : ((w.alloc (.cells (fvs ws) 23)).alloc (.cells (fvs xs) 23)).heap[w.heap.size]? = some (.cells (fvs ws) 23 (0, 0)) := heap_alloc_lt _ _ (heap_alloc_at _ _)
  have b2 : ((w.alloc (.cells (fvs ws) 23)).alloc (.cells (fvs xs) 23)).heap[w.heap.size + 1]? = some (.cells (fvs xs) 23 (0, 0)) := by
    have := heap_alloc_at (w.alloc (.cells (fvs ws) 23)) (.cells (fvs xs) 23)
    simpa using this
  have B1 := Lib.hid b1
  have B2 := Lib.hid b2
  have HC := Lib.hid hch
  clear b1 b2 hch
  go_enter Try.func13, Try.ntmps13
  go_wp2
  generalize hW : (w.alloc (.cells (fvs ws) 23)).alloc (.cells (fvs xs) 23) = W0 at *
  go_loopg [5, 7] 8 (WAt W0 ws xs)
  case atStart => exact ⟨0, 0, rfl, rfl, rfl, FS.some (by decide), Chg.refl _ _⟩
  case round =>
    obtain ⟨j, s, hj, rfl, rfl, hs, hc⟩ := hrel
    by_cases hg : gk = 0
    · have hlt : ¬ (j : Int) < 8 := by omega
      have HS := Lib.hid hs
      have HCC := Lib.hid hc
      clear hs hc
      go_wp2
      go_ret
      refine ⟨s, rfl, ?_, ?_⟩
      · rw [show 8 = j by omega]; exact HS.out
      · exact HC.out.trans HCC.out (fun _ _ h => h)
    · have hlt : (j : Int) < 8 := by omega
      have c1 := cell_of_blk (hc.obj B1.out (fun h => h)) j
      rw [fvs_at (by omega)] at c1
      have ha := hwl (ws.getD j 0) (getD_mem (by omega))
      have hb := hxl (xs.getD j 0) (getD_mem (by omega))
      have c2 := cell_of_blk (hc.obj B2.out (fun h => h)) j
      rw [fvs_at (by omega)] at c2
      have hn : ∀ z z', FS (wsum ws xs (j + 1)) (fres z .add s (fres z' .mul (ws.getD j 0) (xs.getD j 0))) := fun z z' => fres_fs z .add hs (fres_fs z' .mul (FS.some ha) (FS.some hb))
      generalize ws.getD j 0 = a at *
      generalize xs.getD j 0 = b at *
      have HN := Lib.hid hn
      have HCC := Lib.hid hc
      clear hs hc hn ha hb
      go_wp2
      go_region
      go_wp2
      go_roundg (gk - 1)
      case measure => omega
      case rel => exact ⟨j + 1, _, by omega, rfl, by go_num, HN.out _ _, HCC.out.drewN _⟩

theorem r_weigh (ws xs : List Nat) (hw : ws.length = 8) (hx : xs.length = 8) (hwl : ∀ v ∈ ws, v < 2 ^ 64) (hxl : ∀ v ∈ xs, v < 2 ^ 64) (w : World) :
    Calls Try.prog 14 #[.agg (fvs ws), .agg (fvs xs)] w fun r w' => ∃ s, r = .returned (.float .f64 s) ∧ FS (wsum ws xs 8) s ∧ Chg (fun _ => False) w w' := by
  have hch := ((Chg.refl (fun _ => False) w).alloc (.cells (fvs ws) 23)).alloc (.cells (fvs xs) 23)
  have b1 : ((w.alloc (.cells (fvs ws) 23)).alloc (.cells (fvs xs) 23)).heap[w.heap.size]? = some (.cells (fvs ws) 23 (0, 0)) := heap_alloc_lt _ _ (heap_alloc_at _ _)
  have b2 : ((w.alloc (.cells (fvs ws) 23)).alloc (.cells (fvs xs) 23)).heap[w.heap.size + 1]? = some (.cells (fvs xs) 23 (0, 0)) := by
    have := heap_alloc_at (w.alloc (.cells (fvs ws) 23)) (.cells (fvs xs) 23)
    simpa using this
  have B1 := Lib.hid b1
  have B2 := Lib.hid b2
  have HC := Lib.hid hch
  clear b1 b2 hch
  go_enter Try.func14, Try.ntmps14
  go_wp2
  generalize hW : (w.alloc (.cells (fvs ws) 23)).alloc (.cells (fvs xs) 23) = W0 at *
  go_loopg [5, 6] 8 (WAt W0 ws xs)
  case atStart => exact ⟨0, 0, rfl, rfl, rfl, FS.some (by decide), Chg.refl _ _⟩
  case round =>
    obtain ⟨j, s, hj, rfl, rfl, hs, hc⟩ := hrel
    by_cases hg : gk = 0
    · have hlt : ¬ (j : Int) < 8 := by omega
      have HS := Lib.hid hs
      have HCC := Lib.hid hc
      clear hs hc
      go_wp2
      go_ret
      refine ⟨s, rfl, ?_, ?_⟩
      · rw [show 8 = j by omega]; exact HS.out
      · exact HC.out.trans HCC.out (fun _ _ h => h)
    · have hlt : (j : Int) < 8 := by omega
      have c1 := cell_of_blk (hc.obj B1.out (fun h => h)) j
      rw [fvs_at (by omega)] at c1
      have ha := hwl (ws.getD j 0) (getD_mem (by omega))
      have hb := hxl (xs.getD j 0) (getD_mem (by omega))
      have c2 := cell_of_blk (hc.obj B2.out (fun h => h)) j
      rw [fvs_at (by omega)] at c2
      have hn : ∀ z z', FS (wsum ws xs (j + 1)) (fres z .add s (fres z' .mul (ws.getD j 0) (xs.getD j 0))) := fun z z' => fres_fs z .add hs (fres_fs z' .mul (FS.some ha) (FS.some hb))
      generalize ws.getD j 0 = a at *
      generalize xs.getD j 0 = b at *
      have HN := Lib.hid hn
      have HCC := Lib.hid hc
      clear hs hc hn ha hb
      go_wp2
      go_region
      go_wp2
      go_roundg (gk - 1)
      case measure => omega
      case rel => exact ⟨j + 1, _, by omega, rfl, by go_num, HN.out _ _, HCC.out.drewN _⟩
end Go.Proofs.Ythhmdlmgjienoaa
