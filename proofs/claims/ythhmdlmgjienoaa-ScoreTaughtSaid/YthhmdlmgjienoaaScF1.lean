/- ScoreWeighs: the walk. -/
import Derived.Test.YthhmdlmgjienoaaScW3
import Derived.Deep.RegionHeld3
namespace Go.Proofs.Ythhmdlmgjienoaa
open Go Go.RowKit

theorem same_of {s : Option Nat} {x y : Nat} (ha : FS s x) (hb : FS s y) : (isN x && isN y || x == y) = true := by
  rcases ha.same hb with rfl | ⟨h1, h2⟩
  · simp
  · simp [h1, h2]
theorem same_true {s : Option Nat} {x y : Nat} (ha : FS s x) (hb : FS s y) (w : World) :
    Calls Try.prog 12 #[.float .f64 x, .float .f64 y] w fun r w' => r = .returned (.bool true) ∧ w' = w :=
  (ref_same x y w).mono fun _ _ h => by rw [same_of ha hb] at h; exact h

/-- A row of floats lies in a block. -/
def Row (b : Nat) (l : List Nat) (w : World) : Prop := w.heap[b]? = some (.cells (fvs l) 23 (0, 0))
theorem Row.kept {S : Nat → Prop} {b : Nat} {l : List Nat} {w w' : World} (c : Chg S w w') (h : Row b l w) (hs : ¬ S b) : Row b l w' := c.obj h hs
theorem Row.cells {b : Nat} {a0 a1 a2 a3 a4 a5 a6 a7 : Nat} {w : World} (h : Row b [a0, a1, a2, a3, a4, a5, a6, a7] w) : w.cell? ⟨b, 0, none⟩ = some (.float .f64 a0) ∧ w.cell? ⟨b, 1, none⟩ = some (.float .f64 a1) ∧ w.cell? ⟨b, 2, none⟩ = some (.float .f64 a2) ∧ w.cell? ⟨b, 3, none⟩ = some (.float .f64 a3) ∧ w.cell? ⟨b, 4, none⟩ = some (.float .f64 a4) ∧ w.cell? ⟨b, 5, none⟩ = some (.float .f64 a5) ∧ w.cell? ⟨b, 6, none⟩ = some (.float .f64 a6) ∧ w.cell? ⟨b, 7, none⟩ = some (.float .f64 a7) := by
  refine ⟨?_, ?_, ?_, ?_, ?_, ?_, ?_, ?_⟩ <;> exact cell_of_blk h _

/-- Two rows of floats lie in two blocks. -/
def Two (b1 b2 : Nat) (ws xs : List Nat) (w : World) : Prop := Row b1 ws w ∧ Row b2 xs w
theorem Two.kept {b1 b2 : Nat} {ws xs : List Nat} {w w' : World} (c : Chg (fun _ => False) w w') (h : Two b1 b2 ws xs w) : Two b1 b2 ws xs w' := ⟨h.1.kept c (fun h => h), h.2.kept c (fun h => h)⟩
theorem Two.drew {b1 b2 : Nat} {ws xs : List Nat} {w : World} (h : Two b1 b2 ws xs w) : Two b1 b2 ws xs w.drew := h
theorem two_new (W : World) (ws xs : List Nat) : Two W.heap.size (W.heap.size + 1) ws xs ((W.alloc (.cells (fvs ws) 23)).alloc (.cells (fvs xs) 23)) :=
  ⟨heap_alloc_lt _ _ (heap_alloc_at _ _), by
    have := heap_alloc_at (W.alloc (.cells (fvs ws) 23)) (.cells (fvs xs) 23)
    simpa [Row] using this⟩

theorem weighs_walk (a0 a1 a2 a3 a4 a5 a6 a7 x0 x1 x2 x3 x4 x5 x6 x7 : Nat) (hwl : ∀ v ∈ [a0, a1, a2, a3, a4, a5, a6, a7], v < 2 ^ 64) (hxl : ∀ v ∈ [x0, x1, x2, x3, x4, x5, x6, x7], v < 2 ^ 64) (W : World) :
    Calls Try.prog 3 #[.agg (fvs [a0, a1, a2, a3, a4, a5, a6, a7]), .agg (fvs [x0, x1, x2, x3, x4, x5, x6, x7])] W fun r w' => r = .returned (.bool true) ∧ Below W.heap.size W w' := by
  have hch := ((Chg.refl (fun _ => False) W).alloc (.cells (fvs [a0, a1, a2, a3, a4, a5, a6, a7]) 23)).alloc (.cells (fvs [x0, x1, x2, x3, x4, x5, x6, x7]) 23)
  have ht := two_new W [a0, a1, a2, a3, a4, a5, a6, a7] [x0, x1, x2, x3, x4, x5, x6, x7]
  have k1 := fun (w' : World) (h : Two W.heap.size (W.heap.size + 1) [a0, a1, a2, a3, a4, a5, a6, a7] [x0, x1, x2, x3, x4, x5, x6, x7] w') => h.1.cells
  have k2 := fun (w' : World) (h : Two W.heap.size (W.heap.size + 1) [a0, a1, a2, a3, a4, a5, a6, a7] [x0, x1, x2, x3, x4, x5, x6, x7] w') => h.2.cells
  have HWL := Lib.hid hwl
  have HXL := Lib.hid hxl
  have HC := Lib.hid hch
  clear hch hwl hxl
  go_enter Try.func3, Try.ntmps3
  go_wp2_with fail
  revert ht HC
  generalize (W.alloc (.cells (fvs [a0, a1, a2, a3, a4, a5, a6, a7]) 23)).alloc (.cells (fvs [x0, x1, x2, x3, x4, x5, x6, x7]) 23) = W0
  intro ht HC
  go_region_held3 (fun w' => Two W.heap.size (W.heap.size + 1) [a0, a1, a2, a3, a4, a5, a6, a7] [x0, x1, x2, x3, x4, x5, x6, x7] w') (first | assumption | exact Two.drew (by assumption) | exact Two.kept (by assumption) (by assumption)) (first
    | (go_at_call 13; refine (s_weigh [a0, a1, a2, a3, a4, a5, a6, a7] [x0, x1, x2, x3, x4, x5, x6, x7] rfl rfl HWL.out HXL.out _).mono ?_; rintro e w1 ⟨s1, rfl, hs1, c1⟩)
    | (go_at_call 14; refine (r_weigh [a0, a1, a2, a3, a4, a5, a6, a7] [x0, x1, x2, x3, x4, x5, x6, x7] rfl rfl HWL.out HXL.out _).mono ?_; rintro e w2 ⟨s2, rfl, hs2, c2⟩)
    | (go_at_call 12; refine (same_true hs1 hs2 _).mono ?_; rintro e w3 ⟨rfl, rfl⟩)
    | (go_at_call 15; refine (sc_head _).mono ?_; rintro e w4 ⟨rfl, c4⟩))
  go_wp2
  go_ret
  have c0 := HC.out.drew
  exact ⟨rfl, (((c0.trans c1 (fun _ _ h => h)).trans c2 (fun _ _ h => h)).trans c4 (fun _ _ h => h)).below (Nat.le_refl _) (fun _ _ h => h)⟩
end Go.Proofs.Ythhmdlmgjienoaa
