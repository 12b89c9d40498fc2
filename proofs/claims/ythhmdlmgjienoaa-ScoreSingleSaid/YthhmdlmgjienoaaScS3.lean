/- ScoreSingle: the walk. No condition but what each states. -/
import Derived.Test.YthhmdlmgjienoaaScS2
import Derived.Deep.RegionHeld3
import Derived.Deep.Cut
namespace Go.Proofs.Ythhmdlmgjienoaa
open Go Go.RowKit
attribute [local go_sem] store_f64

def FAt (w0 : World) (xs : List Nat) (g : Nat) (iv : Value) (wr : World) : Prop :=
  ∃ j : Nat, j + g = 8 ∧ iv = .int .i64 j ∧ (∀ i, i < j → ffin (xs.getD i 0) = true) ∧ Chg (fun _ => False) w0 wr
theorem single_walk (pl wt : Nat) (x0 x1 x2 x3 x4 x5 x6 x7 : Nat) (hpl : pl < 256) (hwt : wt < 2 ^ 64) (hxl : ∀ v ∈ [x0, x1, x2, x3, x4, x5, x6, x7], v < 2 ^ 64) (W : World) :
    Calls Try.prog 5 #[.int .u8 pl, .float .f64 wt, .agg (fvs [x0, x1, x2, x3, x4, x5, x6, x7])] W fun r w' => r = .returned (.bool true) ∧ Below W.heap.size W w' := by
  have hch := (Chg.refl (fun _ => False) W).alloc (.cells (fvs [x0, x1, x2, x3, x4, x5, x6, x7]) 23)
  have hr : Row W.heap.size [x0, x1, x2, x3, x4, x5, x6, x7] (W.alloc (.cells (fvs [x0, x1, x2, x3, x4, x5, x6, x7]) 23)) := heap_alloc_at _ _
  have HC := Lib.hid hch
  have HR := Lib.hid hr
  have HXL := Lib.hid hxl
  clear hch hr hxl
  go_enter Try.func5, Try.ntmps5
  go_upto_region 1 with (fail)
  revert HC HR
  generalize W.alloc (.cells (fvs [x0, x1, x2, x3, x4, x5, x6, x7]) 23) = W0
  intro HC HR
  go_wp2_with fail
  refine (sc_head W0).mono ?_
  rintro e w1 ⟨rfl, c1⟩
  have HC1 := Lib.hid (HC.out.trans c1 (fun _ _ h => h))
  have HR1 := Lib.hid (HR.out.kept c1 (fun h => h))
  clear c1 HC HR
  go_wp2_with fail
  obtain ⟨i, hi⟩ : ∃ i : Nat, (i : Int) = (pl : Int) % 8 := ⟨pl % 8, by omega⟩
  have hi8 : i < 8 := by omega
  rw [← hi]
  clear hi hpl
  refine (l_finite wt hwt w1).mono ?_
  rintro e w2 ⟨rfl, rfl⟩
  cases hf : ffin wt
  · go_wp2
    go_ret
    exact ⟨rfl, HC1.out.below (Nat.le_refl _) (fun _ _ h => h)⟩
  have HF := Lib.hid hf
  clear hf
  go_wp2_with fail
  go_loopg [8] 8 (FAt w2 [x0, x1, x2, x3, x4, x5, x6, x7])
  case atStart => exact ⟨0, rfl, rfl, fun i hi => by omega, Chg.refl _ _⟩
  case round =>
    obtain ⟨j, hj, rfl, hall, hc⟩ := hrel
    have HCC := Lib.hid hc
    by_cases hg : gk = 0
    · have hlt : ¬ (j : Int) < 8 := by omega
      have hfw : wt % 2 ^ 63 < INF := by have := HF.out; unfold ffin at this; exact of_decide_eq_true this
      have hfx : ∀ k, k < 8 → [x0, x1, x2, x3, x4, x5, x6, x7].getD k 0 < 2 ^ 64 ∧ [x0, x1, x2, x3, x4, x5, x6, x7].getD k 0 % 2 ^ 63 < INF := fun k hk =>
        ⟨HXL.out _ (getD_mem hk), by have := hall k (by omega); unfold ffin at this; exact of_decide_eq_true this⟩
      obtain ⟨xi, hxi⟩ : ∃ xi, xi = [x0, x1, x2, x3, x4, x5, x6, x7].getD i 0 := ⟨_, rfl⟩
      have hx := hfx i hi8
      rw [← hxi] at hx
      obtain ⟨p, hp⟩ : ∃ p, floatBits .mul .f64 wt xi = some p := ⟨_, mul_fin hwt hx.1 hfw hx.2⟩
      have hpp := (mul_fin hwt hx.1 hfw hx.2).symm.trans hp
      have np : isN p = false := by
        injection hpp with hpp; rw [← hpp]; exact isN_word (rung_le _ _)
      have plt := fb_lt hp
      obtain ⟨l0, l1, l2, l3, l4, l5, l6, l7, hl⟩ := eight (l := z8.set i wt) (by simp [z8])
      have hld : ∀ k, k < 8 → [l0, l1, l2, l3, l4, l5, l6, l7].getD k 0 = if k = i then wt else 0 := fun k hk => by
        rw [← hl]
        by_cases e : k = i
        · subst e; rw [if_pos rfl, getD_set_same (by simpa [z8] using hk)]
        · rw [if_neg e, getD_set_other (fun h => e h.symm)]
          match k, hk with
          | 0, _ => rfl
          | 1, _ => rfl
          | 2, _ => rfl
          | 3, _ => rfl
          | 4, _ => rfl
          | 5, _ => rfl
          | 6, _ => rfl
          | 7, _ => rfl
      obtain ⟨z, z1, z2, z3, z4⟩ := wsum_single (l := [l0, l1, l2, l3, l4, l5, l6, l7]) hi8 hld hfx (by rw [← hxi]; exact hp) np plt 8 (Nat.le_refl _)
      rw [if_neg (by omega)] at z4
      have hsame : ∀ s, FS (wsum [l0, l1, l2, l3, l4, l5, l6, l7] [x0, x1, x2, x3, x4, x5, x6, x7] 8) s → (FloatKind.f64.format.order s p == some .eq) = true := fun s hs => by
        rw [z1] at hs
        rw [show s = z from hs.2]
        have := eq_iff z2 plt z3 np
        rw [z4, decide_eq_true rfl] at this
        exact this
      have hLl : ∀ v ∈ [l0, l1, l2, l3, l4, l5, l6, l7], v < 2 ^ 64 := fun v hv => by
        obtain ⟨k, hk, rfl⟩ := List.getElem_of_mem hv
        have h8 : k < 8 := hk
        have := hld k h8
        rw [List.getD_eq_getElem?_getD, List.getElem?_eq_getElem hk] at this
        simp only [Option.getD_some] at this
        rw [this]; split
        · exact hwt
        · decide
      have hmul := fun (w' : World) => run_float_arith (P := Try.prog) w' .mul 22 .f64 wt xi p hp
      have HSAME := Lib.hid hsame
      have HLL := Lib.hid hLl
      have HXI := Lib.hid hxi
      have HL := Lib.hid hl
      have HR2 := Lib.hid (HR1.out.kept hc (fun h => h))
      have hi8' : (i : Int) < 8 := by omega
      clear hfw hfx hx hp hpp np plt hl hld z1 z2 z3 z4 hsame hLl hall hc hxi
      go_upto_region 13 with (fail)
      obtain ⟨W2, hW2⟩ : ∃ W2, W2 = wr.alloc (.cells (List.set [.float .f64 0, .float .f64 0, .float .f64 0, .float .f64 0, .float .f64 0, .float .f64 0, .float .f64 0, .float .f64 0] i (.float .f64 wt)).toArray 23) := ⟨_, rfl⟩
      have hr9 : Row wr.heap.size [l0, l1, l2, l3, l4, l5, l6, l7] W2 := by
        rw [hW2, Row, heap_alloc_at, ← HL.out]; simp [fvs, z8]
      have hg : Chg (fun _ => False) wr W2 := by rw [hW2]; exact (Chg.refl _ wr).alloc _
      rw [← hW2]
      have ht : Two wr.heap.size W.heap.size [l0, l1, l2, l3, l4, l5, l6, l7] [x0, x1, x2, x3, x4, x5, x6, x7] W2 := ⟨hr9, HR2.out.kept hg (fun h => h)⟩
      have HC2 := Lib.hid ((HC1.out.trans HCC.out (fun _ _ h => h)).trans hg (fun _ _ h => h))
      generalize wr.heap.size = b9 at *
      have k1 := fun (w' : World) (h : Two b9 W.heap.size [l0, l1, l2, l3, l4, l5, l6, l7] [x0, x1, x2, x3, x4, x5, x6, x7] w') => h.1.cells
      have k2 := fun (w' : World) (h : Two b9 W.heap.size [l0, l1, l2, l3, l4, l5, l6, l7] [x0, x1, x2, x3, x4, x5, x6, x7] w') => h.2.cells
      have k3 : ∀ (w' : World), Two b9 W.heap.size [l0, l1, l2, l3, l4, l5, l6, l7] [x0, x1, x2, x3, x4, x5, x6, x7] w' → w'.cell? ⟨W.heap.size, i, none⟩ = some (.float .f64 xi) := fun w' h => by
        rw [HXI.out]; exact h.2.at (i := i) hi8
      clear hW2 hr9 hg
      go_region_held3 (fun w' => Two b9 W.heap.size [l0, l1, l2, l3, l4, l5, l6, l7] [x0, x1, x2, x3, x4, x5, x6, x7] w') (first | assumption | exact Two.drew (by assumption) | exact Two.kept (by assumption) (by assumption)) (first
        | (go_at_call 13; refine (s_weigh [l0, l1, l2, l3, l4, l5, l6, l7] [x0, x1, x2, x3, x4, x5, x6, x7] rfl rfl HLL.out HXL.out _).mono ?_; rintro e wa ⟨s1, rfl, hs1, ca⟩; have o1 := HSAME.out _ hs1))
      go_wp2
      go_ret
      exact ⟨rfl, (HC2.out.drew.trans ca (fun _ _ h => h)).below (Nat.le_refl _) (fun _ _ h => h)⟩
    · have hlt : (j : Int) < 8 := by omega
      have hj8 : j < 8 := by omega
      have c1 := (HR1.out.kept hc (fun h => h)).at (i := j) hj8
      have la := HXL.out ([x0, x1, x2, x3, x4, x5, x6, x7].getD j 0) (getD_mem hj8)
      have hnext : ffin ([x0, x1, x2, x3, x4, x5, x6, x7].getD j 0) = true → ∀ i, i < j + 1 → ffin ([x0, x1, x2, x3, x4, x5, x6, x7].getD i 0) = true := by
        intro h i hi
        by_cases e : i = j
        · subst e; exact h
        · exact hall i (by omega)
      have HN := Lib.hid hnext
      clear hnext hall hc
      generalize [x0, x1, x2, x3, x4, x5, x6, x7].getD j 0 = a at *
      go_wp2_with fail
      refine (l_finite a la wr).mono ?_
      rintro e w3 ⟨rfl, rfl⟩
      cases hf : ffin a
      · go_wp2
        go_ret
        exact ⟨rfl, (HC1.out.trans HCC.out (fun _ _ h => h)).below (Nat.le_refl _) (fun _ _ h => h)⟩
      · have HN2 := Lib.hid (HN.out hf)
        clear HN hf
        go_wp2
        go_roundg (gk - 1)
        case measure => omega
        case rel => exact ⟨j + 1, by omega, by go_num, HN2.out, HCC.out⟩
end Go.Proofs.Ythhmdlmgjienoaa
