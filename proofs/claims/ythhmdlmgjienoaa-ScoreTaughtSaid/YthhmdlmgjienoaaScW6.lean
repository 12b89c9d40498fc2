/- ScoreJudges; the document's finite. No condition but what each states. -/
import Derived.Test.YthhmdlmgjienoaaScW5
import Derived.Deep.RegionHeld3
namespace Go.Proofs.Ythhmdlmgjienoaa
open Go Go.RowKit
attribute [local go_sem] run_fadd run_fsub run_fmul run_fquo

theorem Bar.cells {b : Nat} {a0 a1 a2 a3 a4 a5 a6 a7 mark refuse : Nat} {w : World} (h : Bar b [a0, a1, a2, a3, a4, a5, a6, a7] mark refuse w) : w.cell? ⟨b, 0, none⟩ = some (.float .f64 a0) ∧ w.cell? ⟨b, 1, none⟩ = some (.float .f64 a1) ∧ w.cell? ⟨b, 2, none⟩ = some (.float .f64 a2) ∧ w.cell? ⟨b, 3, none⟩ = some (.float .f64 a3) ∧ w.cell? ⟨b, 4, none⟩ = some (.float .f64 a4) ∧ w.cell? ⟨b, 5, none⟩ = some (.float .f64 a5) ∧ w.cell? ⟨b, 6, none⟩ = some (.float .f64 a6) ∧ w.cell? ⟨b, 7, none⟩ = some (.float .f64 a7) ∧ w.cell? ⟨b, 8, none⟩ = some (.float .f64 mark) ∧ w.cell? ⟨b, 9, none⟩ = some (.float .f64 refuse) := by
  refine ⟨?_, ?_, ?_, ?_, ?_, ?_, ?_, ?_, ?_, ?_⟩ <;> exact cell_of_blk h _
theorem Bar.drew {b : Nat} {ws : List Nat} {mark refuse : Nat} {w : World} (h : Bar b ws mark refuse w) : Bar b ws mark refuse w.drew := h
theorem Bar.held {b : Nat} {ws : List Nat} {mark refuse : Nat} {w w' : World} (c : Chg (fun _ => False) w w') (h : Bar b ws mark refuse w) : Bar b ws mark refuse w' := c.obj h (fun h => h)

theorem judges_walk (a0 a1 a2 a3 a4 a5 a6 a7 mark refuse x : Nat) (W : World) :
    Calls Try.prog 6 #[.agg (barV [a0, a1, a2, a3, a4, a5, a6, a7] mark refuse), .float .f64 x] W fun r w' => r = .returned (.bool true) ∧ Below W.heap.size W w' := by
  have hch := (Chg.refl (fun _ => False) W).alloc (.cells (barV [a0, a1, a2, a3, a4, a5, a6, a7] mark refuse) 32)
  have ht := Bar.new W [a0, a1, a2, a3, a4, a5, a6, a7] mark refuse
  have k1 := fun (w' : World) (h : Bar W.heap.size [a0, a1, a2, a3, a4, a5, a6, a7] mark refuse w') => h.cells
  have HC := Lib.hid hch
  clear hch
  go_enter Try.func6, Try.ntmps6
  go_wp2_with fail
  revert ht HC
  generalize W.alloc (.cells (barV [a0, a1, a2, a3, a4, a5, a6, a7] mark refuse) 32) = W0
  intro ht HC
  go_region_held3 (fun w' => Bar W.heap.size [a0, a1, a2, a3, a4, a5, a6, a7] mark refuse w') (first | assumption | exact Bar.drew (by assumption) | exact Bar.held (by assumption) (by assumption)) (first
    | (go_at_call 19; refine (s_judge [a0, a1, a2, a3, a4, a5, a6, a7] mark refuse x rfl _).mono ?_; rintro e w1 ⟨rfl, c1⟩)
    | (go_at_call 20; refine (r_judge [a0, a1, a2, a3, a4, a5, a6, a7] mark refuse x rfl _).mono ?_; rintro e w2 ⟨rfl, c2⟩)
    | (go_at_call 15; refine (sc_head _).mono ?_; rintro e w4 ⟨rfl, c4⟩))
  go_wp2
  go_ret
  have c0 := HC.out.drew
  exact ⟨rfl, (((c0.trans c1 (fun _ _ h => h)).trans c2 (fun _ _ h => h)).trans c4 (fun _ _ h => h)).below (Nat.le_refl _) (fun _ _ h => h)⟩

theorem sub_self {x : Nat} (h : x % 2 ^ 63 < INF) : floatBits .sub .f64 x x = some 0 := by
  show Ieee.double.sub x x = some 0
  unfold Ieee.Format.sub
  rw [read_num h]
  simp only [Ieee.Datum.opposite, Ieee.Datum.sum]
  generalize (x / 2 ^ 63 % 2 == 1) = s
  have e : ∀ m k, Ieee.signed s m k + Ieee.signed (!s) m k = 0 := by
    intro m k
    unfold Ieee.signed
    cases s <;> simp <;> omega
  rw [e]
  simp only [if_true, Int.natAbs_zero, Option.map_some, Ieee.Format.write, Ieee.Format.nearest]
  cases s <;> rfl
theorem sub_self_inf {x : Nat} (h : x % 2 ^ 63 = INF) : floatBits .sub .f64 x x = none := by
  show Ieee.double.sub x x = none
  unfold Ieee.Format.sub
  rw [read_inf h]
  cases (x / 2 ^ 63 % 2 == 1) <;> rfl
theorem fin_sub (x : Nat) (w : World) : (FloatKind.f64.format.order (fres w .sub x x) 0 == some .eq) = ffin x := by
  by_cases h : x % 2 ^ 63 < INF
  · rw [fres, sub_self h, ffin, decide_eq_true h]
    show (Ieee.double.order 0 0 == some .eq) = true
    kernel_rfl
  · have hn : floatBits .sub .f64 x x = none := by
      by_cases g : x % 2 ^ 63 = INF
      · exact sub_self_inf g
      · exact fb_nan_left .sub x ((isN_iff x).2 (by omega))
    rw [fres, hn, ffin, decide_eq_false h]
    show (Ieee.double.order (nanOf w x x) 0 == some .eq) = false
    rw [order_nan_left 0 (isN_nanOf w x x)]
    rfl
theorem r_finite (x : Nat) (w : World) : Calls Try.prog 34 #[.float .f64 x] w fun r w' => r = .returned (.bool (ffin x)) ∧ ∃ n, w' = w.drewN n := by
  have h := fin_sub x
  go_enter Try.func34, Try.ntmps34
  go_wp2
  go_ret
  exact ⟨rfl, _, rfl⟩
end Go.Proofs.Ythhmdlmgjienoaa
