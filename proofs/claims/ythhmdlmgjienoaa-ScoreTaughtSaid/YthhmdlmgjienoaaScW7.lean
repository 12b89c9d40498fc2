/- Check, the program's and the document's; ScoreChecks. No condition but what each states. -/
import Derived.Test.YthhmdlmgjienoaaScW6
namespace Go.Proofs.Ythhmdlmgjienoaa
open Go Go.RowKit
attribute [local go_sem] run_fadd run_fsub run_fmul run_fquo

theorem ge_or {x y : Nat} (hx : x < 2 ^ 64) (hy : y < 2 ^ 64) : (!fge x y) = (isN y || isN x || flt x y) := by
  unfold fge flt
  cases nx : isN x
  · cases ny : isN y
    · rw [order_key hx hy nx ny]
      rcases Int.lt_trichotomy (key x) (key y) with h | h | h
      · rw [Int.compare_eq_lt.2 h]; rfl
      · rw [Int.compare_eq_eq.2 h]; rfl
      · rw [Int.compare_eq_gt.2 h]; rfl
    · rw [order_nan_right _ ny]; rfl
  · rw [order_nan_left _ nx]; simp
theorem nan_ne (x : Nat) : (FloatKind.f64.format.order x x != some .eq) = isN x := by
  have := order_self x
  cases h : isN x <;> simp_all [FloatKind.format]
def check (ws : List Nat) (mark refuse : Nat) : Int := if (ws.all ffin && fge refuse mark) then 0 else 210
theorem index_row (a0 a1 a2 a3 a4 a5 a6 a7 : Nat) : ∀ (j : Nat), j < 8 → ∀ w : World, (Instr.index 23 (.agg #[.float .f64 a0, .float .f64 a1, .float .f64 a2, .float .f64 a3, .float .f64 a4, .float .f64 a5, .float .f64 a6, .float .f64 a7]) (.int .i64 j)).run Try.prog w = .ok (.float .f64 ([a0, a1, a2, a3, a4, a5, a6, a7].getD j 0)) w
  | 0, _, _ => by kernel_rfl
  | 1, _, _ => by kernel_rfl
  | 2, _, _ => by kernel_rfl
  | 3, _, _ => by kernel_rfl
  | 4, _, _ => by kernel_rfl
  | 5, _, _ => by kernel_rfl
  | 6, _, _ => by kernel_rfl
  | 7, _, _ => by kernel_rfl
theorem all_no {l : List Nat} {j : Nat} (hj : j < l.length) (h : ffin (l.getD j 0) = false) : l.all ffin = false := by
  rw [List.all_eq_false]
  exact ⟨_, getD_mem hj, by rw [h]; simp⟩
theorem all_yes {l : List Nat} (h : ∀ i, i < l.length → ffin (l.getD i 0) = true) : l.all ffin = true := by
  rw [List.all_eq_true]
  intro x hx
  obtain ⟨i, hi, rfl⟩ := List.getElem_of_mem hx
  have := h i hi
  rwa [List.getD_eq_getElem?_getD, List.getElem?_eq_getElem hi] at this
def CAt (w0 : World) (ws : List Nat) (g : Nat) (iv : Value) (wr : World) : Prop :=
  ∃ j : Nat, j + g = 8 ∧ iv = .int .i64 j ∧ (∀ i, i < j → ffin (ws.getD i 0) = true) ∧ Chg (fun _ => False) w0 wr

theorem s_check (a0 a1 a2 a3 a4 a5 a6 a7 mark refuse : Nat) (hv : ∀ v ∈ [a0, a1, a2, a3, a4, a5, a6, a7], v < 2 ^ 64) (w : World) :
    Calls Try.prog 24 #[.agg (barV [a0, a1, a2, a3, a4, a5, a6, a7] mark refuse)] w fun r w' => r = .returned (.int .i64 (check [a0, a1, a2, a3, a4, a5, a6, a7] mark refuse)) ∧ Chg (fun _ => False) w w' := by
  have ht := Bar.new w [a0, a1, a2, a3, a4, a5, a6, a7] mark refuse
  have hch := (Chg.refl (fun _ => False) w).alloc (.cells (barV [a0, a1, a2, a3, a4, a5, a6, a7] mark refuse) 32)
  have k := ht.cells
  have hx := index_row a0 a1 a2 a3 a4 a5 a6 a7
  have HT := Lib.hid ht
  have HC := Lib.hid hch
  have HV := Lib.hid hv
  clear hv ht hch
  go_enter Try.func24, Try.ntmps24
  obtain ⟨k0, k1, k2, k3, k4, k5, k6, k7, k8, k9⟩ := k
  go_wp2
  clear k0 k1 k2 k3 k4 k5 k6 k7 k8 k9
  revert HT HC
  generalize w.alloc (.cells (barV [a0, a1, a2, a3, a4, a5, a6, a7] mark refuse) 32) = W0
  intro HT HC
  go_loopg [7] 8 (CAt W0 [a0, a1, a2, a3, a4, a5, a6, a7])
  case atStart => exact ⟨0, rfl, rfl, fun i hi => by omega, Chg.refl _ _⟩
  case round =>
    obtain ⟨j, hj, rfl, hall, hc⟩ := hrel
    have HA := Lib.hid hall
    have HCC := Lib.hid hc
    by_cases hg : gk = 0
    · have hlt : ¬ (j : Int) < 8 := by omega
      have hb := HT.out.held hc
      have c1 := hb.mark_at rfl
      have c2 := hb.refuse_at rfl
      have ha : [a0, a1, a2, a3, a4, a5, a6, a7].all ffin = true := all_yes (fun i hi => hall i (by have : i < 8 := hi; omega))
      have HAL := Lib.hid ha
      clear hall hc hb ha
      by_cases hge : fge refuse mark = true
      · have hge' : (FloatKind.f64.format.order refuse mark == some .gt || FloatKind.f64.format.order refuse mark == some .eq) = true := hge
        have HG := Lib.hid hge
        clear hge
        go_wp2
        go_ret
        exact ⟨by rw [check, HAL.out, HG.out]; rfl, HC.out.trans HCC.out (fun _ _ h => h)⟩
      · have hge0 : fge refuse mark = false := by simpa using hge
        have hge' : (FloatKind.f64.format.order refuse mark == some .gt || FloatKind.f64.format.order refuse mark == some .eq) = false := hge0
        have HG := Lib.hid hge0
        clear hge hge0
        go_wp2
        go_ret
        exact ⟨by rw [check, HAL.out, HG.out]; rfl, HC.out.trans HCC.out (fun _ _ h => h)⟩
    · have hlt : (j : Int) < 8 := by omega
      have hx1 := hx j (by omega)
      have hlt2 := HV.out ([a0, a1, a2, a3, a4, a5, a6, a7].getD j 0) (getD_mem (show j < 8 by omega))
      have HJ := Lib.hid (show j < 8 by omega)
      cases hf : ffin ([a0, a1, a2, a3, a4, a5, a6, a7].getD j 0)
      · have hno := all_no (l := [a0, a1, a2, a3, a4, a5, a6, a7]) (show j < 8 by omega) hf
        have HN := Lib.hid hno
        generalize [a0, a1, a2, a3, a4, a5, a6, a7].getD j 0 = a at *
        clear hall hc hno hx
        go_wp2_with fail
        refine (s_finite a hlt2 wr).mono ?_
        rintro e w2 ⟨rfl, rfl⟩
        rw [hf]
        go_wp2
        go_ret
        exact ⟨by rw [check, HN.out]; rfl, HC.out.trans HCC.out (fun _ _ h => h)⟩
      · have hnext : ∀ i, i < j + 1 → ffin ([a0, a1, a2, a3, a4, a5, a6, a7].getD i 0) = true := by
          intro i hi
          by_cases h : i = j
          · subst h; exact hf
          · exact hall i (by omega)
        have HN := Lib.hid hnext
        clear hnext
        generalize [a0, a1, a2, a3, a4, a5, a6, a7].getD j 0 = a at *
        clear hall hc hx
        go_wp2_with fail
        refine (s_finite a hlt2 wr).mono ?_
        rintro e w2 ⟨rfl, rfl⟩
        rw [hf]
        go_wp2
        go_roundg (gk - 1)
        case measure => omega
        case rel => exact ⟨j + 1, by omega, by go_num, HN.out, HCC.out⟩

theorem r_check (a0 a1 a2 a3 a4 a5 a6 a7 mark refuse : Nat) (hm : mark < 2 ^ 64) (hr : refuse < 2 ^ 64) (w : World) :
    Calls Try.prog 25 #[.agg (barV [a0, a1, a2, a3, a4, a5, a6, a7] mark refuse)] w fun r w' => r = .returned (.int .i64 (check [a0, a1, a2, a3, a4, a5, a6, a7] mark refuse)) ∧ Chg (fun _ => False) w w' := by
  have ht := Bar.new w [a0, a1, a2, a3, a4, a5, a6, a7] mark refuse
  have hch := (Chg.refl (fun _ => False) w).alloc (.cells (barV [a0, a1, a2, a3, a4, a5, a6, a7] mark refuse) 32)
  have HT := Lib.hid ht
  have HC := Lib.hid hch
  have HG0 := Lib.hid (ge_or hr hm)
  clear ht hch
  go_enter Try.func25, Try.ntmps25
  go_wp2
  revert HT HC
  generalize w.alloc (.cells (barV [a0, a1, a2, a3, a4, a5, a6, a7] mark refuse) 32) = W0
  intro HT HC
  go_loopg [3] 8 (CAt W0 [a0, a1, a2, a3, a4, a5, a6, a7])
  case atStart => exact ⟨0, rfl, rfl, fun i hi => by omega, Chg.refl _ _⟩
  case round =>
    obtain ⟨j, hj, rfl, hall, hc⟩ := hrel
    have HA := Lib.hid hall
    have HCC := Lib.hid hc
    by_cases hg : gk = 0
    · have hlt : ¬ (j : Int) < 8 := by omega
      have hb := HT.out.held hc
      have c1 := hb.mark_at rfl
      have c2 := hb.refuse_at rfl
      have ha : [a0, a1, a2, a3, a4, a5, a6, a7].all ffin = true := all_yes (fun i hi => hall i (by have : i < 8 := hi; omega))
      have HAL := Lib.hid ha
      clear hall hc hb ha
      have n1 := nan_ne mark
      have n2 := nan_ne refuse
      have key : ∀ p q r : Bool, isN mark = p → isN refuse = q → flt refuse mark = r → check [a0, a1, a2, a3, a4, a5, a6, a7] mark refuse = if (p || q || r) then 210 else 0 := by
        intro p q r hp hq hr
        have e := HG0.out
        rw [hp, hq, hr] at e
        rw [check, HAL.out]
        cases h : fge refuse mark
        · rw [h] at e
          rw [← e]; rfl
        · rw [h] at e
          rw [← e]; rfl
      cases hp : isN mark
      · cases hq : isN refuse
        · cases hr : flt refuse mark
          · have hr' : (FloatKind.f64.format.order refuse mark == some .lt) = false := hr
            have e := key _ _ _ hp hq hr
            have HE := Lib.hid e
            rw [hp] at n1
            rw [hq] at n2
            clear hr e key hp hq
            go_wp2
            go_ret
            exact ⟨by rw [HE.out]; rfl, HC.out.trans HCC.out (fun _ _ h => h)⟩
          · have hr' : (FloatKind.f64.format.order refuse mark == some .lt) = true := hr
            have e := key _ _ _ hp hq hr
            have HE := Lib.hid e
            rw [hp] at n1
            rw [hq] at n2
            clear hr e key hp hq
            go_wp2
            go_ret
            exact ⟨by rw [HE.out]; rfl, HC.out.trans HCC.out (fun _ _ h => h)⟩
        · have e := key _ _ _ hp hq rfl
          have HE := Lib.hid e
          rw [hp] at n1
          rw [hq] at n2
          clear e key hp hq
          go_wp2
          go_ret
          exact ⟨by rw [HE.out]; rfl, HC.out.trans HCC.out (fun _ _ h => h)⟩
      · have e := key _ _ _ hp rfl rfl
        have HE := Lib.hid e
        rw [hp] at n1
        clear e key hp
        go_wp2
        go_ret
        exact ⟨by rw [HE.out]; rfl, HC.out.trans HCC.out (fun _ _ h => h)⟩
    · have hlt : (j : Int) < 8 := by omega
      have hc1 := (HT.out.held hc).at (i := j) (show j < 8 by omega)
      have HJ := Lib.hid (show j < 8 by omega)
      cases hf : ffin ([a0, a1, a2, a3, a4, a5, a6, a7].getD j 0)
      · have hno := all_no (l := [a0, a1, a2, a3, a4, a5, a6, a7]) (show j < 8 by omega) hf
        have HN := Lib.hid hno
        generalize [a0, a1, a2, a3, a4, a5, a6, a7].getD j 0 = a at *
        clear hall hc hno
        go_wp2_with fail
        refine (r_finite a wr).mono ?_
        rintro e w2 ⟨rfl, n, rfl⟩
        rw [hf]
        go_wp2
        go_ret
        exact ⟨by rw [check, HN.out]; rfl, (HC.out.trans HCC.out (fun _ _ h => h)).drewN _⟩
      · have hnext : ∀ i, i < j + 1 → ffin ([a0, a1, a2, a3, a4, a5, a6, a7].getD i 0) = true := by
          intro i hi
          by_cases h : i = j
          · subst h; exact hf
          · exact hall i (by omega)
        have HN := Lib.hid hnext
        clear hnext
        generalize [a0, a1, a2, a3, a4, a5, a6, a7].getD j 0 = a at *
        clear hall hc
        go_wp2_with fail
        refine (r_finite a wr).mono ?_
        rintro e w2 ⟨rfl, n, rfl⟩
        rw [hf]
        go_wp2
        go_roundg (gk - 1)
        case measure => omega
        case rel => exact ⟨j + 1, by omega, by go_num, HN.out, HCC.out.drewN _⟩

theorem checks_walk (a0 a1 a2 a3 a4 a5 a6 a7 mark refuse : Nat) (hv : ∀ v ∈ [a0, a1, a2, a3, a4, a5, a6, a7], v < 2 ^ 64) (hm : mark < 2 ^ 64) (hr : refuse < 2 ^ 64) (W : World) :
    Calls Try.prog 8 #[.agg (barV [a0, a1, a2, a3, a4, a5, a6, a7] mark refuse)] W fun r w' => r = .returned (.bool true) ∧ Below W.heap.size W w' := by
  have hch := (Chg.refl (fun _ => False) W).alloc (.cells (barV [a0, a1, a2, a3, a4, a5, a6, a7] mark refuse) 32)
  have ht := Bar.new W [a0, a1, a2, a3, a4, a5, a6, a7] mark refuse
  have k1 := fun (w' : World) (h : Bar W.heap.size [a0, a1, a2, a3, a4, a5, a6, a7] mark refuse w') => h.cells
  have HC := Lib.hid hch
  have HV := Lib.hid hv
  clear hch hv
  go_enter Try.func8, Try.ntmps8
  go_wp2_with fail
  revert ht HC
  generalize W.alloc (.cells (barV [a0, a1, a2, a3, a4, a5, a6, a7] mark refuse) 32) = W0
  intro ht HC
  go_region_held3 (fun w' => Bar W.heap.size [a0, a1, a2, a3, a4, a5, a6, a7] mark refuse w') (first | assumption | exact Bar.drew (by assumption) | exact Bar.held (by assumption) (by assumption)) (first
    | (go_at_call 24; refine (s_check a0 a1 a2 a3 a4 a5 a6 a7 mark refuse HV.out _).mono ?_; rintro e w1 ⟨rfl, c1⟩)
    | (go_at_call 25; refine (r_check a0 a1 a2 a3 a4 a5 a6 a7 mark refuse hm hr _).mono ?_; rintro e w2 ⟨rfl, c2⟩)
    | (go_at_call 15; refine (sc_head _).mono ?_; rintro e w4 ⟨rfl, c4⟩))
  go_wp2
  go_ret
  have c0 := HC.out.drew
  exact ⟨rfl, (((c0.trans c1 (fun _ _ h => h)).trans c2 (fun _ _ h => h)).trans c4 (fun _ _ h => h)).below (Nat.le_refl _) (fun _ _ h => h)⟩
end Go.Proofs.Ythhmdlmgjienoaa
