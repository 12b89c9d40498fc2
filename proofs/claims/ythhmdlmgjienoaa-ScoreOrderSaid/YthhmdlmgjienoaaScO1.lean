/- ScoreOrder. No condition but what each states. -/
import Derived.Test.YthhmdlmgjienoaaScW7
import Derived.Deep.Cut
namespace Go.Proofs.Ythhmdlmgjienoaa
open Go Go.RowKit
attribute [local go_sem] run_fadd run_fsub run_fmul run_fquo

theorem fge_nan {x : Nat} (y : Nat) (h : isN x = true) : fge x y = false := by unfold fge; rw [order_nan_left y h]; rfl
theorem fge_mono {x y r : Nat} (hx : x < 2 ^ 64) (hy : y < 2 ^ 64) (hr : r < 2 ^ 64) (nx : isN x = false) (ny : isN y = false) (hk : key x ≤ key y) (h : fge x r = true) : fge y r = true := by
  unfold fge at *
  cases nr : isN r
  · rw [gt_iff hx hr nx nr, eq_iff hx hr nx nr] at h
    rw [gt_iff hy hr ny nr, eq_iff hy hr ny nr]
    simp only [Bool.or_eq_true, decide_eq_true_eq] at h ⊢
    omega
  · rw [order_nan_right x nr] at h; simp at h
theorem judge_mono {x y r m : Nat} (hx : x < 2 ^ 64) (hy : y < 2 ^ 64) (hr : r < 2 ^ 64) (hm : m < 2 ^ 64) (nx : isN x = false) (ny : isN y = false) (hk : key x ≤ key y) : judge r m x ≤ judge r m y := by
  have h1 := fge_mono hx hy hr nx ny hk
  have h2 := fge_mono hx hy hm nx ny hk
  unfold judge
  revert h1 h2
  generalize fge x r = a
  generalize fge y r = b
  generalize fge x m = c
  generalize fge y m = d
  revert a b c d
  decide
theorem judge_range (r m x : Nat) : 1 ≤ judge r m x ∧ judge r m x ≤ 3 := by
  unfold judge
  cases fge x r <;> cases fge x m <;> simp
theorem judge_at {x r m : Nat} (hx : x < 2 ^ 64) (hr : r < 2 ^ 64) (hm : m < 2 ^ 64) (nx : isN x = false) (h : fge r m = true) :
    (judge r m x = 3 ∧ fge x r = true ∧ flt x m = false) ∨ (judge r m x = 2 ∧ fge x r = false ∧ flt x m = false) ∨ (judge r m x = 1 ∧ fge x r = false ∧ flt x m = true) := by
  have nr : isN r = false := by
    cases hn : isN r
    · rfl
    · rw [fge_nan m hn] at h; cases h
  have nm : isN m = false := by
    cases hn : isN m
    · rfl
    · unfold fge at h; rw [order_nan_right r hn] at h; cases h
  unfold judge
  unfold fge flt at *
  rw [gt_iff hr hm nr nm, eq_iff hr hm nr nm] at h
  rw [gt_iff hx hr nx nr, eq_iff hx hr nx nr, gt_iff hx hm nx nm, eq_iff hx hm nx nm, lt_iff hx hm nx nm]
  simp only [Bool.or_eq_true, decide_eq_true_eq, Bool.or_eq_false_iff, decide_eq_false_iff_not] at *
  by_cases g1 : key r < key x ∨ key x = key r
  · rw [if_pos g1]
    exact .inl ⟨rfl, g1, by omega⟩
  · rw [if_neg g1]
    by_cases g2 : key m < key x ∨ key x = key m
    · rw [if_pos g2]
      exact .inr (.inl ⟨rfl, by omega, by omega⟩)
    · rw [if_neg g2]
      exact .inr (.inr ⟨rfl, by omega, by omega⟩)

theorem m_nan (w : World) : Calls Try.prog 26 #[] w fun r w' => r = .returned (.float .f64 9221120237041090561) ∧ w' = w := by
  have h : (callFunc 35 #[.int .u64 9221120237041090561]).run Try.prog w = .ok (.value (.float .f64 9221120237041090561)) w := run_frombits 9221120237041090561 w
  go_enter Try.func26, Try.ntmps26
  go_wp2
  go_ret
  exact ⟨rfl, rfl⟩

theorem order_walk (a0 a1 a2 a3 a4 a5 a6 a7 mark refuse one two : Nat) (hv : ∀ v ∈ [a0, a1, a2, a3, a4, a5, a6, a7], v < 2 ^ 64) (hm : mark < 2 ^ 64) (hr : refuse < 2 ^ 64) (h1 : one < 2 ^ 64) (h2 : two < 2 ^ 64) (W : World) :
    Calls Try.prog 9 #[.agg (barV [a0, a1, a2, a3, a4, a5, a6, a7] mark refuse), .float .f64 one, .float .f64 two] W fun r w' => r = .returned (.bool true) ∧ Below W.heap.size W w' := by
  have hch := (Chg.refl (fun _ => False) W).alloc (.cells (barV [a0, a1, a2, a3, a4, a5, a6, a7] mark refuse) 32)
  have ht := Bar.new W [a0, a1, a2, a3, a4, a5, a6, a7] mark refuse
  have k1 := fun (w' : World) (h : Bar W.heap.size [a0, a1, a2, a3, a4, a5, a6, a7] mark refuse w') => h.cells
  have HC := Lib.hid hch
  have HV := Lib.hid hv
  have HT := Lib.hid ht
  clear hch hv ht
  go_enter Try.func9, Try.ntmps9
  go_wp2_with fail
  revert HT HC
  generalize W.alloc (.cells (barV [a0, a1, a2, a3, a4, a5, a6, a7] mark refuse) 32) = W0
  intro HC HT
  refine (sc_head W0).mono ?_
  rintro e w1 ⟨rfl, c1⟩
  have HT1 := Lib.hid (HT.out.held c1)
  have HC1 := Lib.hid (HC.out.trans c1 (fun _ _ h => h))
  clear c1 HT HC
  go_wp2_with fail
  refine (m_isNaN one w1).mono ?_
  rintro e w2 ⟨rfl, rfl⟩
  have ending : ∀ (w3 w4 : World) (v : Int), Chg (fun _ => False) w2 w3 → Chg (fun _ => False) w3 w4 → Below W.heap.size W w4 := fun w3 w4 _ d1 d2 =>
    (((HC1.out.trans d1 (fun _ _ h => h)).trans d2 (fun _ _ h => h))).below (Nat.le_refl _) (fun _ _ h => h)
  have HEND := Lib.hid ending
  clear ending
  have nanj : judge refuse mark 9221120237041090561 = 1 := by
    unfold judge
    rw [fge_nan _ (by decide), fge_nan _ (by decide)]; rfl
  cases n1 : isN one
  · go_wp2_with fail
    refine (m_isNaN two w2).mono ?_
    rintro e w3 ⟨rfl, rfl⟩
    cases n2 : isN two
    · have hlt : (FloatKind.f64.format.order two one == some .lt) = decide (key two < key one) := lt_iff h2 h1 n2 n1
      obtain ⟨dd, hdd⟩ : ∃ dd, dd = decide (key two < key one) := ⟨_, rfl⟩
      rw [← hdd] at hlt
      have HDD := Lib.hid hdd
      have H1 := Lib.hid h1
      have H2 := Lib.hid h2
      have N1 := Lib.hid n1
      have N2 := Lib.hid n2
      clear h1 h2 n1 n2 hdd
      go_upto_if 23 with (fail)
      go_cut [1, 2] (fun p q wx => wx = w3 ∧ ∃ o t : Nat, p = .float .f64 o ∧ q = .float .f64 t ∧ Hid (o < 2 ^ 64 ∧ t < 2 ^ 64 ∧ isN o = false ∧ isN t = false ∧ key o ≤ key t))
      case first =>
        cases dd
        · go_wp2
          go_meet
          exact ⟨rfl, one, two, rfl, rfl, Lib.hid ⟨H1.out, H2.out, N1.out, N2.out, Int.not_lt.1 (of_decide_eq_false HDD.out.symm)⟩⟩
        · go_wp2
          go_meet
          exact ⟨rfl, two, one, rfl, rfl, Lib.hid ⟨H2.out, H1.out, N2.out, N1.out, Int.le_of_lt (of_decide_eq_true HDD.out.symm)⟩⟩
      case rest =>
        obtain ⟨rfl, o, t, rfl, rfl, HOT⟩ := hcut
        clear hlt H1 H2 N1 N2 HDD
        have htt := HT1.out
        go_wp2_with fail
        go_region_held3 (fun w' => Bar W.heap.size [a0, a1, a2, a3, a4, a5, a6, a7] mark refuse w') (first | assumption | exact Bar.drew (by assumption) | exact Bar.held (by assumption) (by assumption)) (first
          | (go_at_call_of 19 (Value.float .f64 o); refine (s_judge [a0, a1, a2, a3, a4, a5, a6, a7] mark refuse o rfl _).mono ?_; rintro e wa ⟨rfl, ca⟩)
          | (go_at_call_of 19 (Value.float .f64 t); refine (s_judge [a0, a1, a2, a3, a4, a5, a6, a7] mark refuse t rfl _).mono ?_; rintro e wb ⟨rfl, cb⟩))
        have hjm := judge_mono (r := refuse) (m := mark) HOT.out.1 HOT.out.2.1 hr hm HOT.out.2.2.1 HOT.out.2.2.2.1 HOT.out.2.2.2.2
        have hj1 := judge_range refuse mark o
        have hj2 := judge_range refuse mark t
        have hja := fun h => judge_at (x := o) HOT.out.1 hr hm HOT.out.2.2.1 h
        obtain ⟨x, hx⟩ : ∃ x, x = judge refuse mark o := ⟨_, rfl⟩
        obtain ⟨y, hy⟩ : ∃ y, y = judge refuse mark t := ⟨_, rfl⟩
        rw [← hx] at hjm hj1 hja
        rw [← hy] at hjm hj2
        have HX := Lib.hid hx
        rw [← hx, ← hy]
        have hbb := (htt.drew.held ca).held cb
        have HB := Lib.hid hbb
        have HCB := Lib.hid (((HC1.out.drew).trans ca (fun _ _ h => h)).trans cb (fun _ _ h => h))
        have kk := k1 _ hbb
        have g1 : ¬ y < x := by omega
        have g2 : ¬ x < 1 := by omega
        have g3 : ¬ 3 < y := by omega
        have HJA := Lib.hid hja
        clear hjm hj1 hj2 hja hx hy hbb ca cb htt k1 HT1
        go_wp2_with fail
        refine (s_check a0 a1 a2 a3 a4 a5 a6 a7 mark refuse HV.out wb).mono ?_
        rintro e w5 ⟨rfl, c5⟩
        have hb5 := HB.out.held c5
        have m1 := hb5.mark_at rfl
        have m2 := hb5.refuse_at rfl
        have HC5 := Lib.hid (HCB.out.trans c5 (fun _ _ h => h))
        clear kk c5 hb5 HB HCB
        cases hce : ([a0, a1, a2, a3, a4, a5, a6, a7].all ffin && fge refuse mark)
        · have e1 : check [a0, a1, a2, a3, a4, a5, a6, a7] mark refuse = 210 := by rw [check, hce]; rfl
          rw [e1]
          clear e1 hce
          go_wp2
          go_ret
          exact ⟨rfl, HC5.out.below (Nat.le_refl _) (fun _ _ h => h)⟩
        · have e1 : check [a0, a1, a2, a3, a4, a5, a6, a7] mark refuse = 0 := by rw [check, hce]; rfl
          rw [e1]
          have hge : fge refuse mark = true := by
            rw [Bool.and_eq_true] at hce; exact hce.2
          have hj := HJA.out hge
          clear e1 hce hge HJA
          rcases hj with ⟨e1, e2, e3⟩ | ⟨e1, e2, e3⟩ | ⟨e1, e2, e3⟩
          all_goals
            have e2' : (FloatKind.f64.format.order o refuse == some .gt || FloatKind.f64.format.order o refuse == some .eq) = _ := e2
            have e3' : (FloatKind.f64.format.order o mark == some .lt) = _ := e3
            clear e2 e3 HX
            subst e1
            go_wp2
            go_ret
            exact ⟨rfl, HC5.out.below (Nat.le_refl _) (fun _ _ h => h)⟩
    · have htt := HT1.out
      go_wp2_with fail
      go_region_held3 (fun w' => Bar W.heap.size [a0, a1, a2, a3, a4, a5, a6, a7] mark refuse w') (first | assumption | exact Bar.drew (by assumption) | exact Bar.held (by assumption) (by assumption)) (first
        | (go_at_call 26; refine (m_nan _).mono ?_; rintro e wn ⟨rfl, rfl⟩)
        | (go_at_call 19; refine (s_judge [a0, a1, a2, a3, a4, a5, a6, a7] mark refuse _ rfl _).mono ?_; rintro e wn ⟨rfl, cn⟩; rw [nanj]))
      go_wp2
      go_ret
      exact ⟨rfl, HEND.out _ _ 0 (Chg.refl _ _).drew cn⟩
  · have htt := HT1.out
    go_wp2_with fail
    go_region_held3 (fun w' => Bar W.heap.size [a0, a1, a2, a3, a4, a5, a6, a7] mark refuse w') (first | assumption | exact Bar.drew (by assumption) | exact Bar.held (by assumption) (by assumption)) (first
      | (go_at_call 26; refine (m_nan _).mono ?_; rintro e wn ⟨rfl, rfl⟩)
      | (go_at_call 19; refine (s_judge [a0, a1, a2, a3, a4, a5, a6, a7] mark refuse _ rfl _).mono ?_; rintro e wn ⟨rfl, cn⟩; rw [nanj]))
    go_wp2
    go_ret
    exact ⟨rfl, HEND.out _ _ 0 (Chg.refl _ _).drew cn⟩
end Go.Proofs.Ythhmdlmgjienoaa
