/- The laws' wakes, walked: true. No condition. -/
import Derived.Test.YtplkoephgmdgkaaRtSort
import Derived.Test.YtplkoephgmdgkaaRtWk
namespace Go.Proofs.Ytplkoephgmdgkaa
open Go Go.RowKit Rt Go.Maps
set_option linter.unusedVariables false
attribute [local go_sem] run_fadd run_fsub run_fmul run_fquo store_f64
theorem fcmp_eq_same (x : Nat) (h : isN x = false) : (FloatKind.f64.format.order x x == some .eq) = true := by
  have h1 : FloatKind.f64.format.order x x = some .eq := by
    have := order_self x
    rw [h] at this
    exact this
  rw [h1]; rfl
theorem fcmp_neq_same (x : Nat) (h : isN x = false) : (FloatKind.f64.format.order x x != some .eq) = false := by
  have h1 : FloatKind.f64.format.order x x = some .eq := by
    have := order_self x
    rw [h] at this
    exact this
  rw [h1]; rfl
set_option maxHeartbeats 4000000 in
set_option maxRecDepth 100000 in
theorem rt_wakes (w : World) : Calls Try.prog 15 #[] w fun r w' => r = .returned (.bool true) ∧ Chg (fun _ => False) w w' := by
  have hck : checkB 4602678819172646912 4613937818241073152 4602678819172646912 = true := by kernel_rfl
  have hkl : (⟨#[107]⟩ : ByteArray).size ≤ maxLen := by decide
  have NEW := Lib.hid (rt_New w 4602678819172646912 4613937818241073152 4602678819172646912 (by decide) (by decide) (by decide))
  rw [hck] at NEW
  unfold paceV at NEW
  clear hck
  go_enter Try.func15, Try.ntmps15
  go_wp2_with fail
  refine NEW.out.mono ?_
  rintro e w1 ⟨c1, tb, m, F, rfl, h1, hF1⟩
  have h1 : TAx tb m wt0 (fun _ => none) F w1 := h1
  have C1 := Lib.hid c1
  have H1 := Lib.hid h1
  have HF1 := Lib.hid hF1
  clear c1 h1 hF1 NEW
  as_aux_lemma =>
    go_wp2_with fail
    refine (rt_Ask w1 tb m wt0 _ F H1.out ⟨#[107]⟩ hkl 10 4611686018427387904 (by decide)).mono ?_
    rintro e w2 ⟨bk2, F2, he, h2, c2, hF2⟩
    rw [show (wt0.ask ⟨#[107]⟩ 10 4611686018427387904).1 = true from wk_a] at he
    subst he
    have h2 : TAx tb m wt1 bk2 F2 w2 := h2
    have C2 := Lib.hid (C1.out.trans c2 (fun i hi e => by have := HF1.out i e; omega))
    have HF2 := Lib.hid (show ∀ i, F2 i → w.heap.size ≤ i from fun i hi => by
      rcases hF2 i hi with h | h
      · exact HF1.out i h
      · have := C1.out.size; omega)
    have H2 := Lib.hid h2
    clear h2 c2 hF2 C1 H1 HF1
    go_wp2_with fail
    refine (rt_Ask w2 tb m wt1 _ F2 H2.out ⟨#[107]⟩ hkl 10 4611686018427387904 (by decide)).mono ?_
    rintro e w3 ⟨bk3, F3, he, h3, c3, hF3⟩
    rw [show (wt1.ask ⟨#[107]⟩ 10 4611686018427387904).1 = false from wk_b] at he
    subst he
    rw [show (wt1.ask ⟨#[107]⟩ 10 4611686018427387904).2 = wt1 from wk_b2] at h3
    have C3 := Lib.hid (C2.out.trans c3 (fun i hi e => by have := HF2.out i e; omega))
    have HF3 := Lib.hid (show ∀ i, F3 i → w.heap.size ≤ i from fun i hi => by
      rcases hF3 i hi with h | h
      · exact HF2.out i h
      · have := C2.out.size; omega)
    have H3 := Lib.hid h3
    clear h3 c3 hF3 C2 H2 HF2
    have n1 := fcmp_neq_same 4607182418800017408 (by kernel_rfl)
    have n15 := fcmp_neq_same 4609434218613702656 (by kernel_rfl)
    have n3 := fcmp_neq_same 4613937818241073152 (by kernel_rfl)
    have n0 := fcmp_neq_same 0 (by kernel_rfl)
    go_wp2_with fail
    refine (rt_Level w3 tb m wt1 _ F3 H3.out ⟨#[107]⟩ hkl 10).mono ?_
    rintro e w4 ⟨he, c4⟩
    rw [show wt1.level ⟨#[107]⟩ 10 = 4607182418800017408 from wk_c] at he
    subst he
    have C4 := Lib.hid (C3.out.trans c4 (fun _ _ h => h))
    have H4 := Lib.hid (H3.out.same c4)
    clear c4 C3 H3
    go_wp2_with fail
    refine (rt_Level w4 tb m wt1 _ F3 H4.out ⟨#[107]⟩ hkl 11).mono ?_
    rintro e w5 ⟨he, c5⟩
    rw [show wt1.level ⟨#[107]⟩ 11 = 4609434218613702656 from wk_d] at he
    subst he
    have C5 := Lib.hid (C4.out.trans c5 (fun _ _ h => h))
    have H5 := Lib.hid (H4.out.same c5)
    clear c5 C4 H4
    go_wp2_with fail
    refine (rt_Level w5 tb m wt1 _ F3 H5.out ⟨#[107]⟩ hkl 99).mono ?_
    rintro e w6 ⟨he, c6⟩
    rw [show wt1.level ⟨#[107]⟩ 99 = 4613937818241073152 from wk_e] at he
    subst he
    have C6 := Lib.hid (C5.out.trans c6 (fun _ _ h => h))
    have H6 := Lib.hid (H5.out.same c6)
    clear c6 C5 H5
    go_wp2_with fail
    refine (rt_Ask w6 tb m wt1 _ F3 H6.out ⟨#[107]⟩ hkl 12 4611686018427387904 (by decide)).mono ?_
    rintro e w7 ⟨bk7, F7, he, h7, c7, hF7⟩
    rw [show (wt1.ask ⟨#[107]⟩ 12 4611686018427387904).1 = true from wk_f] at he
    subst he
    have h7 : TAx tb m wt2 bk7 F7 w7 := h7
    have C7 := Lib.hid (C6.out.trans c7 (fun i hi e => by have := HF3.out i e; omega))
    have HF7 := Lib.hid (show ∀ i, F7 i → w.heap.size ≤ i from fun i hi => by
      rcases hF7 i hi with h | h
      · exact HF3.out i h
      · have := C6.out.size; omega)
    have H7 := Lib.hid h7
    clear h7 c7 hF7 C6 H6 HF3
    go_wp2_with fail
    refine (rt_Level w7 tb m wt2 _ F7 H7.out ⟨#[107]⟩ hkl 5).mono ?_
    rintro e w8 ⟨he, c8⟩
    rw [show wt2.level ⟨#[107]⟩ 5 = 0 from wk_g] at he
    subst he
    have C8 := Lib.hid (C7.out.trans c8 (fun _ _ h => h))
    have H8 := Lib.hid (H7.out.same c8)
    clear c8 C7 H7
    go_wp2_with fail
    refine (rt_Note w8 tb m wt2 _ F7 H8.out ⟨#[107]⟩ hkl 20 4620693217682128896 (by decide)).mono ?_
    rintro e w9 ⟨bk9, F9, he, h9, c9, hF9⟩
    rw [show (wt2.note ⟨#[107]⟩ 20 4620693217682128896).1 = 0 from wk_h] at he
    subst he
    have h9 : TAx tb m wt3 bk9 F9 w9 := h9
    have C9 := Lib.hid (C8.out.trans c9 (fun i hi e => by have := HF7.out i e; omega))
    have H9 := Lib.hid h9
    clear h9 c9 hF9 C8 H8 HF7
    go_wp2_with fail
    refine (rt_Standing w9 tb m wt3 _ F9 H9.out ⟨#[107]⟩ hkl 23).mono ?_
    rintro e w10 ⟨y, rfl, fy, c10⟩
    rw [show wt3.standing ⟨#[107]⟩ 23 = some 4607182418800017408 from wk_s] at fy
    obtain rfl : y = 4607182418800017408 := fy.2
    have C10 := Lib.hid (C9.out.trans c10 (fun _ _ h => h))
    have H10 := Lib.hid (H9.out.same c10)
    clear c10 C9 H9 fy
    go_wp2_with fail
    refine (rt_Keys rt_SC w10 tb m wt3 _ F9 H10.out).mono ?_
    rintro e w11 ⟨ks, v, rfl, hv, hr, hm, hl⟩
    have hks : ks = [kk] := rises_one hr (by unfold Rises; exact List.pairwise_singleton _ _) fun k => by
      rw [hm k]
      have hl3 : wt3.L.map (fun e => e.key) = [kk] := wk_k
      have h3 : (∃ e ∈ wt3.L, e.key = k) ↔ k ∈ wt3.L.map (fun e => e.key) := by simp
      rw [h3, hl3]
    subst hks
    have C11 := Lib.hid (C10.out.trans hv.chg (fun _ _ h => h))
    have HV := Lib.hid hv.arr
    obtain ⟨ao, cap, rfl⟩ := hv.shape
    have HQ := Lib.hid (rt_equal (w11.alloc (.cells #[.string ⟨#[107]⟩] 9)) (.slice ao (strs [kk]).length cap) (.slice (some ⟨w11.heap.size, 0, none⟩) 1 1) [kk] [kk] ((HV.out.kept ((Chg.refl (fun _ => False) w11).alloc _) (fun _ _ h => h)).rd) (by
      refine ⟨_, 1, 1, rfl, rfl, by omega, by decide, (fun h => by cases h), fun a ha _ => ?_⟩
      injection ha with ha
      subst ha
      refine ⟨rfl, fun i hi => ?_⟩
      obtain rfl : i = 0 := by simp [strs] at hi; omega
      simp
      rfl) (by decide) (by decide))
    rw [decide_eq_true rfl] at HQ
    clear hv hr hm hl C10 H10
    go_wp2_with fail
    refine HQ.out.mono ?_
    rintro e w12 ⟨rfl, c12⟩
    have C12 := Lib.hid (C11.out.trans (((Chg.refl (fun _ => False) w11).alloc _).trans c12 (fun _ _ h => h)) (fun _ _ h => h))
    clear c12 HQ C11 HV
    as_aux_lemma =>
      go_wp2_with fail
      refine (rt_newMean w12).mono ?_
      rintro e w13 ⟨rfl, h13⟩
      have hm0 : MnAt w12.heap.size Mn.new w13 := ⟨0, 0, by rw [h13]; exact heap_alloc_at _ _, FS.some (by decide), FS.some (by decide)⟩
      have C13 := Lib.hid (C12.out.trans (show Chg (fun _ => False) w12 w13 by rw [h13]; exact (Chg.refl _ _).alloc _) (fun _ _ h => h))
      clear h13
      go_wp2_with fail
      refine (rt_add w13 w12.heap.size Mn.new hm0 4607182418800017408 (some f1) (FS.some (by decide)) (by decide)).mono ?_
      rintro e w14 ⟨rfl, hm1, c14⟩
      clear hm0
      go_wp2_with fail
      refine (rt_add w14 w12.heap.size _ hm1 4611686018427387904 (some f2) (FS.some (by decide)) (by decide)).mono ?_
      rintro e w15 ⟨rfl, hm2, c15⟩
      clear hm1
      go_wp2_with fail
      refine (rt_add w15 w12.heap.size _ hm2 4618441417868443648 (some 4618441417868443648) (FS.some (by decide)) (by decide)).mono ?_
      rintro e w16 ⟨rfl, hm3, c16⟩
      clear hm2
      go_wp2_with fail
      refine (rt_tell w16 w12.heap.size wm hm3 (by decide)).mono ?_
      rintro e w17 ⟨⟨a, s, he, ha, hs⟩, c17⟩
      have hmt : wm.tell = (3, some 4613937818241073152, some 4616940217992653483) := wk_m
      rw [hmt] at he ha hs
      obtain rfl : a = 4613937818241073152 := ha.2
      obtain rfl : s = 4616940217992653483 := hs.2
      have h33 : (((3, some 4613937818241073152, some 4616940217992653483) : Nat × Option Nat × Option Nat).1 : Int) = 3 := rfl
      rw [h33] at he
      subst he
      clear h33
      have C17 := Lib.hid (C13.out.trans (((c14.trans c15 (fun _ _ h => h)).trans c16 (fun _ _ h => h)).trans (c17.mono (fun _ _ h => h.elim)) (fun _ _ h => h)) (fun i hi e => by have := C12.out.size; omega))
      clear hm3 c14 c15 c16 c17 ha hs hmt C13
      have q3 := fcmp_eq_same 4613937818241073152 (by kernel_rfl)
      have qs := fcmp_eq_same 4616940217992653483 (by kernel_rfl)
      have qp := fcmp_eq_same 4662351514235305984 (by kernel_rfl)
      go_wp2_with fail
      refine (rt_power w17 4617315517961601024 4611686018427387904 (some 4617315517961601024) (some f2) 10 (FS.some (by decide)) (FS.some (by decide)) (by decide)).mono ?_
      rintro e w18 ⟨y, rfl, hy, c18⟩
      have hpw : pw (some 4617315517961601024) (some f2) ((10 : Int).toNat) = some 4662351514235305984 := wk_p
      rw [hpw] at hy
      obtain rfl : y = 4662351514235305984 := hy.2
      have C18 := Lib.hid (C17.out.trans c18 (fun _ _ h => h))
      clear hpw hy c18 C17
      go_wp2
      go_ret
      exact ⟨rfl, C18.out⟩
end Go.Proofs.Ytplkoephgmdgkaa
