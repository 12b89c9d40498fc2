/- RateKnown walked. No condition. -/
import Derived.Test.YtplkoephgmdgkaaRtMath
import Derived.Test.YtplkoephgmdgkaaRtKn
namespace Go.Proofs.Ytplkoephgmdgkaa
open Go Go.RowKit Rt Go.Maps
set_option linter.unusedVariables false
attribute [local go_sem] run_fadd run_fsub run_fmul run_fquo store_f64
def KnRel (w0 : World) (n : Nat) (g : Nat) (iv : Value) (wr : World) : Prop := ∃ i : Nat, i + g = n ∧ iv = .int .i64 i ∧ Chg (fun _ => False) w0 wr
def kn8 : Array Value := #[.float .f64 0, .float .f64 4607182418800017408, .float .f64 4607182418800017408, .float .f64 9221120237041090561, .float .f64 4607182418800017408, .float .f64 4607182418800017408, .float .f64 4607182418800017408, .float .f64 4697254415642394624, .float .f64 4607182418800017408,
  .float .f64 4607182418800017408, .float .f64 4607182418800017408, .float .f64 4609434218613702656, .float .f64 4607182418800017408, .float .f64 4607182418800017408, .float .f64 9221120237041090561, .float .f64 4607182418800017408, .float .f64 4512606826625236992, .float .f64 4607182418800017408,
  .float .f64 4607182418800017408, .float .f64 9218868437227405312, .float .f64 4607182418800017408, .float .f64 4607182418800017408, .float .f64 4607182418800017408, .float .f64 13740482463107383296]
def kn3 : Array Value := #[.float .f64 4517110426252607488, .float .f64 4517110426252607488, .float .f64 0, .float .f64 4697254411347427328, .float .f64 4697254411347427328, .float .f64 4607182418800017408, .float .f64 4607182418800017408, .float .f64 4607182418800017408, .float .f64 9223372036854775808]
theorem kn8_row (i : Nat) (hi : i < 8) : ∃ a b c : Nat, kn8[i * 3]? = some (.float .f64 a) ∧ kn8[i * 3 + 1]? = some (.float .f64 b) ∧ kn8[i * 3 + 2]? = some (.float .f64 c) ∧ a < 2 ^ 64 ∧ b < 2 ^ 64 ∧ c < 2 ^ 64 ∧ checkB a b c = false := by
  match i, hi with
  | 0, _ => exact ⟨_, _, _, rfl, rfl, rfl, by decide, by decide, by decide, by kernel_rfl⟩
  | 1, _ => exact ⟨_, _, _, rfl, rfl, rfl, by decide, by decide, by decide, by kernel_rfl⟩
  | 2, _ => exact ⟨_, _, _, rfl, rfl, rfl, by decide, by decide, by decide, by kernel_rfl⟩
  | 3, _ => exact ⟨_, _, _, rfl, rfl, rfl, by decide, by decide, by decide, by kernel_rfl⟩
  | 4, _ => exact ⟨_, _, _, rfl, rfl, rfl, by decide, by decide, by decide, by kernel_rfl⟩
  | 5, _ => exact ⟨_, _, _, rfl, rfl, rfl, by decide, by decide, by decide, by kernel_rfl⟩
  | 6, _ => exact ⟨_, _, _, rfl, rfl, rfl, by decide, by decide, by decide, by kernel_rfl⟩
  | 7, _ => exact ⟨_, _, _, rfl, rfl, rfl, by decide, by decide, by decide, by kernel_rfl⟩
theorem kn3_row (i : Nat) (hi : i < 3) : ∃ a b c : Nat, kn3[i * 3]? = some (.float .f64 a) ∧ kn3[i * 3 + 1]? = some (.float .f64 b) ∧ kn3[i * 3 + 2]? = some (.float .f64 c) ∧ a < 2 ^ 64 ∧ b < 2 ^ 64 ∧ c < 2 ^ 64 ∧ checkB a b c = true := by
  match i, hi with
  | 0, _ => exact ⟨_, _, _, rfl, rfl, rfl, by decide, by decide, by decide, by kernel_rfl⟩
  | 1, _ => exact ⟨_, _, _, rfl, rfl, rfl, by decide, by decide, by decide, by kernel_rfl⟩
  | 2, _ => exact ⟨_, _, _, rfl, rfl, rfl, by decide, by decide, by decide, by kernel_rfl⟩
set_option maxHeartbeats 4000000 in
set_option maxRecDepth 100000 in
theorem known_walk (w : World) : Calls Try.prog 10 #[] w fun r w' => r = .returned (.bool true) ∧ Chg (fun _ => False) w w' := by
  have e1 : ∀ z, fres z .quo 4517110426252607488 4611686018427387904 = 4512606826625236992 := fres_some (by kernel_rfl)
  have e2 : fdr .quo 4517110426252607488 4611686018427387904 = 0 := fdr_some (r := 4512606826625236992) (by kernel_rfl)
  have e3 : Op.unary .neg (.float .f64 4517110426252607488) = pure (.float .f64 13740482463107383296) := rfl
  go_enter Try.func10, Try.ntmps10
  go_wp2_with fail
  refine (rt_wakes w).mono ?_
  rintro e w1 ⟨rfl, c1⟩
  have C1 := Lib.hid c1
  clear c1
  go_wp2_with fail
  refine (m_NaN w1).mono ?_
  rintro e w' ⟨rfl, h9⟩
  have h9 := h9.symm
  subst h9
  go_wp2_with fail
  refine (m_Inf _).mono ?_
  rintro e w2 ⟨rfl, h9⟩
  have C2 := Lib.hid (show Chg (fun _ => False) w w2 by rw [h9]; exact C1.out.drewN _)
  clear h9 C1
  go_wp2
  obtain ⟨w3, hw3⟩ : ∃ w3, w3 = w2.alloc (.cells kn8 24) := ⟨_, rfl⟩
  have ks := heap_alloc_at w2 (.cells kn8 24)
  rw [← hw3] at ks
  obtain ⟨S, hS⟩ : ∃ S, S = w2.heap.size := ⟨_, rfl⟩
  rw [← hS] at ks
  unfold kn8 at hw3
  rw [← hw3, ← hS]
  have KS := Lib.hid ks
  have C3 := Lib.hid (show Chg (fun _ => False) w w3 by rw [hw3]; exact C2.out.alloc _)
  clear ks hw3 hS C2
  focus
    go_loopg [35] 8 (KnRel w3 8)
    case atStart => exact ⟨0, rfl, rfl, Chg.refl _ _⟩
    case round =>
      obtain ⟨i, hi, rfl, hc⟩ := hrel
      by_cases hg : i = 8
      · have hlt : ¬ (i : Int) < 8 := by omega
        have C4 := Lib.hid (C3.out.trans hc (fun _ _ h => h))
        clear hc KS C3 hi hg
        go_wp2_with fail
        refine (m_Copysign wr).mono ?_
        rintro e w' ⟨rfl, h9⟩
        have h9 := h9.symm
        subst h9
        go_wp2
        obtain ⟨w5, hw5⟩ : ∃ w5, w5 = wr.alloc (.cells kn3 24) := ⟨_, rfl⟩
        have ks := heap_alloc_at wr (.cells kn3 24)
        rw [← hw5] at ks
        obtain ⟨S2, hS2⟩ : ∃ S2, S2 = wr.heap.size := ⟨_, rfl⟩
        rw [← hS2] at ks
        unfold kn3 at hw5
        rw [← hw5, ← hS2]
        have KS := Lib.hid ks
        have C5 := Lib.hid (show Chg (fun _ => False) w w5 by rw [hw5]; exact C4.out.alloc _)
        clear ks hw5 hS2 C4
        focus
          go_loopg [64] 3 (KnRel w5 3)
          case atStart => exact ⟨0, rfl, rfl, Chg.refl _ _⟩
          case round =>
            obtain ⟨i2, hi, rfl, hc⟩ := hrel
            by_cases hg : i2 = 3
            · have hlt : ¬ (i2 : Int) < 3 := by omega
              have C6 := Lib.hid (C5.out.trans hc (fun _ _ h => h))
              clear hc KS C5 hi hg
              have hkl : (⟨#[107]⟩ : ByteArray).size ≤ maxLen := by decide
              have hol : (⟨#[111, 116, 104, 101, 114]⟩ : ByteArray).size ≤ maxLen := by decide
              have hck : checkB 4602678819172646912 4613937818241073152 9223372036854775808 = true := by kernel_rfl
              have NEW := Lib.hid (fun w => rt_New w 4602678819172646912 4613937818241073152 9223372036854775808 (by decide) (by decide) (by decide))
              rw [hck] at NEW
              unfold paceV at NEW
              clear hck
              go_wp2_with fail
              refine (m_Copysign wr).mono ?_
              rintro e w' ⟨rfl, h9⟩
              have h9 := h9.symm
              subst h9
              go_wp2_with fail
              refine (NEW.out _).mono ?_
              rintro e x1 ⟨c1, tb, m, F1, rfl, h1, hF1⟩
              have h1 : TAx tb m kt0 (fun _ => none) F1 x1 := h1
              have hwr := C6.out.size
              have D1 := Lib.hid (C6.out.trans c1 (fun _ _ h => h))
              have H1 := Lib.hid h1
              have HF1 := Lib.hid (show ∀ i, F1 i → w.heap.size ≤ i from fun i hi => by have := hF1 i hi; omega)
              clear c1 h1 hF1 NEW C6 hwr
              go_wp2_with fail
              refine (rt_Ask x1 tb m kt0 _ F1 H1.out ⟨#[107]⟩ hkl (-1) 0 (by decide)).mono ?_
              rintro e x2 ⟨bk2, F2, he, h2, c2, hF2⟩
              rw [show (kt0.ask ⟨#[107]⟩ (-1) 0).1 = false from kn_a] at he
              subst he
              rw [show (kt0.ask ⟨#[107]⟩ (-1) 0).2 = kt0 from ask_no kn_a] at h2
              have D2 := Lib.hid (D1.out.trans c2 (fun i hi e => by have := HF1.out i e; omega))
              have HF2 := Lib.hid (show ∀ i, F2 i → w.heap.size ≤ i from fun i hi => by
                rcases hF2 i hi with h | h
                · exact HF1.out i h
                · have := D1.out.size; omega)
              have H2 := Lib.hid h2
              clear h2 c2 hF2 D1 H1 HF1
              go_wp2_with fail
              refine (rt_Ask x2 tb m kt0 _ F2 H2.out ⟨#[107]⟩ hkl 20 13830554455654793216 (by decide)).mono ?_
              rintro e x3 ⟨bk3, F3, he, h3, c3, hF3⟩
              rw [show (kt0.ask ⟨#[107]⟩ 20 13830554455654793216).1 = false from kn_b] at he
              subst he
              rw [show (kt0.ask ⟨#[107]⟩ 20 13830554455654793216).2 = kt0 from ask_no kn_b] at h3
              have D3 := Lib.hid (D2.out.trans c3 (fun i hi e => by have := HF2.out i e; omega))
              have HF3 := Lib.hid (show ∀ i, F3 i → w.heap.size ≤ i from fun i hi => by
                rcases hF3 i hi with h | h
                · exact HF2.out i h
                · have := D2.out.size; omega)
              have H3 := Lib.hid h3
              clear h3 c3 hF3 D2 H2 HF2
              go_wp2_with fail
              refine (rt_Ask x3 tb m kt0 _ F3 H3.out ⟨#[107]⟩ hkl 20 9221120237041090561 (by decide)).mono ?_
              rintro e x4 ⟨bk4, F4, he, h4, c4, hF4⟩
              rw [show (kt0.ask ⟨#[107]⟩ 20 9221120237041090561).1 = false from kn_c] at he
              subst he
              rw [show (kt0.ask ⟨#[107]⟩ 20 9221120237041090561).2 = kt0 from ask_no kn_c] at h4
              have D4 := Lib.hid (D3.out.trans c4 (fun i hi e => by have := HF3.out i e; omega))
              have HF4 := Lib.hid (show ∀ i, F4 i → w.heap.size ≤ i from fun i hi => by
                rcases hF4 i hi with h | h
                · exact HF3.out i h
                · have := D3.out.size; omega)
              have H4 := Lib.hid h4
              clear h4 c4 hF4 D3 H3 HF3
              go_wp2_with fail
              refine (rt_Ask x4 tb m kt0 _ F4 H4.out ⟨#[107]⟩ hkl 99 4616189618054758400 (by decide)).mono ?_
              rintro e x5 ⟨bk5, F5, he, h5, c5, hF5⟩
              rw [show (kt0.ask ⟨#[107]⟩ 99 4616189618054758400).1 = false from kn_d] at he
              subst he
              rw [show (kt0.ask ⟨#[107]⟩ 99 4616189618054758400).2 = kt0 from ask_no kn_d] at h5
              have D5 := Lib.hid (D4.out.trans c5 (fun i hi e => by have := HF4.out i e; omega))
              have HF5 := Lib.hid (show ∀ i, F5 i → w.heap.size ≤ i from fun i hi => by
                rcases hF5 i hi with h | h
                · exact HF4.out i h
                · have := D4.out.size; omega)
              have H5 := Lib.hid h5
              clear h5 c5 hF5 D4 H4 HF4
              go_wp2_with fail
              refine (rt_Ask x5 tb m kt0 _ F5 H5.out ⟨#[111, 116, 104, 101, 114]⟩ hol 99 4613937818241073152 (by decide)).mono ?_
              rintro e x6 ⟨bk6, F6, he, h6, c6, hF6⟩
              rw [show (kt0.ask ⟨#[111, 116, 104, 101, 114]⟩ 99 4613937818241073152).1 = true from kn_e] at he
              subst he
              have h6 : TAx tb m kt1 bk6 F6 x6 := h6
              have D6 := Lib.hid (D5.out.trans c6 (fun i hi e => by have := HF5.out i e; omega))
              have HF6 := Lib.hid (show ∀ i, F6 i → w.heap.size ≤ i from fun i hi => by
                rcases hF6 i hi with h | h
                · exact HF5.out i h
                · have := D5.out.size; omega)
              have H6 := Lib.hid h6
              clear h6 c6 hF6 D5 H5 HF5
              go_wp2_with fail
              refine (rt_Ask x6 tb m kt1 _ F6 H6.out ⟨#[107]⟩ hkl 253402300800 0 (by decide)).mono ?_
              rintro e x7 ⟨bk7, F7, he, h7, c7, hF7⟩
              rw [show (kt1.ask ⟨#[107]⟩ 253402300800 0).1 = false from kn_f] at he
              subst he
              rw [show (kt1.ask ⟨#[107]⟩ 253402300800 0).2 = kt1 from ask_no kn_f] at h7
              have D7 := Lib.hid (D6.out.trans c7 (fun i hi e => by have := HF6.out i e; omega))
              have HF7 := Lib.hid (show ∀ i, F7 i → w.heap.size ≤ i from fun i hi => by
                rcases hF7 i hi with h | h
                · exact HF6.out i h
                · have := D6.out.size; omega)
              have H7 := Lib.hid h7
              clear h7 c7 hF7 D6 H6 HF6
              go_wp2_with fail
              refine (rt_Ask x7 tb m kt1 _ F7 H7.out ⟨#[107]⟩ hkl 253402300799 4613937818241073152 (by decide)).mono ?_
              rintro e x8 ⟨bk8, F8, he, h8, c8, hF8⟩
              rw [show (kt1.ask ⟨#[107]⟩ 253402300799 4613937818241073152).1 = true from kn_g] at he
              subst he
              have h8 : TAx tb m kt2 bk8 F8 x8 := h8
              have D8 := Lib.hid (D7.out.trans c8 (fun i hi e => by have := HF7.out i e; omega))
              have HF8 := Lib.hid (show ∀ i, F8 i → w.heap.size ≤ i from fun i hi => by
                rcases hF8 i hi with h | h
                · exact HF7.out i h
                · have := D7.out.size; omega)
              have H8 := Lib.hid h8
              clear h8 c8 hF8 D7 H7 HF7
              go_wp2_with fail
              refine (rt_Note x8 tb m kt2 _ F8 H8.out ⟨#[107]⟩ hkl 20 4697254415642394624 (by decide)).mono ?_
              rintro e x9 ⟨bk9, F9, he, h9, c9, hF9⟩
              rw [show (kt2.note ⟨#[107]⟩ 20 4697254415642394624).1 = 2 from kn_h1] at he
              subst he
              rw [show (kt2.note ⟨#[107]⟩ 20 4697254415642394624).2 = kt2 from kn_n1] at h9
              have D9 := Lib.hid (D8.out.trans c9 (fun i hi e => by have := HF8.out i e; omega))
              have HF9 := Lib.hid (show ∀ i, F9 i → w.heap.size ≤ i from fun i hi => by
                rcases hF9 i hi with h | h
                · exact HF8.out i h
                · have := D8.out.size; omega)
              have H9 := Lib.hid h9
              clear h9 c9 hF9 D8 H8 HF8
              go_wp2_with fail
              refine (rt_Note x9 tb m kt2 _ F9 H9.out ⟨#[107]⟩ hkl (-1) 9221120237041090561 (by decide)).mono ?_
              rintro e x10 ⟨bk10, F10, he, h10, c10, hF10⟩
              rw [show (kt2.note ⟨#[107]⟩ (-1) 9221120237041090561).1 = 5 from kn_h2] at he
              subst he
              rw [show (kt2.note ⟨#[107]⟩ (-1) 9221120237041090561).2 = kt2 from kn_n2] at h10
              have D10 := Lib.hid (D9.out.trans c10 (fun i hi e => by have := HF9.out i e; omega))
              have HF10 := Lib.hid (show ∀ i, F10 i → w.heap.size ≤ i from fun i hi => by
                rcases hF10 i hi with h | h
                · exact HF9.out i h
                · have := D9.out.size; omega)
              have H10 := Lib.hid h10
              clear h10 c10 hF10 D9 H9 HF9
              go_wp2_with fail
              refine (rt_Note x10 tb m kt2 _ F10 H10.out ⟨#[107]⟩ hkl 20 9221120237041090561 (by decide)).mono ?_
              rintro e x11 ⟨bk11, F11, he, h11, c11, hF11⟩
              rw [show (kt2.note ⟨#[107]⟩ 20 9221120237041090561).1 = 2 from kn_h3] at he
              subst he
              rw [show (kt2.note ⟨#[107]⟩ 20 9221120237041090561).2 = kt2 from kn_n3] at h11
              have D11 := Lib.hid (D10.out.trans c11 (fun i hi e => by have := HF10.out i e; omega))
              have HF11 := Lib.hid (show ∀ i, F11 i → w.heap.size ≤ i from fun i hi => by
                rcases hF11 i hi with h | h
                · exact HF10.out i h
                · have := D10.out.size; omega)
              have H11 := Lib.hid h11
              clear h11 c11 hF11 D10 H10 HF10
              go_wp2_with fail
              refine (rt_Note x11 tb m kt2 _ F11 H11.out ⟨#[107]⟩ hkl 20 13920626448202203136 (by decide)).mono ?_
              rintro e x12 ⟨bk12, F12, he, h12, c12, hF12⟩
              rw [show (kt2.note ⟨#[107]⟩ 20 13920626448202203136).1 = 0 from kn_h4] at he
              subst he
              have h12 : TAx tb m kt3 bk12 F12 x12 := h12
              have D12 := Lib.hid (D11.out.trans c12 (fun i hi e => by have := HF11.out i e; omega))
              have HF12 := Lib.hid (show ∀ i, F12 i → w.heap.size ≤ i from fun i hi => by
                rcases hF12 i hi with h | h
                · exact HF11.out i h
                · have := D11.out.size; omega)
              have H12 := Lib.hid h12
              clear h12 c12 hF12 D11 H11 HF11
              have n0 := fcmp_neq_same 0 (by kernel_rfl)
              go_wp2_with fail
              refine (rt_Level x12 tb m kt3 _ F12 H12.out ⟨#[107]⟩ hkl (-1)).mono ?_
              rintro e y1 ⟨he, c1⟩
              rw [show kt3.level ⟨#[107]⟩ (-1) = 0 from kn_l] at he
              subst he
              have E1 := Lib.hid (D12.out.trans c1 (fun _ _ h => h))
              have G1 := Lib.hid (H12.out.same c1)
              clear c1 D12 H12
              go_wp2_with fail
              refine (rt_Standing y1 tb m kt3 _ F12 G1.out ⟨#[107]⟩ hkl 253402300800).mono ?_
              rintro e y2 ⟨y, rfl, fy, c2⟩
              rw [show kt3.standing ⟨#[107]⟩ 253402300800 = some 0 from kn_s] at fy
              obtain rfl : y = 0 := fy.2
              have E2 := Lib.hid (E1.out.trans c2 (fun _ _ h => h))
              have G2 := Lib.hid (G1.out.same c2)
              clear c2 E1 G1 fy
              go_wp2_with fail
              refine (rt_power y2 13830554455654793216 0 (some 13830554455654793216) (some 0) 1 (FS.some (by decide)) (FS.some (by decide)) (by decide)).mono ?_
              rintro e y3 ⟨y, rfl, hy, c3⟩
              have hpw : pw (some 13830554455654793216) (some 0) ((1 : Int).toNat) = some 9223372036854775808 := kn_p1
              rw [hpw] at hy
              obtain rfl : y = 9223372036854775808 := hy.2
              have E3 := Lib.hid (E2.out.trans c3 (fun _ _ h => h))
              have G3 := Lib.hid (G2.out.same c3)
              clear c3 hpw hy E2 G2
              go_wp2_with fail
              refine (m_Copysign y3).mono ?_
              rintro e w' ⟨rfl, h9⟩
              have h9 := h9.symm
              subst h9
              go_wp2_with fail
              refine (rt_alike 9223372036854775808 9223372036854775808 y3).mono ?_
              rintro e w' ⟨he, h9⟩
              rw [show alikeB 9223372036854775808 9223372036854775808 = true from by kernel_rfl] at he
              subst he
              have h9 := h9.symm
              subst h9
              have q1 := fcmp_eq_same 4604930618986332160 (by kernel_rfl)
              have q2 := fcmp_eq_same 4613937818241073152 (by kernel_rfl)
              go_wp2_with fail
              refine (rt_power y3 4613937818241073152 4602678819172646912 (some 4613937818241073152) (some 4602678819172646912) 2 (FS.some (by decide)) (FS.some (by decide)) (by decide)).mono ?_
              rintro e y4 ⟨y, rfl, hy, c4⟩
              have hpw : pw (some 4613937818241073152) (some 4602678819172646912) ((2 : Int).toNat) = some 4604930618986332160 := kn_p2
              rw [hpw] at hy
              obtain rfl : y = 4604930618986332160 := hy.2
              have E4 := Lib.hid (E3.out.trans c4 (fun _ _ h => h))
              have G4 := Lib.hid (G3.out.same c4)
              clear c4 hpw hy E3 G3
              go_wp2_with fail
              refine (rt_power y4 4613937818241073152 4602678819172646912 (some 4613937818241073152) (some 4602678819172646912) (-7) (FS.some (by decide)) (FS.some (by decide)) (by decide)).mono ?_
              rintro e y5 ⟨y, rfl, hy, c5⟩
              have hpw : pw (some 4613937818241073152) (some 4602678819172646912) ((-7 : Int).toNat) = some 4613937818241073152 := kn_p3
              rw [hpw] at hy
              obtain rfl : y = 4613937818241073152 := hy.2
              have E5 := Lib.hid (E4.out.trans c5 (fun _ _ h => h))
              have G5 := Lib.hid (G4.out.same c5)
              clear c5 hpw hy E4 G4
              go_wp2_with fail
              refine (rt_Keys rt_SC y5 tb m kt3 _ F12 G5.out).mono ?_
              rintro e y6 ⟨ks, v, rfl, hv, hr, hm, hl⟩
              have hks : ks = [kk, ko] := rises_one hr (by unfold Rises; exact List.pairwise_pair.2 (by rw [ByteArray.toList_eq, ByteArray.toList_eq]; decide)) fun k => by
                rw [hm k]
                have hl3 : kt3.L.map (fun e => e.key) = [ko, kk] := kn_k
                have h3 : (∃ e ∈ kt3.L, e.key = k) ↔ k ∈ kt3.L.map (fun e => e.key) := by simp
                rw [h3, hl3]
                simp only [List.mem_cons, List.not_mem_nil, or_false]
                exact Or.comm
              subst hks
              have E6 := Lib.hid (E5.out.trans hv.chg (fun _ _ h => h))
              have HV := Lib.hid hv.arr
              obtain ⟨ao, cap, rfl⟩ := hv.shape
              have HQ := Lib.hid (rt_equal (y6.alloc (.cells #[.string ⟨#[107]⟩, .string ⟨#[111, 116, 104, 101, 114]⟩] 9)) (.slice ao (strs [kk, ko]).length cap) (.slice (some ⟨y6.heap.size, 0, none⟩) 2 2) [kk, ko] [kk, ko] ((HV.out.kept ((Chg.refl (fun _ => False) y6).alloc _) (fun _ _ h => h)).rd) (by
                refine ⟨_, 2, 2, rfl, rfl, by omega, by decide, (fun h => by cases h), fun a ha _ => ?_⟩
                injection ha with ha
                subst ha
                refine ⟨rfl, fun i hi => ?_⟩
                have hi2 : i < 2 := hi
                match i, hi2 with
                | 0, _ => rw [cell_of_blk (heap_alloc_at _ _)]; rfl
                | 1, _ => rw [cell_of_blk (heap_alloc_at _ _)]; rfl) (by decide) (by decide))
              rw [decide_eq_true rfl] at HQ
              clear hv hr hm hl E5 G5
              go_wp2_with fail
              refine HQ.out.mono ?_
              rintro e y7 ⟨rfl, c7⟩
              have E7 := Lib.hid (E6.out.trans (((Chg.refl (fun _ => False) y6).alloc _).trans c7 (fun _ _ h => h)) (fun _ _ h => h))
              clear c7 HQ E6 HV
              go_wp2
              go_ret
              exact ⟨rfl, E7.out⟩
            · have hlt : (i2 : Int) < 3 := by omega
              obtain ⟨a, b, c, r1, r2, r3, h1, h2, h3, hck⟩ := kn3_row i2 (by omega)
              have ks := hc.obj KS.out (fun h => h)
              have l0 := lt_of_block ks
              have v0 : wr.cell? ⟨S2, i2 * 3, none⟩ = some (.float .f64 a) := by rw [cell_of_blk ks]; exact r1
              have v1 : wr.cell? ⟨S2, i2 * 3 + 1, none⟩ = some (.float .f64 b) := by rw [cell_of_blk ks]; exact r2
              have v2 : wr.cell? ⟨S2, i2 * 3 + 2, none⟩ = some (.float .f64 c) := by rw [cell_of_blk ks]; exact r3
              have NEW := Lib.hid (fun w => rt_New w a b c h1 h2 h3)
              have CHK := Lib.hid (fun w => rt_check a b c w)
              rw [hck] at NEW CHK
              unfold paceV at NEW
              have hr : rateE true = 0 := rfl
              rw [hr] at CHK
              have HC := Lib.hid hc
              clear r1 r2 r3 h1 h2 h3 hck ks hc hr
              go_wp2_with fail
              refine (NEW.out _).mono ?_
              rintro e x1 ⟨cn, tb, m, F, rfl, _, _⟩
              have hp := cn.obj (heap_alloc_at wr (.cells #[.float .f64 a, .float .f64 b, .float .f64 c] 24)) (fun h => h)
              have q0 := cell_of_blk hp 0
              have q1 := cell_of_blk hp 1
              have q2 := cell_of_blk hp 2
              simp at q0 q1 q2
              have CN := Lib.hid (HC.out.trans (((Chg.refl (fun _ => False) wr).alloc _).trans cn (fun _ _ h => h)) (fun _ _ h => h))
              clear cn hp v0 v1 v2 l0
              go_wp2_with fail
              refine (CHK.out _).mono ?_
              rintro e x2 ⟨rfl, cx⟩
              have CX := Lib.hid (CN.out.trans cx (fun _ _ h => h))
              clear cx q0 q1 q2
              go_wp2
              go_roundg (gk - 1)
              case measure => omega
              case rel => exact ⟨i2 + 1, by omega, by go_num, CX.out⟩
      · have hlt : (i : Int) < 8 := by omega
        obtain ⟨a, b, c, r1, r2, r3, h1, h2, h3, hck⟩ := kn8_row i (by omega)
        have ks := hc.obj KS.out (fun h => h)
        have l0 := lt_of_block ks
        have v0 : wr.cell? ⟨S, i * 3, none⟩ = some (.float .f64 a) := by rw [cell_of_blk ks]; exact r1
        have v1 : wr.cell? ⟨S, i * 3 + 1, none⟩ = some (.float .f64 b) := by rw [cell_of_blk ks]; exact r2
        have v2 : wr.cell? ⟨S, i * 3 + 2, none⟩ = some (.float .f64 c) := by rw [cell_of_blk ks]; exact r3
        have NEW := Lib.hid (fun w => rt_New w a b c h1 h2 h3)
        have CHK := Lib.hid (fun w => rt_check a b c w)
        rw [hck] at NEW CHK
        unfold paceV at NEW
        have hr : rateE false = 200 := rfl
        rw [hr] at CHK
        have HC := Lib.hid hc
        clear r1 r2 r3 h1 h2 h3 hck ks hc hr
        go_wp2_with fail
        refine (NEW.out _).mono ?_
        rintro e x1 ⟨cn, rfl⟩
        have hp := cn.obj (heap_alloc_at wr (.cells #[.float .f64 a, .float .f64 b, .float .f64 c] 24)) (fun h => h)
        have q0 := cell_of_blk hp 0
        have q1 := cell_of_blk hp 1
        have q2 := cell_of_blk hp 2
        simp at q0 q1 q2
        have CN := Lib.hid (HC.out.trans (((Chg.refl (fun _ => False) wr).alloc _).trans cn (fun _ _ h => h)) (fun _ _ h => h))
        clear cn hp v0 v1 v2 l0
        go_wp2_with fail
        refine (CHK.out _).mono ?_
        rintro e x2 ⟨rfl, cx⟩
        have CX := Lib.hid (CN.out.trans cx (fun _ _ h => h))
        clear cx q0 q1 q2
        go_wp2
        go_roundg (gk - 1)
        case measure => omega
        case rel => exact ⟨i + 1, by omega, by go_num, CX.out⟩
theorem walk_RateKnown (W : World) : Calls Try.prog 10 #[] W fun r w' => r = .returned (.bool true) ∧ Below W.heap.size W w' := by
  refine (known_walk W).mono ?_
  rintro r w' ⟨rfl, c⟩
  exact ⟨rfl, c.below (Nat.le_refl _) (fun _ _ h => h)⟩
end Go.Proofs.Ytplkoephgmdgkaa
