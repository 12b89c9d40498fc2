/- RateFloats walked. Conditions as stated. -/
import Derived.Test.YtplkoephgmdgkaaRtA1
import Derived.Laws.Small
namespace Go.Proofs.Ytplkoephgmdgkaa
open Go Go.RowKit Rt Go.Maps
set_option linter.unusedVariables false
attribute [local go_sem] run_fadd run_fsub run_fmul run_fquo store_f64
theorem Rd.fl {w : World} {ao : Option Addr} {n cap : Nat} {l : List Nat} (h : Rd w (.slice ao n cap) 1 (fls l)) (j : Nat) (hj : j < l.length) : ∃ bl o, ao = some ⟨bl, o, none⟩ ∧ w.cell? ⟨bl, o + j, none⟩ = some (.float .f64 l[j]) := by
  have hne : fls l ≠ [] := by
    intro e
    have e2 : l = [] := by unfold fls at e; exact List.map_eq_nil_iff.1 e
    rw [e2] at hj; simp at hj
  obtain ⟨bl, o, he, hc⟩ := h.at hne
  refine ⟨bl, o, he, ?_⟩
  rw [hc j (by simpa [fls] using hj)]
  simp [fls]
/-- The mean of the first j. -/
def mnO (l : List Nat) (j : Nat) : Mn := (l.take j).foldl (fun m x => m.add (some x)) Mn.new
theorem mnO_succ (l : List Nat) (j : Nat) (hj : j < l.length) : mnO l (j + 1) = (mnO l j).add (some l[j]) := by
  unfold mnO
  rw [List.take_succ_eq_append_getElem hj, List.foldl_append]; rfl
theorem mnO_n (l : List Nat) : ∀ j, j ≤ l.length → (mnO l j).n = j
  | 0, _ => by simp [mnO, Mn.new]
  | j + 1, h => by rw [mnO_succ l j (by omega)]; show (mnO l j).n + 1 = _; rw [mnO_n l j (by omega)]
theorem mn_eta (m : Mn) {k : Nat} (h : m.n = k) : (⟨k, m.a, m.s⟩ : Mn) = m := by subst h; rfl
def FlRel (w0 : World) (l : List Nat) (mb rb : Nat) (g : Nat) (iv : Value) (wr : World) : Prop :=
  ∃ (j a s : Nat), j + g = l.length ∧ iv = .int .i64 j ∧ MnAt mb (mnO l j) wr ∧ wr.heap[rb]? = some (.cells #[.bool true, .int .i64 j, .float .f64 a, .float .f64 s] 68 (0, 0)) ∧ FS (mnO l j).a a ∧ FS (mnO l j).s s ∧ Chg (fun k => k = mb ∨ k = rb) w0 wr
set_option maxHeartbeats 4000000 in
set_option maxRecDepth 100000 in
theorem fl_walk (W : World) (x f : Nat) (hx : x < 2 ^ 64) (hf : f < 2 ^ 64) (n : Int) (hn : n ≤ 9223372036854775807) (ao : Option Addr) (cap : Nat) (l : List Nat) (hl : Rd W (.slice ao l.length cap) 1 (fls l)) (hF : ∀ x ∈ l, F64 x) (hlen : l.length ≤ 1048576) :
    Calls Try.prog 6 #[.float .f64 x, .float .f64 f, .int .i64 n, .slice ao l.length cap] W fun r w' => r = .returned (.bool true) ∧ Chg (fun _ => False) W w' := by
  have P1 := Lib.hid (fun w => rt_power w x f (some x) (some f) n (FS.some hx) (FS.some hf) hn)
  have P2 := Lib.hid (fun w => rr_power w x f (some x) (some f) n (FS.some hx) (FS.some hf) hn)
  have HL := Lib.hid hl
  have HFF := Lib.hid hF
  clear hx hf hl hF
  go_enter Try.func6, Try.ntmps6
  go_wp2_with fail
  refine (P1.out _).mono ?_
  rintro e w1 ⟨y1, rfl, f1, c1⟩
  go_wp2_with fail
  refine (P2.out _).mono ?_
  rintro e w2 ⟨y2, rfl, f2, c2⟩
  have hal := f1.alike f2
  have C2 := Lib.hid (c1.trans c2 (fun _ _ h => h))
  clear f1 f2 c1 c2 P1 P2
  go_wp2_with fail
  refine (rt_alike y1 y2 w2).mono ?_
  rintro e w3 ⟨he, h9⟩
  have h9 := h9.symm; subst h9
  rw [hal] at he
  subst he
  clear hal
  go_wp2_with fail
  refine (rt_newMean w2).mono ?_
  rintro e w4 ⟨rfl, h4⟩
  have hs4 : w4.heap.size = w2.heap.size + 1 := by rw [h4]; simp
  have H4 := Lib.hid h4
  clear h4
  go_wp2_with fail
  refine (rt_newMean w4).mono ?_
  rintro e w5 ⟨rfl, h5⟩
  rw [hs4]
  have hs5 : w5.heap.size = w2.heap.size + 2 := by rw [h5]; simp; omega
  have H5 := Lib.hid h5
  clear h5
  go_upto_region 9 with (fail)
  obtain ⟨B, hB⟩ : ∃ B, B = w2.heap.size := ⟨_, rfl⟩
  obtain ⟨w6, hw6⟩ : ∃ w6, w6 = (w5.alloc (.cells #[.bool false, .int .i64 0, .float .f64 0, .float .f64 0] 66)).alloc (.cells #[.bool true, .int .i64 0, .float .f64 0, .float .f64 0] 68) := ⟨_, rfl⟩
  rw [← hB] at hs4 hs5 ⊢
  rw [← hw6]
  have k5 : w5.heap[B]? = some (.cells #[.bool true, .int .i64 0, .float .f64 0, .float .f64 0] 66 (0, 0)) := by
    rw [H5.out, H4.out, hB]; exact heap_alloc_lt _ _ (heap_alloc_at _ _)
  have k5z : w5.heap[B + 1]? = some (.cells #[.bool true, .int .i64 0, .float .f64 0, .float .f64 0] 66 (0, 0)) := by
    rw [H5.out, ← hs4]; exact heap_alloc_at _ _
  have k6 : w6.heap[B]? = some (.cells #[.bool true, .int .i64 0, .float .f64 0, .float .f64 0] 66 (0, 0)) := by
    rw [hw6]; exact heap_alloc_lt _ _ (heap_alloc_lt _ _ k5)
  have k6z : w6.heap[B + 1]? = some (.cells #[.bool true, .int .i64 0, .float .f64 0, .float .f64 0] 66 (0, 0)) := by
    rw [hw6]; exact heap_alloc_lt _ _ (heap_alloc_lt _ _ k5z)
  have k6o : w6.heap[B + 2]? = some (.cells #[.bool false, .int .i64 0, .float .f64 0, .float .f64 0] 66 (0, 0)) := by
    rw [hw6, ← hs5]; exact heap_alloc_lt _ _ (heap_alloc_at _ _)
  have k6r : w6.heap[B + 2 + 1]? = some (.cells #[.bool true, .int .i64 0, .float .f64 0, .float .f64 0] 68 (0, 0)) := by
    have h1 : (w5.alloc (.cells #[.bool false, .int .i64 0, .float .f64 0, .float .f64 0] 66)).heap.size = B + 2 + 1 := by simp [hs5]
    rw [hw6, ← h1]; exact heap_alloc_at _ _
  have c6 : Chg (fun _ => False) w2 w6 := by
    rw [hw6, H5.out, H4.out]; exact ((((Chg.refl _ _).alloc _).alloc _).alloc _).alloc _
  have K6 := Lib.hid k6
  have K6z := Lib.hid k6z
  have K6o := Lib.hid k6o
  have K6r := Lib.hid k6r
  have C6 := Lib.hid (C2.out.trans c6 (fun _ _ h => h))
  have HBW := Lib.hid (show W.heap.size ≤ B by rw [hB]; exact C2.out.size)
  clear k5 k5z k6 k6z k6o k6r c6 hw6 H5 H4 hs4 hs5 hB C2
  go_wp2
  as_aux_lemma =>
    go_loopg [46] (l.length) (FlRel w6 l B (B + 2 + 1))
    case atStart =>
      exact ⟨0, 0, 0, by omega, rfl, ⟨0, 0, K6.out, FS.some (by decide), FS.some (by decide)⟩, K6r.out, FS.some (by decide), FS.some (by decide), Chg.refl _ _⟩
    case round =>
      obtain ⟨j, a, s, hj, rfl, hm, hr, ha, hs, hc⟩ := hrel
      by_cases hg : gk = 0
      · have hlt : ¬ (j : Int) < (l.length : Int) := by omega
        have kz := hc.obj K6z.out (fun e => by omega)
        have ko := hc.obj K6o.out (fun e => by omega)
        have KZ := Lib.hid kz
        have KO := Lib.hid ko
        have CW := Lib.hid (C6.out.trans hc (fun i hi e => by have := HBW.out; omega))
        clear hm hr ha hs hc kz ko K6 K6z K6o K6r C6
        obtain ⟨w7, hw7⟩ : ∃ w7, w7 = wr.alloc (.cells #[.pointer none, .pointer (some ⟨B + 2, 0, none⟩), .pointer (some ⟨B + 1, 0, none⟩)] 63) := ⟨_, rfl⟩
        have ks := heap_alloc_at wr (.cells #[.pointer none, .pointer (some ⟨B + 2, 0, none⟩), .pointer (some ⟨B + 1, 0, none⟩)] 63)
        rw [← hw7] at ks
        obtain ⟨S, hS⟩ : ∃ S, S = wr.heap.size := ⟨_, rfl⟩
        rw [← hS] at ks
        have hc7 : Chg (fun _ => False) wr w7 := by rw [hw7]; exact (Chg.refl _ _).alloc _
        have KS := Lib.hid ks
        have KZ7 := Lib.hid (hc7.obj KZ.out (fun h => h))
        have KO7 := Lib.hid (hc7.obj KO.out (fun h => h))
        have C7 := Lib.hid (CW.out.trans hc7 (fun _ _ h => h))
        have HW7 := Lib.hid hw7
        have HS := Lib.hid hS
        clear ks hc7 hw7 hS KZ KO CW
        go_wp2
        rw [← HS.out, ← HW7.out]
        have hS7 : S < w7.heap.size := lt_of_block KS.out
        have key : ∀ i : Nat, i < 3 → ∃ v, w7.cell? ⟨S, i, none⟩ = some v ∧ Calls Try.prog 37 #[v] w7 fun r w' => r = .returned (.tuple #[.int .i64 0, .float .f64 0, .float .f64 0]) ∧ w' = w7 := by
          intro i hi
          match i, hi with
          | 0, _ => exact ⟨_, cell_of_blk KS.out 0, rt_tell_none w7⟩
          | 1, _ => exact ⟨_, cell_of_blk KS.out 1, rt_tell0 w7 (B + 2) _ _ _ _ _ KO7.out (.inl rfl)⟩
          | 2, _ => exact ⟨_, cell_of_blk KS.out 2, rt_tell0 w7 (B + 1) _ _ _ _ _ KZ7.out (.inr rfl)⟩
        have KEY := Lib.hid key
        have AL0 := Lib.hid (rt_alike 0 0 w7)
        rw [show alikeB 0 0 = true from by decide] at AL0
        clear key KS KO7 KZ7 HW7 HS hj hlt HL HFF hlen
        as_aux_lemma =>
          go_loopg [95] 3 (fun g iv wq => ∃ i : Nat, i + g = 3 ∧ iv = .int .i64 i ∧ wq = w7)
          case atStart => exact ⟨0, rfl, rfl, rfl⟩
          case round =>
            obtain ⟨i, hi, rfl, rfl⟩ := hrel
            by_cases hg2 : i = 3
            · subst hg2
              have hlt : ¬ ((3 : Nat) : Int) < 3 := by decide
              go_wp2_with fail
              refine (rt_wakes _).mono ?_
              rintro e w8 ⟨rfl, d8⟩
              have D8 := Lib.hid d8
              clear d8
              go_wp2
              go_ret
              exact ⟨rfl, C7.out.trans D8.out (fun _ _ h => h)⟩
            · have hlt : (i : Int) < 3 := by omega
              have hlt' : i < 3 := by omega
              obtain ⟨v, hv, hT⟩ := KEY.out i hlt'
              have TT := Lib.hid hT
              clear hT
              go_wp2_with fail
              refine TT.out.mono ?_
              rintro e w' ⟨rfl, h9⟩
              have h9 := h9.symm
              subst h9
              go_wp2_with fail
              refine AL0.out.mono ?_
              rintro e w' ⟨rfl, h9⟩
              have h9 := h9.symm
              subst h9
              go_wp2_with fail
              refine AL0.out.mono ?_
              rintro e w' ⟨rfl, h9⟩
              have h9 := h9.symm
              subst h9
              go_wp2
              go_roundg (gk - 1)
              case measure => omega
              case rel => exact ⟨i + 1, by omega, by go_num, rfl⟩
      · have hlt : (j : Int) < (l.length : Int) := by omega
        have hjl : j < l.length := by omega
        have hc6 := C6.out.trans hc (fun i hi e => by have := HBW.out; omega)
        have hrd := HL.out.kept hc6 (fun _ _ _ h => h)
        obtain ⟨bl, o, rfl, hcell⟩ := hrd.fl j hjl
        have hxl : l[j] < 2 ^ 64 := HFF.out _ (List.getElem_mem hjl)
        have hmn := mnO_n l j (by omega)
        have hsucc := mnO_succ l j hjl
        have hko := hc.obj K6o.out (fun e => by omega)
        have ADD := Lib.hid (rt_add wr B (mnO l j) hm l[j] (some l[j]) (FS.some hxl) (by rw [hmn]; omega))
        have RADD := Lib.hid (fun w => rr_add w j (mnO l j).a (mnO l j).s (some l[j]) a s l[j] ha hs (FS.some hxl) (by omega))
        have HMN := Lib.hid hmn
        have HSUC := Lib.hid hsucc
        have HKO := Lib.hid hko
        have HR := Lib.hid hr
        have HC := Lib.hid hc
        generalize l[j] = xj at *
        clear hm hr ha hs hc hc6 hrd hmn hsucc hko hxl
        go_wp2_with fail
        refine ADD.out.mono ?_
        rintro e v1 ⟨rfl, hm1, d1⟩
        have hr1 := d1.obj HR.out (fun e => by omega)
        have ho1 := d1.obj HKO.out (fun e => by omega)
        have D1 := Lib.hid d1
        have HM1 := Lib.hid hm1
        have HR1 := Lib.hid hr1
        have ODD := Lib.hid (rt_add_odd v1 (B + 2) xj _ _ _ _ ho1)
        clear d1 hm1 hr1 ho1 ADD
        go_wp2_with fail
        refine (rt_add_none v1 xj).mono ?_
        rintro e v1' ⟨rfl, h9⟩
        have h9 := h9.symm; subst h9
        go_wp2_with fail
        refine ODD.out.mono ?_
        rintro e v1' ⟨rfl, h9⟩
        have h9 := h9.symm; subst h9
        obtain ⟨r0, r1, r2, r3, rf⟩ := cells4 HR1.out
        have lr := lt_of_block HR1.out
        clear ODD
        unfold mnV at RADD
        go_wp2_with fail
        refine (RADD.out v1).mono ?_
        rintro e v2 ⟨⟨a2, s2, rfl, ha2, hs2⟩, d2⟩
        clear r0 r1 r2 r3 rf lr
        have hr2 := d2.obj HR1.out (fun h => h)
        obtain ⟨r0, r1, r2, r3, rf⟩ := cells4 hr2
        have lr := lt_of_block hr2
        have HR2 := Lib.hid hr2
        have D2 := Lib.hid d2
        have HA2 := Lib.hid ha2
        have HS2 := Lib.hid hs2
        clear hr2 d2 ha2 hs2 RADD HR1
        go_upto_region 16 with (fail)
        obtain ⟨v3, hv3⟩ : ∃ v3, v3 = ((((v2.setCell ⟨B + 2 + 1, 0, none⟩ (.bool true)).setCell ⟨B + 2 + 1, 1, none⟩ (.int .i64 ((j : Int) + 1))).setCell ⟨B + 2 + 1, 2, none⟩ (.float .f64 a2)).setCell ⟨B + 2 + 1, 3, none⟩ (.float .f64 s2)) := ⟨_, rfl⟩
        rw [← hv3]
        have hr3 : v3.heap[B + 2 + 1]? = some (.cells #[.bool true, .int .i64 ((j : Int) + 1), .float .f64 a2, .float .f64 s2] 68 (0, 0)) := by
          rw [hv3]
          exact heap_setCell_at (i := 3) (heap_setCell_at (i := 2) (heap_setCell_at (i := 1) (heap_setCell_at (i := 0) HR2.out _) _) _) _
        have d3 : Chg (· = B + 2 + 1) v2 v3 := by rw [hv3]; exact ((((Chg.refl (· = B + 2 + 1) v2).set (fun _ => rfl) _).set (fun _ => rfl) _).set (fun _ => rfl) _).set (fun _ => rfl) _
        have hm3 : MnAt B (mnO l (j + 1)) v3 := by
          rw [HSUC.out]
          obtain ⟨a', s', g1, g2, g3⟩ := HM1.out
          exact ⟨a', s', d3.obj (D2.out.obj g1 (fun h => h)) (fun e => by omega), g2, g3⟩
        have hA : FS (mnO l (j + 1)).a a2 := by
          have h := HA2.out
          rw [mn_eta (mnO l j) HMN.out] at h
          rw [HSUC.out]; exact h
        have hS : FS (mnO l (j + 1)).s s2 := by
          have h := HS2.out
          rw [mn_eta (mnO l j) HMN.out] at h
          rw [HSUC.out]; exact h
        have hn1 := mnO_n l (j + 1) (by omega)
        have cc : Chg (fun k => k = B ∨ k = B + 2 + 1) w6 v3 := ((HC.out.trans (D1.out.mono (fun _ _ e => Or.inl e)) (fun _ _ h => h)).trans (D2.out.mono (fun _ _ h => h.elim)) (fun _ _ h => h)).trans (d3.mono (fun _ _ e => Or.inr e)) (fun _ _ h => h)
        have TL := Lib.hid (rt_tell v3 B (mnO l (j + 1)) hm3 (by rw [hn1]; omega))
        have RT := Lib.hid (fun w => rr_tell w true (j + 1) (mnO l (j + 1)).a (mnO l (j + 1)).s a2 s2 hA hS)
        have hmk := mn_eta (mnO l (j + 1)) hn1
        rw [hmk] at RT
        have HR3 := Lib.hid hr3
        have HM3 := Lib.hid hm3
        have HA3 := Lib.hid hA
        have HS3 := Lib.hid hS
        have CC := Lib.hid cc
        clear r0 r1 r2 r3 rf lr hv3 hr3 d3 hm3 hA hS hn1 cc hmk HR2 D2 HA2 HS2 HM1 D1
        generalize (mnO l (j + 1)).tell = q at *
        unfold mnV at RT
        as_aux_lemma =>
          go_wp2_with fail
          refine TL.out.mono ?_
          rintro e v4 ⟨⟨ta, ts, rfl, fa, fs⟩, d4⟩
          have hr4 := d4.obj HR3.out (fun h => h)
          obtain ⟨r0, r1, r2, r3, rf⟩ := cells4 hr4
          have lr := lt_of_block hr4
          have D4 := Lib.hid d4
          clear d4 hr4
          go_wp2_with fail
          have hj1 : (((j + 1 : Nat) : Int)) = (j : Int) + 1 := by omega
          rw [hj1] at RT
          refine (RT.out v4).mono ?_
          rintro e v5 ⟨⟨tb, tu, rfl, fb, fu⟩, d5⟩
          have al1 := fa.alike fb
          have al2 := fs.alike fu
          have D5 := Lib.hid d5
          clear r0 r1 r2 r3 rf lr d5 fa fb fs fu
          have HREL := Lib.hid (show FlRel w6 l B (B + 2 + 1) (gk - 1) (.int .i64 ((j : Int) + 1)) v5 from ⟨j + 1, a2, s2, by omega, by rw [hj1], by
              obtain ⟨a', s', g1, g2, g3⟩ := HM3.out
              exact ⟨a', s', D5.out.obj (D4.out.obj g1 (fun h => h)) (fun h => h), g2, g3⟩, by rw [hj1]; exact D5.out.obj (D4.out.obj HR3.out (fun h => h)) (fun h => h), HA3.out, HS3.out, (CC.out.trans (D4.out.mono (fun _ _ h => h.elim)) (fun _ _ h => h)).trans (D5.out.mono (fun _ _ h => h.elim)) (fun _ _ h => h)⟩)
          clear hj1
          have AL1 := Lib.hid (rt_alike ta tb v5)
          rw [al1] at AL1
          have AL2 := Lib.hid (rt_alike ts tu v5)
          rw [al2] at AL2
          clear al1 al2
          go_wp2_with fail
          refine AL1.out.mono ?_
          rintro e w' ⟨rfl, h9⟩
          have h9 := h9.symm
          subst h9
          go_wp2_with fail
          refine AL2.out.mono ?_
          rintro e w' ⟨rfl, h9⟩
          have h9 := h9.symm
          subst h9
          go_wp2
          go_roundg (gk - 1)
          case measure => omega
          case rel => exact HREL.out
end Go.Proofs.Ytplkoephgmdgkaa
