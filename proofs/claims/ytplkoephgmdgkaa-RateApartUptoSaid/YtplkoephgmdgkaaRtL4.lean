/- RateApart walked. Conditions as stated. -/
import Derived.Test.YtplkoephgmdgkaaRtKi
namespace Go.Proofs.Ytplkoephgmdgkaa
open Go Go.RowKit Rt Go.Maps
set_option linter.unusedVariables false
attribute [local go_sem] run_fadd run_fsub run_fmul run_fquo store_f64
/-- The keys of the first j steps. -/
def inK (ls : List Sv) (j : Nat) (k : ByteArray) : Prop := ∃ s ∈ ls.take j, s.key = k
def ApRel (w0 : World) (ls : List Sv) (m : Nat) (g : Nat) (iv : Value) (wr : World) : Prop :=
  ∃ j : Nat, j + g = ls.length ∧ iv = .int .i64 j ∧ KI wr m (inK ls j) j ∧ Chg (· = m) w0 wr
theorem inK_succ (ls : List Sv) (j : Nat) (h : j < ls.length) (k : ByteArray) : inK ls (j + 1) k ↔ (inK ls j k ∨ k = ls[j].key) := by
  unfold inK
  rw [List.take_succ_eq_append_getElem h]
  constructor
  · rintro ⟨s, hs, rfl⟩
    rcases List.mem_append.1 hs with hs | hs
    · exact .inl ⟨s, hs, rfl⟩
    · rw [List.mem_singleton.1 hs]; exact .inr rfl
  · rintro (⟨s, hs, rfl⟩ | rfl)
    · exact ⟨s, List.mem_append_left _ hs, rfl⟩
    · exact ⟨_, List.mem_append_right _ (List.mem_singleton.2 rfl), rfl⟩
structure A2 (W : World) (ls : List Sv) (key : ByteArray) (tb1 m1 tb2 m2 : Nat) (T U : Tb) (w : World) : Prop where
  two : Two W.heap.size tb1 m1 tb2 m2 T U w
  alk : Alk T U key
  inT : Within (inK ls ls.length) T
  inU : Within (fun k => k = key) U
  chg : Chg (fun i => W.heap.size ≤ i) W w
def A2Rel (W : World) (ls : List Sv) (key : ByteArray) (tb1 m1 tb2 m2 : Nat) (g : Nat) (iv : Value) (wr : World) : Prop :=
  ∃ (j : Nat) (T U : Tb), j + g = ls.length ∧ iv = .int .i64 j ∧ A2 W ls key tb1 m1 tb2 m2 T U wr
theorem Two.ok1 {B tb1 m1 tb2 m2 : Nat} {T1 T2 : Tb} {w : World} (h : Two B tb1 m1 tb2 m2 T1 T2 w) : T1.ok := by obtain ⟨_, _, _, _, h, _⟩ := h; exact h.ok
theorem TwoX.keptX {B X tb1 m1 tb2 m2 : Nat} {T1 T2 : Tb} {w w' : World} (h : TwoX B X tb1 m1 tb2 m2 T1 T2 w) (c : Chg (· = X) w w') : Two B tb1 m1 tb2 m2 T1 T2 w' := by
  obtain ⟨hx, bk1, F1, bk2, F2, h1, h2, h3, h4, h5, h6, h7⟩ := h
  exact ⟨bk1, F1, bk2, F2, h1.kept c (fun i hi e => h6 (e ▸ hi)), h2.kept c (fun i hi e => h7 (e ▸ hi)), h3, h4, h5⟩
theorem mem_get (T : Tb) (key : ByteArray) : (∃ e ∈ T.L, e.key = key) ↔ (T.get key).isSome = true := by
  constructor
  · rintro ⟨e, he, hk⟩
    cases hg : T.get key with
    | some x => rfl
    | none => exact absurd hk (get_none hg e he)
  · intro h
    obtain ⟨e, he⟩ := Option.isSome_iff_exists.1 h
    exact ⟨e, get_some he⟩
theorem rt_contains (w : World) (v : Value) (ks : List ByteArray) (x : ByteArray) (h : Rd w v 1 (strs ks)) (hl : ks.length ≤ 1048576) :
    Calls Try.prog 40 #[v, .string x] w fun r w' => r = .returned (.bool (Lib.containsS ks x)) ∧ w' = w := by
  obtain ⟨a1, c1, rfl, k1⟩ := rd_strs h
  by_cases h0 : ks.length = 0
  · have ea : ks = [] := List.eq_nil_of_length_eq_zero h0
    subst ea
    exact Try.slices_Contains_string_empty a1 c1 x w
  · obtain ⟨b1, o1, rfl, g1⟩ := k1 (by rintro rfl; exact h0 rfl)
    refine (Try.slices_Contains_string b1 o1 ks.length c1 ks x w (Nat.le_refl _) (by omega) g1).mono ?_
    rintro r w' ⟨rfl, rfl⟩
    refine ⟨?_, rfl⟩
    rw [List.take_length]
theorem KI.iff {w : World} {m n : Nat} {K K' : ByteArray → Prop} (h : KI w m K n) (e : ∀ k, K k ↔ K' k) : KI w m K' n := by
  obtain ⟨D, h1, h2⟩ := h
  exact ⟨D, h1, fun k => (h2 k).trans (e k)⟩
set_option maxHeartbeats 4000000 in
set_option maxRecDepth 100000 in
theorem ap_walk (W : World) (per burst fade : Nat) (hp : F64 per) (hb : F64 burst) (hf : F64 fade) (sa : Option Addr) (sc : Nat) (ls : List Sv) (key : ByteArray) (hs : Rd W (.slice sa ls.length sc) 5 (ls.flatMap svC)) (hso : ∀ s ∈ ls, SvOk s) (hkey : key.size ≤ maxLen) (hls : ls.length ≤ 1048576) :
    Calls Try.prog 9 #[paceV per burst fade, .slice sa ls.length sc, .string key] W fun r w' => r = .returned (.bool true) ∧ Chg (fun i => W.heap.size ≤ i) W w' := by
  have NEW := Lib.hid (fun w => rt_New w per burst fade hp hb hf)
  have RC := Lib.hid (fun w => rr_check per burst fade w)
  have HS := Lib.hid hs
  have HSO := Lib.hid hso
  unfold paceV at NEW ⊢
  clear hp hb hf hs hso
  cases hq : checkB per burst fade
  · have hr : rateE false = 200 := rfl
    rw [hq] at NEW RC
    rw [hr] at RC
    clear hr hq
    go_enter Try.func9, Try.ntmps9
    go_wp2_with fail
    refine (NEW.out _).mono ?_
    rintro e w1 ⟨c1, rfl⟩
    have hp1 := c1.obj (heap_alloc_at W (.cells #[.float .f64 per, .float .f64 burst, .float .f64 fade] 24)) (fun h => h)
    have C1 := Lib.hid (((Chg.refl (fun _ => False) W).alloc (.cells #[.float .f64 per, .float .f64 burst, .float .f64 fade] 24)).trans c1 (fun _ _ h => h))
    have P1 := Lib.hid hp1
    have q0 := cell_of_blk hp1 0
    have q1 := cell_of_blk hp1 1
    have q2 := cell_of_blk hp1 2
    simp at q0 q1 q2
    clear c1 hp1
    go_wp2_with fail
    refine (NEW.out _).mono ?_
    rintro e w2 ⟨c2, rfl⟩
    have hp2 := c2.obj P1.out (fun h => h)
    clear q0 q1 q2
    have q0 := cell_of_blk hp2 0
    have q1 := cell_of_blk hp2 1
    have q2 := cell_of_blk hp2 2
    simp at q0 q1 q2
    have C2 := Lib.hid (C1.out.trans c2 (fun _ _ h => h))
    clear c2 hp2
    go_wp2_with fail
    refine (RC.out _).mono ?_
    rintro e w3 ⟨rfl, c3⟩
    have C3 := Lib.hid (C2.out.trans c3 (fun _ _ h => h))
    clear c3 q0 q1 q2
    go_wp2_with fail
    refine (rt_wakes _).mono ?_
    rintro e w4 ⟨rfl, c4⟩
    have C4 := Lib.hid (C3.out.trans c4 (fun _ _ h => h))
    clear c4
    go_wp2
    go_ret
    exact ⟨rfl, C4.out.mono (fun _ _ h => h.elim)⟩
  · have hr : rateE true = 0 := rfl
    rw [hq] at NEW RC
    rw [hr] at RC
    clear hr hq
    go_enter Try.func9, Try.ntmps9
    go_wp2_with fail
    refine (NEW.out _).mono ?_
    rintro e w1 ⟨c1, tb1, m1, F1, rfl, t1, hF1⟩
    have hp1 := c1.obj (heap_alloc_at W (.cells #[.float .f64 per, .float .f64 burst, .float .f64 fade] 24)) (fun h => h)
    have C1 := Lib.hid (((Chg.refl (fun _ => False) W).alloc (.cells #[.float .f64 per, .float .f64 burst, .float .f64 fade] 24)).trans c1 (fun _ _ h => h))
    have P1 := Lib.hid hp1
    have HF1 := Lib.hid (show ∀ i, F1 i → W.heap.size ≤ i from fun i hi => by have := hF1 i hi; simp at this; omega)
    have T1 := Lib.hid t1
    have q0 := cell_of_blk hp1 0
    have q1 := cell_of_blk hp1 1
    have q2 := cell_of_blk hp1 2
    simp at q0 q1 q2
    clear c1 hp1 hF1 t1
    go_wp2_with fail
    refine (NEW.out _).mono ?_
    rintro e w2 ⟨c2, tb2, m2, F2, rfl, t2, hF2⟩
    have hp2 := c2.obj P1.out (fun h => h)
    clear q0 q1 q2
    have q0 := cell_of_blk hp2 0
    have q1 := cell_of_blk hp2 1
    have q2 := cell_of_blk hp2 2
    simp at q0 q1 q2
    have TW2 := Lib.hid (show Two W.heap.size tb1 m1 tb2 m2 (newT per burst fade) (newT per burst fade) w2 from ⟨_, F1, _, F2, T1.out.same c2, t2, fun i h1 h2 => by have e1 := T1.out.flt i h1; have e2 := hF2 i h2; omega, HF1.out, fun i hi => by have e1 := hF2 i hi; have := C1.out.size; omega⟩)
    have C2 := Lib.hid (C1.out.trans c2 (fun _ _ h => h))
    clear c2 hp2 t2 hF2
    go_wp2_with fail
    refine (RC.out _).mono ?_
    rintro e w3 ⟨rfl, c3⟩
    have C3 := Lib.hid ((C2.out.trans c3 (fun _ _ h => h)).mono (T := fun i => W.heap.size ≤ i) (fun _ _ h => h.elim))
    have TW3 := Lib.hid (TW2.out.same c3)
    clear c3 q0 q1 q2 C2 TW2 C1 P1 T1 HF1 NEW RC
    have OK0 := Lib.hid (show (newT per burst fade).ok from by obtain ⟨_, _, _, _, h, _⟩ := TW3.out; exact h.ok)
    have hL0 : (newT per burst fade).L = [] := rfl
    have HN0 := Lib.hid (show ∀ K, Within K (newT per burst fade) from fun K e he => by rw [hL0] at he; exact absurd he (List.not_mem_nil))
    clear hL0
    generalize newT per burst fade = T0 at *
    have hmm := @run_makeMap Try.prog
    go_wp2
    obtain ⟨mb, hmb⟩ : ∃ mb, mb = w3.heap.size := ⟨_, rfl⟩
    obtain ⟨w4, hw4⟩ : ∃ w4, w4 = w3.alloc (.map #[] 0) := ⟨_, rfl⟩
    rw [← hw4, ← hmb]
    have TW4 := Lib.hid (show TwoX W.heap.size mb tb1 m1 tb2 m2 T0 T0 w4 by rw [hw4, hmb]; exact TW3.out.put _)
    have KI4 := Lib.hid (show KI w4 mb (inK ls 0) 0 from by
      rw [hw4, hmb]
      exact (KI.made w3).iff (fun k => ⟨fun h => h.elim, fun ⟨s, hs, _⟩ => by simp at hs⟩))
    have C4 := Lib.hid (show Chg (fun i => W.heap.size ≤ i) W w4 by rw [hw4]; exact C3.out.alloc _)
    have HMB := Lib.hid (show W.heap.size ≤ mb by rw [hmb]; exact C3.out.size)
    clear hw4 hmb TW3 C3 hmm
    go_loopg [43] (ls.length) (ApRel w4 ls mb)
    case atStart => exact ⟨0, by omega, rfl, KI4.out, Chg.refl _ _⟩
    case round =>
      obtain ⟨j, hj, rfl, hki, hch⟩ := hrel
      by_cases hg : gk = 0
      · have hlt : ¬ (j : Int) < (ls.length : Int) := by omega
        have hjn : j = ls.length := by omega
        subst hjn
        obtain ⟨z, hzl, hfew⟩ := hki.len
        have C5 := Lib.hid (C4.out.trans hch (fun i hi h => by rw [h]; exact HMB.out))
        have T5 := Lib.hid (TW4.out.keptX hch)
        have HFW := Lib.hid hfew
        clear hki hch hfew C4 TW4 KI4
        by_cases hz : z ≤ 1024
        · have hz' : ¬ (1024 : Int) < z := by omega
          have HF := Lib.hid (HFW.out hz)
          clear HFW hz
          go_wp2
          obtain ⟨w5, hw5⟩ : ∃ w5, w5 = wr := ⟨_, rfl⟩
          rw [← hw5] at C5 T5 ⊢
          clear hw5 hzl
          go_loopg [57] (ls.length) (A2Rel W ls key tb1 m1 tb2 m2)
          case atStart => exact ⟨0, T0, T0, by omega, rfl, T5.out, ⟨rfl, rfl, rfl, rfl⟩, HN0.out _, HN0.out _, C5.out⟩
          case round =>
            obtain ⟨j2, T, U, hj2, rfl, ha2⟩ := hrel
            by_cases hg2 : gk = 0
            · have hlt2 : ¬ (j2 : Int) < (ls.length : Int) := by omega
              have K1 := Lib.hid (two_keys ha2.two)
              have HA := Lib.hid ha2
              clear ha2
              go_wp2_with fail
              refine K1.out.mono ?_
              rintro e x1 ⟨k1, v1, rfl, o1, r1, g1, l1⟩
              have C9 := Lib.hid (HA.out.chg.trans o1.chg (fun i hi h => h.elim))
              have T9 := Lib.hid (HA.out.two.same o1.chg)
              have CT1 := Lib.hid (rt_contains x1 v1 k1 key o1.arr.rd (by omega))
              have M1 := Lib.hid g1
              obtain ⟨a1, p1, rfl⟩ := o1.shape
              clear o1 r1 g1 K1
              go_wp2_with fail
              refine CT1.out.mono ?_
              rintro e w' ⟨rfl, h9⟩
              have h9 := h9.symm
              subst h9
              have K2 := Lib.hid (two_keys T9.out.swap)
              clear CT1
              go_wp2_with fail
              refine K2.out.mono ?_
              rintro e x2 ⟨k2, v2, rfl, o2, r2, g2, l2⟩
              have C10 := Lib.hid (C9.out.trans o2.chg (fun i hi h => h.elim))
              have CT2 := Lib.hid (rt_contains x2 v2 k2 key o2.arr.rd (by omega))
              have hsame : Lib.containsS k1 key = Lib.containsS k2 key := by
                have h1 := (M1.out key).trans (mem_get T key)
                have h2 := (g2 key).trans (mem_get U key)
                rw [HA.out.alk.get] at h1
                rw [Bool.eq_iff_iff, Lib.containsS_iff, Lib.containsS_iff]
                exact h1.trans h2.symm
              rw [← hsame] at CT2
              obtain ⟨a2, p2, rfl⟩ := o2.shape
              clear o2 r2 g2 K2 hsame M1 C9 T9
              generalize Lib.containsS k1 key = rb at *
              go_wp2_with fail
              refine CT2.out.mono ?_
              rintro e w' ⟨rfl, h9⟩
              have h9 := h9.symm
              subst h9
              cases rb
              all_goals
                go_wp2_with fail
                refine (rt_wakes _).mono ?_
                rintro e x3 ⟨rfl, c3⟩
                have C11 := Lib.hid (C10.out.trans c3 (fun i hi h => h.elim))
                clear c3
                go_wp2
                go_ret
                exact ⟨rfl, C11.out⟩
            · have hlt2 : (j2 : Int) < (ls.length : Int) := by omega
              have hjl2 : j2 < ls.length := by omega
              have hrd := HS.out.kept ha2.chg (fun hne b hb => by have := HS.out.lt hne b hb; omega)
              obtain ⟨bl, o, rfl, v0, v1, v2, v3, v4⟩ := hrd.step j2 hjl2
              have hok := HSO.out _ (List.getElem_mem hjl2)
              have hink : inK ls ls.length ls[j2].key := ⟨ls[j2], by rw [List.take_length]; exact List.getElem_mem hjl2, rfl⟩
              generalize ls[j2] = s at *
              obtain ⟨kind, who, k1, now, x⟩ := s
              simp only at v0 v1 v2 v3 v4 hink
              have HOK := Lib.hid hok
              have HINK := Lib.hid hink
              have HA := Lib.hid ha2
              have HRT := Lib.hid (fun hg => room_of HF.out ha2.two.ok1 ha2.inT hink hg)
              have HRU := Lib.hid (fun hg => room_of (few_one key) ha2.two.swap.ok1 ha2.inU (k := key) rfl hg)
              have hl0 := ha2.chg.size
              clear hrd hok hink ha2
              go_upto_region 18 with (fail)
              obtain ⟨w5, hw5⟩ : ∃ w5, w5 = wr.alloc (.cells #[.int .i64 kind, .int .i64 who, .string k1, .int .i64 now, .float .f64 x] 36) := ⟨_, rfl⟩
              obtain ⟨X, hX⟩ : ∃ X, X = wr.heap.size := ⟨_, rfl⟩
              rw [← hw5, ← hX]
              have T6 := Lib.hid (show TwoX W.heap.size X tb1 m1 tb2 m2 T U w5 by rw [hw5, hX]; exact HA.out.two.put _)
              have k5 : w5.heap[X]? = some (.cells #[.int .i64 kind, .int .i64 who, .string k1, .int .i64 now, .float .f64 x] 36 (0, 0)) := by rw [hw5, hX]; exact heap_alloc_at _ _
              have C6 := Lib.hid (show Chg (fun i => W.heap.size ≤ i) W w5 by rw [hw5]; exact HA.out.chg.alloc _)
              have K5 := Lib.hid k5
              have hB5 := C6.out.size
              obtain ⟨s0, s1, s2, s3, s4, sf⟩ := cells5' k5
              clear hw5 hX k5 v0 v1 v2 v3 v4
              by_cases h0 : kind = 0
              · subst h0
                have AS := Lib.hid (two_ask T6.out hB5 k1 HOK.out.key now x HOK.out.x)
                go_wp2_with fail
                refine AS.out.mono ?_
                rintro e w6 ⟨rfl, t7, c7⟩
                have k6 := c7.obj K5.out (fun h => h.2 rfl)
                have hB6 : W.heap.size ≤ w6.heap.size := by have := c7.size; omega
                clear s0 s1 s2 s3 s4 sf
                obtain ⟨s0, s1, s2, s3, s4, sf⟩ := cells5' k6
                have C7 := Lib.hid (C6.out.trans c7 (fun i hi h => h.1))
                have T7 := Lib.hid t7
                by_cases hk : k1 = key
                · subst hk
                  have hkt : (k1.toList == k1.toList) = true := by simp
                  have hal := HA.out.alk.ask HRT.out HRU.out now x
                  have AS2 := Lib.hid (two_ask t7.swap hB6 k1 HOK.out.key now x HOK.out.x)
                  rw [← hal.1] at AS2
                  have HAL := Lib.hid hal.2
                  have HIT := Lib.hid (ask_in' HA.out.inT HINK.out HRT.out now x)
                  have HIU := Lib.hid (ask_in' HA.out.inU (k := k1) rfl HRU.out now x)
                  generalize (T.ask k1 now x).1 = rb at *
                  clear t7 c7 AS k6 hal
                  go_wp2_with fail
                  refine AS2.out.mono ?_
                  rintro e w7 ⟨rfl, t8, c8⟩
                  have R := Lib.hid (show A2Rel W ls k1 tb1 m1 tb2 m2 (gk - 1) (.int .i64 ((j2 : Int) + 1)) w7 from ⟨j2 + 1, _, _, by omega, by norm_cast, ⟨t8.swap.two, HAL.out, HIT.out, HIU.out, C7.out.trans c8 (fun i hi h => h.1)⟩⟩)
                  clear t8 c8 AS2
                  cases rb
                  all_goals
                    go_wp2
                    go_roundg (gk - 1)
                    case measure => omega
                    case rel => exact R.out
                · have hkt : (k1.toList == key.toList) = false := by simpa using fun e => hk (ba_inj e)
                  have R := Lib.hid (show A2Rel W ls key tb1 m1 tb2 m2 (gk - 1) (.int .i64 ((j2 : Int) + 1)) w6 from ⟨j2 + 1, _, U, by omega, by norm_cast, ⟨t7.two, HA.out.alk.askO HRT.out hk now x, ask_in' HA.out.inT HINK.out HRT.out now x, HA.out.inU, C7.out⟩⟩)
                  generalize (T.ask k1 now x).1 = rb at *
                  clear t7 c7 AS k6 hk
                  go_wp2
                  go_roundg (gk - 1)
                  case measure => omega
                  case rel => exact R.out
              · have h0' : (kind == 0) = false := by simpa using h0
                by_cases h2 : kind = 2
                · subst h2
                  have AS := Lib.hid (two_note T6.out hB5 k1 HOK.out.key now x HOK.out.x)
                  go_wp2_with fail
                  refine AS.out.mono ?_
                  rintro e w6 ⟨rfl, t7, c7⟩
                  have k6 := c7.obj K5.out (fun h => h.2 rfl)
                  have hB6 : W.heap.size ≤ w6.heap.size := by have := c7.size; omega
                  clear s0 s1 s2 s3 s4 sf
                  obtain ⟨s0, s1, s2, s3, s4, sf⟩ := cells5' k6
                  have C7 := Lib.hid (C6.out.trans c7 (fun i hi h => h.1))
                  by_cases hk : k1 = key
                  · subst hk
                    have hkt : (k1.toList == k1.toList) = true := by simp
                    have hal := HA.out.alk.note HRT.out HRU.out now x
                    have AS2 := Lib.hid (two_note t7.swap hB6 k1 HOK.out.key now x HOK.out.x)
                    rw [← hal.1] at AS2
                    have HAL := Lib.hid hal.2
                    have HIT := Lib.hid (note_in' HA.out.inT HINK.out HRT.out now x)
                    have HIU := Lib.hid (note_in' HA.out.inU (k := k1) rfl HRU.out now x)
                    generalize (T.note k1 now x).1 = rb at *
                    clear t7 c7 AS k6 hal
                    go_wp2_with fail
                    refine AS2.out.mono ?_
                    rintro e w7 ⟨rfl, t8, c8⟩
                    have R := Lib.hid (show A2Rel W ls k1 tb1 m1 tb2 m2 (gk - 1) (.int .i64 ((j2 : Int) + 1)) w7 from ⟨j2 + 1, _, _, by omega, by norm_cast, ⟨t8.swap.two, HAL.out, HIT.out, HIU.out, C7.out.trans c8 (fun i hi h => h.1)⟩⟩)
                    clear t8 c8 AS2
                    go_wp2
                    go_roundg (gk - 1)
                    case measure => omega
                    case rel => exact R.out
                  · have hkt : (k1.toList == key.toList) = false := by simpa using fun e => hk (ba_inj e)
                    have R := Lib.hid (show A2Rel W ls key tb1 m1 tb2 m2 (gk - 1) (.int .i64 ((j2 : Int) + 1)) w6 from ⟨j2 + 1, _, U, by omega, by norm_cast, ⟨t7.two, HA.out.alk.noteO HRT.out hk now x, note_in' HA.out.inT HINK.out HRT.out now x, HA.out.inU, C7.out⟩⟩)
                    generalize (T.note k1 now x).1 = rb at *
                    clear t7 c7 AS k6 hk
                    go_wp2
                    go_roundg (gk - 1)
                    case measure => omega
                    case rel => exact R.out
                · have h2' : (kind == 2) = false := by simpa using h2
                  have TT := Lib.hid T6.out.two
                  have L1 := Lib.hid (fun w' (h : Sam w5 w') => two_level (TT.out.same h) key hkey now)
                  have L2 := Lib.hid (fun w' (h : Sam w5 w') => two_level (TT.out.same h).swap key hkey now)
                  have S1 := Lib.hid (fun w' (h : Sam w5 w') => two_standing (TT.out.same h) key hkey now)
                  have S2 := Lib.hid (fun w' (h : Sam w5 w') => two_standing (TT.out.same h).swap key hkey now)
                  have hlv := HA.out.alk.level now
                  have hst := HA.out.alk.standing now
                  rw [← hlv] at L2
                  rw [← hst] at S2
                  have q3 : ∀ w', Sam w5 w' → w'.cell? ⟨X, 3, none⟩ = some (.int .i64 now) := fun w' h => (cells5' (Chg.obj h K5.out (fun h => h))).2.2.2.1
                  have s5 : Sam w5 w5 := Sam.refl w5
                  generalize T.level key now = lv at *
                  generalize T.standing key now = sd at *
                  have AL1 := Lib.hid (fun w => rt_alike lv lv w)
                  rw [show alikeB lv lv = true from by simp [alikeB]] at AL1
                  have tok1 : True := trivial
                  have tok2 : True := trivial
                  have tok3 : True := trivial
                  clear h0 h2 hlv hst
                  go_upto_region 19 with (fail)
                  clear s0 s1 s2 s3 s4 sf
                  go_region_held3 (fun w' => Sam w5 w') (first | assumption | exact Sam.drew (by assumption)) (first
                    | (go_at_call 19; have _t := tok1; refine (L1.out _ (by assumption)).mono ?_; rintro e x1 ⟨rfl, d1⟩; have sa1 := Sam.more (w0 := w5) (by assumption) d1; clear d1 tok1 _t)
                    | (go_at_call 19; refine (L2.out _ (by assumption)).mono ?_; rintro e x2 ⟨rfl, d2⟩; have sa2 := Sam.more (w0 := w5) (by assumption) d2; clear d2)
                    | (go_at_call 23; have _t := tok2; refine (AL1.out _).mono ?_; rintro e x3 ⟨rfl, h9⟩; have h9 := h9.symm; subst h9; clear tok2 _t)
                    | (go_at_call 26; have _t := tok3; refine (S1.out _ (by assumption)).mono ?_; rintro e x4 ⟨y1, rfl, f1, d4⟩; have F1 := Lib.hid f1; have sa4 := Sam.more (w0 := w5) (by assumption) d4; clear d4 f1 tok3 _t)
                    | (go_at_call 26; refine (S2.out _ (by assumption)).mono ?_; rintro e x5 ⟨y2, rfl, f2, d5⟩; have F2 := Lib.hid f2; have sa5 := Sam.more (w0 := w5) (by assumption) d5; clear d5 f2)
                    | (go_at_call 23; refine (rt_alike y1 y2 _).mono ?_; rintro e x6 ⟨he, h9⟩; have h9 := h9.symm; subst h9; rw [F1.out.alike F2.out] at he; subst he))
                  have R := Lib.hid (show A2Rel W ls key tb1 m1 tb2 m2 (gk - 1) (.int .i64 ((j2 : Int) + 1)) x5 from ⟨j2 + 1, T, U, by omega, by norm_cast, ⟨TT.out.same sa5, HA.out.alk, HA.out.inT, HA.out.inU, C6.out.trans sa5 (fun i hi h => h.elim)⟩⟩)
                  go_wp2
                  go_roundg (gk - 1)
                  case measure => omega
                  case rel => exact R.out
        · have hz' : (1024 : Int) < z := by omega
          go_wp2_with fail
          refine (rt_wakes _).mono ?_
          rintro e w6 ⟨rfl, c6⟩
          have C6 := Lib.hid (C5.out.trans c6 (fun i hi h => h.elim))
          clear c6
          go_wp2
          go_ret
          exact ⟨rfl, C6.out⟩
      · have hlt : (j : Int) < (ls.length : Int) := by omega
        have hjl : j < ls.length := by omega
        have hcw := C4.out.trans hch (fun i hi h => by rw [h]; exact HMB.out)
        have hrd := HS.out.kept hcw (fun hne b hb => by have := HS.out.lt hne b hb; omega)
        obtain ⟨bl, o, rfl, v0, v1, v2, v3, v4⟩ := hrd.step j hjl
        have hok := HSO.out _ (List.getElem_mem hjl)
        have hin := inK_succ ls j hjl
        generalize ls[j] = s at *
        obtain ⟨kind, who, k1, now, x⟩ := s
        simp only at v0 v1 v2 v3 v4 hin
        have hk1 := hok.key
        simp only at hk1
        obtain ⟨w5, hw5⟩ : ∃ w5, w5 = wr.alloc (.cells #[.int .i64 kind, .int .i64 who, .string k1, .int .i64 now, .float .f64 x] 36) := ⟨_, rfl⟩
        have c5 : Chg (· = mb) wr w5 := by rw [hw5]; exact (Chg.refl _ _).alloc _
        have hki5 : KI w5 mb (inK ls j) j := by rw [hw5]; exact hki.kept ((Chg.refl (fun _ => False) wr).alloc _) (fun h => h)
        obtain ⟨w6, hput, hki6, c6⟩ := hki5.put (by have := maxLen_big; omega) hk1
        have hput' : (Instr.mapUpdate 78 (.map (some mb)) (.string k1) (.int .i64 1)).run Try.prog (wr.alloc (.cells #[.int .i64 kind, .int .i64 who, .string k1, .int .i64 now, .float .f64 x] 36)) = .ok () w6 := by rw [← hw5]; exact hput
        have R := Lib.hid (show ApRel w4 ls mb (gk - 1) (.int .i64 ((j : Int) + 1)) w6 from ⟨j + 1, by omega, by norm_cast, hki6.iff (fun k => (hin k).symm), (hch.trans c5 (fun _ _ h => h)).trans c6 (fun _ _ h => h)⟩)
        clear hki hch hcw hrd hok hin hk1 hw5 c5 hki5 hki6 c6 hput TW4 KI4 C4 OK0
        go_wp2
        go_roundg (gk - 1)
        case measure => omega
        case rel => exact R.out
set_option maxRecDepth 100000 in
theorem walk_RateApart {H : Type} {enc : TypeId × Value → H} (W : World) (v0 v1 v2 : Value) (d0 d1 d2 : DataW H) (p0 p1 p2 : List MemPlace)
    (ok0 : ∃ base, Value.okWide Try.prog W .any base 24 v0) (ok1 : ∃ base, Value.okWide Try.prog W .any base 25 v1) (ok2 : ∃ base, Value.okWide Try.prog W .any base 9 v2)
    (h0 : DataW.Trod enc Try.prog W 0 (fun _ => true) true 24 v0 d0 p0) (h1 : DataW.Trod enc Try.prog W 0 (fun _ => true) true 25 v1 d1 p1) (h2 : DataW.Trod enc Try.prog W 0 (fun _ => true) true 9 v2 d2 p2)
    (hk : Rows.uptoBulkAll [d0, d1, d2] ≤ 1048576) :
    Calls Try.prog 9 #[v0, v1, v2] W fun r w' => r = .returned (.bool true) ∧ Below W.heap.size W w' := by
  obtain ⟨a, b, c, rfl, ha, hb, hc⟩ := arg_pace ok0 h0
  obtain ⟨sa, sc, ls, rfl, hs, hso, hls⟩ := arg_steps ok1 h1
  obtain ⟨key, rfl, hkey⟩ : ∃ s : ByteArray, v2 = .string s ∧ s.size ≤ maxLen := by
    obtain ⟨_, ok⟩ := ok2
    obtain ⟨s, e, _, _, hs⟩ := Go.ChangeMaps.open_string Try.underlying9 ok h2
    exact ⟨s, e, hs⟩
  simp only [Rows.uptoBulkAll] at hk
  refine (ap_walk W a b c ha hb hc sa sc ls key hs hso hkey (by omega)).mono ?_
  rintro r w' ⟨rfl, cc⟩
  exact ⟨rfl, cc.below (Nat.le_refl _) (fun k hk h => by omega)⟩
end Go.Proofs.Ytplkoephgmdgkaa
