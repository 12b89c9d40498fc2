/- RateRefused walked. Conditions as stated. -/
import Derived.Test.YtplkoephgmdgkaaRtTwo
import Derived.Deep.RegionLaw
namespace Go.Proofs.Ytplkoephgmdgkaa
open Go Go.RowKit Rt Go.Maps
set_option linter.unusedVariables false
attribute [local go_sem] run_fadd run_fsub run_fmul run_fquo store_f64
theorem Rd.step {w : World} {ao : Option Addr} {n cap : Nat} {l : List Sv} (h : Rd w (.slice ao n cap) 5 (l.flatMap svC)) (j : Nat) (hj : j < l.length) : ∃ bl o, ao = some ⟨bl, o, none⟩ ∧ w.cell? ⟨bl, o + j * 5, none⟩ = some (.int .i64 l[j].kind) ∧ w.cell? ⟨bl, o + j * 5 + 1, none⟩ = some (.int .i64 l[j].who) ∧ w.cell? ⟨bl, o + j * 5 + 2, none⟩ = some (.string l[j].key) ∧ w.cell? ⟨bl, o + j * 5 + 3, none⟩ = some (.int .i64 l[j].now) ∧ w.cell? ⟨bl, o + j * 5 + 4, none⟩ = some (.float .f64 l[j].x) := by
  have hlen := rows_len 5 svC (fun _ => rfl) l
  have hne : l.flatMap svC ≠ [] := by
    intro e
    rw [e] at hlen; simp at hlen; omega
  obtain ⟨bl, o, he, hc⟩ := h.at hne
  have key : ∀ i, i < 5 → ∃ v, (svC l[j])[i]? = some v ∧ w.cell? ⟨bl, o + j * 5 + i, none⟩ = some v := by
    intro i hi
    have hr := rows_at 5 svC (fun _ => rfl) l j i hj hi
    have hlt : j * 5 + i < (l.flatMap svC).length := by rw [hlen]; omega
    have h1 := hc (j * 5 + i) hlt
    have h2 : (svC l[j])[i]? = some (l.flatMap svC)[j * 5 + i] := by
      rw [← List.getElem?_eq_getElem hlt, hr]
    exact ⟨_, h2, by rw [← h1, Nat.add_assoc]⟩
  refine ⟨bl, o, he, ?_, ?_, ?_, ?_, ?_⟩
  · obtain ⟨v, h1, h2⟩ := key 0 (by omega); cases h1; exact h2
  · obtain ⟨v, h1, h2⟩ := key 1 (by omega); cases h1; exact h2
  · obtain ⟨v, h1, h2⟩ := key 2 (by omega); cases h1; exact h2
  · obtain ⟨v, h1, h2⟩ := key 3 (by omega); cases h1; exact h2
  · obtain ⟨v, h1, h2⟩ := key 4 (by omega); cases h1; exact h2
theorem cells5' {w : World} {b : Nat} {c0 c1 c2 c3 c4 : Value} {t : TypeId} (h : w.heap[b]? = some (.cells #[c0, c1, c2, c3, c4] t (0, 0))) :
    w.cell? ⟨b, 0, none⟩ = some c0 ∧ w.cell? ⟨b, 1, none⟩ = some c1 ∧ w.cell? ⟨b, 2, none⟩ = some c2 ∧ w.cell? ⟨b, 3, none⟩ = some c3 ∧ w.cell? ⟨b, 4, none⟩ = some c4 ∧ ∀ i, w.frozen? ⟨b, i, none⟩ = false := by
  refine ⟨?_, ?_, ?_, ?_, ?_, fun i => ?_⟩
  · simpa using cell_of_blk h 0
  · simpa using cell_of_blk h 1
  · simpa using cell_of_blk h 2
  · simpa using cell_of_blk h 3
  · simpa using cell_of_blk h 4
  · simp [World.frozen?, h]
def RfRel (W : World) (n tb1 m1 tb2 m2 : Nat) (g : Nat) (iv : Value) (wr : World) : Prop :=
  ∃ (j : Nat) (T : Tb), j + g = n ∧ iv = .int .i64 j ∧ Two W.heap.size tb1 m1 tb2 m2 T T wr ∧ Chg (fun i => W.heap.size ≤ i) W wr
/-- An append whose run is known. -/
theorem wpList_append_eq {P : Program} (w : World) {ops : Array Oper} {rest : List Oper} {o : Oper} {a : Act} {Q : Exit → Act → World → Prop}
    (hg : o.guard = none) (s x : Operand) (t tx : TypeId) (hop : o.op = Op.call { callee := Callee.builtin Builtin.append, args := #[s, x], argTypes := #[t, tx] })
    (vs vx v' : Value) (w' : World) (hs : a.eval s = vs) (hx : a.eval x = vx) (hr : (Builtin.append_ #[t, tx] o.type #[vs, vx]).run P w = .ok v' w') (hK : wpList P ops Q rest (a.put o.dst v') w') :
    wpList P ops Q (o :: rest) a w := by
  refine wpList_plain hg fun K hK' => ?_
  unfold Oper.wp
  simp [execOp, hop, resolve, invoke, builtin, hs, hx, hr, Result.andThen]
  exact hK' _ _ hK
theorem step_append_eq {P : Program} {ops : Array Oper} {o : Oper} {a : Act} {w : World} {K : Act → World → Prop} {Q : Exit → Act → World → Prop} {E : Prop}
    (hg : o.guard = none) (s x : Operand) (t tx : TypeId) (hop : o.op = Op.call { callee := Callee.builtin Builtin.append, args := #[s, x], argTypes := #[t, tx] })
    (vs vx v' : Value) (w' : World) (hs : a.eval s = vs) (hx : a.eval x = vx) (hr : (Builtin.append_ #[t, tx] o.type #[vs, vx]).run P w = .ok v' w') (hK : K (a.put o.dst v') w') :
    if Region.wanted o (yielded ops a.tmps) = true then Oper.wp P o a w K Q else E := by
  have hw : Region.wanted o (yielded ops a.tmps) = true := by simp [Region.wanted, hg]
  rw [if_pos hw]
  unfold Oper.wp
  simp [execOp, hop, resolve, invoke, builtin, hs, hx, hr, Result.andThen]
  exact hK
def KnRel3 (w0 : World) (n : Nat) (g : Nat) (iv : Value) (wr : World) : Prop := ∃ i : Nat, i + g = n ∧ iv = .int .i64 i ∧ Chg (fun _ => False) w0 wr
def K2Rel (w0 : World) (n : Nat) (ks : List ByteArray) (g : Nat) (kv iv : Value) (wr : World) : Prop :=
  ∃ (j : Nat) (kl : List ByteArray) (ao : Option Addr) (cap : Nat), j + g = n ∧ iv = .int .i64 j ∧ kv = .slice ao kl.length cap ∧ Rd wr (.slice ao kl.length cap) 1 (strs kl) ∧ kl.length = ks.length + j ∧ (∀ k ∈ kl, k.size ≤ maxLen) ∧ Chg (fun _ => False) w0 wr
set_option maxHeartbeats 4000000 in
set_option maxRecDepth 100000 in
theorem rf_walk (W : World) (per burst fade : Nat) (hp : F64 per) (hb : F64 burst) (hf : F64 fade) (sa ka : Option Addr) (sc kc : Nat) (ls : List Sv) (ks : List ByteArray) (hs : Rd W (.slice sa ls.length sc) 5 (ls.flatMap svC)) (hso : ∀ s ∈ ls, SvOk s) (hk : Rd W (.slice ka ks.length kc) 1 (strs ks)) (hko : ∀ k ∈ ks, k.size ≤ maxLen)
    (at_ : Int) (hls : ls.length ≤ 1048576) (hks : ks.length ≤ 1048576) :
    Calls Try.prog 7 #[paceV per burst fade, .slice sa ls.length sc, .slice ka ks.length kc, .int .i64 at_] W fun r w' => r = .returned (.bool true) ∧ Chg (fun i => W.heap.size ≤ i) W w' := by
  have NEW := Lib.hid (fun w => rt_New w per burst fade hp hb hf)
  have RC := Lib.hid (fun w => rr_check per burst fade w)
  have HS := Lib.hid hs
  have HSO := Lib.hid hso
  have HK := Lib.hid hk
  have HKO := Lib.hid hko
  unfold paceV at NEW ⊢
  clear hp hb hf hs hso hk hko
  cases hq : checkB per burst fade
  · have hr : rateE false = 200 := rfl
    rw [hq] at NEW RC
    rw [hr] at RC
    clear hr hq
    go_enter Try.func7, Try.ntmps7
    go_wp2_with fail
    refine (NEW.out _).mono ?_
    rintro e w1 ⟨c1, rfl⟩
    have hp1 := c1.obj (heap_alloc_at W (.cells #[.float .f64 per, .float .f64 burst, .float .f64 fade] 24)) (fun h => h)
    have C1 := Lib.hid (((Chg.refl (fun _ => False) W).alloc (.cells #[.float .f64 per, .float .f64 burst, .float .f64 fade] 24)).trans c1 (fun _ _ h => h))
    have P1 := Lib.hid hp1
    have q0 := cell_of_blk hp1 0
    have q1 := cell_of_blk hp1 1
    have q2 := cell_of_blk hp1 2
    simp at q0 q1 q2
    clear c1 hp1
    go_wp2_with fail
    refine (NEW.out _).mono ?_
    rintro e w2 ⟨c2, rfl⟩
    have hp2 := c2.obj P1.out (fun h => h)
    clear q0 q1 q2
    have q0 := cell_of_blk hp2 0
    have q1 := cell_of_blk hp2 1
    have q2 := cell_of_blk hp2 2
    simp at q0 q1 q2
    have C2 := Lib.hid (C1.out.trans c2 (fun _ _ h => h))
    clear c2 hp2
    go_wp2_with fail
    refine (RC.out _).mono ?_
    rintro e w3 ⟨rfl, c3⟩
    have C3 := Lib.hid (C2.out.trans c3 (fun _ _ h => h))
    clear c3 q0 q1 q2
    go_wp2_with fail
    refine (rt_wakes _).mono ?_
    rintro e w4 ⟨rfl, c4⟩
    have C4 := Lib.hid (C3.out.trans c4 (fun _ _ h => h))
    clear c4
    go_wp2
    go_ret
    exact ⟨rfl, C4.out.mono (fun _ _ h => h.elim)⟩
  · have hr : rateE true = 0 := rfl
    rw [hq] at NEW RC
    rw [hr] at RC
    clear hr hq
    go_enter Try.func7, Try.ntmps7
    go_wp2_with fail
    refine (NEW.out _).mono ?_
    rintro e w1 ⟨c1, tb1, m1, F1, rfl, t1, hF1⟩
    have hp1 := c1.obj (heap_alloc_at W (.cells #[.float .f64 per, .float .f64 burst, .float .f64 fade] 24)) (fun h => h)
    have C1 := Lib.hid (((Chg.refl (fun _ => False) W).alloc (.cells #[.float .f64 per, .float .f64 burst, .float .f64 fade] 24)).trans c1 (fun _ _ h => h))
    have P1 := Lib.hid hp1
    have HF1 := Lib.hid (show ∀ i, F1 i → W.heap.size ≤ i from fun i hi => by have := hF1 i hi; simp at this; omega)
    have T1 := Lib.hid t1
    have q0 := cell_of_blk hp1 0
    have q1 := cell_of_blk hp1 1
    have q2 := cell_of_blk hp1 2
    simp at q0 q1 q2
    clear c1 hp1 hF1 t1
    go_wp2_with fail
    refine (NEW.out _).mono ?_
    rintro e w2 ⟨c2, tb2, m2, F2, rfl, t2, hF2⟩
    have hp2 := c2.obj P1.out (fun h => h)
    clear q0 q1 q2
    have q0 := cell_of_blk hp2 0
    have q1 := cell_of_blk hp2 1
    have q2 := cell_of_blk hp2 2
    simp at q0 q1 q2
    have TW2 := Lib.hid (show Two W.heap.size tb1 m1 tb2 m2 (newT per burst fade) (newT per burst fade) w2 from ⟨_, F1, _, F2, T1.out.same c2, t2, fun i h1 h2 => by have e1 := T1.out.flt i h1; have e2 := hF2 i h2; omega, HF1.out, fun i hi => by have e1 := hF2 i hi; have := C1.out.size; omega⟩)
    have C2 := Lib.hid (C1.out.trans c2 (fun _ _ h => h))
    clear c2 hp2 t2 hF2
    go_wp2_with fail
    refine (RC.out _).mono ?_
    rintro e w3 ⟨rfl, c3⟩
    have C3 := Lib.hid ((C2.out.trans c3 (fun _ _ h => h)).mono (T := fun i => W.heap.size ≤ i) (fun _ _ h => h.elim))
    have TW3 := Lib.hid (TW2.out.same c3)
    clear c3 q0 q1 q2 C2 TW2 C1 P1 T1 HF1 NEW RC
    generalize newT per burst fade = T0 at *
    go_wp2
    go_loopg [43] (ls.length) (RfRel W ls.length tb1 m1 tb2 m2)
    case atStart => exact ⟨0, T0, by omega, rfl, TW3.out, C3.out⟩
    case round =>
      obtain ⟨j, T, hj, rfl, htw, hch⟩ := hrel
      by_cases hg : gk = 0
      · have hlt : ¬ (j : Int) < (ls.length : Int) := by omega
        have HRK := Lib.hid (HK.out.kept hch (fun hne b hb => by have := HK.out.lt hne b hb; omega))
        have TW := Lib.hid htw
        have CH := Lib.hid hch
        clear htw hch TW3 C3
        go_wp2
        obtain ⟨w0, hw0⟩ : ∃ w0, w0 = wr := ⟨_, rfl⟩
        rw [← hw0] at HRK TW CH ⊢
        clear hw0
        go_loopg [2, 109] (ls.length) (K2Rel w0 ls.length ks)
        case atStart => exact ⟨0, ks, ka, kc, by omega, rfl, rfl, HRK.out, by omega, HKO.out, Chg.refl _ _⟩
        case round =>
          obtain ⟨j2, kl, ao, cap, hj2, rfl, rfl, hkr, hkl, hko, hc2⟩ := hrel
          by_cases hg2 : gk = 0
          · have hlt2 : ¬ (j2 : Int) < (ls.length : Int) := by omega
            have T8 := Lib.hid (TW.out.same hc2)
            have C8 := Lib.hid (CH.out.trans hc2 (fun i hi h => h.elim))
            have HKR := Lib.hid hkr
            have HKO2 := Lib.hid hko
            have hkn : kl.length ≤ 2097152 := by omega
            clear hkr hko hc2 HRK TW CH HS HSO HK HKO
            go_wp2
            obtain ⟨w8, hw8⟩ : ∃ w8, w8 = wr := ⟨_, rfl⟩
            rw [← hw8] at T8 C8 HKR ⊢
            clear hw8
            go_loopg [126] (kl.length) (KnRel3 w8 kl.length)
            case atStart => exact ⟨0, by omega, rfl, Chg.refl _ _⟩
            case round =>
              obtain ⟨j3, hj3, rfl, hc3⟩ := hrel
              by_cases hg3 : gk = 0
              · have hlt3 : ¬ (j3 : Int) < (kl.length : Int) := by omega
                have K1 := Lib.hid (two_keys (T8.out.same hc3))
                have T9 := Lib.hid (T8.out.same hc3)
                have C9 := Lib.hid (C8.out.trans hc3 (fun i hi h => h.elim))
                clear hc3 T8 C8 HKR HKO2
                go_wp2_with fail
                refine K1.out.mono ?_
                rintro e x1 ⟨k1, v1, rfl, o1, r1, m1', l1⟩
                have K2 := Lib.hid (two_keys (T9.out.same o1.chg).swap)
                have C10 := Lib.hid (C9.out.trans o1.chg (fun i hi h => h.elim))
                have O1 := Lib.hid o1
                have M1 := Lib.hid (And.intro r1 m1')
                obtain ⟨a1, p1, rfl⟩ := o1.shape
                clear o1 r1 m1' K1 T9 C9
                go_wp2_with fail
                refine K2.out.mono ?_
                rintro e x2 ⟨k2, v2, rfl, o2, r2, m2', l2⟩
                have hkk : k1 = k2 := rises_one M1.out.1 r2 (fun k => by rw [M1.out.2 k, m2' k])
                subst hkk
                have C11 := Lib.hid (C10.out.trans o2.chg (fun i hi h => h.elim))
                obtain ⟨a2, p2, rfl⟩ := o2.shape
                have HQ := Lib.hid (rt_equal x2 _ _ k1 k1 ((O1.out.arr.kept o2.chg (fun _ _ h => h)).rd) o2.arr.rd (by omega) (by omega))
                rw [decide_eq_true rfl] at HQ
                clear o2 r2 m2' K2 C10 O1 M1
                go_wp2_with fail
                refine HQ.out.mono ?_
                rintro e x3 ⟨rfl, c3⟩
                have C12 := Lib.hid (C11.out.trans c3 (fun i hi h => h.elim))
                clear c3 HQ C11
                go_wp2_with fail
                refine (rt_wakes x3).mono ?_
                rintro e x4 ⟨rfl, c4⟩
                have C13 := Lib.hid (C12.out.trans c4 (fun i hi h => h.elim))
                clear c4 C12
                go_wp2
                go_ret
                exact ⟨rfl, C13.out⟩
              · have hlt3 : (j3 : Int) < (kl.length : Int) := by omega
                have hjl3 : j3 < kl.length := by omega
                have hrd3 := HKR.out.kept hc3 (fun _ _ _ h => h)
                obtain ⟨bl, o, rfl, hcs⟩ := hrd3.at (fun e => by have := strs_nil e; subst this; simp at hjl3)
                have hcell : wr.cell? ⟨bl, o + j3, none⟩ = some (.string kl[j3]) := by
                  rw [hcs j3 (by rw [strs_len]; exact hjl3)]; simp [strs]
                have hkk : kl[j3].size ≤ maxLen := HKO2.out _ (List.getElem_mem hjl3)
                generalize kl[j3] = key at *
                have T9 := Lib.hid (T8.out.same hc3)
                have C9 := Lib.hid hc3
                have L1 := Lib.hid (two_level (T8.out.same hc3) key hkk at_)
                clear hrd3 hcs hc3
                go_wp2_with fail
                refine L1.out.mono ?_
                rintro e x1 ⟨rfl, d1⟩
                have T10 := Lib.hid (T9.out.same d1)
                have C10 := Lib.hid (C9.out.trans d1 (fun _ _ h => h))
                have L2 := Lib.hid (two_level (T9.out.same d1).swap key hkk at_)
                clear d1 L1 T9 C9
                go_wp2_with fail
                refine L2.out.mono ?_
                rintro e x2 ⟨rfl, d2⟩
                have T11 := Lib.hid (T10.out.same d2)
                have C11 := Lib.hid (C10.out.trans d2 (fun _ _ h => h))
                have AL := Lib.hid (rt_alike (T.level key at_) (T.level key at_) x2)
                rw [show alikeB (T.level key at_) (T.level key at_) = true from by simp [alikeB]] at AL
                have S1 := Lib.hid (two_standing (T10.out.same d2) key hkk at_)
                clear d2 L2 T10 C10
                generalize T.level key at_ = lv at *
                go_wp2_with fail
                refine AL.out.mono ?_
                rintro e w' ⟨rfl, h9⟩
                have h9 := h9.symm
                subst h9
                go_wp2_with fail
                refine S1.out.mono ?_
                rintro e x3 ⟨y1, rfl, f1, d3⟩
                have C12 := Lib.hid (C11.out.trans d3 (fun _ _ h => h))
                have S2 := Lib.hid (two_standing (T11.out.same d3).swap key hkk at_)
                have F1 := Lib.hid f1
                clear d3 f1 S1 T11 C11 AL
                go_wp2_with fail
                refine S2.out.mono ?_
                rintro e x4 ⟨y2, rfl, f2, d4⟩
                have hal := F1.out.alike f2
                have C13 := Lib.hid (C12.out.trans d4 (fun _ _ h => h))
                have AL := Lib.hid (rt_alike y1 y2 x4)
                rw [hal] at AL
                have R := Lib.hid (show KnRel3 w8 kl.length (gk - 1) (.int .i64 ((j3 : Int) + 1)) x4 from ⟨j3 + 1, by omega, by norm_cast, C13.out⟩)
                clear d4 f2 hal S2 C12 F1
                go_wp2_with fail
                refine AL.out.mono ?_
                rintro e w' ⟨rfl, h9⟩
                have h9 := h9.symm
                subst h9
                go_wp2
                go_roundg (gk - 1)
                case measure => omega
                case rel => exact R.out
          · have hlt2 : (j2 : Int) < (ls.length : Int) := by omega
            have hjl2 : j2 < ls.length := by omega
            have hc0 := CH.out.trans hc2 (fun i hi h => h.elim)
            have hrd := HS.out.kept hc0 (fun hne b hb => by have := HS.out.lt hne b hb; omega)
            obtain ⟨bl, o, rfl, v0, v1, v2, v3, v4⟩ := hrd.step j2 hjl2
            have hok := HSO.out _ (List.getElem_mem hjl2)
            generalize ls[j2] = s at *
            obtain ⟨kind, who, key, now, x⟩ := s
            simp only at v0 v1 v2 v3 v4
            have hkey := hok.key
            simp only at hkey
            obtain ⟨w5, hw5⟩ : ∃ w5, w5 = wr.alloc (.cells #[.int .i64 kind, .int .i64 who, .string key, .int .i64 now, .float .f64 x] 36) := ⟨_, rfl⟩
            obtain ⟨X, hX⟩ : ∃ X, X = wr.heap.size := ⟨_, rfl⟩
            have k5 : w5.heap[X]? = some (.cells #[.int .i64 kind, .int .i64 who, .string key, .int .i64 now, .float .f64 x] 36 (0, 0)) := by rw [hw5, hX]; exact heap_alloc_at _ _
            have c5 : Chg (fun _ => False) wr w5 := by rw [hw5]; exact (Chg.refl _ _).alloc _
            obtain ⟨s0, s1, s2, s3, s4, sf⟩ := cells5' k5
            obtain ⟨ao2, hsl, hrf⟩ := cut_full hkr
            have c6 : Chg (fun _ => False) wr (w5.drew.alloc (.cells #[.string key] 9)) := (c5.drew).alloc _
            have hz : w5.drew.heap.size = w5.heap.size := rfl
            obtain ⟨v', w7, hr, ha, hc7, ho⟩ := append_full (w := w5.drew.alloc (.cells #[.string key] 9)) (hrf.kept c6 (fun _ _ _ h => h)) (x := .slice (some ⟨w5.heap.size, 0, none⟩) 1 1) key (src_one Try.underlying56 rfl (by rw [← hz]; simpa using cell_of_blk (heap_alloc_at w5.drew (.cells #[.string key] 9)) 0)) (by omega) 56
            obtain ⟨ao3, cap3, rfl⟩ := arr_shape ha
            rw [strs_len] at ha hr ho
            have R := Lib.hid (show K2Rel w0 ls.length ks (gk - 1) (.slice ao3 (kl ++ [key]).length cap3) (.int .i64 ((j2 : Int) + 1)) w7 from ⟨j2 + 1, kl ++ [key], ao3, cap3, by omega, by norm_cast, rfl, ha.rd, by simp only [List.length_append, List.length_cons, List.length_nil]; omega, fun k hk => by
                rcases List.mem_append.1 hk with h | h
                · exact hko k h
                · rw [List.mem_singleton.1 h]; exact hkey, (hc2.trans c6 (fun _ _ h => h)).trans hc7 (fun _ _ h => h)⟩)
            generalize (kl ++ [key]).length = n3 at *
            have hr' : (Builtin.append_ #[56, 56] 56 #[.slice ao2 kl.length kl.length, .slice (some ⟨w5.heap.size, 0, none⟩) 1 1]).run Try.prog (w5.alloc (.cells #[.string key] 9)).drew = .ok (.slice ao3 n3 cap3) w7 := hr
            have lX := lt_of_block k5
            have HW5 := Lib.hid hw5
            have HXX := Lib.hid hX
            clear hkr hko hc2 hc0 hrd hok hkey k5 c5 hrf c6 hz ha hc7 ho hw5 hX hkl HRK TW CH
            go_upto_region 24 with (fail)
            rw [← HW5.out, ← HXX.out]
            go_region_law (refine step_append_eq rfl (.tmp 118) (.tmp 121) 56 56 rfl (.slice ao2 kl.length kl.length) (.slice (some ⟨w5.heap.size, 0, none⟩) 1 1) (.slice ao3 n3 cap3) w7 rfl rfl hr' ?_)
            all_goals
              go_wp2
              go_roundg (gk - 1)
              case measure => omega
              case rel => exact R.out
      · have hlt : (j : Int) < (ls.length : Int) := by omega
        have hjl : j < ls.length := by omega
        have hrd := HS.out.kept hch (fun hne b hb => by have := HS.out.lt hne b hb; omega)
        obtain ⟨bl, o, rfl, v0, v1, v2, v3, v4⟩ := hrd.step j hjl
        have hok := HSO.out _ (List.getElem_mem hjl)
        generalize ls[j] = s at *
        obtain ⟨kind, who, key, now, x⟩ := s
        simp only at v0 v1 v2 v3 v4
        have HOK := Lib.hid hok
        have TW := Lib.hid htw
        have CH := Lib.hid hch
        have hl0 := hch.size
        clear hrd hok htw hch
        go_upto_region 10 with (fail)
        obtain ⟨w5, hw5⟩ : ∃ w5, w5 = wr.alloc (.cells #[.int .i64 kind, .int .i64 who, .string key, .int .i64 now, .float .f64 x] 36) := ⟨_, rfl⟩
        obtain ⟨X, hX⟩ : ∃ X, X = wr.heap.size := ⟨_, rfl⟩
        rw [← hw5, ← hX]
        have T5 := Lib.hid (show TwoX W.heap.size X tb1 m1 tb2 m2 T T w5 by rw [hw5, hX]; exact TW.out.put _)
        have k5 : w5.heap[X]? = some (.cells #[.int .i64 kind, .int .i64 who, .string key, .int .i64 now, .float .f64 x] 36 (0, 0)) := by rw [hw5, hX]; exact heap_alloc_at _ _
        have C5 := Lib.hid (show Chg (fun i => W.heap.size ≤ i) W w5 by rw [hw5]; exact CH.out.alloc _)
        have K5 := Lib.hid k5
        have hB5 := C5.out.size
        obtain ⟨s0, s1, s2, s3, s4, sf⟩ := cells5' k5
        clear hw5 hX k5 TW CH v0 v1 v2 v3 v4
        by_cases h0 : kind = 0
        · subst h0
          cases hb : (T.ask key now x).1
          · have hsame := ask_no hb
            have AS := Lib.hid (two_ask T5.out hB5 key HOK.out.key now x HOK.out.x)
            rw [hb] at AS
            clear hb
            go_wp2_with fail
            refine AS.out.mono ?_
            rintro e w6 ⟨rfl, t6, c6⟩
            rw [hsame] at t6
            have R := Lib.hid (show RfRel W ls.length tb1 m1 tb2 m2 (gk - 1) (.int .i64 ((j : Int) + 1)) w6 from ⟨j + 1, T, by omega, by norm_cast, t6.two, C5.out.trans c6 (fun i hi h => h.1)⟩)
            clear t6 c6 hsame AS
            go_wp2
            go_roundg (gk - 1)
            case measure => omega
            case rel => exact R.out
          · have AS := Lib.hid (two_ask T5.out hB5 key HOK.out.key now x HOK.out.x)
            rw [hb] at AS
            go_wp2_with fail
            refine AS.out.mono ?_
            rintro e w6 ⟨rfl, t6, c6⟩
            have k6 := c6.obj K5.out (fun h => h.2 rfl)
            have hB6 : W.heap.size ≤ w6.heap.size := by have := c6.size; omega
            clear s0 s1 s2 s3 s4 sf
            obtain ⟨s0, s1, s2, s3, s4, sf⟩ := cells5' k6
            have AS2 := Lib.hid (two_ask t6.swap hB6 key HOK.out.key now x HOK.out.x)
            rw [hb] at AS2
            have C6 := Lib.hid (C5.out.trans c6 (fun i hi h => h.1))
            clear t6 c6 hb AS k6
            go_wp2_with fail
            refine AS2.out.mono ?_
            rintro e w7 ⟨rfl, t7, c7⟩
            have R := Lib.hid (show RfRel W ls.length tb1 m1 tb2 m2 (gk - 1) (.int .i64 ((j : Int) + 1)) w7 from ⟨j + 1, _, by omega, by norm_cast, t7.swap.two, C6.out.trans c7 (fun i hi h => h.1)⟩)
            clear t7 c7 AS2
            go_wp2
            go_roundg (gk - 1)
            case measure => omega
            case rel => exact R.out
        · have h0' : (kind == 0) = false := by simpa using h0
          by_cases h2 : kind = 2
          · subst h2
            by_cases hb : (T.note key now x).1 = 0
            · have AS := Lib.hid (two_note T5.out hB5 key HOK.out.key now x HOK.out.x)
              rw [hb] at AS
              go_wp2_with fail
              refine AS.out.mono ?_
              rintro e w6 ⟨rfl, t6, c6⟩
              have k6 := c6.obj K5.out (fun h => h.2 rfl)
              have hB6 : W.heap.size ≤ w6.heap.size := by have := c6.size; omega
              clear s0 s1 s2 s3 s4 sf
              obtain ⟨s0, s1, s2, s3, s4, sf⟩ := cells5' k6
              have AS2 := Lib.hid (two_note t6.swap hB6 key HOK.out.key now x HOK.out.x)
              rw [hb] at AS2
              have C6 := Lib.hid (C5.out.trans c6 (fun i hi h => h.1))
              clear t6 c6 hb AS k6
              go_wp2_with fail
              refine AS2.out.mono ?_
              rintro e w7 ⟨rfl, t7, c7⟩
              have R := Lib.hid (show RfRel W ls.length tb1 m1 tb2 m2 (gk - 1) (.int .i64 ((j : Int) + 1)) w7 from ⟨j + 1, _, by omega, by norm_cast, t7.swap.two, C6.out.trans c7 (fun i hi h => h.1)⟩)
              clear t7 c7 AS2
              go_wp2
              go_roundg (gk - 1)
              case measure => omega
              case rel => exact R.out
            · have hsame := note_no hb
              have AS := Lib.hid (two_note T5.out hB5 key HOK.out.key now x HOK.out.x)
              generalize (T.note key now x).1 = code at *
              have hcode : (code == 0) = false := by simpa using hb
              clear hb
              go_wp2_with fail
              refine AS.out.mono ?_
              rintro e w6 ⟨rfl, t6, c6⟩
              rw [hsame] at t6
              have R := Lib.hid (show RfRel W ls.length tb1 m1 tb2 m2 (gk - 1) (.int .i64 ((j : Int) + 1)) w6 from ⟨j + 1, T, by omega, by norm_cast, t6.two, C5.out.trans c6 (fun i hi h => h.1)⟩)
              clear t6 c6 hsame AS
              go_wp2
              go_roundg (gk - 1)
              case measure => omega
              case rel => exact R.out
          · have h2' : (kind == 2) = false := by simpa using h2
            have LV := Lib.hid (two_level T5.out.two key HOK.out.key now)
            clear h0 h2
            go_wp2_with fail
            refine LV.out.mono ?_
            rintro e w6 ⟨rfl, c6⟩
            have k6 := c6.obj K5.out (fun h => h)
            clear s0 s1 s2 s3 s4 sf
            obtain ⟨s0, s1, s2, s3, s4, sf⟩ := cells5' k6
            have T6 := Lib.hid (T5.out.two.same c6)
            have C6 := Lib.hid (C5.out.trans c6 (fun i hi h => h.elim))
            have ST := Lib.hid (two_standing (T5.out.two.same c6) key HOK.out.key now)
            clear k6 c6 LV
            go_wp2_with fail
            refine ST.out.mono ?_
            rintro e w7 ⟨y, rfl, _, c7⟩
            have T7 := Lib.hid (T6.out.same c7)
            have C7 := Lib.hid (C6.out.trans c7 (fun i hi h => h.elim))
            have KY := Lib.hid (two_keys (T6.out.same c7))
            clear c7 ST s0 s1 s2 s3 s4 sf
            go_wp2_with fail
            refine KY.out.mono ?_
            rintro e w8 ⟨kz, v, rfl, hv, _, _, _⟩
            have R := Lib.hid (show RfRel W ls.length tb1 m1 tb2 m2 (gk - 1) (.int .i64 ((j : Int) + 1)) w8 from ⟨j + 1, T, by omega, by norm_cast, T7.out.same hv.chg, C7.out.trans hv.chg (fun i hi h => h.elim)⟩)
            obtain ⟨ao, cap, rfl⟩ := hv.shape
            clear hv KY
            go_wp2
            go_roundg (gk - 1)
            case measure => omega
            case rel => exact R.out
theorem walk_RateRefused {H : Type} {enc : TypeId × Value → H} (W : World) (v0 v1 v2 v3 : Value) (d0 d1 d2 d3 : DataW H) (p0 p1 p2 p3 : List MemPlace)
    (ok0 : ∃ base, Value.okWide Try.prog W .any base 24 v0) (ok1 : ∃ base, Value.okWide Try.prog W .any base 25 v1) (ok2 : ∃ base, Value.okWide Try.prog W .any base 56 v2) (ok3 : ∃ base, Value.okWide Try.prog W .any base 2 v3)
    (h0 : DataW.Trod enc Try.prog W 0 (fun _ => true) true 24 v0 d0 p0) (h1 : DataW.Trod enc Try.prog W 0 (fun _ => true) true 25 v1 d1 p1) (h2 : DataW.Trod enc Try.prog W 0 (fun _ => true) true 56 v2 d2 p2) (h3 : DataW.Trod enc Try.prog W 0 (fun _ => true) true 2 v3 d3 p3)
    (hk : Rows.uptoBulkAll [d0, d1, d2, d3] ≤ 1048576) :
    Calls Try.prog 7 #[v0, v1, v2, v3] W fun r w' => r = .returned (.bool true) ∧ Below W.heap.size W w' := by
  obtain ⟨a, b, c, rfl, ha, hb, hc⟩ := arg_pace ok0 h0
  obtain ⟨sa, sc, ls, rfl, hs, hso, hls⟩ := arg_steps ok1 h1
  obtain ⟨ka, kc, ks, rfl, hks, hko, hkl⟩ := arg_strs ok2 h2
  obtain ⟨n, rfl, hn⟩ := arg_i64 Try.underlying2 ok3 h3
  simp only [Rows.uptoBulkAll] at hk
  refine (rf_walk W a b c ha hb hc sa ka sc kc ls ks hs hso hks hko n (by omega) (by omega)).mono ?_
  rintro r w' ⟨rfl, cc⟩
  exact ⟨rfl, cc.below (Nat.le_refl _) (fun k hk h => by omega)⟩
end Go.Proofs.Ytplkoephgmdgkaa
