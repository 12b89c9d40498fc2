/- Bytes of one's own that grow; look; Stuff. Conditions as stated. -/
import Derived.Test.YtmenphpilckphaaDoorDtC1
namespace Go.Proofs.YtmenphpilckphaaDoor
set_option linter.unusedVariables false
open Go Go.RowKit Dt

/-- v holds the bytes l in memory made since W; nothing that was there at W has changed. -/
structure Own (W w : World) (v : Value) (l : List UInt8) : Prop where
  arr : Arr w 5 1 v (bvs l)
  own : ∀ k, v.ownBlock = some k → W.heap.size ≤ k
  chg : Chg (fun _ => False) W w
theorem Own.nil (w : World) : Own w w (.slice none 0 0) [] := ⟨Arr.nil _ _ _, fun k hk => by simp [Value.ownBlock] at hk, Chg.refl _ _⟩
theorem Own.nil' {W w : World} (c : Chg (fun _ => False) W w) : Own W w (.slice none 0 0) [] := ⟨Arr.nil _ _ _, fun k hk => by simp [Value.ownBlock] at hk, c⟩
theorem Own.step {W w w1 w4 : World} {v v4 : Value} {l m : List UInt8} (h : Own W w v l) (c : Chg (fun _ => False) w w1) (ha : Arr w4 5 1 v4 (bvs l ++ bvs m)) (hc : Chg (fun k => some k = v.ownBlock) w1 w4) {n : Nat} (ho : v4.ownBlock = v.ownBlock ∨ v4.ownBlock = some n) (hn : w.heap.size ≤ n) : Own W w4 v4 (l ++ m) := by
  refine ⟨by rw [bvs_append]; exact ha, fun k hk => ?_, (h.chg.trans c (fun _ _ h => h)).trans hc (fun i hi e => by have := h.own i e.symm; omega)⟩
  rcases ho with e | e
  · exact h.own k (by rw [← e]; exact hk)
  · rw [e] at hk; injection hk with hk; have := c.size; have := h.chg.size; omega
theorem Own.more {W w w1 : World} {v : Value} {l : List UInt8} (h : Own W w v l) (c : Chg (fun _ => False) w w1) : Own W w1 v l :=
  ⟨h.arr.kept c (fun _ _ h => h), h.own, h.chg.trans c (fun _ _ h => h)⟩
theorem Own.shape {W w : World} {v : Value} {l : List UInt8} (h : Own W w v l) : ∃ ao cap, v = .slice ao l.length cap := by
  obtain ⟨ao, n, cap, rfl, h1, _⟩ := h.arr.shape
  rw [bvs_length, Nat.mul_one] at h1
  exact ⟨ao, cap, by rw [h1]⟩
theorem Own.rd {W w : World} {v : Value} {l : List UInt8} (h : Own W w v l) : Rd w v 1 (bvs l) := h.arr.rd
theorem Own.from {W w w1 : World} {v : Value} {l : List UInt8} (h : Own w w1 v l) (c : Chg (fun _ => False) W w) : Own W w1 v l :=
  ⟨h.arr, fun k hk => by have := h.own k hk; have := c.size; omega, c.trans h.chg (fun _ _ h => h)⟩
theorem src_txt (w : World) (l : List UInt8) : Src Tryd.prog 1 9 (.string ⟨l.toArray⟩) l.length (bvs l) w := by
  have := Src.ofString (w := w) Tryd.underlying9 ⟨l.toArray⟩
  have e : byteCells ⟨l.toArray⟩ = bvs l := by simp [byteCells, bvs]
  rw [e] at this
  exact this
/-- make([]byte, 0, n). -/
theorem run_mk (w : World) (n : Nat) (hn : n ≤ 140737488355328) : (Instr.makeSlice 22 (.int .i64 0) (.int .i64 n)).run Tryd.prog w = .ok (.slice (some ⟨w.heap.size, 0, none⟩) 0 n) (w.alloc (.cells (madeCells #[.int .u8 0] n) 5)) := by
  obtain ⟨i0, hi0, hx0, hz0, hb0⟩ := info_parts Tryd.infoByte
  have := run_make (P := Tryd.prog) w 22 5 i0 (.int .u8 0) Tryd.underlying22 hi0 hx0 .i64 .i64 0 (n : Int) (by omega) (by omega) (by rw [hb0]; omega) (by omega)
  rw [hz0, Int.toNat_natCast] at this
  simpa [Value.cells] using this
theorem Own.made (w : World) (n : Nat) (hn : n ≤ 140737488355328) : Own w (w.alloc (.cells (madeCells #[.int .u8 0] n) 5)) (.slice (some ⟨w.heap.size, 0, none⟩) 0 n) [] := by
  refine ⟨.inr ⟨w.heap.size, 0, 0, n, _, _, rfl, Nat.zero_le _, by unfold maxLen; omega, heap_alloc_at _ _, ?_, fun i _ _ h => by simp at h, by simp [bvs], by simp [bvs]⟩, fun k hk => by simp [Value.ownBlock] at hk; omega, (Chg.refl _ w).alloc _⟩
  rw [size_madeCells]; simp

theorem look_calls (w : World) (ao : Option Addr) (cap : Nat) (b : List UInt8) (h : Rd w (.slice ao b.length cap) 1 (bvs b)) (hl : b.length ≤ 1099511627776) :
    Calls Tryd.prog 39 #[.slice ao b.length cap] w fun r w' => r = .returned (.int .i64 (lookP b)) ∧ w = w' := by
  have H := Lib.hid h
  clear h
  cases hb : bareI b
  · by_cases h0 : b = []
    · have hlt : ¬ (0 : Int) < (b.length : Int) := by rw [h0]; decide
      have HA := Lib.hid (show lookP b = 0 by unfold lookP; rw [hb]; simp [h0])
      have HB := Lib.hid hb
      clear hb h0
      go_enter Tryd.func39, Tryd.ntmps39
      go_wp2_with fail
      refine (bare_calls _ ao cap b H.out hl).mono ?_
      rintro e w' ⟨rfl, rfl⟩
      rw [HB.out]
      go_wp2
      go_ret
      exact ⟨ret_i HA.out.symm, rfl⟩
    · have hpos : 0 < b.length := List.length_pos_iff.2 h0
      have hlt : (0 : Int) < (b.length : Int) := by omega
      obtain ⟨n, hn⟩ : ∃ n, b.length = n + 1 := ⟨b.length - 1, by omega⟩
      have hnl : n < b.length := by omega
      obtain ⟨bl, o, rfl, hc⟩ := H.out.byte n hnl
      have hlast : b.getLast? = some b[n] := by
        rw [List.getLast?_eq_getElem?, show b.length - 1 = n from by omega]; exact List.getElem?_eq_getElem hnl
      have hidx : (b.length : Int) - 1 = n := by omega
      have HB := Lib.hid hb
      by_cases h10 : b[n] = 10
      · have t4 : ((b[n].toNat : Int) != 10) = false := by rw [h10]; rfl
        have HA := Lib.hid (show lookP b = 0 by unfold lookP; rw [hb, hlast, h10]; simp)
        clear h10 hb h0 hlast hn
        go_enter Tryd.func39, Tryd.ntmps39
        go_wp2_with fail
        refine (bare_calls _ _ cap b H.out hl).mono ?_
        rintro e w' ⟨rfl, rfl⟩
        rw [HB.out]
        go_wp2
        go_ret
        exact ⟨ret_i HA.out.symm, rfl⟩
      · have t4 : ((b[n].toNat : Int) != 10) = true := by simp only [bne, byte_ne h10]; rfl
        have HA := Lib.hid (show lookP b = 141 by unfold lookP; rw [hb, hlast]; simp [h0, h10])
        clear h10 hb h0 hlast hn
        go_enter Tryd.func39, Tryd.ntmps39
        go_wp2_with fail
        refine (bare_calls _ _ cap b H.out hl).mono ?_
        rintro e w' ⟨rfl, rfl⟩
        rw [HB.out]
        go_wp2
        go_ret
        exact ⟨ret_i HA.out.symm, rfl⟩
  · have HA := Lib.hid (show lookP b = 130 by unfold lookP; rw [hb]; simp)
    have HB := Lib.hid hb
    clear hb
    go_enter Tryd.func39, Tryd.ntmps39
    go_wp2_with fail
    refine (bare_calls _ ao cap b H.out hl).mono ?_
    rintro e w' ⟨rfl, rfl⟩
    rw [HB.out]
    go_wp2
    go_ret
    exact ⟨ret_i HA.out.symm, rfl⟩

/-! Stuff. -/
def stN (b : List UInt8) (j : Nat) : Bool × List UInt8 := (b.take j).foldl stf1 (true, [])
theorem stN_succ (b : List UInt8) (j : Nat) (h : j < b.length) : stN b (j + 1) = stf1 (stN b j) b[j] := by
  unfold stN
  rw [List.take_succ_eq_append_getElem h, List.foldl_append]; rfl
theorem stN_len (b : List UInt8) : ∀ j, (stN b j).2.length ≤ 2 * j
  | 0 => by simp [stN]
  | j + 1 => by
    have ih := stN_len b j
    by_cases h : j < b.length
    · rw [stN_succ b j h]
      unfold stf1
      simp only [List.length_append]
      split
      · simp; omega
      · simp; omega
    · have : stN b (j + 1) = stN b j := by unfold stN; rw [List.take_of_length_le (by omega), List.take_of_length_le (by omega)]
      rw [this]; omega
theorem stN_all (b : List UInt8) : stN b b.length = (b.foldl stf1 (true, [])) := by unfold stN; rw [List.take_length]
def StfRel (W : World) (b : List UInt8) (g : Nat) (ov bv iv : Value) (wr : World) : Prop :=
  ∃ (j : Nat) (oa : Option Addr) (oc : Nat), j + g = b.length ∧ iv = .int .i64 j ∧ bv = .bool (stN b j).1 ∧ ov = .slice oa (stN b j).2.length oc ∧ Own W wr (.slice oa (stN b j).2.length oc) (stN b j).2
def StuffSays (W : World) (b : List UInt8) (r : Ending) (w' : World) : Prop :=
  if lookP b = 0 then ∃ oa oc, r = .returned (.tuple #[.slice oa (stuffP b).length oc, .int .i64 0]) ∧ Own W w' (.slice oa (stuffP b).length oc) (stuffP b)
  else r = .returned (.tuple #[.slice none 0 0, .int .i64 (lookP b)]) ∧ W = w'
set_option maxHeartbeats 1000000 in
theorem stuff_calls (w : World) (ao : Option Addr) (cap : Nat) (b : List UInt8) (h : Rd w (.slice ao b.length cap) 1 (bvs b)) (hl : b.length ≤ 1099511627776) :
    Calls Tryd.prog 20 #[.slice ao b.length cap] w (StuffSays w b) := by
  obtain ⟨i0, hi0, hx0, hz0, hb0⟩ := info_parts Tryd.infoByte
  have H := Lib.hid h
  clear h
  by_cases h0 : lookP b = 0
  · have HL := Lib.hid h0
    clear h0
    have hmk : ∀ w0 : World, (Instr.makeSlice 22 (.int .i64 0) (.int .i64 ((b.length : Int) + 3))).run Tryd.prog w0 = _ := fun w0 => run_mk w0 (b.length + 3) (by omega)
    go_enter Tryd.func20, Tryd.ntmps20
    go_wp2_with fail
    refine (look_calls _ ao cap b H.out hl).mono ?_
    rintro e w' ⟨rfl, rfl⟩
    rw [HL.out]
    go_wp2_with fail
    have HO := Lib.hid (Own.made w (b.length + 3) (by omega))
    go_loopg [5, 6, 20] b.length (StfRel w b)
    case atStart => exact ⟨0, _, _, by omega, rfl, rfl, rfl, HO.out⟩
    case round =>
      obtain ⟨j, oa, oc, hj, rfl, rfl, rfl, hown⟩ := hrel
      have HO := Lib.hid hown
      clear hown
      have hlen := stN_len b j
      by_cases hg : gk = 0
      · have hlt : ¬ (j : Int) < b.length := by omega
        have hjl : j = b.length := by omega
        have HE := Lib.hid (show (stN b j).2 ++ [46, 13, 10] = stuffP b by rw [hjl, stN_all]; rfl)
        have HL2 := Lib.hid (show stN b j = stN b j from rfl)
        generalize stN b j = s at *
        obtain ⟨t, ol⟩ := s
        simp only at *
        clear hjl
        go_wp2_with (at_builtin; refine wpList_append_arr _ rfl _ _ 22 9 rfl 5 i0 (.int .u8 0) 1 1 Tryd.underlying22 hi0 hx0 hz0 hb0 rfl (by decide) (.slice oa ol.length oc) (bvs ol) rfl HO.out.arr (.string ⟨#[46, 13, 10]⟩) rfl 3 (bvs [46, 13, 10]) (src_txt _ [46, 13, 10]) (by rw [bvs_length]; unfold maxLen; omega) (by rw [bvs_length]; omega) ?d1)
        case d1 =>
          intro v4 w4 ha4 hc4 ho4
          have ho := HO.out.step (Chg.refl _ _) ha4 hc4 ho4 (by omega)
          rw [HE.out] at ho
          obtain ⟨va, vc, rfl⟩ := ho.shape
          have HO2 := Lib.hid ho
          clear ha4 hc4 ho4 ho
          go_wp2
          go_ret2
          unfold StuffSays
          rw [if_pos HL.out]
          exact ⟨va, vc, rfl, HO2.out⟩
      · have hlt : (j : Int) < b.length := by omega
        have hjl : j < b.length := by omega
        obtain ⟨bl, o, hao, hc0⟩ := H.out.byte j hjl
        have hrd : Rd wr (.slice ao b.length cap) 1 (bvs b) := H.out.kept HO.out.chg (fun _ _ _ h => h)
        obtain ⟨bl2, o2, hao2, hc⟩ := hrd.byte j hjl
        subst hao2
        clear hao hc0 hrd
        have HS := Lib.hid (stN_succ b j hjl)
        obtain ⟨c, hcc⟩ : ∃ c, c = b[j] := ⟨_, rfl⟩
        rw [← hcc] at hc HS
        clear hcc
        generalize stN b j = s at *
        obtain ⟨t, ol⟩ := s
        simp only at *
        have t10 : ((c.toNat : Int) == 10) = (c == 10) := by
          by_cases e : c = 10
          · subst e; rfl
          · rw [byte_ne e]; simpa using e
        have T10 := Lib.hid t10
        clear t10
        obtain ⟨f, hf⟩ : ∃ f, f = (c == 10) := ⟨_, rfl⟩
        have tf : ((c.toNat : Int) == 10) = f := by rw [hf]; exact T10.out
        have HF := Lib.hid hf
        clear hf T10
        by_cases h46 : t = true ∧ c = 46
        · obtain ⟨rfl, rfl⟩ := h46
          obtain rfl : f = false := by rw [HF.out]; rfl
          clear tf
          have HS2 := Lib.hid (show stN b (j + 1) = (false, ol ++ [46] ++ [46]) by rw [HS.out]; unfold stf1; rw [← HF.out]; simp)
          have t46 : (((46 : UInt8).toNat : Int) == 46) = true := rfl
          clear HS
          go_wp2_with (at_builtin; refine wpList_append_arr _ rfl _ _ 22 22 rfl 5 i0 (.int .u8 0) 1 1 Tryd.underlying22 hi0 hx0 hz0 hb0 rfl (by decide) (.slice oa ol.length oc) (bvs ol) rfl (HO.out.more ((Chg.refl _ wr).alloc _)).arr (.slice (some ⟨wr.heap.size, 0, none⟩) 1 1) rfl 1 (bvs [46]) (src_byte (cell_alloc_eq (by simp) rfl)) (by rw [bvs_length]; unfold maxLen; omega) (by rw [bvs_length]; omega) ?d2)
          case d2 =>
            intro v4 w4 ha4 hc4 ho4
            have ho := HO.out.step ((Chg.refl _ wr).alloc _) ha4 hc4 ho4 (by omega)
            obtain ⟨va, vc, rfl⟩ := ho.shape
            rw [List.length_append, List.length_singleton] at ho ⊢
            have HO2 := Lib.hid ho
            clear ha4 hc4 ho4 ho
            go_wp2_with (at_builtin; refine wpList_append_arr _ rfl _ _ 22 22 rfl 5 i0 (.int .u8 0) 1 1 Tryd.underlying22 hi0 hx0 hz0 hb0 rfl (by decide) (.slice va (ol.length + 1) vc) (bvs (ol ++ [46])) rfl (HO2.out.more ((Chg.refl _ w4).alloc _)).arr (.slice (some ⟨w4.heap.size, 0, none⟩) 1 1) rfl 1 (bvs [46]) (src_byte (cell_alloc_eq (by simp) rfl)) (by rw [bvs_length]; unfold maxLen; simp; omega) (by rw [bvs_length]; simp; omega) ?d3)
            case d3 =>
              intro v5 w5 ha5 hc5 ho5
              have ho := HO2.out.step ((Chg.refl _ w4).alloc _) ha5 hc5 ho5 (by omega)
              obtain ⟨vb, vd, rfl⟩ := ho.shape
              have HO3 := Lib.hid ho
              clear ha5 hc5 ho5 ho
              go_wp2
              go_roundg (gk - 1)
              case measure => omega
              case rel => exact ⟨j + 1, vb, vd, by omega, by go_num, by rw [HS2.out], by rw [HS2.out], by rw [HS2.out]; exact HO3.out⟩
        · have HS2 := Lib.hid (show stN b (j + 1) = (f, ol ++ [c]) by rw [HS.out]; unfold stf1; rw [← HF.out]; simp only; rw [if_neg (by simpa using h46)])
          have tt : t = false ∨ (t = true ∧ ((c.toNat : Int) == 46) = false) := by
            cases t
            · exact .inl rfl
            · right
              refine ⟨rfl, ?_⟩
              simp only [true_and] at h46
              simp only [beq_eq_false_iff_ne, ne_eq]
              intro e; apply h46; apply UInt8.toNat_inj.1; simpa using (by omega : c.toNat = 46)
          clear HS h46
          rcases tt with rfl | ⟨rfl, t46⟩
          all_goals
            go_wp2_with (at_builtin; refine wpList_append_arr _ rfl _ _ 22 22 rfl 5 i0 (.int .u8 0) 1 1 Tryd.underlying22 hi0 hx0 hz0 hb0 rfl (by decide) (.slice oa ol.length oc) (bvs ol) rfl (HO.out.more ((Chg.refl _ wr).alloc _)).arr (.slice (some ⟨wr.heap.size, 0, none⟩) 1 1) rfl 1 (bvs [c]) (src_byte (cell_alloc_eq (by simp) rfl)) (by rw [bvs_length]; unfold maxLen; omega) (by rw [bvs_length]; omega) ?d2)
            case d2 =>
              intro v4 w4 ha4 hc4 ho4
              have ho := HO.out.step ((Chg.refl _ wr).alloc _) ha4 hc4 ho4 (by omega)
              obtain ⟨va, vc, rfl⟩ := ho.shape
              have HO2 := Lib.hid ho
              clear ha4 hc4 ho4 ho
              go_wp2
              go_roundg (gk - 1)
              case measure => omega
              case rel => exact ⟨j + 1, va, vc, by omega, by go_num, by rw [HS2.out], by rw [HS2.out], by rw [HS2.out]; exact HO2.out⟩
  · have t1 : (lookP b != 0) = true := by simpa using h0
    have HL := Lib.hid h0
    clear h0
    go_enter Tryd.func20, Tryd.ntmps20
    go_wp2_with fail
    refine (look_calls _ ao cap b H.out hl).mono ?_
    rintro e w' ⟨rfl, rfl⟩
    go_wp2
    go_ret2
    unfold StuffSays
    rw [if_neg HL.out]
    exact ⟨rfl, rfl⟩
end Go.Proofs.YtmenphpilckphaaDoor
