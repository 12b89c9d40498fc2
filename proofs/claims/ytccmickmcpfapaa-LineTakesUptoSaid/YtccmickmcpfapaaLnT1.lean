/- What the law LineTakes asks of its helpers: lent, kept, Same; a liner and the definition's side by side. No condition but what each states. -/
import Derived.Test.YtccmickmcpfapaaLnR2
import Derived.Test.YtccmickmcpfapaaFpr
namespace Go.Proofs.Ytccmickmcpfapaa
open Go Go.RowKit Ln

/-- Memory that was lent: the bytes, and 70 marks behind them. -/
def lentC (bs : List UInt8) (j : Nat) : List Value := bvs (bs ++ List.replicate j 165)
def LentAt (w : World) (k : Nat) (bs : List UInt8) : Prop := ∃ C : Array Value, w.heap[k]? = some (.cells C 5 (0, 0)) ∧ C.toList = bvs (bs ++ List.replicate 70 165)
theorem LentAt.kept {S : Nat → Prop} {w w' : World} {k : Nat} {bs : List UInt8} (h : LentAt w k bs) (c : Chg S w w') (hk : ¬ S k) : LentAt w' k bs := by
  obtain ⟨C, h1, h2⟩ := h
  exact ⟨C, c.obj h1 hk, h2⟩
theorem LentAt.rd {w : World} {k : Nat} {bs : List UInt8} (h : LentAt w k bs) (n c : Nat) (hn : n = bs.length) (hc : n ≤ c) (hm : c ≤ maxLen) : Rd w (.slice (some ⟨k, 0, none⟩) n c) 1 (bvs bs) := by
  obtain ⟨C, h1, h2⟩ := h
  refine ⟨_, n, c, rfl, by rw [bvs_length, hn, Nat.mul_one], hc, hm, fun h => by simp at h, ?_⟩
  intro a ha _; injection ha with ha; subst ha
  refine ⟨rfl, fun i hi => ?_⟩
  rw [cell_of_blk h1, ← Array.getElem?_toList, h2]
  rw [bvs_length] at hi
  simp only [Nat.zero_add, bvs_append]
  rw [List.getElem?_append_left (by rw [bvs_length]; exact hi)]
  exact List.getElem?_eq_getElem (by rw [bvs_length]; exact hi)
theorem LentAt.mark {w : World} {k : Nat} {bs : List UInt8} (h : LentAt w k bs) (i : Nat) (h1 : bs.length ≤ i) (h2 : i < bs.length + 70) : w.cell? ⟨k, i, none⟩ = some (.int .u8 165) := by
  obtain ⟨C, e1, e2⟩ := h
  rw [cell_of_blk e1, ← Array.getElem?_toList, e2, bvs_append, List.getElem?_append_right (by rw [bvs_length]; exact h1), bvs_length]
  simp only [bvs, List.map_replicate, List.getElem?_replicate]
  rw [if_pos (by omega)]; rfl

/-- In the loop: j marks are laid. -/
def LendRel (w : World) (bs : List UInt8) (g : Nat) (fv iv : Value) (wr : World) : Prop :=
  ∃ (j k : Nat) (C : Array Value), j + g = 70 ∧ iv = .int .i64 j ∧ fv = .slice (some ⟨k, 0, none⟩) (bs.length + j) (bs.length + 70) ∧ w.heap.size ≤ k ∧ wr.heap[k]? = some (.cells C 5 (0, 0)) ∧ C.size = bs.length + 70 ∧ C.toList.take (bs.length + j) = bvs (bs ++ List.replicate j 165) ∧ Chg (fun _ => False) w wr

theorem spl_take {C : Array Value} {n : Nat} {news : List Value} (h : n + news.length ≤ C.size) : (spl C n news).toList.take (n + news.length) = C.toList.take n ++ news := by
  rw [spl_toList news C n h]
  rw [List.take_append_of_le_length (by simp; omega), List.take_of_length_le (by simp; omega)]

theorem lent_calls (w : World) (v : Value) (bs : List UInt8) (h : Rd w v 1 (bvs bs)) (hb : bs.length ≤ 4194304) :
    Calls Try.prog 14 #[v] w fun r w' => ∃ k, r = .returned (.slice (some ⟨k, 0, none⟩) bs.length (bs.length + 70)) ∧ LentAt w' k bs ∧ w.heap.size ≤ k ∧ Chg (fun _ => False) w w' := by
  obtain ⟨i0, hi0, hx0, hz0, hb0⟩ := info_parts Try.infoByte
  obtain ⟨ao, n, cap, rfl, _, hc⟩ := h.shape
  obtain rfl : bs.length = n := h.len.symm
  have hmk : ∀ w0 : World, (Instr.makeSlice 22 (.int .i64 0) (.int .i64 ((bs.length : Int) + 70))).run Try.prog w0 = .ok (.slice (some ⟨w0.heap.size, 0, none⟩) 0 (bs.length + 70)) (w0.alloc (.cells (madeCells #[.int .u8 0] (bs.length + 70)) 5)) := fun w0 => by
    have := run_make (P := Try.prog) w0 22 5 i0 (.int .u8 0) Try.underlying22 hi0 hx0 .i64 .i64 0 ((bs.length + 70 : Nat) : Int) (by omega) (by omega) (by rw [hb0]; omega) (by omega)
    rw [hz0, Int.toNat_natCast] at this
    simpa [Value.cells] using this
  have HR := Lib.hid h
  have HS : Hid ((madeCells #[.int .u8 0] (bs.length + 70)).size = bs.length + 70) := Lib.hid (size_madeCells _ _)
  clear h hc
  go_enter Try.func14, Try.ntmps14
  go_wp2_with (at_builtin; refine wpList_append_in _ rfl _ _ 22 22 rfl 5 i0 Try.underlying22 hi0 hz0 w.heap.size 0 (bs.length + 70) (madeCells #[.int .u8 0] (bs.length + 70)) rfl (heap_alloc_at _ _) ?c1 (.slice ao bs.length cap) rfl bs.length (bvs bs) ?c2 ?c3 ?c4)
  case c1 => rw [HS.out]; exact Nat.le_refl _
  case c2 => exact (HR.out.kept ((Chg.refl (fun _ => False) w).alloc _) (fun _ _ _ h => h)).src (bvs_one _) Try.underlying22
  case c3 => omega
  case c4 =>
    intro w1 hb1 hc1
    have HC1 := Lib.hid (((Chg.refl (fun _ => False) w).alloc (.cells (madeCells #[.int .u8 0] (bs.length + 70)) 5)).trans hc1 (fun i hi e => by omega))
    have HB1 := Lib.hid hb1
    clear hb1 hc1
    go_wp2_with fail
    go_loopg [3, 11] 70 (LendRel w bs)
    case atStart =>
      refine ⟨0, w.heap.size, _, by omega, rfl, by simp, Nat.le_refl _, HB1.out, by rw [spl_size]; exact HS.out, ?_, HC1.out⟩
      have := spl_take (C := madeCells #[.int .u8 0] (bs.length + 70)) (n := 0) (news := bvs bs) (by rw [HS.out, bvs_length]; omega)
      rw [bvs_length] at this
      simpa using this
    case round =>
      obtain ⟨j, k, C, hj, rfl, rfl, hk, hb, hs, ht, hc⟩ := hrel
      have HB := Lib.hid hb
      have HC := Lib.hid hc
      have HT := Lib.hid ht
      have HSZ := Lib.hid hs
      have hkl := lt_of_block hb
      clear hb hc ht hs
      by_cases hg : gk = 0
      · have hlt : ¬ (j : Int) < 70 := by omega
        have e70 : j = 70 := by omega
        have HE := Lib.hid e70
        clear e70
        go_wp2
        go_ret
        refine ⟨k, rfl, ⟨C, HB.out, ?_⟩, hk, HC.out⟩
        have := HT.out
        rw [HE.out, List.take_of_length_le (by simp [HSZ.out])] at this
        exact this
      · have hlt : (j : Int) < 70 := by omega
        go_wp2_with (at_builtin; refine wpList_append_in _ rfl _ _ 22 22 rfl 5 i0 Try.underlying22 hi0 hz0 k (bs.length + j) (bs.length + 70) C rfl (heap_alloc_lt _ _ HB.out) ?d1 (.slice (some ⟨wr.heap.size, 0, none⟩) 1 1) rfl 1 (bvs [165]) ?d2 ?d3 ?d4)
        case d1 => rw [HSZ.out]; exact Nat.le_refl _
        case d2 => exact src_byte (cell_alloc_eq (by simp) rfl)
        case d3 => omega
        case d4 =>
          intro w2 hb2 hc2
          have HB2 := Lib.hid hb2
          have HC2 := Lib.hid hc2
          clear hb2 hc2
          go_wp2
          go_roundg (gk - 1)
          case measure => omega
          case rel =>
            refine ⟨j + 1, k, _, by omega, by go_num, by simp [Nat.add_assoc], hk, HB2.out, by rw [spl_size]; exact HSZ.out, ?_, (HC.out.alloc _).trans HC2.out (fun i hi e => by omega)⟩
            have := spl_take (C := C) (n := bs.length + j) (news := bvs [165]) (by rw [HSZ.out]; simp [bvs]; omega)
            rw [HT.out] at this
            have e1 : (bvs [165]).length = 1 := rfl
            rw [e1] at this
            rw [← Nat.add_assoc, this, List.replicate_succ', ← List.append_assoc, bvs_append, bvs_append, bvs_append]

/-- In the loop of kept. -/
def KeptRel (w : World) (n g : Nat) (iv : Value) (wr : World) : Prop := ∃ j : Nat, j + g = n + 70 ∧ n ≤ j ∧ iv = .int .i64 j ∧ wr = w
theorem kept_calls (w : World) (k : Nat) (bs : List UInt8) (v : Value) (h : LentAt w k bs) (hr : Rd w v 1 (bvs bs)) (hb : bs.length ≤ 4194304) :
    Calls Try.prog 18 #[.slice (some ⟨k, 0, none⟩) bs.length (bs.length + 70), v] w fun r w' => r = .returned (.bool true) ∧ w' = w := by
  have hm : 4194304 + 70 ≤ maxLen := by decide
  have k1 := run_conv_txt (P := Try.prog) (h.rd bs.length (bs.length + 70) rfl (by omega) (by omega)) 22 9 _ Try.underlying22 Try.underlying5 Try.underlying9
  have k2 := run_conv_txt (P := Try.prog) hr 22 9 _ Try.underlying22 Try.underlying5 Try.underlying9
  have HM := Lib.hid h.mark
  clear h hr
  go_enter Try.func18, Try.ntmps18
  go_wp2_with fail
  clear k1 k2
  go_loopg [6] 70 (KeptRel w bs.length)
  case atStart => exact ⟨bs.length, by omega, Nat.le_refl _, rfl, rfl⟩
  case round =>
    obtain ⟨j, hj, hnj, rfl, rfl⟩ := hrel
    by_cases hg : gk = 0
    · have hlt : ¬ (j : Int) < (bs.length : Int) + 70 := by omega
      go_wp2
      go_ret
      exact ⟨rfl, rfl⟩
    · have hlt : (j : Int) < (bs.length : Int) + 70 := by omega
      have hcell := HM.out j hnj (by omega)
      go_wp2
      go_roundg (gk - 1)
      case measure => omega
      case rel => exact ⟨j + 1, by omega, by omega, by go_num, rfl⟩

theorem same_calls (w : World) (i : Itm) :
    Calls Try.prog 17 #[itmV i, itmV i] w fun r w' => r = .returned (.bool true) ∧ Chg (fun _ => False) w w' := by
  unfold itmV
  have kc : ∀ w0 : World, (convert 22 9 (.slice none 0 0)).run Try.prog w0 = .ok (.string ⟨#[]⟩) w0 := fun w0 => run_conv_txt (P := Try.prog) (l := []) ⟨none, 0, 0, rfl, by simp [bvs], by simp, by simp [maxLen], fun _ => ⟨rfl, rfl⟩, fun a h => by cases h⟩ _ _ _ Try.underlying22 Try.underlying5 Try.underlying9
  go_enter Try.func17, Try.ntmps17
  go_wp2
  go_ret
  exact ⟨rfl, ((Chg.refl _ w).alloc _).alloc _⟩
end Go.Proofs.Ytccmickmcpfapaa
