/- The framer's Chunk and New. No condition but what each states. -/
import Derived.Test.YtnjloldhmjadoaaFrW2
import Derived.Deep.LoopGhost
namespace Go.Proofs.Ytnjloldhmjadoaa
set_option linter.unusedVariables false
open Go Go.RowKit Ln Dt Fr

theorem chunk_world {w : World} {b : Nat} {x : FB} (h : FBAt w b x) (n r : Int) : FBAt (((((w.setCell ⟨b, 6, none⟩ (.int .i64 3)).setCell ⟨b, 7, none⟩ (fnV 44 (.pointer (some ⟨b, 0, none⟩)))).setCell ⟨b, 8, none⟩ (fnV 45 (.pointer (some ⟨b, 0, none⟩)))).setCell ⟨b, 11, none⟩ (.int .i64 n)).setCell ⟨b, 12, none⟩ (.int .i64 r)) b
    { x with mode := 3, tk := fnV 44 (.pointer (some ⟨b, 0, none⟩)), hd := fnV 45 (.pointer (some ⟨b, 0, none⟩)), left := n, room := r } := by
  have := heap_setCell_at (heap_setCell_at (heap_setCell_at (heap_setCell_at (heap_setCell_at h (.int .i64 3) (i := 6)) (fnV 44 (.pointer (some ⟨b, 0, none⟩))) (i := 7)) (fnV 45 (.pointer (some ⟨b, 0, none⟩))) (i := 8)) (.int .i64 n) (i := 11)) (.int .i64 r) (i := 12)
  unfold FBAt
  simpa [frC, fnV] using this

theorem FR.may {w : World} {F : Nat → Prop} {b : Nat} {L : Lim} {m : FM} (h : FR w F b L m) :
    ∃ x : FB, FBAt w b x ∧ (x.mode == 0) = false ∧ (Calls Try.prog 31 #[.pointer (some ⟨b, 0, none⟩)] w fun r w' => r = .returned (.int .i64 (if m.begun = false then 0 else 6)) ∧ w = w') := by
  obtain ⟨ok, x, lb, v, ls, h1, h2, h3, h4, h5, h6, h7, h8, h9, h10, h11, h12⟩ := h
  refine ⟨x, h1, ?_, (fr_may w b x h1).mono fun r w' ⟨e, e2⟩ => ⟨?_, e2⟩⟩
  · cases m with
    | lines ls' bg => rw [h12.1]; rfl
    | data _ => rw [h12.1]; rfl
    | chunk _ _ => rw [h12.1]; rfl
  · rw [e]
    cases m with
    | lines ls' bg =>
      obtain ⟨m1, _, _, m4, _⟩ := h12
      cases bg <;> simp [m1, m4, FM.begun]
    | data _ => simp [h12.1, FM.begun]
    | chunk _ _ => simp [h12.1, FM.begun]

theorem fr_Chunk {w : World} {F : Nat → Prop} {b : Nat} {L : Lim} {m : FM} (h : FR w F b L m) (hi : Ins w F) (n r : Int) (hn : n ≤ 9223372036854775807) (hr : r ≤ 9223372036854775807) :
    Calls Try.prog 27 #[.pointer (some ⟨b, 0, none⟩), .int .i64 n, .int .i64 r] w (ModePost w F b L (m.chunk? n r)) := by
  obtain ⟨x0, g1, g2, g3⟩ := h.may
  obtain ⟨c1, c2, c6, c7, c8, c9, c10, c11, c12, f⟩ := g1.facts
  have hmf := @run_mkfunc Try.prog
  by_cases ha : n < 0 ∨ r < 0
  · have hd : m.chunk? n r = (2, m) := by
      cases m with
      | lines ls' bg => cases bg <;> simp [FM.chunk?, ha]
      | data _ => simp [FM.chunk?, ha]
      | chunk _ _ => simp [FM.chunk?, ha]
    have HD := Lib.hid hd
    have HF := Lib.hid h
    have HI := Lib.hid hi
    clear hd h hi g1 g3 c1 c2 c7 c8 c9 c10 c11 c12
    by_cases hn0 : n < 0
    · clear ha
      go_enter Try.func27, Try.ntmps27
      go_wp2_with fail
      go_ret
      exact ⟨by rw [HD.out]; rfl, F, by rw [HD.out]; exact HF.out, HI.out, Grow.refl _ _, Chg.refl _ _⟩
    · have hr0 : r < 0 := ha.resolve_left hn0
      clear ha
      go_enter Try.func27, Try.ntmps27
      go_wp2_with fail
      go_ret
      exact ⟨by rw [HD.out]; rfl, F, by rw [HD.out]; exact HF.out, HI.out, Grow.refl _ _, Chg.refl _ _⟩
  · have hn0 : ¬ n < 0 := fun e => ha (.inl e)
    have hr0 : ¬ r < 0 := fun e => ha (.inr e)
    by_cases hb : m.begun = false
    · rw [if_pos hb] at g3
      obtain ⟨ok, x, lb, v, ls, h1, h2, h3, h4, h5, h6, h7, h8, h9, h10, h11, h12⟩ := h
      obtain rfl : x0 = x := by
        have e : some (Obj.cells (frC x0) 48 (0, 0)) = some (Obj.cells (frC x) 48 (0, 0)) := g1.symm.trans h1
        simp [frC] at e
        obtain ⟨a0, a1, a2, a3, a4, a5, a6, a7, a8, a9, a10, a11, a12⟩ := e
        cases x0; cases x; simp_all
      cases m with
      | data _ => cases hb
      | chunk _ _ => cases hb
      | lines ls' bg =>
        have hbg : bg = false := hb
        subst hbg
        have hd : (FM.lines ls' false).chunk? n r = (0, .chunk n.toNat r.toNat) := by simp [FM.chunk?, hn0, hr0]
        obtain ⟨m1, m2, m3, m4, rfl, m5⟩ := h12
        have hnew := m5 rfl
        have HD := Lib.hid hd
        have HG := Lib.hid g3
        have H1 := Lib.hid h1
        have H5 := Lib.hid h5
        have HO := Lib.hid ok
        have HI := Lib.hid hi
        have H9 := Lib.hid h9
        have H11 := Lib.hid h11
        have HN := Lib.hid hnew
        have H23 := Lib.hid (And.intro h2 (And.intro h3 h4))
        clear g1 g3 h1 h2 h3 h4 h5 h6 h9 h11 m1 m2 m3 m4 m5 ok hi c1 c2 c9 c10 hnew ha hb hd
        go_enter Try.func27, Try.ntmps27
        go_wp2_with (first | (go_at_call 31; refine HG.out.mono ?_; rintro e w' ⟨rfl, rfl⟩))
        go_ret
        obtain ⟨e2, e3, e4⟩ := H23.out
        have hch := (((((Chg.refl (· = b) w).set (p := ⟨b, 6, none⟩) (fun _ => rfl) (.int .i64 3)).set (p := ⟨b, 7, none⟩) (fun _ => rfl) (fnV 44 (.pointer (some ⟨b, 0, none⟩)))).set (p := ⟨b, 8, none⟩) (fun _ => rfl) (fnV 45 (.pointer (some ⟨b, 0, none⟩)))).set (p := ⟨b, 11, none⟩) (fun _ => rfl) (.int .i64 n)).set (p := ⟨b, 12, none⟩) (fun _ => rfl) (.int .i64 r)
        refine ⟨by rw [HD.out]; rfl, F, ?_, HI.out.of hch, Grow.refl _ _, hch.mono (fun i hi e => by have e' : i = b := e; rw [e']; exact h7)⟩
        rw [HD.out]
        refine ⟨HO.out, _, lb, v, LS.new, chunk_world H1.out n r, e2, e3, e4, ?_, LS.ok_new (by have := HO.out.l1; omega), h7, h8, H9.out, h10, H11.out, rfl, rfl, rfl, rfl, ?_, ?_, ?_, ?_⟩
        · have := H5.out.kept hch (fun e => h10 e.symm) (fun k hk e => H11.out (by rw [hk]; exact congrArg some e))
          rw [HN.out] at this; exact this
        · show n = _; omega
        · show r = _; omega
        · omega
        · omega
    · rw [if_neg hb] at g3
      have hd : m.chunk? n r = (6, m) := by
        cases m with
        | lines ls' bg =>
          cases bg
          · exact absurd rfl hb
          · simp [FM.chunk?, ha]
        | data _ => simp [FM.chunk?, ha]
        | chunk _ _ => simp [FM.chunk?, ha]
      have HD := Lib.hid hd
      have HF := Lib.hid h
      have HI := Lib.hid hi
      have HG := Lib.hid g3
      clear hd h hi g1 g3 c1 c2 c7 c8 c9 c10 c11 c12 ha hb
      go_enter Try.func27, Try.ntmps27
      go_wp2_with (go_at_call 31; refine HG.out.mono ?_; rintro e w' ⟨rfl, rfl⟩)
      go_ret
      exact ⟨by rw [HD.out]; rfl, F, by rw [HD.out]; exact HF.out, HI.out, Grow.refl _ _, Chg.refl _ _⟩

def inLim (n : Int) : Bool := decide (1 ≤ n) && decide (n ≤ 16777216)
/-- The loop of New: j numbers were looked at. -/
def NewRel (W : World) (l : List Int) (g : Nat) (iv : Value) (wr : World) : Prop := ∃ j : Nat, j + g = 6 ∧ iv = .int .i64 j ∧ (∀ i, i < j → inLim (l.getD i 0) = true) ∧ wr = W
def NewPost (w : World) (l0 l1 l2 l3 l4 l5 : Int) (r : Ending) (w' : World) : Prop :=
  ([l0, l1, l2, l3, l4, l5].all inLim = true ∧ ∃ b F, r = .returned (.tuple #[.pointer (some ⟨b, 0, none⟩), .int .i64 0]) ∧ FR w' F b ⟨l0.toNat, l1.toNat, l2.toNat⟩ FM.new ∧ Ins w' F ∧ (∀ k, F k → w.heap.size ≤ k) ∧ Chg (fun _ => False) w w') ∨
  ([l0, l1, l2, l3, l4, l5].all inLim = false ∧ r = .returned (.tuple #[.pointer none, .int .i64 2]) ∧ Chg (fun _ => False) w w')
theorem all_six {l0 l1 l2 l3 l4 l5 : Int} (h : ∀ i, i < 6 → inLim ([l0, l1, l2, l3, l4, l5].getD i 0) = true) : [l0, l1, l2, l3, l4, l5].all inLim = true := by
  have h0 := h 0 (by omega); have h1 := h 1 (by omega); have h2 := h 2 (by omega); have h3 := h 3 (by omega); have h4 := h 4 (by omega); have h5 := h 5 (by omega)
  simp at h0 h1 h2 h3 h4 h5
  simp [h0, h1, h2, h3, h4, h5]
theorem not_six {l0 l1 l2 l3 l4 l5 : Int} {i : Nat} (hi : i < 6) (h : inLim ([l0, l1, l2, l3, l4, l5].getD i 0) = false) : [l0, l1, l2, l3, l4, l5].all inLim = false := by
  rw [List.all_eq_false]
  refine ⟨[l0, l1, l2, l3, l4, l5].getD i 0, ?_, by rw [h]; simp⟩
  rw [List.getD_eq_getElem?_getD, List.getElem?_eq_getElem (by simpa using hi)]
  exact List.getElem_mem _

set_option maxHeartbeats 1000000 in
theorem fr_New (l0 l1 l2 l3 l4 l5 : Int) (w : World) :
    Calls Try.prog 10 #[.agg #[.int .i64 l0, .int .i64 l1, .int .i64 l2, .int .i64 l3, .int .i64 l4, .int .i64 l5]] w (NewPost w l0 l1 l2 l3 l4 l5) := by
  have hcell : ∀ j : Nat, j < 6 → (#[Value.int .i64 l0, .int .i64 l1, .int .i64 l2, .int .i64 l3, .int .i64 l4, .int .i64 l5] : Array Value)[j]? = some (.int .i64 ([l0, l1, l2, l3, l4, l5].getD j 0)) := by
    intro j hj
    match j, hj with
    | 0, _ => rfl
    | 1, _ => rfl
    | 2, _ => rfl
    | 3, _ => rfl
    | 4, _ => rfl
    | 5, _ => rfl
  have HCELL := Lib.hid hcell
  clear hcell
  go_enter Try.func10, Try.ntmps10
  go_wp2_with fail
  have hb1 : ((w.alloc (.cells #[.int .i64 l0, .int .i64 l1, .int .i64 l2, .int .i64 l3, .int .i64 l4, .int .i64 l5] 23)).alloc (.cells #[.int .i64 l0, .int .i64 l1, .int .i64 l2, .int .i64 l3, .int .i64 l4, .int .i64 l5] 3)).heap[w.heap.size]? = some (.cells #[.int .i64 l0, .int .i64 l1, .int .i64 l2, .int .i64 l3, .int .i64 l4, .int .i64 l5] 23 (0, 0)) := heap_alloc_lt _ _ (heap_alloc_at _ _)
  have hb2 : ((w.alloc (.cells #[.int .i64 l0, .int .i64 l1, .int .i64 l2, .int .i64 l3, .int .i64 l4, .int .i64 l5] 23)).alloc (.cells #[.int .i64 l0, .int .i64 l1, .int .i64 l2, .int .i64 l3, .int .i64 l4, .int .i64 l5] 3)).heap[w.heap.size + 1]? = some (.cells #[.int .i64 l0, .int .i64 l1, .int .i64 l2, .int .i64 l3, .int .i64 l4, .int .i64 l5] 3 (0, 0)) := by
    rw [show w.heap.size + 1 = (w.alloc (.cells #[.int .i64 l0, .int .i64 l1, .int .i64 l2, .int .i64 l3, .int .i64 l4, .int .i64 l5] 23)).heap.size from by simp]; exact heap_alloc_at _ _
  have hc := ((Chg.refl (fun _ => False) w).alloc (.cells #[.int .i64 l0, .int .i64 l1, .int .i64 l2, .int .i64 l3, .int .i64 l4, .int .i64 l5] 23)).alloc (.cells #[.int .i64 l0, .int .i64 l1, .int .i64 l2, .int .i64 l3, .int .i64 l4, .int .i64 l5] 3)
  revert hb1 hb2 hc
  generalize (w.alloc (.cells #[.int .i64 l0, .int .i64 l1, .int .i64 l2, .int .i64 l3, .int .i64 l4, .int .i64 l5] 23)).alloc (.cells #[.int .i64 l0, .int .i64 l1, .int .i64 l2, .int .i64 l3, .int .i64 l4, .int .i64 l5] 3) = W1
  intro hb1 hb2 hc
  have HB1 := Lib.hid hb1
  have HB2 := Lib.hid hb2
  have HC := Lib.hid hc
  clear hb1 hb2 hc
  go_loopg [23] 6 (NewRel W1 [l0, l1, l2, l3, l4, l5])
  case atStart => exact ⟨0, by omega, rfl, fun i hi => by omega, rfl⟩
  case round =>
    obtain ⟨j, hj, rfl, hall, rfl⟩ := hrel
    by_cases hg : gk = 0
    · have hlt : ¬ (j : Int) < 6 := by omega
      have h6 := all_six (fun i hi => hall i (by omega))
      have h0 := hall 0 (by omega); have h1 := hall 1 (by omega); have h2 := hall 2 (by omega)
      simp only [List.getD_cons_zero, List.getD_cons_succ, inLim, Bool.and_eq_true, decide_eq_true_eq] at h0 h1 h2
      have H6 := Lib.hid h6
      have HR := Lib.hid (And.intro h0 (And.intro h1 h2))
      have k0 : wr.cell? ⟨w.heap.size, 0, none⟩ = _ := cell_of_blk HB1.out 0
      simp only [List.getElem?_toArray, List.getElem?_cons_zero] at k0
      clear hall h6
      go_wp2_with fail
      refine (line_new l0 wr h0.1 h0.2).mono ?_
      rintro e w2 ⟨rfl, g2, cc⟩
      have hlb := lt_of_block g2.blk
      have b1 := cc.obj HB1.out (fun h => h)
      have G2 := Lib.hid g2
      have CC := Lib.hid cc
      have q0 : w2.cell? ⟨w.heap.size, 0, none⟩ = some (.int .i64 l0) := cell_of_blk b1 0
      have q1 : w2.cell? ⟨w.heap.size, 1, none⟩ = some (.int .i64 l1) := cell_of_blk b1 1
      have q2 : w2.cell? ⟨w.heap.size, 2, none⟩ = some (.int .i64 l2) := cell_of_blk b1 2
      have q3 : w2.cell? ⟨w.heap.size, 3, none⟩ = some (.int .i64 l3) := cell_of_blk b1 3
      have q4 : w2.cell? ⟨w.heap.size, 4, none⟩ = some (.int .i64 l4) := cell_of_blk b1 4
      have q5 : w2.cell? ⟨w.heap.size, 5, none⟩ = some (.int .i64 l5) := cell_of_blk b1 5
      clear g2 cc b1 k0
      go_wp2_with fail
      have hfb : FBAt (w2.alloc (.cells (frC ⟨l0, l1, l2, l3, l4, l5, 0, .nilFunc, .nilFunc, .pointer (some ⟨wr.heap.size, 0, none⟩), false, 0, 0⟩) 48)) w2.heap.size ⟨l0, l1, l2, l3, l4, l5, 0, .nilFunc, .nilFunc, .pointer (some ⟨wr.heap.size, 0, none⟩), false, 0, 0⟩ := heap_alloc_at _ _
      refine (fr_lines _ _ _ hfb).mono ?_
      rintro e w5 ⟨rfl, g5, c5⟩
      have G5 := Lib.hid g5
      have C5 := Lib.hid c5
      clear hfb g5 c5
      go_wp2
      go_ret2
      obtain ⟨r0, r1, r2⟩ := HR.out
      have e0 : ((l0.toNat : Nat) : Int) = l0 := by omega
      have e1 : ((l1.toNat : Nat) : Int) = l1 := by omega
      have e2 : ((l2.toNat : Nat) : Int) = l2 := by omega
      have hlim : Lim.ok ⟨l0.toNat, l1.toNat, l2.toNat⟩ := by constructor <;> dsimp only <;> omega
      have ss := HC.out.size
      have c25 := (Chg.refl (fun k => k = w2.heap.size) w2).alloc (.cells (frC ⟨l0, l1, l2, l3, l4, l5, 0, .nilFunc, .nilFunc, .pointer (some ⟨wr.heap.size, 0, none⟩), false, 0, 0⟩) 48)
      have c26 := c25.trans C5.out (fun i hi e => e)
      have h5l := lt_of_block G5.out
      refine .inl ⟨H6.out, w2.heap.size, fun k => k = w2.heap.size ∨ k = wr.heap.size, rfl, ⟨hlim, _, wr.heap.size, .slice none 0 0, LS.new, G5.out, e1.symm, e2.symm, rfl, ?_, LS.ok_new (by omega), .inl rfl, .inr rfl, fun k hk => by simp [Value.ownBlock] at hk, by omega, by simp [Value.ownBlock], rfl, rfl, rfl, rfl, rfl, fun _ => rfl⟩, ?_, ?_, ?_⟩
      · show LinerAt w5 wr.heap.size ((l0.toNat : Nat) : Int) _ _
        rw [e0]
        exact G2.out.kept c26 (fun e => by omega) (fun k hk => by simp [Value.ownBlock] at hk)
      · rintro k (e | e)
        · omega
        · have := c26.size; omega
      · have := CC.out.size
        rintro k (e | e) <;> omega
      · exact (HC.out.trans CC.out (fun _ _ h => h)).trans c26 (fun i hi e => by have := CC.out.size; omega)
    · have hlt : (j : Int) < 6 := by omega
      have hx := HCELL.out j (by omega)
      have hno : inLim ([l0, l1, l2, l3, l4, l5].getD j 0) = false → [l0, l1, l2, l3, l4, l5].all inLim = false := fun h => not_six (by omega) h
      have hyes : inLim ([l0, l1, l2, l3, l4, l5].getD j 0) = true → ∀ i, i < j + 1 → inLim ([l0, l1, l2, l3, l4, l5].getD i 0) = true := fun h i hi => by
        by_cases e : i = j
        · rw [e]; exact h
        · exact hall i (by omega)
      have hcell : wr.cell? ⟨w.heap.size + 1, j, none⟩ = _ := (cell_of_blk HB2.out j).trans hx
      generalize [l0, l1, l2, l3, l4, l5].getD j 0 = y at *
      have HNO := Lib.hid hno
      have HYES := Lib.hid hyes
      clear hx hno hyes hall
      by_cases h1 : y < 1
      · have HA := Lib.hid (HNO.out (by simp [inLim]; omega))
        go_wp2
        go_ret2
        exact .inr ⟨HA.out, rfl, HC.out⟩
      · by_cases h2 : 16777216 < y
        · have HA := Lib.hid (HNO.out (by simp [inLim]; omega))
          go_wp2
          go_ret2
          exact .inr ⟨HA.out, rfl, HC.out⟩
        · have HA := Lib.hid (HYES.out (by simp [inLim]; omega))
          go_wp2
          go_roundg (gk - 1)
          case measure => omega
          case rel => exact ⟨j + 1, by omega, by go_num, HA.out, rfl⟩
end Go.Proofs.Ytnjloldhmjadoaa
