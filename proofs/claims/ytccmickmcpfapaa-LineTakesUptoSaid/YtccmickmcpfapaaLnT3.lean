/- Two liners, each beside the definition's; the script's pieces. No condition but what each states. -/
import Derived.Test.YtccmickmcpfapaaLnT2
import Derived.Test.YtccmickmcpfapaaArgs2
namespace Go.Proofs.Ytccmickmcpfapaa
open Go Go.RowKit Ln Go.ChangeShapes Go.WideShapes Go.ChangeAt

/-- A liner (having taken oL) and the definition's (oR), within F. -/
structure PO (w : World) (F : Nat → Prop) (p px : Value) (m : Int) (oL oR : Option (List UInt8)) : Prop where
  pair : ∃ Fl Fx, LO w Fl p m oL ∧ RO w Fx px m oR ∧ Dis Fl Fx ∧ Ins w Fl ∧ Ins w Fx ∧ (∀ k, F k ↔ Fl k ∨ Fx k)
theorem PO.ins {w : World} {F : Nat → Prop} {p px : Value} {m : Int} {oL oR : Option (List UInt8)} (h : PO w F p px m oL oR) : Ins w F := by
  obtain ⟨Fl, Fx, h1, h2, h3, h4, h5, h6⟩ := h
  exact fun k hk => ((h6 k).1 hk).elim (h4 k) (h5 k)
theorem PO.kept {S F : Nat → Prop} {w w' : World} {p px : Value} {m : Int} {oL oR : Option (List UInt8)} (h : PO w F p px m oL oR) (c : Chg S w w') (d : Dis F S) : PO w' F p px m oL oR := by
  obtain ⟨Fl, Fx, h1, h2, h3, h4, h5, h6⟩ := h
  exact ⟨Fl, Fx, h1.kept c (fun k a b => d k ((h6 k).2 (.inl a)) b), h2.kept c (fun k a b => d k ((h6 k).2 (.inr a)) b), h3, h4.of c, h5.of c, h6⟩
theorem po_ref {w : World} {F : Nat → Prop} {p px : Value} {m : Int} {oL oR : Option (List UInt8)} (h : PO w F p px m oL oR) (bv : Value) (bs : List UInt8) (hbs : Rd w bv 1 (bvs bs)) (hsep : ∀ k, bv.ownBlock = some k → ¬ F k) (hlen : olen oR + bs.length ≤ 4194304) :
    Calls Try.prog 15 #[px, bv] w fun r w' => r = .returned (.tuple #[.int .i64 (otake m oR bs).1, itmV (otake m oR bs).2.1]) ∧
      ∃ F', PO w' F' p px m oL (otake m oR bs).2.2 ∧ Grow w F F' ∧ Chg F w w' := by
  obtain ⟨Fl, Fx, h1, h2, h3, h4, h5, h6⟩ := h
  refine (ro_take h2 h5 bv bs hbs (fun k hk e => hsep k hk ((h6 k).2 (.inr e))) hlen).mono ?_
  rintro r w' ⟨rfl, F', g1, g2, g3, g4⟩
  refine ⟨rfl, fun k => Fl k ∨ F' k, ⟨Fl, F', h1.kept g4 h3, g1, (h3.symm.grow g3 h4).symm, h4.of g4, g2, fun _ => Iff.rfl⟩, ?_, g4.mono (fun i _ e => (h6 i).2 (.inr e))⟩
  rintro k (e | e)
  · exact .inl ((h6 k).2 (.inl e))
  · rcases g3 k e with e | e
    · exact .inl ((h6 k).2 (.inr e))
    · exact .inr e
theorem po_line {w : World} {F : Nat → Prop} {p px : Value} {m : Int} {oL oR : Option (List UInt8)} (h : PO w F p px m oL oR) (bv : Value) (bs : List UInt8) (hbs : Rd w bv 1 (bvs bs)) (hsep : ∀ k, bv.ownBlock = some k → ¬ F k) :
    Calls Try.prog 16 #[p, bv] w fun r w' => r = .returned (.tuple #[.int .i64 (otake m oL bs).1, itmV (otake m oL bs).2.1]) ∧
      ∃ F', PO w' F' p px m (otake m oL bs).2.2 oR ∧ Grow w F F' ∧ Chg F w w' := by
  obtain ⟨Fl, Fx, h1, h2, h3, h4, h5, h6⟩ := h
  refine (lo_take h1 h4 bv bs hbs (fun k hk e => hsep k hk ((h6 k).2 (.inl e)))).mono ?_
  rintro r w' ⟨rfl, F', g1, g2, g3, g4⟩
  refine ⟨rfl, fun k => F' k ∨ Fx k, ⟨F', Fx, g1, h2.kept g4 h3.symm, h3.grow g3 h5, g2, h5.of g4, fun _ => Iff.rfl⟩, ?_, g4.mono (fun i _ e => (h6 i).2 (.inl e))⟩
  rintro k (e | e)
  · rcases g3 k e with e | e
    · exact .inl ((h6 k).2 (.inl e))
    · exact .inr e
  · exact .inl ((h6 k).2 (.inr e))

/-- Two such pairs; X: blocks that are not theirs. -/
structure TWO (X : Nat → Prop) (w : World) (p px : Value) (m : Int) (oL oR : Option (List UInt8)) (q qx : Value) (m' : Int) (o' : Option (List UInt8)) : Prop where
  two : ∃ FP FQ, PO w FP p px m oL oR ∧ PO w FQ q qx m' o' o' ∧ Dis FP FQ ∧ Dis FP X ∧ Dis FQ X ∧ Ins w X
section
variable {X : Nat → Prop} {w w' : World} {p px q qx : Value} {m m' : Int} {oL oR o o' : Option (List UInt8)}
theorem TWO.swap (h : TWO X w p px m o o q qx m' o') : TWO X w q qx m' o' o' p px m o := by
  obtain ⟨FP, FQ, h1, h2, h3, h4, h5, h6⟩ := h
  exact ⟨FQ, FP, h2, h1, h3.symm, h5, h4, h6⟩
/-- Behind what turns blocks of X alone, and makes some of Y. -/
theorem TWO.more (h : TWO X w p px m oL oR q qx m' o') {S Y : Nat → Prop} (c : Chg S w w') (hS : ∀ k, S k → k < w.heap.size → X k) (hY : ∀ k, Y k → w.heap.size ≤ k ∧ k < w'.heap.size) : TWO (fun k => X k ∨ Y k) w' p px m oL oR q qx m' o' := by
  obtain ⟨FP, FQ, h1, h2, h3, h4, h5, h6⟩ := h
  refine ⟨FP, FQ, h1.kept c (fun k a b => h4 k a (hS k b (h1.ins k a))), h2.kept c (fun k a b => h5 k a (hS k b (h2.ins k a))), h3, ?_, ?_, ?_⟩
  · rintro k a (b | b)
    · exact h4 k a b
    · have := h1.ins k a; have := hY k b; omega
  · rintro k a (b | b)
    · exact h5 k a b
    · have := h2.ins k a; have := hY k b; omega
  · rintro k (b | b)
    · exact c.lt (h6 k b)
    · exact (hY k b).2
theorem TWO.kept (h : TWO X w p px m oL oR q qx m' o') {S : Nat → Prop} (c : Chg S w w') (hS : ∀ k, S k → k < w.heap.size → X k) : TWO X w' p px m oL oR q qx m' o' := by
  obtain ⟨FP, FQ, h1, h2, h3, h4, h5, h6⟩ := h
  exact ⟨FP, FQ, h1.kept c (fun k a b => h4 k a (hS k b (h1.ins k a))), h2.kept c (fun k a b => h5 k a (hS k b (h2.ins k a))), h3, h4, h5, h6.of c⟩
theorem TWO.ins (h : TWO X w p px m oL oR q qx m' o') : Ins w X := by
  obtain ⟨FP, FQ, h1, h2, h3, h4, h5, h6⟩ := h
  exact h6
theorem two_ref (h : TWO X w p px m oL oR q qx m' o') (bv : Value) (bs : List UInt8) (hbs : Rd w bv 1 (bvs bs)) (hsep : ∀ k, bv.ownBlock = some k → X k) (hlen : olen oR + bs.length ≤ 4194304) :
    Calls Try.prog 15 #[px, bv] w fun r w' => r = .returned (.tuple #[.int .i64 (otake m oR bs).1, itmV (otake m oR bs).2.1]) ∧
      TWO X w' p px m oL (otake m oR bs).2.2 q qx m' o' ∧ Chg (fun k => ¬ X k) w w' := by
  obtain ⟨FP, FQ, h1, h2, h3, h4, h5, h6⟩ := h
  refine (po_ref h1 bv bs hbs (fun k hk e => h4 k e (hsep k hk)) hlen).mono ?_
  rintro r w' ⟨rfl, F', g1, g2, g3⟩
  exact ⟨rfl, ⟨F', FQ, g1, h2.kept g3 h3.symm, h3.grow g2 h2.ins, h4.grow g2 h6, h5, h6.of g3⟩, g3.mono (fun i _ e => h4 i e)⟩
theorem two_line (h : TWO X w p px m oL oR q qx m' o') (bv : Value) (bs : List UInt8) (hbs : Rd w bv 1 (bvs bs)) (hsep : ∀ k, bv.ownBlock = some k → X k) :
    Calls Try.prog 16 #[p, bv] w fun r w' => r = .returned (.tuple #[.int .i64 (otake m oL bs).1, itmV (otake m oL bs).2.1]) ∧
      TWO X w' p px m (otake m oL bs).2.2 oR q qx m' o' ∧ Chg (fun k => ¬ X k) w w' := by
  obtain ⟨FP, FQ, h1, h2, h3, h4, h5, h6⟩ := h
  refine (po_line h1 bv bs hbs (fun k hk e => h4 k e (hsep k hk))).mono ?_
  rintro r w' ⟨rfl, F', g1, g2, g3⟩
  exact ⟨rfl, ⟨F', FQ, g1, h2.kept g3 h3.symm, h3.grow g2 h2.ins, h4.grow g2 h6, h5, h6.of g3⟩, g3.mono (fun i _ e => h4 i e)⟩
theorem two_held (h : TWO X w p px m oL oR q qx m' o') :
    Calls Try.prog 19 #[p] w fun r w' => r = .returned (.int .i64 (oheld m oL)) ∧ w = w' := by
  obtain ⟨FP, FQ, ⟨Fl, Fx, h1, _⟩, _⟩ := h
  exact lo_held h1
/-- What Held is asked to be, and what the definition's pointer is. -/
theorem TWO.asked (h : TWO X w p px m oL oR q qx m' o') : 0 ≤ oheld m oL ∧ ((oL = none ∧ oheld m oL = 0) ∨ ∃ l, oL = some l ∧ oheld m oL ≤ l.length ∧ oheld m oL ≤ m + 1) ∧
    ((oR = none ∧ px = .pointer none) ∨ ∃ l b v, oR = some l ∧ px = .pointer (some ⟨b, 0, none⟩) ∧ 1 ≤ m ∧ m ≤ 16777216 ∧ w.cell? ⟨b, 1, none⟩ = some v ∧ ∃ ao cap, v = .slice ao l.length cap) := by
  obtain ⟨FP, FQ, ⟨Fl, Fx, h1, h2, _⟩, _⟩ := h
  obtain ⟨a, b, c⟩ := oheld_ok h1
  refine ⟨a, ?_, ?_⟩
  · cases oL with
    | none => exact .inl ⟨rfl, b rfl⟩
    | some l => exact .inr ⟨l, rfl, c l rfl⟩
  · cases oR with
    | none => exact .inl ⟨rfl, h2⟩
    | some l =>
      obtain ⟨a1, a2, b, v, rfl, g, _⟩ := h2
      obtain ⟨ao, n, cap, rfl, hl, _⟩ := g.arr.shape
      rw [bvs_length, Nat.mul_one] at hl
      subst hl
      exact .inr ⟨l, b, .slice ao l.length cap, rfl, rfl, a1, a2, by have := cell_of_blk g.blk 1; simpa using this, ao, cap, rfl⟩
end

theorem LO.ptr {w : World} {F : Nat → Prop} {p : Value} {m : Int} {o : Option (List UInt8)} (h : LO w F p m o) : ∃ po, p = .pointer po ∧ (po == none) = o.isNone := by
  cases o with
  | none => exact ⟨none, h, rfl⟩
  | some l => obtain ⟨_, _, b, v, e, _⟩ := h; exact ⟨_, e, rfl⟩
theorem RO.ptr {w : World} {F : Nat → Prop} {p : Value} {m : Int} {o : Option (List UInt8)} (h : RO w F p m o) : ∃ po, p = .pointer po ∧ (po == none) = o.isNone := by
  cases o with
  | none => exact ⟨none, h, rfl⟩
  | some l => obtain ⟨_, _, b, v, e, _⟩ := h; exact ⟨_, e, rfl⟩
/-- The script's pieces: who, the bytes' slice, the bytes. -/
def pcV (x : Int × Value × List UInt8) : List Value := [.int .i64 x.1, x.2.1]
theorem Try.cellsPiece : Try.prog.cellsOf 43 = 2 := by kernel_rfl
theorem arg_pieces {H : Type} {enc : TypeId × Value → H} {W : World} {v : Value} {d : DataW H} {p : List MemPlace} (ok : ∃ base, Value.okWide Try.prog W .any base 35 v) (h : DataW.Trod enc Try.prog W 0 (fun _ => true) true 35 v d p) :
    ∃ (ao : Option Addr) (n cap : Nat) (l : List (Int × Value × List UInt8)), v = .slice ao n cap ∧ Rd W (.slice ao n cap) 2 (l.flatMap pcV) ∧ l.length = n ∧ (∀ x ∈ l, Rd W x.2.1 1 (bvs x.2.2)) ∧ (l.map fun x => x.2.2.length + 1).sum + 1 ≤ Rows.uptoBulk d := by
  obtain ⟨base, ok⟩ := ok
  obtain ⟨a0, len, cap, rfl⟩ := okWide_slice Try.underlying35 ok
  obtain ⟨m, hm⟩ := h
  have : Inhabited (Int × Value × List UInt8) := ⟨(0, .slice none 0 0, [])⟩
  obtain ⟨ao, n, cap', l, hcs, h1, h2, h3, h4⟩ := arg_rows (enc := enc) (P := Try.prog) (W := W) 2 pcV (fun x => Rd W x.2.1 1 (bvs x.2.2)) (fun x => x.2.2.length + 1) Try.underlying35 Try.cellsPiece (fun _ => rfl) (by omega) hm (fun k cs' D Pl hr => by
    obtain ⟨xs, n, _, hxy, hlen, hxl, hf⟩ := DataW.trod_struct Try.underlying43 hr
    rw [Try.cellsPiece] at hlen
    match xs, hxl, cs', hlen with
    | [y0, y1], _, [v0, v1], _ =>
      have g0 := hf 0 _ rfl
      have g1 := hf 1 _ rfl
      simp [Try.cellsInt] at g0
      have cb : Try.prog.cellsOf 22 = 1 := by kernel_rfl
      simp [cb] at g1
      obtain ⟨z, e0, _⟩ := DataW.trod_int Try.underlying3 g0
      obtain ⟨ao, n1, cap1, zs, hcs, hrd, hw, hb⟩ := arg_ints_at Try.underlying22 Try.underlying5 Try.cellsByte g1
      obtain ⟨bl, e, hl⟩ := bytes_of zs hw
      rw [e] at hrd
      refine ⟨(z, .slice ao n1 cap1, bl), ?_, hrd, ?_⟩
      · simp [pcV]; exact ⟨by simpa using e0, by simpa using hcs⟩
      · simp at hxy
        rw [hxy.1]
        simp only [Rows.uptoBulk, Rows.uptoBulkAll]
        omega)
  simp only [Value.cells, List.cons.injEq, and_true] at hcs
  rw [hcs]
  exact ⟨ao, n, cap', l, rfl, h1, h2, h3, h4⟩
end Go.Proofs.Ytccmickmcpfapaa
