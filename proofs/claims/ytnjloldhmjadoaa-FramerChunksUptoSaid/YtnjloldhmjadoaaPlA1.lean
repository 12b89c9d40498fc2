/- The arguments of the laws over played, opened. No condition but what each states. -/
import Derived.Test.YtnjloldhmjadoaaPlC
import Derived.Test.YtnjloldhmjadoaaFrT1
namespace Go.Proofs.Ytnjloldhmjadoaa
set_option linter.unusedVariables false
open Go Go.RowKit Go.ChangeShapes Go.WideShapes Go.ChangeAt Ln Dt Fr Pl

theorem Try.cellsTurn : Try.prog.cellsOf 70 = 3 := by kernel_rfl
theorem Try.cellsLimits : Try.prog.cellsOf 23 = 6 := by kernel_rfl
theorem Try.cellsPieces : Try.prog.cellsOf 55 = 10 := by kernel_rfl
theorem Try.cellsOctets : Try.prog.cellsOf 68 = 4 := by kernel_rfl
theorem Try.cellsString : Try.prog.cellsOf 9 = 1 := by kernel_rfl
def TnOk (o : Tn) : Prop := o.n ≤ 9223372036854775807 ∧ o.room ≤ 9223372036854775807
section
variable {H : Type} {enc : TypeId × Value → H} {W : World}
set_option maxRecDepth 100000 in
theorem arg_turns_at {sp : Nat → Bool} {m : Nat} {cs : List Value} {x : DataW H × List MemPlace} (hm : DataW.trod enc Try.prog W 0 sp true m 53 cs = some x) :
    ∃ (ao : Option Addr) (n cap : Nat) (l : List Tn), cs = [.slice ao n cap] ∧ Rd W (.slice ao n cap) 3 (l.flatMap tnCs) ∧ l.length = n ∧ (∀ o ∈ l, TnOk o) ∧ 4 * l.length + 1 ≤ Rows.uptoBulk x.1 := by
  have : Inhabited Tn := ⟨⟨0, 0, 0⟩⟩
  obtain ⟨ao, n, cap', l, hcs, h1, h2, h3, h4⟩ := arg_rows (enc := enc) (P := Try.prog) (W := W) 3 tnCs TnOk (fun _ => 4) Try.underlying53 Try.cellsTurn (fun _ => rfl) (by omega) hm (fun k cs' D Pl hr => by
    obtain ⟨xs, n, _, hxy, hlen, hxl, hf⟩ := DataW.trod_struct Try.underlying70 hr
    rw [Try.cellsTurn] at hlen
    match xs, hxl, cs', hlen with
    | [y0, y1, y2], _, [v0, v1, v2], _ =>
      have g0 := hf 0 _ rfl
      have g1 := hf 1 _ rfl
      have g2 := hf 2 _ rfl
      have ci : Try.prog.cellsOf 3 = 1 := by kernel_rfl
      have ci6 : Try.prog.cellsOf 2 = 1 := by kernel_rfl
      simp [ci, ci6] at g0 g1 g2
      obtain ⟨z0, e0, _⟩ := DataW.trod_int Try.underlying3 g0
      obtain ⟨z1, e1, q1, w1⟩ := DataW.trod_int Try.underlying2 g1
      obtain ⟨z2, e2, q2, w2⟩ := DataW.trod_int Try.underlying2 g2
      simp at e0 e1 e2
      refine ⟨⟨z0, z1, z2⟩, ?_, ⟨(i64_bounds w1).2, (i64_bounds w2).2⟩, ?_⟩
      · simp [tnCs, e0, e1, e2]
      · simp at hxy
        rw [hxy.1]
        have b0 := bulk_one y0.1
        have b1 := bulk_one y1.1
        have b2 := bulk_one y2.1
        simp only [Rows.uptoBulk, Rows.uptoBulkAll]
        omega)
  have hsum : ∀ l : List Tn, (l.map fun _ => 4).sum = 4 * l.length := fun l => by
    induction l with
    | nil => rfl
    | cons a r ih => simp only [List.map_cons, List.sum_cons, ih, List.length_cons]; omega
  rw [hsum] at h4
  exact ⟨ao, n, cap', l, hcs, h1, h2, h3, h4⟩
theorem arg_limits_at {sp : Nat → Bool} {m : Nat} {cs : List Value} {x : DataW H × List MemPlace} (hm : DataW.trod enc Try.prog W 0 sp true m 23 cs = some x) :
    ∃ l0 l1 l2 l3 l4 l5 : Int, cs = [.int .i64 l0, .int .i64 l1, .int .i64 l2, .int .i64 l3, .int .i64 l4, .int .i64 l5] := by
  obtain ⟨xs, n, _, hxy, hlen, hxl, hf⟩ := DataW.trod_struct Try.underlying23 hm
  rw [Try.cellsLimits] at hlen
  match xs, hxl, cs, hlen with
  | [y0, y1, y2, y3, y4, y5], _, [v0, v1, v2, v3, v4, v5], _ =>
    have g0 := hf 0 _ rfl
    have g1 := hf 1 _ rfl
    have g2 := hf 2 _ rfl
    have g3 := hf 3 _ rfl
    have g4 := hf 4 _ rfl
    have g5 := hf 5 _ rfl
    have ci : Try.prog.cellsOf 3 = 1 := by kernel_rfl
    simp [ci] at g0 g1 g2 g3 g4 g5
    obtain ⟨z0, e0, _⟩ := DataW.trod_int Try.underlying3 g0
    obtain ⟨z1, e1, _⟩ := DataW.trod_int Try.underlying3 g1
    obtain ⟨z2, e2, _⟩ := DataW.trod_int Try.underlying3 g2
    obtain ⟨z3, e3, _⟩ := DataW.trod_int Try.underlying3 g3
    obtain ⟨z4, e4, _⟩ := DataW.trod_int Try.underlying3 g4
    obtain ⟨z5, e5, _⟩ := DataW.trod_int Try.underlying3 g5
    simp at e0 e1 e2 e3 e4 e5
    exact ⟨z0, z1, z2, z3, z4, z5, by rw [e0, e1, e2, e3, e4, e5]⟩
theorem arg_bytes_at {sp : Nat → Bool} {m : Nat} {cs : List Value} {x : DataW H × List MemPlace} (hm : DataW.trod enc Try.prog W 0 sp true m 24 cs = some x) :
    ∃ (ao : Option Addr) (cap : Nat) (l : List UInt8), cs = [.slice ao l.length cap] ∧ Rd W (.slice ao l.length cap) 1 (bvs l) ∧ l.length + 1 ≤ Rows.uptoBulk x.1 := by
  obtain ⟨ao, n1, cap1, zs, e4, hrd, hw, hb⟩ := arg_ints_at Try.underlying24 Try.underlying5 Try.cellsByte hm
  obtain ⟨bl, e, hl⟩ := bytes_of zs hw
  rw [e] at hrd
  have hn := hrd.len
  subst hn
  exact ⟨ao, cap1, bl, e4, hrd, by omega⟩
theorem arg_pieces15 {v : Value} {d : DataW H} {p : List MemPlace} (ok : ∃ base, Value.okWide Try.prog W .any base 55 v) (h : DataW.Trod enc Try.prog W 0 (fun _ => true) true 55 v d p) :
    ∃ (l0 l1 l2 l3 l4 l5 : Int) (bo ta oa wa : Option Addr) (bc tc oc wc : Nat) (b : List UInt8) (ts : List Tn) (one two : List UInt8), v = .agg #[.int .i64 l0, .int .i64 l1, .int .i64 l2, .int .i64 l3, .int .i64 l4, .int .i64 l5, .slice bo b.length bc, .slice ta ts.length tc, .slice oa one.length oc, .slice wa two.length wc] ∧
      Rd W (.slice bo b.length bc) 1 (bvs b) ∧ Rd W (.slice ta ts.length tc) 3 (ts.flatMap tnCs) ∧ Rd W (.slice oa one.length oc) 1 (bvs one) ∧ Rd W (.slice wa two.length wc) 1 (bvs two) ∧ (∀ o ∈ ts, TnOk o) ∧ b.length + 4 * ts.length + one.length + two.length ≤ Rows.uptoBulk d := by
  obtain ⟨base, ok⟩ := ok
  obtain ⟨cs, rfl, hcs⟩ := okWide_struct Try.underlying55 ok
  obtain ⟨m, hm⟩ := h
  simp only [Value.cells] at hm
  obtain ⟨xs, n', _, hxy, hlen, hxl, hf⟩ := DataW.trod_struct Try.underlying55 hm
  rw [Try.cellsPieces] at hlen
  match xs, hxl, hcl : cs.toList, hlen with
  | [y0, y1, y2, y3, y4], _, [v0, v1, v2, v3, v4, v5, v6, v7, v8, v9], _ =>
    rw [hcl] at hf
    have g0 := hf 0 _ rfl
    have g1 := hf 1 _ rfl
    have g2 := hf 2 _ rfl
    have g3 := hf 3 _ rfl
    have g4 := hf 4 _ rfl
    have cb : Try.prog.cellsOf 24 = 1 := by kernel_rfl
    have ct : Try.prog.cellsOf 53 = 1 := by kernel_rfl
    simp [cb, ct, Try.cellsLimits] at g0 g1 g2 g3 g4
    obtain ⟨l0, l1, l2, l3, l4, l5, e0⟩ := arg_limits_at g0
    obtain ⟨bo, bc, b, e1, hb, kb⟩ := arg_bytes_at g1
    obtain ⟨ta, n2, tc, ts, e2, ht, hn2, htn, kt⟩ := arg_turns_at g2
    subst hn2
    obtain ⟨oa, oc, one, e3, ho, ko⟩ := arg_bytes_at g3
    obtain ⟨wa, wc, two, e4, hw, kw⟩ := arg_bytes_at g4
    simp at e0 e1 e2 e3 e4
    obtain ⟨rfl, rfl, rfl, rfl, rfl, rfl⟩ := e0
    subst e1 e2 e3 e4
    refine ⟨l0, l1, l2, l3, l4, l5, bo, ta, oa, wa, bc, tc, oc, wc, b, ts, one, two, ?_, hb, ht, ho, hw, htn, ?_⟩
    · rw [← Array.toArray_toList (xs := cs), hcl]
    · simp at hxy
      rw [hxy.1]
      simp only [Rows.uptoBulk, Rows.uptoBulkAll]
      omega
theorem arg_octets {v : Value} {d : DataW H} {p : List MemPlace} (ok : ∃ base, Value.okWide Try.prog W .any base 68 v) (h : DataW.Trod enc Try.prog W 0 (fun _ => true) true 68 v d p) :
    ∃ (bo ca : Option Addr) (bc cc : Nat) (b : List UInt8) (room : Int) (s : List UInt8) (cs : List UInt8), v = .agg #[.slice bo b.length bc, .int .i64 room, .string ⟨s.toArray⟩, .slice ca cs.length cc] ∧
      Rd W (.slice bo b.length bc) 1 (bvs b) ∧ Rd W (.slice ca cs.length cc) 1 (bvs cs) ∧ room ≤ 9223372036854775807 ∧ b.length + s.length + cs.length ≤ Rows.uptoBulk d := by
  obtain ⟨base, ok⟩ := ok
  obtain ⟨cs, rfl, hcs⟩ := okWide_struct Try.underlying68 ok
  obtain ⟨m, hm⟩ := h
  simp only [Value.cells] at hm
  obtain ⟨xs, n', _, hxy, hlen, hxl, hf⟩ := DataW.trod_struct Try.underlying68 hm
  rw [Try.cellsOctets] at hlen
  match xs, hxl, hcl : cs.toList, hlen with
  | [y0, y1, y2, y3], _, [v0, v1, v2, v3], _ =>
    rw [hcl] at hf
    have g0 := hf 0 _ rfl
    have g1 := hf 1 _ rfl
    have g2 := hf 2 _ rfl
    have g3 := hf 3 _ rfl
    have cb : Try.prog.cellsOf 24 = 1 := by kernel_rfl
    have ci6 : Try.prog.cellsOf 2 = 1 := by kernel_rfl
    simp [cb, ci6, Try.cellsString] at g0 g1 g2 g3
    obtain ⟨bo, bc, b, e0, hb, kb⟩ := arg_bytes_at g0
    obtain ⟨z1, e1, q1, w1⟩ := DataW.trod_int Try.underlying2 g1
    obtain ⟨s, e2, q2, hs⟩ := DataW.trod_string Try.underlying9 g2
    obtain ⟨ca, cc, cl, e3, hc, kc⟩ := arg_bytes_at g3
    simp at e0 e1 e2 e3
    subst e0 e1 e2 e3
    refine ⟨bo, ca, bc, cc, b, z1, s.data.toList, cl, ?_, hb, hc, (i64_bounds w1).2, ?_⟩
    · rw [← Array.toArray_toList (xs := cs), hcl]
    · simp at hxy
      rw [hxy.1]
      simp only [Rows.uptoBulk, Rows.uptoBulkAll]
      rw [q2]
      simp only [Rows.uptoBulk]
      clear hs g0 g1 g2 g3 hf hcs hcl hb hc
      generalize Rows.uptoBulk y0.1 = u at *
      generalize Rows.uptoBulk y3.1 = u3 at *
      generalize Rows.uptoBulk y1.1 = u1 at *
      generalize s.data.toList.length = u0 at *
      omega
def stC (l : List UInt8) : List Value := [.string ⟨l.toArray⟩]
theorem arg_texts {v : Value} {d : DataW H} {p : List MemPlace} (ok : ∃ base, Value.okWide Try.prog W .any base 64 v) (h : DataW.Trod enc Try.prog W 0 (fun _ => true) true 64 v d p) :
    ∃ (ao : Option Addr) (n cap : Nat) (l : List (List UInt8)), v = .slice ao n cap ∧ Rd W (.slice ao n cap) 1 (l.flatMap stC) ∧ l.length = n ∧ (l.map fun x => x.length + 1).sum + 1 ≤ Rows.uptoBulk d := by
  obtain ⟨base, ok⟩ := ok
  obtain ⟨a0, len, cap, rfl⟩ := okWide_slice Try.underlying64 ok
  obtain ⟨m, hm⟩ := h
  have : Inhabited (List UInt8) := ⟨[]⟩
  obtain ⟨ao, n, cap', l, hcs, h1, h2, h3, h4⟩ := arg_rows (enc := enc) (P := Try.prog) (W := W) 1 stC (fun _ => True) (fun x => x.length + 1) Try.underlying64 Try.cellsString (fun _ => rfl) (by omega) hm (fun k cs' D Pl hr => by
    obtain ⟨s, e2, q2, hs⟩ := DataW.trod_string Try.underlying9 hr
    refine ⟨s.data.toList, e2, trivial, ?_⟩
    have q3 : D = _ := congrArg Prod.fst q2
    rw [q3]
    simp only [Rows.uptoBulk]
    omega)
  simp only [Value.cells, List.cons.injEq, and_true] at hcs
  rw [hcs]
  exact ⟨ao, n, cap', l, rfl, h1, h2, h4⟩
end
end Go.Proofs.Ytnjloldhmjadoaa
