/- The arguments of the rate laws, opened: a pace, a script, strings. The document's Check walked. No condition but what each states. -/
import Derived.Test.YtplkoephgmdgkaaRtA1
namespace Go.Proofs.Ytplkoephgmdgkaa
open Go Go.RowKit Rt Go.Maps Go.ChangeShapes Go.WideShapes Go.ChangeAt
set_option linter.unusedVariables false
structure Sv where
  kind : Int
  who : Int
  key : ByteArray
  now : Int
  x : Nat
def svC (s : Sv) : List Value := [.int .i64 s.kind, .int .i64 s.who, .string s.key, .int .i64 s.now, .float .f64 s.x]
structure SvOk (s : Sv) : Prop where
  key : s.key.size ≤ maxLen
  x : F64 s.x
  now : -9223372036854775808 ≤ s.now ∧ s.now ≤ 9223372036854775807
theorem Try.cellsStep : Try.prog.cellsOf 36 = 5 := by kernel_rfl
theorem Try.cellsPace : Try.prog.cellsOf 24 = 3 := by kernel_rfl
theorem Try.cellsStr : Try.prog.cellsOf 9 = 1 := by kernel_rfl
set_option maxRecDepth 100000 in
theorem arg_steps {H : Type} {enc : TypeId × Value → H} {W : World} {v : Value} {d : DataW H} {p : List MemPlace} (ok : ∃ base, Value.okWide Try.prog W .any base 25 v) (h : DataW.Trod enc Try.prog W 0 (fun _ => true) true 25 v d p) :
    ∃ (ao : Option Addr) (cap : Nat) (l : List Sv), v = .slice ao l.length cap ∧ Rd W (.slice ao l.length cap) 5 (l.flatMap svC) ∧ (∀ s ∈ l, SvOk s) ∧ l.length + 1 ≤ Rows.uptoBulk d := by
  obtain ⟨base, ok⟩ := ok
  obtain ⟨a0, len, cap, rfl⟩ := okWide_slice Try.underlying25 ok
  obtain ⟨m, hm⟩ := h
  have : Inhabited Sv := ⟨⟨0, 0, ⟨#[]⟩, 0, 0⟩⟩
  obtain ⟨ao, n, cap', l, hcs, h1, h2, h3, h4⟩ := arg_rows (enc := enc) (P := Try.prog) (W := W) 5 svC SvOk (fun _ => 1) Try.underlying25 Try.cellsStep (fun _ => rfl) (by omega) hm (fun k cs' D Pl hr => by
    obtain ⟨xs, n, _, hxy, hlen, hxl, hf⟩ := DataW.trod_struct Try.underlying36 hr
    rw [Try.cellsStep] at hlen
    match xs, hxl, cs', hlen with
    | [y0, y1, y2, y3, y4], _, [v0, v1, v2, v3, v4], _ =>
      have g0 := hf 0 _ rfl
      have g1 := hf 1 _ rfl
      have g2 := hf 2 _ rfl
      have g3 := hf 3 _ rfl
      have g4 := hf 4 _ rfl
      have ci : Try.prog.cellsOf 3 = 1 := by kernel_rfl
      have ci6 : Try.prog.cellsOf 2 = 1 := by kernel_rfl
      simp [ci, ci6, Try.cellsStr, Try.cellsF64] at g0 g1 g2 g3 g4
      obtain ⟨z0, e0, q0, w0⟩ := DataW.trod_int Try.underlying3 g0
      obtain ⟨z1, e1, q1, w1⟩ := DataW.trod_int Try.underlying3 g1
      obtain ⟨s, e2, q2, hs⟩ := DataW.trod_string Try.underlying9 g2
      obtain ⟨z3, e3, q3, w3⟩ := DataW.trod_int Try.underlying2 g3
      obtain ⟨b, e4, hb⟩ := trod_float Try.underlying22 g4
      simp at e0 e1 e2 e3 e4
      refine ⟨⟨z0, z1, s, z3, b⟩, ?_, ⟨hs, hb, i64_bounds w3⟩, bulk_one _⟩
      simp [svC, e0, e1, e2, e3, e4])
  simp [Value.cells] at hcs
  obtain ⟨rfl, rfl, rfl⟩ := hcs
  subst h2
  rw [sum_ones] at h4
  exact ⟨a0, cap, l, rfl, h1, h3, h4⟩
set_option maxRecDepth 100000 in
theorem arg_pace {H : Type} {enc : TypeId × Value → H} {W : World} {v : Value} {d : DataW H} {p : List MemPlace} (ok : ∃ base, Value.okWide Try.prog W .any base 24 v) (h : DataW.Trod enc Try.prog W 0 (fun _ => true) true 24 v d p) :
    ∃ a b c : Nat, v = paceV a b c ∧ F64 a ∧ F64 b ∧ F64 c := by
  obtain ⟨base, ok⟩ := ok
  obtain ⟨cs, rfl, hcs⟩ := okWide_struct Try.underlying24 ok
  obtain ⟨m, hm⟩ := h
  simp only [Value.cells] at hm
  obtain ⟨xs, n', _, hxy, hlen, hxl, hf⟩ := DataW.trod_struct Try.underlying24 hm
  rw [Try.cellsPace] at hlen
  match xs, hxl, hcl : cs.toList, hlen with
  | [y0, y1, y2], _, [v0, v1, v2], _ =>
    rw [hcl] at hf
    have g0 := hf 0 _ rfl
    have g1 := hf 1 _ rfl
    have g2 := hf 2 _ rfl
    simp [Try.cellsF64] at g0 g1 g2
    obtain ⟨a, e0, ha⟩ := trod_float Try.underlying22 g0
    obtain ⟨b, e1, hb⟩ := trod_float Try.underlying22 g1
    obtain ⟨c, e2, hc⟩ := trod_float Try.underlying22 g2
    simp at e0 e1 e2
    refine ⟨a, b, c, ?_, ha, hb, hc⟩
    have ec : cs = #[v0, v1, v2] := by rw [← Array.toArray_toList (xs := cs), hcl]
    rw [ec, e0, e1, e2]; rfl
set_option maxRecDepth 100000 in
theorem arg_strs {H : Type} {enc : TypeId × Value → H} {W : World} {v : Value} {d : DataW H} {p : List MemPlace} (ok : ∃ base, Value.okWide Try.prog W .any base 56 v) (h : DataW.Trod enc Try.prog W 0 (fun _ => true) true 56 v d p) :
    ∃ (ao : Option Addr) (cap : Nat) (l : List ByteArray), v = .slice ao l.length cap ∧ Rd W (.slice ao l.length cap) 1 (strs l) ∧ (∀ s ∈ l, s.size ≤ maxLen) ∧ l.length + 1 ≤ Rows.uptoBulk d := by
  obtain ⟨base, ok⟩ := ok
  obtain ⟨a0, len, cap, rfl⟩ := okWide_slice Try.underlying56 ok
  obtain ⟨m, hm⟩ := h
  have : Inhabited ByteArray := ⟨⟨#[]⟩⟩
  obtain ⟨ao, n, cap', l, hcs, h1, h2, h3, h4⟩ := arg_rows (enc := enc) (P := Try.prog) (W := W) 1 (fun s => [Value.string s]) (fun s => s.size ≤ maxLen) (fun _ => 1) Try.underlying56 Try.cellsStr (fun _ => rfl) (by omega) hm (fun k cs' D Pl hr => by
    obtain ⟨s, e2, q2, hs⟩ := DataW.trod_string Try.underlying9 hr
    exact ⟨s, e2, hs, bulk_one _⟩)
  simp [Value.cells] at hcs
  obtain ⟨rfl, rfl, rfl⟩ := hcs
  subst h2
  rw [flat_one] at h1
  rw [sum_ones] at h4
  exact ⟨a0, cap, l, rfl, h1, h3, h4⟩
end Go.Proofs.Ytplkoephgmdgkaa
