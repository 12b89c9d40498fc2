/- What rows, and a chunk with a row behind it, come to. No condition but what each states. -/
import Derived.Test.YtnjloldhmjadoaaPlInv
import Derived.Test.YtnjloldhmjadoaaFrA1
namespace Go.Proofs.Ytnjloldhmjadoaa.Pl
open Go.Proofs.Ytnjloldhmjadoaa Ln Dt Fr

theorem take_row (most : Nat) : ∀ (p : List UInt8) (s : LS) (r : List UInt8), s.cr = false → s.why = 0 → s.text.length + p.length ≤ most → (∀ c ∈ p, pf c = true) → Ln.take (most : Int) s (p ++ 13 :: 10 :: r) = (p.length + 2, ⟨1, s.text ++ p, 0⟩, LS.new)
  | [], s, r, hc, hw, _, _ => by
    have e1 : s.ends 13 = false := by simp [LS.ends, hc]
    have e2 : (s.next most 13).ends 10 = true := by rw [next_cr hc rfl]; rfl
    simp only [List.nil_append, Ln.take, e1, e2, if_true, Bool.false_eq_true, if_false]
    rw [next_cr hc rfl]
    simp [LS.item, hw]
  | c :: p, s, r, hc, hw, hl, hp => by
    have h := hp c (by simp)
    have h13 : c ≠ 13 := by rintro rfl; simp [pf] at h
    have h10 : c ≠ 10 := by rintro rfl; simp [pf] at h
    have he : s.ends c = false := by simp [LS.ends, hc]
    have hn : s.next most c = { s with cr := false, text := s.text ++ [c] } := next_more hc h10 h13 hw (by simp at hl; omega)
    have ih := take_row most p { s with cr := false, text := s.text ++ [c] } r rfl hw (by simp at hl ⊢; omega) (fun x hx => hp x (by simp [hx]))
    rw [List.cons_append, Ln.take, if_neg (by simp [he]), hn, ih]
    simp
def rowIt (p : List UInt8) : It := ⟨1, p, [], 0, false⟩
/-- A row with its end, where nothing is under way. -/
theorem row_run {L : Lim} {ts : List Tn} {S' : PS} (p : List UInt8) (hp : ∀ c ∈ p, pf c = true) (hl : p.length ≤ L.line) (out : List It) (t : Nat) (r : List UInt8)
    (k : Run L ts (turned ts ⟨FM.new, out ++ [rowIt p], t⟩) r S') : Run L ts ⟨FM.new, out, t⟩ (p ++ 13 :: 10 :: r) S' := by
  have h := take_row L.line p LS.new r rfl rfl (by simpa [LS.new] using hl) hp
  have hr := (lines_run (L := L) (ts := ts) (S' := S') (p ++ 13 :: 10 :: r) LS.new false out t).2
  rw [h] at hr
  refine hr (by simp) ?_
  have e : (p ++ 13 :: 10 :: r).drop (p.length + 2) = r := by
    rw [List.drop_append, List.drop_of_length_le (by omega)]
    simp
  simp only [e]
  have e2 : tell ts ⟨FM.lines LS.new false, out, t⟩ (ofItm ⟨1, LS.new.text ++ p, 0⟩) FM.new = turned ts ⟨FM.new, out ++ [rowIt p], t⟩ := by
    simp [tell, ofItm, rowIt, LS.new]
  rw [e2]; exact k
/-- Rows, and nothing called behind them. -/
theorem rows_run {L : Lim} : ∀ (ps : List (List UInt8)) (out : List It), (∀ p ∈ ps, (∀ c ∈ p, pf c = true) ∧ p.length ≤ L.line) → Run L [] ⟨FM.new, out, 0⟩ (ps.flatMap fun p => p ++ [13, 10]) ⟨FM.new, out ++ ps.map rowIt, 0⟩
  | [], out, _ => by simpa using Run.done rfl
  | p :: ps, out, h => by
    have ih := rows_run ps (out ++ [rowIt p]) (fun x hx => h x (by simp [hx]))
    have := row_run (L := L) (ts := []) p (h p (by simp)).1 (h p (by simp)).2 out 0 (ps.flatMap fun p => p ++ [13, 10]) (by simpa [turned] using ih)
    simpa using this
def endIt : It := ⟨4, [], [], 0, false⟩
/-- A chunk behind an empty row, and a row behind it. -/
theorem chunk_row {L : Lim} (oct : List UInt8) (room : Nat) (p : List UInt8) (hp : ∀ c ∈ p, pf c = true) (hl : p.length ≤ L.line) :
    Run L [⟨2, oct.length, room⟩, ⟨0, 0, 0⟩, ⟨0, 0, 0⟩] PS.new ([13, 10] ++ oct ++ (p ++ [13, 10]))
      ⟨FM.new, [rowIt []] ++ (if oct.take room = [] then [] else [It.body (oct.take room)]) ++ [endIt, rowIt p], 3⟩ := by
  have h1 : [13, 10] ++ oct ++ (p ++ [13, 10]) = [] ++ 13 :: 10 :: (oct ++ (p ++ [13, 10])) := by simp
  rw [h1]
  refine row_run [] (by simp) (by simp) [] 0 _ ?_
  have h2 : turned [⟨2, oct.length, room⟩, ⟨0, 0, 0⟩, ⟨0, 0, 0⟩] ⟨FM.new, [] ++ [rowIt []], 0⟩ = ⟨.chunk oct.length room, [rowIt []], 1⟩ := by
    have e1 : (max 0 (oct.length : Int)) = oct.length := by omega
    have e2 : (max 0 (room : Int)) = room := by omega
    have e3 : ¬ ((oct.length : Int) < 0 ∨ (room : Int) < 0) := by omega
    simp only [turned, turnAt, Tn.act, FM.new]
    simp [FM.chunk?, e1, e2, e3]
  rw [h2]
  refine chunk_run _ _ _ _ _ ?_
  have h3 : min (oct ++ (p ++ [13, 10])).length oct.length = oct.length := by simp
  rw [h3]
  have h4 : (oct ++ (p ++ [13, 10])).take (min oct.length room) = oct.take room := by
    rw [List.take_append_of_le_length (by omega)]
    by_cases h : room ≤ oct.length
    · rw [Nat.min_eq_right h]
    · rw [Nat.min_eq_left (by omega), List.take_of_length_le (by omega), List.take_of_length_le (by omega)]
  rw [h4, List.drop_left]
  refine .pend (by simp [pend]) ?_
  have h5 : tell [⟨2, oct.length, room⟩, ⟨0, 0, 0⟩, ⟨0, 0, 0⟩] ⟨.chunk (oct.length - oct.length) (room - min oct.length room), addB [rowIt []] (oct.take room), 1⟩ (pendIt L (.chunk (oct.length - oct.length) (room - min oct.length room))) FM.new = ⟨FM.new, addB [rowIt []] (oct.take room) ++ [endIt], 2⟩ := by
    simp [tell, pendIt, turned, turnAt, Tn.act, endIt]
  rw [h5]
  refine row_run p hp hl _ _ [] ?_
  have h6 : turned [⟨2, oct.length, room⟩, ⟨0, 0, 0⟩, ⟨0, 0, 0⟩] ⟨FM.new, addB [rowIt []] (oct.take room) ++ [endIt] ++ [rowIt p], 2⟩ = ⟨FM.new, [rowIt []] ++ (if oct.take room = [] then [] else [It.body (oct.take room)]) ++ [endIt, rowIt p], 3⟩ := by
    have e : addB [rowIt []] (oct.take room) = [rowIt []] ++ (if oct.take room = [] then [] else [It.body (oct.take room)]) := by
      unfold addB
      split
      · rename_i h; simp
      · rename_i h; simp [rowIt]
    rw [e]
    simp [turned, turnAt, Tn.act]
  rw [h6]
  exact .done rfl
end Go.Proofs.Ytnjloldhmjadoaa.Pl
