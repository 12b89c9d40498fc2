/- Lines, index by index: plain. No condition but what each states. -/
import Derived.Test.YtmenphpilckphaaDoorDtStf
namespace Go.Proofs.YtmenphpilckphaaDoor.Dt

/-- Where the definition's loop stands at index i: the lines so far, and where the one under way begins. -/
structure LnAt (b : List UInt8) (i f : Nat) (L : List (List UInt8)) : Prop where
  is : lines (b.take (i + 1)) = (L, (b.take (i + 1)).drop f)
  le : f ≤ i + 1
  lf : f = 0 ∨ b[f - 1]? = some 10
theorem LnAt.start (b : List UInt8) : LnAt b 0 0 [] := by
  refine ⟨?_, by omega, .inl rfl⟩
  cases b with
  | nil => rfl
  | cons c r => simp [lines, ln1]
theorem LnAt.hit {b : List UInt8} {i f : Nat} {L : List (List UInt8)} (h : LnAt b i f L) (h1 : b[i]? = some 13) (h2 : b[i + 1]? = some 10) : LnAt b (i + 1) (i + 2) (L ++ [(b.take i).drop f]) ∧ f ≤ i := by
  obtain ⟨h0, hle, hlf⟩ := h
  have hf : f ≤ i := by
    rcases hlf with e | e
    · omega
    · rcases Nat.lt_or_ge i f with g | g
      · have : f - 1 = i := by omega
        rw [this, h1] at e; cases e
      · exact g
  obtain ⟨hi, e1⟩ := List.getElem?_eq_some_iff.1 h1
  obtain ⟨hi2, e2⟩ := List.getElem?_eq_some_iff.1 h2
  have t1 : b.take (i + 1 + 1) = b.take (i + 1) ++ [10] := by rw [List.take_succ_eq_append_getElem hi2, e2]
  have t2 : b.take (i + 1) = b.take i ++ [13] := by rw [List.take_succ_eq_append_getElem hi, e1]
  have t3 : (b.take (i + 1)).drop f = (b.take i).drop f ++ [13] := by
    rw [t2, List.drop_append_of_le_length (by rw [List.length_take]; omega)]
  refine ⟨⟨?_, by omega, .inr (by simpa using h2)⟩, hf⟩
  rw [t1, lines_snoc, h0]
  unfold ln1
  simp only
  rw [t3, if_pos (by simp)]
  have : (b.take (i + 1) ++ [10]).drop (i + 2) = [] := List.drop_eq_nil_of_le (by simp; omega)
  rw [this]
  simp
theorem LnAt.miss {b : List UInt8} {i f : Nat} {L : List (List UInt8)} (h : LnAt b i f L) (hi : i + 1 < b.length) (hn : ¬ (b[i]? = some 13 ∧ b[i + 1]? = some 10)) : LnAt b (i + 1) f L := by
  obtain ⟨h0, hle, hlf⟩ := h
  have hi0 : i < b.length := by omega
  have t1 : b.take (i + 1 + 1) = b.take (i + 1) ++ [b[i + 1]] := List.take_succ_eq_append_getElem hi
  have t2 : b.take (i + 1) = b.take i ++ [b[i]] := List.take_succ_eq_append_getElem hi0
  refine ⟨?_, by omega, hlf⟩
  rw [t1, lines_snoc, h0]
  unfold ln1
  simp only
  rw [List.drop_append_of_le_length (by rw [List.length_take]; omega)]
  rw [if_neg]
  rintro ⟨g1, g2⟩
  have g3 : f ≤ i := by
    rcases Nat.lt_or_ge i f with g | g
    · rw [List.drop_eq_nil_of_le (by rw [List.length_take]; omega)] at g2; simp at g2
    · exact g
  rw [t2, List.drop_append_of_le_length (by rw [List.length_take]; omega)] at g2
  simp at g2
  apply hn
  rw [List.getElem?_eq_getElem hi0, List.getElem?_eq_getElem hi, g1, g2]
  exact ⟨rfl, rfl⟩
theorem LnAt.done {b : List UInt8} {i f : Nat} {L : List (List UInt8)} (h : LnAt b i f L) (hi : b.length ≤ i + 1) : lines b = (L, b.drop f) := by
  have := h.is
  rw [List.take_of_length_le hi] at this
  exact this
/-- Check, by the definition's words. -/
def checkR (b : List UInt8) (text : Int) : Int := if text < 1 ∨ 16777216 < text then 2 else if wholeP b = 0 ∧ longD text.toNat b = true then 140 else wholeP b
theorem check_ref (b : List UInt8) (text : Int) : checkP b text = checkR b text := by
  unfold checkP checkR
  split
  · rfl
  · rw [look_whole]
    by_cases h : wholeP b = 0
    · rw [if_neg (by simpa using h), h]
      by_cases h2 : longD text.toNat b = true
      · rw [if_pos h2, if_pos ⟨rfl, h2⟩]
      · rw [if_neg h2, if_neg (fun e => h2 e.2)]
    · rw [if_pos h, if_neg (fun e => h e.1)]
theorem rows_append' (a b : List (List UInt8)) : rows (a ++ b) = rows a ++ rows b := by simp [rows]
theorem rows_mem_len' (ls : List (List UInt8)) (x : List UInt8) (h : x ∈ ls) : x.length + 2 ≤ (rows ls).length := by
  unfold rows
  rw [List.length_flatMap]
  have := mem_le_sum _ _ (List.mem_map.2 ⟨x, h, rfl⟩ : (x ++ [13, 10]).length ∈ ls.map fun x => (x ++ [13, 10]).length)
  simp only [List.length_append, List.length_cons, List.length_nil] at this ⊢
  exact this
theorem rows_snoc (ls : List (List UInt8)) (x : List UInt8) : rows (ls ++ [x]) = rows ls ++ (x ++ [13, 10]) := by simp [rows]
end Go.Proofs.YtmenphpilckphaaDoor.Dt
