/- What was told, stuffed, is the stream; the definition's reader beside the machine: plain. No condition but what each states. -/
import Derived.Test.YtmenphpilckphaaDoorDtHld
namespace Go.Proofs.YtmenphpilckphaaDoor.Dt
open Go

theorem rows_mem_len (ls : List (List UInt8)) (x : List UInt8) (h : x ∈ ls) : x.length + 2 ≤ (rows ls).length := by
  unfold rows
  rw [List.length_flatMap]
  have := mem_le_sum _ _ (List.mem_map.2 ⟨x, h, rfl⟩ : (x ++ [13, 10]).length ∈ ls.map fun x => (x ++ [13, 10]).length)
  simp only [List.length_append, List.length_cons, List.length_nil] at this ⊢
  exact this
/-- Of a body with limits beyond its length: what may be wrong. -/
theorem end_why (text all : Nat) (b : List UInt8) (h : (hd text all b).ended = true) (ht : b.length ≤ text) (ha : b.length ≤ all) :
    ∃ p z, b = p ++ 10 :: z ∧ [46] ∉ (lines p).1 ∧ (lines p).2 = [46, 13] ∧ (hd text all b).taken = p.length + 1 ∧ (hd text all b).told = bodyL (lines p).1 ∧ (hd text all b).fin.why = (if bareD (bodyL (lines p).1) then 130 else 0) ∧ p = rows (lines p).1 ++ [46, 13] := by
  by_cases h46 : [46] ∈ (lines b).1
  · obtain ⟨p, z, e, h1, h2, _⟩ := end_split b h46
    have hf := feed_end text p h1 h2
    have hb : b = (p ++ [10]) ++ z := by rw [e]; simp
    have h5 : (fed text (p ++ [10])).2.1.st = 5 := by unfold fed; rw [hf]
    have hfed : fed text b = fed text (p ++ [10]) := by rw [hb]; exact fed_done z h5
    have hlen : p.length + 1 ≤ b.length := by rw [e]; simp
    have hj := lines_join p
    rw [h2] at hj
    have hpl : (rows (lines p).1).length + 2 = p.length := by
      conv => rhs; rw [← hj]
      simp [rows]
    have hbl := bodyL_len (lines p).1
    have hnc := (lines_noCr p).1
    refine ⟨p, z, e, h1, h2, ?_, ?_, ?_, by unfold rows; exact hj.symm⟩
    · simp only [hd, hfed]; unfold fed; rw [hf]
    · simp only [hd, hfed]; unfold fed; rw [hf]; simp only
      exact List.take_of_length_le (by omega)
    · simp only [hd, hfed]; unfold fed; rw [hf]
      simp only [if_true]
      unfold DS.end
      simp only
      rw [← bareD_bodyL]
      have hlong : long text (lines p).1 = false := by
        unfold long
        rw [List.any_eq_false]
        intro x hx
        simp only [decide_eq_true_eq, Nat.not_lt]
        have := rows_mem_len _ x hx
        have := unst_len x
        omega
      rw [hlong, if_neg (show ¬ (all < (bodyL (lines p).1).length) by omega)]
      simp
  · exfalso
    have hf := feed_lines text b h46
    simp only [hd, decide_eq_true_eq] at h
    unfold fed at h
    rw [hf] at h
    exact mk_ne _ _ _ h
/-- A line of it begins with one dot alone. -/
def oneDot (b : List UInt8) (i : Nat) : Bool := decide (i + 3 < b.length) && b[i]? == some 46 && b[i + 1]? != some 46
theorem begins_row (L : List UInt8) (hL : lines L = ((lines L).1, [])) (r : List UInt8) : L.length ∈ beginsN (L ++ r) := by
  have hf := (lines_rest_fresh L).1 (by rw [hL])
  rw [begins_mem]
  unfold fresh at hf
  by_cases h0 : L = []
  · left; rw [h0]; rfl
  · right
    simp only [h0, decide_false, Bool.false_or, Bool.and_eq_true, decide_eq_true_eq] at hf
    refine ⟨hf.1, by simp, ?_⟩
    have := hf.2
    unfold begF at this ⊢
    rw [List.getElem?_append_left (by omega), List.getElem?_append_left (by omega)]
    exact this
theorem rows_append (a b : List (List UInt8)) : rows (a ++ b) = rows a ++ rows b := by simp [rows]
/-- Of a stream whose lines that begin with a dot begin with two: the lines that are told, dotted again, are its lines. -/
theorem dots_two (ls : List (List UInt8)) (hn : ∀ x ∈ ls, NoCr x) (h46 : [46] ∉ ls) (h : ∀ i ∈ beginsN (rows ls ++ [46, 13, 10]), oneDot (rows ls ++ [46, 13, 10]) i = false) : ∀ x ∈ ls, dot (unst x) = x := by
  intro x hx
  obtain ⟨a, c, rfl⟩ := List.append_of_mem hx
  have hna : ∀ y ∈ a, NoCr y := fun y hy => hn y (by simp [hy])
  have hm : (rows a).length ∈ beginsN (rows (a ++ x :: c) ++ [46, 13, 10]) := by
    rw [rows_append, List.append_assoc]
    exact begins_row _ (by rw [lines_rows' _ hna]) _
  have ho := h _ hm
  unfold dot unst
  cases x with
  | nil => rfl
  | cons d t =>
    by_cases hd : d = 46
    · subst hd
      cases t with
      | nil => exact absurd hx h46
      | cons e u =>
        unfold oneDot at ho
        have hpos : rows (a ++ (46 :: e :: u) :: c) ++ [46, 13, 10] = rows a ++ (46 :: e :: (u ++ [13, 10] ++ rows c ++ [46, 13, 10])) := by
          rw [rows_append]; simp [rows]
        rw [hpos] at ho
        rw [List.getElem?_append_right (Nat.le_refl _), List.getElem?_append_right (by omega)] at ho
        rw [show (rows a).length - (rows a).length = 0 from by omega, show (rows a).length + 1 - (rows a).length = 1 from by omega] at ho
        simp only [List.getElem?_cons_zero, List.getElem?_cons_succ, List.length_append, List.length_cons] at ho
        have hl : decide ((rows a).length + 3 < (rows a).length + (u.length + ([] : List UInt8).length.succ.succ + (rows c).length + ([] : List UInt8).length.succ.succ.succ + 1 + 1)) = true := by
          simp
        simp only [List.length_nil, Nat.succ_eq_add_one] at hl
        simp only [List.length_nil] at ho
        have he : e = 46 := by
          simp only [beq_self_eq_true, Bool.and_true, Bool.and_eq_false_iff] at ho
          rcases ho with ho | ho
          · rw [decide_eq_false_iff_not] at ho; omega
          · simpa using ho
        subst he
        simp
    · simp [hd]
/-- What was told, stuffed, is the stream. -/
theorem again_law (text all : Nat) (b : List UInt8) (h : (hd text all b).ended = true) (ht : b.length ≤ text) (ha : b.length ≤ all) (hw : (hd text all b).fin.why = 0)
    (hone : ∀ i ∈ beginsN (b.take (hd text all b).taken), oneDot (b.take (hd text all b).taken) i = false) :
    lookP (hd text all b).told = 0 ∧ stuffP (hd text all b).told = b.take (hd text all b).taken := by
  obtain ⟨p, z, e, h1, h2, h3, h4, h5, h6⟩ := end_why text all b h ht ha
  rw [hw] at h5
  have hbare : bareD (bodyL (lines p).1) = false := by
    cases hb : bareD (bodyL (lines p).1) with
    | false => rfl
    | true => rw [hb] at h5; simp at h5
  have hpiece : b.take (hd text all b).taken = rows (lines p).1 ++ [46, 13, 10] := by
    rw [h3, e]
    have : p ++ 10 :: z = (p ++ [10]) ++ z := by simp
    rw [this, List.take_left' (by simp)]
    conv => lhs; rw [h6]
    simp
  have hnc := (lines_noCr p).1
  rw [hpiece] at hone ⊢
  have hdd := dots_two _ hnc h1 hone
  have hlb := lines_bodyL (lines p).1 hnc
  have hlook : lookP (bodyL (lines p).1) = 0 := by
    rw [look_whole]; unfold wholeP
    rw [bareI_bareD, hbare, hlb]; simp
  rw [h4]
  refine ⟨hlook, ?_⟩
  rw [stuff_ref hlook]
  unfold stuffR
  rw [hlb]
  simp only
  congr 2
  rw [List.map_map]
  have : ∀ l : List (List UInt8), (∀ x ∈ l, dot (unst x) = x) → l.map (dot ∘ unst) = l := by
    intro l
    induction l with
    | nil => intro _; rfl
    | cons a r ih => intro g; rw [List.map_cons, ih (fun x hx => g x (by simp [hx]))]; simp [g a (by simp)]
  exact this _ hdd
/-- Why of a body that ended, with limits beyond its length. -/
theorem why_law (text all : Nat) (b : List UInt8) (h : (hd text all b).ended = true) (ht : b.length ≤ text) (ha : b.length ≤ all) : (hd text all b).fin.why = 130 ∨ (hd text all b).fin.why = 0 := by
  obtain ⟨p, z, e, h1, h2, h3, h4, h5, h6⟩ := end_why text all b h ht ha
  rw [h5]; split
  · exact .inl rfl
  · exact .inr rfl
end Go.Proofs.YtmenphpilckphaaDoor.Dt
