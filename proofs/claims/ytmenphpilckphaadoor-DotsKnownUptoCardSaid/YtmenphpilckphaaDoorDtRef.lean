/- The reader of dotted bodies against the definition's words, in plain lists. No condition but what each states. -/
import Derived.Test.YtmenphpilckphaaDoorDtSpec
namespace Go.Proofs.YtmenphpilckphaaDoor.Dt

theorem lines_append_nil {a : List UInt8} {la : List (List UInt8)} (h : lines a = (la, [])) (b : List UInt8) : lines (a ++ b) = (la ++ (lines b).1, (lines b).2) := by
  induction b using list_snoc_ind with
  | h0 => rw [List.append_nil, h]; simp [lines]
  | h1 l c ih =>
    rw [← List.append_assoc, lines_snoc, ih, lines_snoc]
    unfold ln1
    simp only
    split <;> simp
/-- No line end stands in it. -/
def NoCr (x : List UInt8) : Prop := lines x = ([], x)
theorem NoCr.nil : NoCr [] := rfl
theorem NoCr.snoc {x : List UInt8} {c : UInt8} : NoCr (x ++ [c]) ↔ NoCr x ∧ ¬ (c = 10 ∧ x.getLast? = some 13) := by
  unfold NoCr
  rw [lines_snoc]
  unfold ln1
  constructor
  · intro h
    split at h
    · simp at h
    · rename_i hn
      simp only [Prod.mk.injEq] at h
      have e := List.append_inj_left' h.2 rfl
      refine ⟨Prod.ext h.1 e, ?_⟩
      rw [e] at hn; exact hn
  · rintro ⟨h, hn⟩
    rw [h]; simp only; rw [if_neg hn]
theorem NoCr.dropLast {x : List UInt8} (h : NoCr x) : NoCr x.dropLast := by
  rcases List.eq_nil_or_concat x with rfl | ⟨l, c, rfl⟩
  · exact h
  · rw [List.concat_eq_append] at h ⊢; rw [List.dropLast_concat]; exact (NoCr.snoc.1 h).1
theorem NoCr.tail {a : UInt8} {t : List UInt8} (h : NoCr (a :: t)) : NoCr t := by
  induction t using list_snoc_ind with
  | h0 => rfl
  | h1 l c ih =>
    have h' : NoCr ((a :: l) ++ [c]) := h
    obtain ⟨h1, h2⟩ := NoCr.snoc.1 h'
    refine NoCr.snoc.2 ⟨ih h1, fun e => h2 ⟨e.1, ?_⟩⟩
    have hl : l ≠ [] := by rintro rfl; simp at e
    obtain ⟨x, u, rfl⟩ := List.exists_cons_of_ne_nil hl
    simpa using e.2
theorem NoCr.unst {x : List UInt8} (h : NoCr x) : NoCr (unst x) := by
  unfold Dt.unst
  split
  · cases x with
    | nil => exact h
    | cons a t => exact h.tail
  · exact h
theorem lines_noCr (b : List UInt8) : (∀ x ∈ (lines b).1, NoCr x) ∧ NoCr (lines b).2 := by
  induction b using list_snoc_ind with
  | h0 => exact ⟨by simp [lines], rfl⟩
  | h1 l c ih =>
    rw [lines_snoc]
    unfold ln1
    split
    · refine ⟨?_, rfl⟩
      intro x hx
      simp only [List.mem_append, List.mem_singleton] at hx
      rcases hx with hx | rfl
      · exact ih.1 x hx
      · exact ih.2.dropLast
    · rename_i hn
      exact ⟨ih.1, NoCr.snoc.2 ⟨ih.2, hn⟩⟩
theorem lines_line {x : List UInt8} (h : NoCr x) : lines (x ++ [13, 10]) = ([x], []) := by
  have e : x ++ [13, 10] = (x ++ [13]) ++ [10] := by simp
  rw [e, lines_snoc, lines_snoc, h]
  have e1 : ln1 ([], x) 13 = ([], x ++ [13]) := by simp [ln1]
  rw [e1]; simp [ln1]
theorem lines_rows : ∀ (ls : List (List UInt8)), (∀ x ∈ ls, NoCr x) → lines (ls.flatMap fun x => x ++ [13, 10]) = (ls, [])
  | [], _ => rfl
  | x :: r, h => by
    rw [List.flatMap_cons, lines_append_nil (lines_line (h x (by simp)))]
    rw [lines_rows r (fun y hy => h y (by simp [hy]))]
    rfl
/-- All lines, and what is left, are all bytes. -/
theorem lines_join (b : List UInt8) : ((lines b).1.flatMap fun x => x ++ [13, 10]) ++ (lines b).2 = b := by
  induction b using list_snoc_ind with
  | h0 => rfl
  | h1 l c ih =>
    rw [lines_snoc]
    unfold ln1
    split
    · rename_i hx
      obtain ⟨rfl, hl⟩ := hx
      have hr : (lines l).2 = (lines l).2.dropLast ++ [13] := by
        have hne : (lines l).2 ≠ [] := by intro e; rw [e] at hl; simp at hl
        conv => lhs; rw [← List.dropLast_concat_getLast hne]
        rw [List.getLast?_eq_some_getLast hne] at hl
        simp at hl; rw [hl]
      simp only [List.flatMap_append, List.flatMap_cons, List.flatMap_nil, List.append_nil]
      have e : (lines l).2.dropLast ++ [13, 10] = (lines l).2 ++ [10] := by
        conv => rhs; rw [hr]
        simp
      rw [e, ← List.append_assoc, ih]
    · rw [← List.append_assoc]; simp only; rw [ih]
theorem lines_bodyL (ls : List (List UInt8)) (h : ∀ x ∈ ls, NoCr x) : lines (bodyL ls) = (ls.map unst, []) := by
  have : bodyL ls = (ls.map unst).flatMap fun x => x ++ [13, 10] := by simp [bodyL, List.flatMap_map]
  rw [this]
  exact lines_rows _ (fun x hx => by
    obtain ⟨y, hy, rfl⟩ := List.mem_map.1 hx
    exact (h y hy).unst)

/-! The definition's words. -/
def bareD (b : List UInt8) : Bool := (br b).2 || b.getLast? == some 13
def longD (text : Nat) (b : List UInt8) : Bool := ((lines b).1 ++ [(lines b).2]).any fun x => decide (text < x.length)
def wrongD (text all : Nat) (b : List UInt8) : Int := if bareD b then 130 else if longD text b then 140 else if all < b.length then 150 else 0
/-- The place behind the first line that is one dot. -/
def endGo (at_ : Nat) : List (List UInt8) → Option Nat
  | [] => none
  | x :: r => if x = [46] then some (at_ + x.length + 2) else endGo (at_ + x.length + 2) r
def endD (b : List UInt8) : Option Nat := endGo 0 (lines b).1
def bodyD (b : List UInt8) : List UInt8 := bodyL ((lines b).1.takeWhile (· != [46])) ++ (if [46] ∈ (lines b).1 then [] else restB (lines b).2)

theorem bareD_bodyL (ls : List (List UInt8)) : bareD (bodyL ls) = (br (bodyL ls)).2 := by
  unfold bareD
  rcases bodyL_last ls with e | e <;> rw [e] <;> simp
theorem longD_bodyL (text : Nat) (ls : List (List UInt8)) (h : ∀ x ∈ ls, NoCr x) : longD text (bodyL ls) = long text ls := by
  unfold longD long
  rw [lines_bodyL ls h]
  simp [List.any_append, List.any_map, Function.comp_def]
theorem end_bodyL (text all : Nat) (ls : List (List UInt8)) (h : ∀ x ∈ ls, NoCr x) :
    DS.end all ⟨5, 0, (bodyL ls).length, (br (bodyL ls)).2, long text ls, high (bodyL ls)⟩ = ⟨4, [], [], wrongD text all (bodyL ls), high (bodyL ls)⟩ := by
  unfold DS.end wrongD
  rw [bareD_bodyL, longD_bodyL text ls h]
theorem endGo_none : ∀ (ls : List (List UInt8)) (n : Nat), [46] ∉ ls → endGo n ls = none
  | [], _, _ => rfl
  | x :: r, n, h => by
    have h1 : ¬ x = [46] := fun e => h (by simp [e])
    rw [endGo, if_neg h1, endGo_none r _ (fun e => h (by simp [e]))]
theorem endGo_append : ∀ (a : List (List UInt8)) (r : List (List UInt8)) (n : Nat), [46] ∉ a → endGo n (a ++ [46] :: r) = some (n + (a.flatMap fun x => x ++ [13, 10]).length + 3)
  | [], r, n, _ => by simp [endGo]
  | x :: a, r, n, h => by
    have h1 : ¬ x = [46] := fun e => h (by simp [e])
    rw [List.cons_append, endGo, if_neg h1, endGo_append a r _ (fun e => h (by simp [e]))]
    simp; omega

theorem endGo_more : ∀ (a : List (List UInt8)) (n : Nat) {k : Nat} (t : List (List UInt8)), endGo n a = some k → endGo n (a ++ t) = some k
  | [], n, k, t, h => by simp [endGo] at h
  | x :: a, n, k, t, h => by
    rw [List.cons_append, endGo]
    rw [endGo] at h
    split
    · rename_i e; rw [if_pos e] at h; exact h
    · rename_i e; rw [if_neg e] at h; exact endGo_more a _ t h
/-- A stream in which a line is one dot: where the first one ends. -/
theorem end_split (b : List UInt8) : [46] ∈ (lines b).1 → ∃ p z, b = p ++ 10 :: z ∧ [46] ∉ (lines p).1 ∧ (lines p).2 = [46, 13] ∧ endD b = some (p.length + 1) := by
  induction b using list_snoc_ind with
  | h0 => intro h; simp [lines] at h
  | h1 l c ih =>
    intro h
    by_cases hl : [46] ∈ (lines l).1
    · obtain ⟨p, z, e, h1, h2, h3⟩ := ih hl
      refine ⟨p, z ++ [c], by rw [e]; simp, h1, h2, ?_⟩
      unfold endD at h3 ⊢
      have hx : ∃ t, (lines (l ++ [c])).1 = (lines l).1 ++ t := by
        rw [lines_snoc]; unfold ln1; split
        · exact ⟨_, rfl⟩
        · exact ⟨[], by simp⟩
      obtain ⟨t, ht⟩ := hx
      rw [ht]
      exact endGo_more _ _ t h3
    · rw [lines_snoc] at h
      have := (ln1_mem (ls := (lines l).1) (r := (lines l).2) (c := c)).1 h
      rcases this with e | ⟨e1, e2⟩
      · exact absurd e hl
      · subst e2
        refine ⟨l, [], by simp, hl, e1, ?_⟩
        unfold endD
        rw [lines_snoc]
        have : ln1 (lines l) 10 = ((lines l).1 ++ [[46]], []) := by
          unfold ln1; rw [e1]; simp
        rw [this, endGo_append _ _ _ hl]
        have hj := congrArg List.length (lines_join l)
        rw [e1] at hj
        simp only [List.length_append, List.length_cons, List.length_nil] at hj
        simp only [Option.some.injEq]; omega
end Go.Proofs.YtmenphpilckphaaDoor.Dt
