/- Places at which lines begin; what is held; what was told, stuffed: plain. No condition but what each states. -/
import Derived.Test.YtmenphpilckphaaDoorDtStf
namespace Go.Proofs.YtmenphpilckphaaDoor.Dt
open Go

/-- The places at which lines begin. -/
def begF (b : List UInt8) (i : Nat) : Bool := b[i - 2]? == some 13 && b[i - 1]? == some 10
def beginsN (b : List UInt8) : List Nat := 0 :: ((List.range' 2 (b.length - 1)).filter (begF b))
def dropN (b : List UInt8) : Nat := (beginsN b).countP fun at_ => b[at_]? == some 46
/-- .. of what is known line by line. -/
def h46 (x : List UInt8) : Nat := if x.head? = some 46 then 1 else 0
def dropL (p : List (List UInt8) × List UInt8) : Nat := (p.1.map h46).sum + h46 p.2

theorem countP_congr' {α : Type} {p q : α → Bool} : ∀ (l : List α), (∀ a ∈ l, p a = q a) → l.countP p = l.countP q
  | [], _ => rfl
  | a :: l, h => by
    rw [List.countP_cons, List.countP_cons, countP_congr' l (fun b hb => h b (by simp [hb])), h a (by simp)]
theorem filter_congr' {α : Type} {p q : α → Bool} : ∀ (l : List α), (∀ a ∈ l, p a = q a) → l.filter p = l.filter q
  | [], _ => rfl
  | a :: l, h => by
    rw [List.filter_cons, List.filter_cons, filter_congr' l (fun b hb => h b (by simp [hb])), h a (by simp)]

/-- Behind a line's end, or at the beginning. -/
def fresh (b : List UInt8) : Bool := decide (b = []) || (decide (2 ≤ b.length) && begF b b.length)
theorem begins_snoc (b : List UInt8) (c : UInt8) : beginsN (b ++ [c]) = beginsN b ++ (if 2 ≤ b.length + 1 ∧ begF (b ++ [c]) (b.length + 1) = true then [b.length + 1] else []) := by
  unfold beginsN
  rw [List.length_append, List.length_singleton]
  by_cases h0 : b.length = 0
  · have : b = [] := List.eq_nil_of_length_eq_zero h0
    subst this
    simp
  · have e : b.length + 1 - 1 = (b.length - 1) + 1 := by omega
    rw [e, List.range'_concat, List.filter_append]
    have e2 : (List.range' 2 (b.length - 1)).filter (begF (b ++ [c])) = (List.range' 2 (b.length - 1)).filter (begF b) := by
      refine filter_congr' _ fun i hi => ?_
      rw [List.mem_range'_1] at hi
      unfold begF
      rw [List.getElem?_append_left (by omega), List.getElem?_append_left (by omega)]
    rw [e2]
    have e3 : 2 + 1 * (b.length - 1) = b.length + 1 := by omega
    rw [e3, List.cons_append]
    congr 2
    by_cases hb : begF (b ++ [c]) (b.length + 1) = true
    · rw [if_pos ⟨by omega, hb⟩]; simp [hb]
    · rw [if_neg (fun h => hb h.2)]; simp [hb]
theorem begins_le (b : List UInt8) : ∀ i ∈ beginsN b, i ≤ b.length := by
  intro i hi
  unfold beginsN at hi
  rcases List.mem_cons.1 hi with rfl | hi
  · omega
  · have := (List.mem_filter.1 hi).1
    rw [List.mem_range'_1] at this
    omega
theorem begins_mem (b : List UInt8) (i : Nat) : i ∈ beginsN b ↔ i = 0 ∨ (2 ≤ i ∧ i ≤ b.length ∧ begF b i = true) := by
  unfold beginsN
  rw [List.mem_cons, List.mem_filter, List.mem_range'_1]
  constructor
  · rintro (h | ⟨⟨h1, h2⟩, h3⟩)
    · exact .inl h
    · exact .inr ⟨h1, by omega, h3⟩
  · rintro (h | ⟨h1, h2, h3⟩)
    · exact .inl h
    · exact .inr ⟨⟨h1, by omega⟩, h3⟩
theorem begins_last (b : List UInt8) : (beginsN b).countP (fun i => i == b.length) = if fresh b then 1 else 0 := by
  unfold beginsN fresh
  rw [List.countP_cons]
  by_cases h0 : b = []
  · subst h0; rfl
  · have hl : 0 < b.length := List.length_pos_iff.2 h0
    have e0 : ((0 : Nat) == b.length) = false := by simpa using (by omega : ¬ (0 = b.length))
    rw [e0]
    simp only [h0, decide_false, Bool.false_or]
    by_cases h1 : b.length = 1
    · rw [h1]; rfl
    · have e : b.length - 1 = (b.length - 2) + 1 := by omega
      rw [e, List.range'_concat, List.filter_append, List.countP_append]
      have e3 : 2 + 1 * (b.length - 2) = b.length := by omega
      rw [e3]
      have z : ((List.range' 2 (b.length - 2)).filter (begF b)).countP (fun i => i == b.length) = 0 := by
        rw [List.countP_eq_zero]
        intro i hi
        have := (List.mem_filter.1 hi).1
        rw [List.mem_range'_1] at this
        simp; omega
      rw [z, show decide (2 ≤ b.length) = true from by simpa using (by omega : 2 ≤ b.length)]
      cases hbb : begF b b.length <;> simp [hbb]
theorem lines_rest_fresh (b : List UInt8) : (lines b).2 = [] ↔ fresh b = true := by
  unfold fresh
  rcases List.eq_nil_or_concat b with rfl | ⟨l, c, rfl⟩
  · simp [lines]
  · rw [List.concat_eq_append, lines_snoc]
    unfold ln1
    have hlast : (lines l).2.getLast? = some 13 ↔ l.getLast? = some 13 := by
      have hj := lines_join l
      rcases List.eq_nil_or_concat (lines l).2 with e | ⟨m, d, e⟩
      · rw [e, List.append_nil] at hj
        rw [e]
        have := rows_last (lines l).1
        unfold rows at this
        rw [hj] at this
        rcases this with h | h <;> rw [h] <;> simp
      · rw [List.concat_eq_append] at e
        rw [e] at hj ⊢
        rw [← hj]
        simp
    have hlen : ¬ (l ++ [c] = []) := by simp
    simp only [hlen, decide_false, Bool.false_or]
    rw [List.length_append, List.length_singleton]
    unfold begF
    rw [Nat.add_sub_cancel]
    have e1 : (l ++ [c])[l.length]? = some c := by simp
    rw [e1]
    by_cases h : c = 10 ∧ (lines l).2.getLast? = some 13
    · rw [if_pos h]
      obtain ⟨h1, h2⟩ := h
      have h2' := hlast.1 h2
      rw [List.getLast?_eq_getElem?] at h2'
      have hlt := (List.getElem?_eq_some_iff.1 h2').1
      rw [show l.length + 1 - 2 = l.length - 1 from by omega, List.getElem?_append_left hlt, h2', h1]
      simp; omega
    · rw [if_neg h]
      constructor
      · intro hn; simp at hn
      · intro hn
        exfalso
        simp only [Bool.and_eq_true, decide_eq_true_eq, beq_iff_eq, Option.some.injEq] at hn
        obtain ⟨hl2, hn1, hn2⟩ := hn
        refine h ⟨hn2, hlast.2 ?_⟩
        rw [List.getLast?_eq_getElem?]
        rw [show l.length + 1 - 2 = l.length - 1 from by omega, List.getElem?_append_left (by omega)] at hn1
        exact hn1
theorem dropN_snoc (b : List UInt8) (c : UInt8) : dropN (b ++ [c]) = dropN b + if fresh b = true ∧ c = 46 then 1 else 0 := by
  unfold dropN
  rw [begins_snoc, List.countP_append]
  have e1 : (if 2 ≤ b.length + 1 ∧ begF (b ++ [c]) (b.length + 1) = true then [b.length + 1] else []).countP (fun at_ => (b ++ [c])[at_]? == some 46) = 0 := by
    split
    · simp
    · rfl
  rw [e1, Nat.add_zero]
  have e2 : (beginsN b).countP (fun at_ => (b ++ [c])[at_]? == some 46) = (beginsN b).countP (fun at_ => b[at_]? == some 46) + if c = 46 then (beginsN b).countP (fun i => i == b.length) else 0 := by
    have : ∀ l : List Nat, (∀ i ∈ l, i ≤ b.length) → l.countP (fun at_ => (b ++ [c])[at_]? == some 46) = l.countP (fun at_ => b[at_]? == some 46) + if c = 46 then l.countP (fun i => i == b.length) else 0 := by
      intro l
      induction l with
      | nil => intro _; simp
      | cons a r ih =>
        intro h
        have ha := h a (by simp)
        rw [List.countP_cons, List.countP_cons, ih (fun i hi => h i (by simp [hi]))]
        by_cases hc : c = 46
        · simp only [hc, if_true]
          rw [List.countP_cons]
          by_cases hl : a = b.length
          · subst hl; simp; omega
          · have hlt : a < b.length := by omega
            rw [List.getElem?_append_left hlt]
            simp only [show (a == b.length) = false from by simpa using hl, Bool.false_eq_true, if_false]
            omega
        · simp only [hc, if_false, Nat.add_zero]
          by_cases hl : a = b.length
          · subst hl; simp [hc]
          · have hlt : a < b.length := by omega
            rw [List.getElem?_append_left hlt]
    exact this _ (begins_le b)
  rw [e2, begins_last]
  by_cases h1 : fresh b = true <;> by_cases h2 : c = 46 <;> simp [h1, h2]
theorem dropN_lines (b : List UInt8) : dropN b = dropL (lines b) := by
  induction b using list_snoc_ind with
  | h0 => rfl
  | h1 l c ih =>
    rw [dropN_snoc, ih, lines_snoc]
    have hf := lines_rest_fresh l
    unfold ln1
    by_cases hcc : c = 10 ∧ (lines l).2.getLast? = some 13
    · rw [if_pos hcc]
      obtain ⟨rfl, hl⟩ := hcc
      have hne : ¬ (fresh l = true) := fun e => by
        rw [← hf] at e; rw [e] at hl; simp at hl
      rw [if_neg (fun e => hne e.1)]
      unfold dropL
      simp only [List.map_append, List.map_cons, List.map_nil, List.sum_append, List.sum_cons, List.sum_nil]
      have : h46 (lines l).2.dropLast = h46 (lines l).2 := by
        rcases List.eq_nil_or_concat (lines l).2 with e | ⟨m, d, e⟩
        · rw [e]; rfl
        · rw [List.concat_eq_append] at e
          rw [e] at hl ⊢
          rw [List.dropLast_concat]
          cases m with
          | nil => simp at hl; subst hl; rfl
          | cons a t => rfl
      rw [this]
      simp [h46]
    · rw [if_neg hcc]
      unfold dropL
      simp only
      have : h46 ((lines l).2 ++ [c]) = h46 (lines l).2 + if fresh l = true ∧ c = 46 then 1 else 0 := by
        cases hr : (lines l).2 with
        | nil =>
          have := hf.1 hr
          simp [h46, this]
        | cons a t =>
          have : ¬ (fresh l = true) := fun e => by rw [← hf, hr] at e; cases e
          rw [if_neg (fun e => this e.1)]
          rfl
      rw [this]; omega

theorem unst_len (x : List UInt8) : x.length = (unst x).length + h46 x := by
  unfold unst h46
  split
  · rename_i h
    cases x with
    | nil => simp at h
    | cons a t => simp
  · simp
theorem bodyL_len : ∀ ls : List (List UInt8), (rows ls).length = (bodyL ls).length + (ls.map h46).sum
  | [] => rfl
  | x :: ls => by
    have := bodyL_len ls
    unfold rows bodyL at *
    simp only [List.flatMap_cons, List.length_append, List.map_cons, List.sum_cons]
    have := unst_len x
    omega
/-- What is held of what is behind the last line end. -/
def heldR (r : List UInt8) : Int := if stOf r = 1 then 1 else if stOf r = 2 then 2 else 0
theorem restB_len (r : List UInt8) : (r.length : Int) = (restB r).length + h46 r + max (heldR r - 1) 0 := by
  unfold heldR
  have hs : stOf r = 1 ↔ r = [46] := by
    unfold stOf
    constructor
    · intro h; repeat' split at h
      all_goals first | assumption | omega
    · rintro rfl; rfl
  have hs2 : stOf r = 2 ↔ r = [46, 13] := by
    unfold stOf
    constructor
    · intro h; repeat' split at h
      all_goals first | assumption | omega
    · rintro rfl; rfl
  by_cases h1 : r = [46]
  · subst h1; decide
  · by_cases h2 : r = [46, 13]
    · subst h2; decide
    · rw [if_neg (fun e => h1 (hs.1 e)), if_neg (fun e => h2 (hs2.1 e))]
      unfold restB h46
      by_cases hh : r.head? = some 46
      · rw [if_pos hh, if_pos hh]
        cases r with
        | nil => simp at hh
        | cons a t =>
          simp at hh
          subst hh
          have ht : ¬ (t = [13]) := fun e => h2 (by rw [e])
          simp only [List.tail_cons, ht, if_false, List.length_cons]
          omega
      · rw [if_neg hh, if_neg hh]; omega
/-- All is told as it comes, but dots that were dropped, and what is held. -/
theorem held_law (text all : Nat) (b : List UInt8) (h : (hd text all b).ended = false) (ha : b.length ≤ all) :
    (b.length : Int) - (hd text all b).told.length = dropN b + max (RS.held (rs text b) - 1) 0 ∧ 0 ≤ RS.held (rs text b) ∧ RS.held (rs text b) ≤ 2 := by
  by_cases h46 : [46] ∈ (lines b).1
  · obtain ⟨p, z, e, h1, h2, _⟩ := end_split b h46
    rcases hd_index text all b with ⟨h3, _⟩ | ⟨a, h3, h4, _⟩
    · rw [e] at h3
      obtain ⟨_, h5⟩ := index_end (z := z) h1 h2
      rw [h5] at h3; omega
    · rw [h4] at h; cases h
  · have hf := feed_lines text b h46
    have hj := lines_join b
    have hl := congrArg List.length hj
    rw [List.length_append] at hl
    have hb := bodyL_len (lines b).1
    unfold rows at hb
    have hr := restB_len (lines b).2
    have e1 : (hd text all b).told = bodyL (lines b).1 ++ restB (lines b).2 := by
      unfold hd fed
      rw [hf]
      refine List.take_of_length_le ?_
      rw [List.length_append]
      have : 0 ≤ max (heldR (lines b).2 - 1) 0 := by omega
      omega
    have e2 : RS.held (rs text b) = heldR (lines b).2 := by
      unfold RS.held rs fed heldR
      rw [hf]; rfl
    rw [e1, e2, dropN_lines, List.length_append]
    unfold dropL
    refine ⟨by omega, ?_, ?_⟩
    · unfold heldR; repeat' split
      all_goals omega
    · unfold heldR; repeat' split
      all_goals omega
theorem held_ended (text all : Nat) (b : List UInt8) (wt : Bool) (h : (hd text all b).ended = true) : RS.held ⟨(fed text b).2.1, wt⟩ = 0 := by
  have h5 := hd_ended.1 h
  unfold RS.held
  simp [h5]
/-- Whether the end stands at the end. -/
def endsB (b : List UInt8) : Bool := decide (3 ≤ b.length) && [13, 10, 46, 13, 10].isSuffixOf ([13, 10] ++ b)
theorem ends_spec (text all : Nat) (b : List UInt8) (hb : (hd text all b).taken = b.length) : endsB b = (hd text all b).ended := by
  rcases hd_index text all b with ⟨h1, h2, h3⟩ | ⟨a, h1, h2, h3⟩
  · rw [h2]
    unfold endsB
    rw [Bool.and_eq_false_iff]
    by_cases h3 : 3 ≤ b.length
    · right
      rw [Bool.eq_false_iff]
      intro hs
      rw [List.isSuffixOf_iff_suffix] at hs
      obtain ⟨t, ht⟩ := hs
      rcases Lib.index_spec ([13, 10] ++ b) [13, 10, 46, 13, 10] with ⟨_, g⟩ | ⟨i, g, _⟩
      · have := g t.length (by rw [← ht]; simp)
        unfold Lib.occAt at this
        rw [← ht, List.drop_left] at this
        simp at this
      · rw [h1] at g; omega
    · left; simpa using h3
  · rw [h2]
    unfold endsB
    rw [Bool.and_eq_true]
    refine ⟨by simp; omega, ?_⟩
    rw [List.isSuffixOf_iff_suffix]
    rcases Lib.index_spec ([13, 10] ++ b) [13, 10, 46, 13, 10] with ⟨g, _⟩ | ⟨i, g, g1, g2, _⟩
    · rw [h1] at g; omega
    · have : i = a := by rw [h1] at g; omega
      subst this
      unfold Lib.occAt at g2
      rw [List.isPrefixOf_iff_prefix] at g2
      obtain ⟨t, ht⟩ := g2
      have hl := congrArg List.length ht
      simp only [List.length_append, List.length_drop, List.length_cons, List.length_nil] at hl
      have : t = [] := List.eq_nil_of_length_eq_zero (by omega)
      subst this
      rw [List.append_nil] at ht
      rw [ht]
      exact List.drop_suffix _ _
end Go.Proofs.YtmenphpilckphaaDoor.Dt
