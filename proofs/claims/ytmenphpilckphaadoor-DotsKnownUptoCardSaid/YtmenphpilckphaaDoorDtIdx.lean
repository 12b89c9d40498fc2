/- Lines against the library's words index and split: plain. No condition but what each states. -/
import Derived.Lib.Split
import Derived.Test.YtmenphpilckphaaDoorDtHear
namespace Go.Proofs.YtmenphpilckphaaDoor.Dt
open Go

theorem lines_mono (a b : List UInt8) : ∃ t, (lines (a ++ b)).1 = (lines a).1 ++ t := by
  induction b using list_snoc_ind with
  | h0 => exact ⟨[], by simp⟩
  | h1 l c ih =>
    obtain ⟨t, ht⟩ := ih
    rw [← List.append_assoc, lines_snoc]
    unfold ln1
    split
    · exact ⟨t ++ [(lines (a ++ l)).2.dropLast], by simp [ht]⟩
    · exact ⟨t, ht⟩
theorem lines_crlf (a : List UInt8) : ∃ t, lines (a ++ [13, 10]) = (t, []) := by
  have : a ++ [13, 10] = (a ++ [13]) ++ [10] := by simp
  rw [this, lines_snoc, lines_snoc]
  by_cases h : (lines a).2.getLast? = some 13 <;> simp [ln1]
theorem noCr_of (b : List UInt8) : (∀ j : Nat, ¬ (b[j]? = some 13 ∧ b[j + 1]? = some 10)) → NoCr b := by
  induction b using list_snoc_ind with
  | h0 => intro _; rfl
  | h1 l c ih =>
    intro h
    refine NoCr.snoc.2 ⟨ih fun j ⟨h1, h2⟩ => h j ⟨?_, ?_⟩, fun ⟨h1, h2⟩ => ?_⟩
    · obtain ⟨hj, _⟩ := List.getElem?_eq_some_iff.1 h1
      rw [List.getElem?_append_left hj]; exact h1
    · obtain ⟨hj, _⟩ := List.getElem?_eq_some_iff.1 h2
      rw [List.getElem?_append_left hj]; exact h2
    · subst h1
      rw [List.getLast?_eq_getElem?] at h2
      obtain ⟨hj, _⟩ := List.getElem?_eq_some_iff.1 h2
      refine h (l.length - 1) ⟨?_, ?_⟩
      · rw [List.getElem?_append_left hj]; exact h2
      · rw [show l.length - 1 + 1 = l.length from by omega]; simp
theorem occ_two {b : List UInt8} {j : Nat} (h1 : b[j]? = some 13) (h2 : b[j + 1]? = some 10) : Lib.occAt b [13, 10] j = true := by
  obtain ⟨hj, e1⟩ := List.getElem?_eq_some_iff.1 h1
  obtain ⟨hj2, e2⟩ := List.getElem?_eq_some_iff.1 h2
  rw [Lib.occAt_iff_take _ _ _ (by simp; omega)]
  have : b.drop j = 13 :: 10 :: b.drop (j + 2) := by
    rw [List.drop_eq_getElem_cons hj, List.drop_eq_getElem_cons hj2, e1, e2]
  rw [this]; rfl
theorem two_occ {b : List UInt8} {j : Nat} (h : Lib.occAt b [13, 10] j = true) : ∃ t, b.drop j = 13 :: 10 :: t := by
  unfold Lib.occAt at h
  obtain ⟨t, ht⟩ := List.isPrefixOf_iff_prefix.1 h
  exact ⟨t, ht.symm⟩
theorem lines_none {b : List UInt8} (h : Lib.index b [13, 10] = -1) : lines b = ([], b) := by
  rcases Lib.index_spec b [13, 10] with ⟨_, h2⟩ | ⟨i, h1, _⟩
  · refine noCr_of b fun j ⟨g1, g2⟩ => ?_
    obtain ⟨hj, _⟩ := List.getElem?_eq_some_iff.1 g1
    have := h2 j (by omega)
    rw [occ_two g1 g2] at this; cases this
  · rw [h] at h1; omega
theorem lines_some {b : List UInt8} {i : Nat} (h : Lib.index b [13, 10] = i) : lines b = (b.take i :: (lines (b.drop (i + 2))).1, (lines (b.drop (i + 2))).2) ∧ b = b.take i ++ [13, 10] ++ b.drop (i + 2) := by
  rcases Lib.index_spec b [13, 10] with ⟨h1, _⟩ | ⟨i', h1, h2, h3, h4⟩
  · rw [h] at h1; omega
  · have : i' = i := by rw [h] at h1; omega
    subst this
    obtain ⟨t, ht⟩ := two_occ h3
    have e2 : b.drop (i' + 2) = t := by
      rw [← List.drop_drop, ht]; rfl
    have eb : b = b.take i' ++ [13, 10] ++ b.drop (i' + 2) := by
      rw [e2, List.append_assoc]
      conv => lhs; rw [← List.take_append_drop i' b, ht]
      rfl
    refine ⟨?_, eb⟩
    have hn : NoCr (b.take i') := noCr_of _ fun j ⟨g1, g2⟩ => by
      obtain ⟨hj, _⟩ := List.getElem?_eq_some_iff.1 g2
      rw [List.length_take] at hj
      rw [List.getElem?_take_of_lt (by omega)] at g1 g2
      have := h4 j (by omega)
      rw [occ_two g1 g2] at this; cases this
    conv => lhs; rw [eb]
    rw [lines_append_nil (lines_line hn)]
    rfl
theorem split_lines (b : List UInt8) : Lib.split b [13, 10] = (lines b).1 ++ [(lines b).2] := by
  unfold Lib.split
  generalize hn : b.length = n
  induction n using Nat.strongRecOn generalizing b with
  | ind n ih =>
    rcases Lib.index_spec b [13, 10] with ⟨h1, _⟩ | ⟨i, h1, h2, h3, _⟩
    · rw [Lib.count_miss h1, lines_none h1]; rfl
    · obtain ⟨e1, e2⟩ := lines_some h1
      rw [Lib.count_hit (by simp) h1, Nat.add_comm 1, Lib.splitK]
      rw [if_neg (by rw [h1]; simp), h1]
      have hl := congrArg List.length e2
      simp only [List.length_append, List.length_take, List.length_drop, List.length_cons, List.length_nil] at hl
      simp only [Int.toNat_natCast, List.length_cons, List.length_nil, Nat.add_zero]
      rw [ih (b.drop (i + 2)).length (by rw [List.length_drop]; omega) (b.drop (i + 2)) rfl, e1]
      simp

theorem count_lines (b : List UInt8) : Lib.count b [13, 10] = (lines b).1.length := by
  generalize hn : b.length = n
  induction n using Nat.strongRecOn generalizing b with
  | ind n ih =>
    rcases Lib.index_spec b [13, 10] with ⟨h1, _⟩ | ⟨i, h1, h2, h3, _⟩
    · rw [Lib.count_miss h1, lines_none h1]; rfl
    · obtain ⟨e1, e2⟩ := lines_some h1
      rw [Lib.count_hit (by simp) h1, e1]
      have hl := congrArg List.length e2
      simp only [List.length_append, List.length_take, List.length_drop, List.length_cons, List.length_nil] at hl
      have := ih (b.drop (i + 2)).length (by rw [List.length_drop]; omega) (b.drop (i + 2)) rfl
      simp only [List.length_cons, List.length_nil]
      rw [this]; omega
theorem lines_le (b : List UInt8) : (lines b).1.length ≤ b.length := by
  have hj := congrArg List.length (lines_join b)
  have : ∀ ls : List (List UInt8), ls.length ≤ (ls.flatMap fun x => x ++ [13, 10]).length := fun ls => by
    induction ls with
    | nil => simp
    | cons a r ih => rw [List.flatMap_cons, List.length_append, List.length_append, List.length_cons]; simp only [List.length_cons, List.length_nil]; omega
  have := this (lines b).1
  rw [List.length_append] at hj
  omega

/-! The place of the end. -/
theorem occ_end {b : List UInt8} {i : Nat} (h : Lib.occAt ([13, 10] ++ b) [13, 10, 46, 13, 10] i = true) : ∃ a t, b = a ++ [46, 13, 10] ++ t ∧ a.length = i ∧ ∃ ls, lines a = (ls, []) := by
  unfold Lib.occAt at h
  obtain ⟨t, ht⟩ := List.isPrefixOf_iff_prefix.1 h
  match i, ht with
  | 0, ht =>
    simp only [List.drop_zero, List.cons_append, List.nil_append, List.cons.injEq, true_and] at ht
    exact ⟨[], t, by rw [← ht]; rfl, rfl, [], rfl⟩
  | 1, ht => simp at ht
  | i + 2, ht =>
    have e : ([13, 10] ++ b).drop (i + 2) = b.drop i := by simp
    rw [e] at ht
    have hi : i ≤ b.length := by
      rcases Nat.lt_or_ge b.length i with g | g
      · rw [List.drop_eq_nil_of_le (by omega)] at ht; simp at ht
      · exact g
    refine ⟨b.take i ++ [13, 10], t, ?_, ?_, lines_crlf _⟩
    · conv => lhs; rw [← List.take_append_drop i b, ← ht]
      simp
    · simp [List.length_take]; omega
theorem lines_dot {a : List UInt8} {ls : List (List UInt8)} (h : lines a = (ls, [])) (t : List UInt8) : [46] ∈ (lines (a ++ [46, 13, 10] ++ t)).1 := by
  obtain ⟨u, hu⟩ := lines_mono (a ++ [46, 13, 10]) t
  rw [hu, lines_append_nil h]
  have : lines [46, 13, 10] = ([[46]], []) := by rfl
  rw [this]; simp
theorem index_no_end {b : List UInt8} (h : [46] ∉ (lines b).1) : Lib.index ([13, 10] ++ b) [13, 10, 46, 13, 10] = -1 := by
  refine Lib.index_none fun j _ => ?_
  rw [Bool.eq_false_iff]
  intro ho
  obtain ⟨a, t, rfl, _, ls, hl⟩ := occ_end ho
  exact h (lines_dot hl t)
theorem index_end {p z : List UInt8} (h : [46] ∉ (lines p).1) (hr : (lines p).2 = [46, 13]) : 2 ≤ p.length ∧ Lib.index ([13, 10] ++ (p ++ 10 :: z)) [13, 10, 46, 13, 10] = ((p.length - 2 : Nat) : Int) := by
  have hj := lines_join p
  rw [hr] at hj
  have hp : 2 ≤ p.length := by
    have := congrArg List.length hj
    simp only [List.length_append, List.length_cons, List.length_nil] at this
    omega
  have hlen : ((lines p).1.flatMap fun x => x ++ [13, 10]).length = p.length - 2 := by
    have := congrArg List.length hj
    simp only [List.length_append, List.length_cons, List.length_nil] at this
    omega
  have hR : (lines p).1.flatMap (fun x => x ++ [13, 10]) = [] ∨ ∃ R', (lines p).1.flatMap (fun x => x ++ [13, 10]) = R' ++ [13, 10] := by
    rcases List.eq_nil_or_concat (lines p).1 with e | ⟨ls, x, e⟩
    · left; rw [e]; rfl
    · right; rw [e, List.concat_eq_append, List.flatMap_append]
      exact ⟨ls.flatMap (fun x => x ++ [13, 10]) ++ x, by simp⟩
  generalize (lines p).1.flatMap (fun x => x ++ [13, 10]) = R at hj hlen hR
  have ep : p ++ 10 :: z = R ++ [46, 13, 10] ++ z := by rw [← hj]; simp
  refine ⟨hp, Lib.index_first (by simp; omega) ?_ fun j hjl => ?_⟩
  · unfold Lib.occAt
    rw [List.isPrefixOf_iff_prefix, ← hlen, ep]
    refine ⟨z, ?_⟩
    rcases hR with rfl | ⟨R', rfl⟩
    · rfl
    · have e1 : [13, 10] ++ (R' ++ [13, 10] ++ [46, 13, 10] ++ z) = ([13, 10] ++ R') ++ ([13, 10, 46, 13, 10] ++ z) := by simp
      rw [e1, List.drop_left' (by simp)]
  · rw [Bool.eq_false_iff]
    intro ho
    obtain ⟨a, t, e, hl, ls, hls⟩ := occ_end ho
    have h3 : (a ++ [46, 13, 10]).length ≤ p.length := by simp; omega
    have : a ++ [46, 13, 10] <+: p := by
      refine List.prefix_of_prefix_length_le (l₃ := p ++ 10 :: z) ⟨t, e.symm⟩ ⟨10 :: z, rfl⟩ h3
    obtain ⟨u, hu⟩ := this
    rw [← hu] at h
    exact h (lines_dot hls u)
/-- Where a hearing's end stands. -/
theorem hd_index (text all : Nat) (b : List UInt8) :
    (Lib.index ([13, 10] ++ b) [13, 10, 46, 13, 10] = -1 ∧ (hd text all b).ended = false ∧ (hd text all b).taken = b.length) ∨
    (∃ at_ : Nat, Lib.index ([13, 10] ++ b) [13, 10, 46, 13, 10] = at_ ∧ (hd text all b).ended = true ∧ (hd text all b).taken = at_ + 3) := by
  by_cases h : [46] ∈ (lines b).1
  · obtain ⟨p, z, e, h1, h2, _⟩ := end_split b h
    obtain ⟨h3, h4⟩ := index_end (z := z) h1 h2
    right
    have hf := feed_end text p h1 h2
    have hb : b = (p ++ [10]) ++ z := by rw [e]; simp
    have h5 : (fed text (p ++ [10])).2.1.st = 5 := by unfold fed; rw [hf]
    have hfed : fed text b = fed text (p ++ [10]) := by rw [hb]; exact fed_done z h5
    refine ⟨p.length - 2, by rw [e]; exact h4, ?_, ?_⟩
    · simp only [hd, hfed]; unfold fed; rw [hf]; rfl
    · simp only [hd, hfed]; unfold fed; rw [hf]; simp only; omega
  · left
    have hf := feed_lines text b h
    refine ⟨index_no_end h, ?_, ?_⟩
    · simp only [hd]; unfold fed; rw [hf]; simpa using mk_ne text _ _
    · simp only [hd]; unfold fed; rw [hf]
end Go.Proofs.YtmenphpilckphaaDoor.Dt
