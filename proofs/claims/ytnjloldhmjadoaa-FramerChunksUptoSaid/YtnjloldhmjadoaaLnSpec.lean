/- What a liner does, as plain functions on lists of bytes; no program in it. No condition. -/
namespace Go.Proofs.Ytnjloldhmjadoaa.Ln

/-- A liner's state: the text of the line under way, whether the last byte was a CR, what is wrong. -/
structure LS where
  text : List UInt8
  cr : Bool
  why : Int
  deriving DecidableEq

def LS.new : LS := ⟨[], false, 0⟩
def LS.spoil (e : Int) (s : LS) : LS := { s with text := [], why := if s.why = 130 then 130 else e }
/-- One byte, where it ends no line. -/
def LS.next (most : Int) (s : LS) (c : UInt8) : LS :=
  let s1 : LS := if s.cr = true ∨ c = 10 then s.spoil 130 else s
  let s2 : LS := { s1 with cr := c == 13 }
  if c = 13 ∨ s2.why ≠ 0 then s2 else if (s2.text.length : Int) = most then s2.spoil 131 else { s2 with text := s2.text ++ [c] }
def LS.ends (s : LS) (c : UInt8) : Bool := s.cr && c == 10

/-- An item: its kind (0 none, 1 a line, 2 a bad one), its text, what is wrong. -/
structure Itm where
  kind : Int
  text : List UInt8
  why : Int
  deriving DecidableEq
def Itm.none : Itm := ⟨0, [], 0⟩
def LS.item (s : LS) : Itm := if s.why ≠ 0 then ⟨2, [], s.why⟩ else ⟨1, s.text, 0⟩

/-- Take: how many bytes, the item, the state. -/
def take (most : Int) : LS → List UInt8 → Nat × Itm × LS
  | s, [] => (0, Itm.none, s)
  | s, c :: r => if s.ends c then (1, s.item, LS.new) else ((take most (s.next most c) r).1 + 1, (take most (s.next most c) r).2)

theorem take_le (most : Int) : ∀ (b : List UInt8) (s : LS), (take most s b).1 ≤ b.length
  | [], _ => by simp [take]
  | c :: r, s => by
    unfold take; split
    · simp
    · have := take_le most r (s.next most c); simp; omega

/-- All items of a row of bytes, each with the number of bytes taken for it; the state and the bytes since. -/
def run (most : Int) : LS → Nat → List UInt8 → List (Itm × Nat) × LS × Nat
  | s, k, [] => ([], s, k)
  | s, k, c :: r => if s.ends c then ((s.item, k + 1) :: (run most LS.new 0 r).1, (run most LS.new 0 r).2) else run most (s.next most c) (k + 1) r

theorem run_append (most : Int) : ∀ (a b : List UInt8) (s : LS) (k : Nat), run most s k (a ++ b) =
    ((run most s k a).1 ++ (run most (run most s k a).2.1 (run most s k a).2.2 b).1, (run most (run most s k a).2.1 (run most s k a).2.2 b).2)
  | [], b, s, k => by simp [run]
  | c :: r, b, s, k => by
    simp only [List.cons_append, run]
    split
    · rw [run_append most r b]; simp
    · rw [run_append most r b]

/-- One Take is a run up to the first item. -/
theorem run_take (most : Int) : ∀ (b : List UInt8) (s : LS) (k : Nat), run most s k b =
    if (take most s b).2.1.kind = 0 then ([], (take most s b).2.2, k + (take most s b).1)
    else (((take most s b).2.1, k + (take most s b).1) :: (run most (take most s b).2.2 0 (b.drop (take most s b).1)).1, (run most (take most s b).2.2 0 (b.drop (take most s b).1)).2)
  | [], s, k => by simp [run, take, Itm.none]
  | c :: r, s, k => by
    have hi : ∀ s : LS, s.item.kind ≠ 0 := by intro s; unfold LS.item; split <;> simp
    rw [run, take]
    split
    · simp [hi]
    · rw [run_take most r]
      simp only [List.drop_succ_cons]
      split <;> simp <;> omega
/-- What one Take does to a run. -/
theorem run_of_take (most : Int) : ∀ (b : List UInt8) (s : LS) (k : Nat), run most s k (b.take (take most s b).1) =
    (if (take most s b).2.1.kind = 0 then [] else [((take most s b).2.1, k + (take most s b).1)], (take most s b).2.2, if (take most s b).2.1.kind = 0 then k + (take most s b).1 else 0)
  | [], s, k => by simp [run, take, Itm.none]
  | c :: r, s, k => by
    have hi : ∀ s : LS, s.item.kind ≠ 0 := by intro s; unfold LS.item; split <;> simp
    by_cases he : s.ends c = true
    · simp [take, he, run, hi]
    · simp only [take, if_neg he, List.take_succ_cons, run]
      rw [run_of_take most r]
      simp only [show k + 1 + (take most (s.next most c) r).1 = k + ((take most (s.next most c) r).1 + 1) from by omega]
theorem take_mid (bs : List UInt8) (at2 k n : Nat) (h : n ≤ ((bs.take at2).drop k).length) : bs.take (k + n) = bs.take k ++ ((bs.take at2).drop k).take n := by
  rw [List.length_drop, List.length_take] at h
  rw [List.take_add, List.drop_take, List.take_take]
  congr 2
  omega
theorem run_step (most : Int) (bs : List UInt8) (at2 k : Nat) (items : List (Itm × Nat)) (s : LS) (since : Nat) (h : run most LS.new 0 (bs.take k) = (items, s, since)) :
    run most LS.new 0 (bs.take (k + (take most s ((bs.take at2).drop k)).1)) =
      (items ++ (if (take most s ((bs.take at2).drop k)).2.1.kind = 0 then [] else [((take most s ((bs.take at2).drop k)).2.1, since + (take most s ((bs.take at2).drop k)).1)]), (take most s ((bs.take at2).drop k)).2.2,
        if (take most s ((bs.take at2).drop k)).2.1.kind = 0 then since + (take most s ((bs.take at2).drop k)).1 else 0) := by
  have hle := take_le most ((bs.take at2).drop k) s
  have e := take_mid bs at2 k (take most s ((bs.take at2).drop k)).1 hle
  rw [e, run_append, h]
  simp only
  rw [run_of_take]
theorem run_since (most : Int) : ∀ (b : List UInt8) (s : LS) (k : Nat), (run most s k b).2.2 ≤ k + b.length ∧ (run most s k b).1.length ≤ b.length
  | [], s, k => by simp [run]
  | c :: r, s, k => by
    unfold run
    split
    · have := run_since most r LS.new 0; simp; omega
    · have := run_since most r (s.next most c) (k + 1); simp; omega
theorem take_none (most : Int) : ∀ (b : List UInt8) (s : LS), (take most s b).2.1.kind = 0 → (take most s b).1 = b.length
  | [], s, _ => by simp [take]
  | c :: r, s, h => by
    have hi : ∀ s : LS, s.item.kind ≠ 0 := by intro s; unfold LS.item; split <;> simp
    unfold take at h ⊢
    split at h
    · exact absurd h (hi _)
    · rename_i hn; rw [if_neg hn]; simp [take_none most r _ h]
theorem take_pos (most : Int) (b : List UInt8) (s : LS) (h : b ≠ []) : 1 ≤ (take most s b).1 := by
  cases b with
  | nil => exact absurd rfl h
  | cons c r => unfold take; split <;> simp

/-- No more text is held than may be. -/
def LS.ok (most : Int) (s : LS) : Prop := (s.text.length : Int) ≤ most
theorem LS.ok_new {most : Int} (h : 0 ≤ most) : LS.new.ok most := by simpa [LS.ok, LS.new] using h
theorem LS.ok_next {most : Int} (h0 : 0 ≤ most) {s : LS} (h : s.ok most) (c : UInt8) : (s.next most c).ok most := by
  unfold LS.ok at h ⊢
  unfold LS.next
  have h1 : ((if s.cr = true ∨ c = 10 then s.spoil 130 else s).text.length : Int) ≤ most := by
    split
    · simpa [LS.spoil] using h0
    · exact h
  simp only
  generalize (if s.cr = true ∨ c = 10 then s.spoil 130 else s) = s1 at h1 ⊢
  split
  · exact h1
  · split
    · simpa [LS.spoil] using h0
    · simp; omega
theorem take_ok {most : Int} (h0 : 0 ≤ most) : ∀ (b : List UInt8) (s : LS), s.ok most → (take most s b).2.2.ok most
  | [], s, h => by simpa [take] using h
  | c :: r, s, h => by
    unfold take; split
    · exact LS.ok_new h0
    · exact take_ok h0 r _ (LS.ok_next h0 h c)
theorem take_item_new (most : Int) : ∀ (b : List UInt8) (s : LS), (take most s b).2.1.kind ≠ 0 → (take most s b).2.2 = LS.new
  | [], s, h => by simp [take, Itm.none] at h
  | c :: r, s, h => by
    unfold take at h ⊢
    split at h
    · rename_i hn; rw [if_pos hn]
    · rename_i hn; rw [if_neg hn]; exact take_item_new most r _ h

theorem take_end {most : Int} {s s' : LS} {bs : List UInt8} {j : Nat} (hj : j < bs.length) (he : s'.ends bs[j] = true) (h : take most s bs = ((take most s' (bs.drop j)).1 + j, (take most s' (bs.drop j)).2)) :
    take most s bs = (1 + j, s'.item, LS.new) := by
  rw [h, List.drop_eq_getElem_cons hj, take, if_pos he]
theorem take_on {most : Int} {s s' : LS} {bs : List UInt8} {j : Nat} (hj : j < bs.length) (he : s'.ends bs[j] = false) (h : take most s bs = ((take most s' (bs.drop j)).1 + j, (take most s' (bs.drop j)).2)) :
    take most s bs = ((take most (s'.next most bs[j]) (bs.drop (j + 1))).1 + (j + 1), (take most (s'.next most bs[j]) (bs.drop (j + 1))).2) := by
  rw [h, List.drop_eq_getElem_cons hj, take, if_neg (by simp [he])]
  simp only [Prod.mk.injEq, and_true]; omega
theorem next_bare {most : Int} {s : LS} {c : UInt8} (h : s.cr = true ∨ c = 10) : s.next most c = { s.spoil 130 with cr := c == 13 } := by
  unfold LS.next
  simp only [h, if_true]
  rw [if_pos]
  right; simp only [LS.spoil]; split <;> simp_all
theorem next_cr {most : Int} {s : LS} {c : UInt8} (h : s.cr = false) (h13 : c = 13) : s.next most c = { s with cr := true } := by
  subst h13
  unfold LS.next
  simp [h]
theorem next_bad {most : Int} {s : LS} {c : UInt8} (h : s.cr = false) (h10 : c ≠ 10) (h13 : c ≠ 13) (hw : s.why ≠ 0) : s.next most c = { s with cr := false } := by
  unfold LS.next
  simp [h, h10, h13, hw]
theorem next_long {most : Int} {s : LS} {c : UInt8} (h : s.cr = false) (h10 : c ≠ 10) (h13 : c ≠ 13) (hw : s.why = 0) (hl : (s.text.length : Int) = most) : s.next most c = ({ s with cr := false } : LS).spoil 131 := by
  unfold LS.next
  have e : (c == 13) = false := by simpa using h13
  simp [h, h10, h13, hw, hl, e]
theorem next_more {most : Int} {s : LS} {c : UInt8} (h : s.cr = false) (h10 : c ≠ 10) (h13 : c ≠ 13) (hw : s.why = 0) (hl : (s.text.length : Int) ≠ most) : s.next most c = { s with cr := false, text := s.text ++ [c] } := by
  unfold LS.next
  simp [h, h10, h13, hw, hl]

/-- What a line is: of all its bytes (without the CR LF that ends it). -/
def line (b : List UInt8) (most : Int) : Itm :=
  if b.any (fun c => c == 13 || c == 10) then ⟨2, [], 130⟩ else if (b.length : Int) > most then ⟨2, [], 131⟩ else ⟨1, b, 0⟩

/-- The state behind bytes that end no line. -/
def state (most : Int) (l : List UInt8) : LS :=
  let cr := l.getLast? == some 13
  let body := if cr then l.dropLast else l
  let why : Int := if body.any (fun c => c == 13 || c == 10) then 130 else if (body.length : Int) > most then 131 else 0
  ⟨if why = 0 then body else [], cr, why⟩

theorem state_nil {most : Int} (h : 0 ≤ most) : state most [] = LS.new := by
  simp [state, LS.new]; omega

theorem state_item (most : Int) (l : List UInt8) (h : (state most l).cr = true) : (state most l).item = line l.dropLast most := by
  have hc : (l.getLast? == some 13) = true := h
  unfold LS.item line
  simp only [state, hc, if_true]
  split <;> rename_i h1
  · simp
  · split <;> rename_i h2
    · simp
    · simp

theorem state_next {most : Int} (l : List UInt8) (c : UInt8) (hn : (state most l).ends c = false) : (state most l).next most c = state most (l ++ [c]) := by
  have hc' : (state most l).cr = (l.getLast? == some 13) := rfl
  by_cases hcr : (l.getLast? == some 13) = true
  · -- a CR stands last: it is bare now, or followed by another CR
    have hl : l ≠ [] := by rintro rfl; simp at hcr
    have hlast : l.getLast hl = 13 := by
      rw [List.getLast?_eq_some_getLast hl] at hcr; simpa using hcr
    have hsplit : l = l.dropLast ++ [13] := by rw [← hlast]; exact (List.dropLast_concat_getLast hl).symm
    have hany : l.any (fun c => c == 13 || c == 10) = true := by rw [hsplit]; simp
    have hc10 : c ≠ 10 := by
      intro e; subst e; simp [LS.ends, hc', hcr] at hn
    unfold LS.next
    simp only [hc', hcr, true_or, if_true, LS.spoil, ite_self]
    by_cases h13 : c = 13
    · subst h13
      simp [state, hany]
    · have h13' : (some c == some (13 : UInt8)) = false := by simpa using h13
      simp [state, h13, hany]
  · have hcr' : (l.getLast? == some 13) = false := by simpa using hcr
    unfold LS.next
    have hst : state most l = ⟨if (if l.any (fun c => c == 13 || c == 10) then (130 : Int) else if (l.length : Int) > most then 131 else 0) = 0 then l else [], false, if l.any (fun c => c == 13 || c == 10) then 130 else if (l.length : Int) > most then 131 else 0⟩ := by
      simp [state, hcr']
    rw [hst]
    by_cases h13 : c = 13
    · subst h13
      simp [state]
    · have hst2 : state most (l ++ [c]) = ⟨if (if (l ++ [c]).any (fun c => c == 13 || c == 10) then (130 : Int) else if ((l ++ [c]).length : Int) > most then 131 else 0) = 0 then l ++ [c] else [], false, if (l ++ [c]).any (fun c => c == 13 || c == 10) then 130 else if ((l ++ [c]).length : Int) > most then 131 else 0⟩ := by
        simp [state, h13]
      rw [hst2]
      have e13 : (c == 13) = false := by simpa using h13
      by_cases h10 : c = 10
      · subst h10
        simp [LS.spoil]
      · have e10 : (c == 10) = false := by simpa using h10
        by_cases ha : l.any (fun c => c == 13 || c == 10) = true
        · simp [h10, ha, h13, -List.any_eq_true]
        · have ha' : l.any (fun c => c == 13 || c == 10) = false := by simpa [-List.any_eq_true] using ha
          have hb : (l ++ [c]).any (fun c => c == 13 || c == 10) = false := by simp [List.any_append, ha', e13, e10, -List.any_eq_true]
          rw [ha', hb]
          simp only [Bool.false_eq_true, if_false, h10, h13, or_false, false_or, LS.spoil, List.length_append, List.length_singleton, e13]
          by_cases hgt : (l.length : Int) > most
          · have hgt2 : ((l.length + 1 : Nat) : Int) > most := by omega
            simp [hgt]; omega
          · by_cases heq : (l.length : Int) = most
            · simp [heq]; omega
            · simp [hgt, heq]; omega

/-- Fed with bytes that end no line anywhere. -/
theorem state_is {most : Int} (h0 : 0 ≤ most) : (state most []).ok most := by rw [state_nil h0]; exact LS.ok_new h0

/-- The definition's Take: all bytes since the last line end are kept. -/
def refTake (most : Int) : List UInt8 → List UInt8 → Nat × Itm × List UInt8
  | all, [] => (0, Itm.none, all)
  | all, c :: r => if all.getLast? = some 13 ∧ c = 10 then (1, line all.dropLast most, []) else ((refTake most (all ++ [c]) r).1 + 1, (refTake most (all ++ [c]) r).2)

theorem take_ref {most : Int} (h0 : 0 ≤ most) : ∀ (b all : List UInt8), take most (state most all) b = ((refTake most all b).1, (refTake most all b).2.1, state most (refTake most all b).2.2)
  | [], all => by simp [take, refTake]
  | c :: r, all => by
    have hc : (state most all).cr = (all.getLast? == some 13) := rfl
    unfold take refTake
    by_cases h : all.getLast? = some 13 ∧ c = 10
    · obtain ⟨h1, h2⟩ := h
      have he : (state most all).ends c = true := by simp [LS.ends, hc, h1, h2]
      rw [if_pos he, if_pos ⟨h1, h2⟩, state_item most all (by simp [hc, h1]), state_nil h0]
    · have he : (state most all).ends c = false := by
        simp only [LS.ends, hc]
        simp only [not_and] at h
        by_cases h1 : all.getLast? = some 13
        · simp [h1, h h1]
        · simp [h1]
      rw [if_neg (by simp [he]), if_neg h, state_next all c he, take_ref h0 r]
theorem refTake_len (most : Int) : ∀ (b all : List UInt8), (refTake most all b).2.2.length ≤ all.length + (refTake most all b).1
  | [], all => by simp [refTake]
  | c :: r, all => by
    unfold refTake; split
    · simp
    · have := refTake_len most r (all ++ [c]); simp at this ⊢; omega
/-- No more is held than was taken, nor than the bound and a byte. -/
theorem state_held {most : Int} (h0 : 0 ≤ most) (l : List UInt8) : (((state most l).text.length : Int) + if (state most l).cr then 1 else 0) ≤ l.length ∧ (((state most l).text.length : Int) + if (state most l).cr then 1 else 0) ≤ most + 1 := by
  have key : ∀ body : List UInt8, ((if (if body.any (fun c => c == 13 || c == 10) then (130 : Int) else if (body.length : Int) > most then 131 else 0) = 0 then body else []).length : Int) ≤ body.length ∧
      ((if (if body.any (fun c => c == 13 || c == 10) then (130 : Int) else if (body.length : Int) > most then 131 else 0) = 0 then body else []).length : Int) ≤ most := by
    intro body
    by_cases ha : body.any (fun c => c == 13 || c == 10) = true
    · rw [if_pos ha, if_neg (by decide)]; simp; omega
    · rw [if_neg ha]
      by_cases hg : (body.length : Int) > most
      · rw [if_pos hg, if_neg (by decide)]; simp; omega
      · rw [if_neg hg, if_pos rfl]; omega
  by_cases hcr : (l.getLast? == some 13) = true
  · have hl : l ≠ [] := by rintro rfl; simp at hcr
    have hlen : 0 < l.length := List.length_pos_iff.2 hl
    have := key l.dropLast
    simp only [List.length_dropLast] at this
    simp only [state, hcr, if_true, List.length_dropLast]
    omega
  · have := key l
    have hcr' : (l.getLast? == some 13) = false := by simpa using hcr
    simp only [state, hcr', Bool.false_eq_true, if_false]
    omega

end Go.Proofs.Ytnjloldhmjadoaa.Ln
