/- The reader of dotted bodies as a plain machine, and what it comes to in the definition's words. No condition but what each states. -/
namespace Go.Proofs.YtmenphpilckphaaDoor.Dt

structure DS where
  st : Nat
  line : Nat
  size : Nat
  bare : Bool
  long : Bool
  high : Bool

def DS.new : DS := ⟨0, 0, 0, false, false, false⟩
def DS.put (s : DS) (c : UInt8) : DS := ⟨s.st, s.line + 1, s.size + 1, s.bare, s.long, s.high || decide (127 < c.toNat)⟩
def DS.fin (s : DS) (c : UInt8) : DS := DS.put ⟨if c = 13 then 4 else s.st, s.line, s.size, s.bare || c == 10, s.long, s.high⟩ c
/-- One byte: the state behind it, and the bytes that are put behind the body. -/
def DS.step (text : Nat) (s : DS) (c : UInt8) : DS × List UInt8 :=
  if s.st = 0 then (if c = 46 then (⟨1, s.line, s.size, s.bare, s.long, s.high⟩, []) else (DS.fin ⟨3, s.line, s.size, s.bare, s.long, s.high⟩ c, [c]))
  else if s.st = 1 then (if c = 13 then (⟨2, s.line, s.size, s.bare, s.long, s.high⟩, []) else (DS.fin ⟨3, s.line, s.size, s.bare, s.long, s.high⟩ c, [c]))
  else if s.st = 2 then (if c = 10 then (⟨5, s.line, s.size, s.bare, s.long, s.high⟩, []) else (DS.fin ⟨3, s.line + 1, s.size + 1, true, s.long, s.high⟩ c, [13, c]))
  else if s.st = 4 then (if c = 10 then (⟨0, 0, s.size + 1, s.bare, s.long || decide (text + 2 < s.line + 1), s.high⟩, [10]) else (DS.fin ⟨3, s.line, s.size, true, s.long, s.high⟩ c, [c]))
  else (DS.fin s c, [c])

theorem DS.step_size (text : Nat) (s : DS) (c : UInt8) : (s.step text c).1.size = s.size + (s.step text c).2.length := by
  unfold DS.step
  repeat' split
  all_goals simp [DS.fin, DS.put]

/-- Bytes, up to the end: how many were taken, the state, what was put. -/
def feed (text : Nat) : DS → List UInt8 → Nat × DS × List UInt8
  | s, [] => (0, s, [])
  | s, c :: r => if s.st = 5 then (0, s, []) else ((feed text (s.step text c).1 r).1 + 1, (feed text (s.step text c).1 r).2.1, (s.step text c).2 ++ (feed text (s.step text c).1 r).2.2)

theorem feed_le (text : Nat) : ∀ (bs : List UInt8) (s : DS), (feed text s bs).1 ≤ bs.length
  | [], s => by simp [feed]
  | c :: r, s => by
    unfold feed; split
    · simp
    · have := feed_le text r (s.step text c).1; simp; omega
theorem feed_ended (text : Nat) (bs : List UInt8) (s : DS) (h : s.st = 5) : feed text s bs = (0, s, []) := by
  cases bs <;> simp [feed, h]
theorem feed_size (text : Nat) : ∀ (bs : List UInt8) (s : DS), (feed text s bs).2.1.size = s.size + (feed text s bs).2.2.length
  | [], s => by simp [feed]
  | c :: r, s => by
    unfold feed; split
    · simp
    · have := feed_size text r (s.step text c).1; have h2 := s.step_size text c; simp; omega
/-- Not all was taken: then the end has come. -/
theorem feed_all (text : Nat) : ∀ (bs : List UInt8) (s : DS), (feed text s bs).2.1.st ≠ 5 → (feed text s bs).1 = bs.length
  | [], s, _ => by simp [feed]
  | c :: r, s, h => by
    unfold feed at h ⊢; split
    · rename_i h5; rw [if_pos h5] at h; exact absurd h5 h
    · rename_i h5; rw [if_neg h5] at h; have := feed_all text r _ h; simp [this]
theorem feed_append (text : Nat) : ∀ (a b : List UInt8) (s : DS), (feed text s a).2.1.st ≠ 5 → feed text s (a ++ b) = (a.length + (feed text (feed text s a).2.1 b).1, (feed text (feed text s a).2.1 b).2.1, (feed text s a).2.2 ++ (feed text (feed text s a).2.1 b).2.2)
  | [], b, s, _ => by simp [feed]
  | c :: r, b, s, h => by
    unfold feed at h
    split at h
    · rename_i h5; exact absurd h5 h
    · rename_i h5
      have := feed_append text r b _ h
      have e : feed text s (c :: r) = ((feed text (s.step text c).1 r).1 + 1, (feed text (s.step text c).1 r).2.1, (s.step text c).2 ++ (feed text (s.step text c).1 r).2.2) := by rw [feed, if_neg h5]
      rw [List.cons_append, feed, if_neg h5, this, e]
      simp only [List.length_cons, List.append_assoc, Prod.mk.injEq, and_true]
      omega
theorem feed_append_end (text : Nat) : ∀ (a b : List UInt8) (s : DS), (feed text s a).2.1.st = 5 → feed text s (a ++ b) = feed text s a
  | [], b, s, h => by simp only [feed] at h ⊢; exact feed_ended text _ s h
  | c :: r, b, s, h => by
    unfold feed at h
    split at h
    · rename_i h5; rw [feed_ended _ _ _ h5, feed_ended _ _ _ h5]
    · rename_i h5
      have := feed_append_end text r b _ h
      rw [List.cons_append, feed, if_neg h5, this]
      conv => rhs; rw [feed, if_neg h5]
/-- The bytes taken alone. -/
theorem feed_take (text : Nat) : ∀ (bs : List UInt8) (s : DS), feed text s (bs.take (feed text s bs).1) = feed text s bs
  | [], s => by simp [feed]
  | c :: r, s => by
    by_cases h5 : s.st = 5
    · rw [feed_ended _ _ _ h5, feed_ended _ _ _ h5]
    · have e : feed text s (c :: r) = ((feed text (s.step text c).1 r).1 + 1, (feed text (s.step text c).1 r).2.1, (s.step text c).2 ++ (feed text (s.step text c).1 r).2.2) := by rw [feed, if_neg h5]
      have ih := feed_take text r (s.step text c).1
      rw [e]
      simp only [List.take_succ_cons]
      rw [feed, if_neg h5, ih]

/-- An item: kind, text, bytes, why, high. -/
structure It where
  kind : Int
  text : List UInt8
  bytes : List UInt8
  why : Int
  high : Bool
def It.none : It := ⟨0, [], [], 0, false⟩
def It.body (b : List UInt8) : It := ⟨3, [], b, 0, false⟩
/-- The item that ends a body. -/
def DS.end (all : Nat) (s : DS) : It := ⟨4, [], [], if s.bare then 130 else if s.long then 140 else if all < s.size then 150 else 0, s.high⟩

/-- A reader: its state, and whether its end waits to be told. -/
structure RS where
  d : DS
  waits : Bool
def RS.new : RS := ⟨DS.new, false⟩
def RS.take (text all : Nat) (r : RS) (bs : List UInt8) : Nat × It × RS :=
  if r.waits then (0, r.d.end all, ⟨r.d, false⟩)
  else
    let q := feed text r.d bs
    let told := q.2.2.take (all - r.d.size)
    let over := decide (q.2.1.st = 5 ∧ r.d.st ≠ 5)
    if told ≠ [] then (q.1, It.body told, ⟨q.2.1, over⟩)
    else if over then (q.1, q.2.1.end all, ⟨q.2.1, false⟩)
    else (q.1, It.none, ⟨q.2.1, false⟩)
def RS.held (r : RS) : Int := if r.d.st = 1 then 1 else if r.d.st = 2 then 2 else 0

/-! What is there, line by line. -/

def ln1 (p : List (List UInt8) × List UInt8) (c : UInt8) : List (List UInt8) × List UInt8 :=
  if c = 10 ∧ p.2.getLast? = some 13 then (p.1 ++ [p.2.dropLast], []) else (p.1, p.2 ++ [c])
/-- The lines that are ended, and what stands behind the last line end. -/
def lines (b : List UInt8) : List (List UInt8) × List UInt8 := b.foldl ln1 ([], [])
theorem lines_snoc (b : List UInt8) (c : UInt8) : lines (b ++ [c]) = ln1 (lines b) c := by simp [lines]
def unst (x : List UInt8) : List UInt8 := if x.head? = some 46 then x.tail else x
def restB (r : List UInt8) : List UInt8 := if r.head? = some 46 then (if r.tail = [13] then [] else r.tail) else r
def bodyL (ls : List (List UInt8)) : List UInt8 := ls.flatMap fun x => unst x ++ [13, 10]
theorem bodyL_snoc (ls : List (List UInt8)) (x : List UInt8) : bodyL (ls ++ [x]) = bodyL ls ++ (unst x ++ [13, 10]) := by simp [bodyL]

/-- A CR or an LF that stands alone, as far as that is known: the byte ahead, and whether there was one. -/
def br1 (p : Option UInt8 × Bool) (c : UInt8) : Option UInt8 × Bool := (some c, p.2 || (p.1 == some 13 && c != 10) || (c == 10 && p.1 != some 13))
def br (b : List UInt8) : Option UInt8 × Bool := b.foldl br1 (none, false)
theorem br_snoc (b : List UInt8) (c : UInt8) : br (b ++ [c]) = br1 (br b) c := by simp [br]
theorem br_last (b : List UInt8) : (br b).1 = b.getLast? := by
  rcases List.eq_nil_or_concat b with rfl | ⟨l, c, rfl⟩
  · rfl
  · simp [br_snoc, br1, List.concat_eq_append]
theorem br_append2 (b : List UInt8) (c d : UInt8) : br (b ++ [c, d]) = br1 (br1 (br b) c) d := by simp [br]

def long (text : Nat) (ls : List (List UInt8)) : Bool := ls.any fun x => decide (text < (unst x).length)
def high (b : List UInt8) : Bool := b.any fun c => decide (127 < c.toNat)

def stOf (r : List UInt8) : Nat := if r = [] then 0 else if r = [46] then 1 else if r = [46, 13] then 2 else if r.getLast? = some 13 then 4 else 3
/-- The state behind bytes whose lines are ls and r, none of the lines being a dot alone. -/
def mk (text : Nat) (ls : List (List UInt8)) (r : List UInt8) : DS :=
  ⟨stOf r, (restB r).length, (bodyL ls ++ restB r).length, (br (bodyL ls ++ restB r)).2, long text ls, high (bodyL ls ++ restB r)⟩

theorem mk_new (text : Nat) : mk text [] [] = DS.new := rfl
theorem restB_snoc {r : List UInt8} (h0 : r ≠ []) (h1 : r ≠ [46]) (h2 : r ≠ [46, 13]) (c : UInt8) : restB (r ++ [c]) = restB r ++ [c] := by
  obtain ⟨a, t, rfl⟩ := List.exists_cons_of_ne_nil h0
  unfold restB
  by_cases ha : a = 46
  · subst ha
    have ht : t ≠ [] := fun e => h1 (by rw [e])
    have ht2 : t ≠ [13] := fun e => h2 (by rw [e])
    obtain ⟨x, u, rfl⟩ := List.exists_cons_of_ne_nil ht
    have h3 : ¬ (x :: (u ++ [c]) = [13]) := by simp
    show (if some (46 : UInt8) = some 46 then (if x :: (u ++ [c]) = [13] then [] else x :: (u ++ [c])) else _) = (if some (46 : UInt8) = some 46 then (if x :: u = [13] then [] else x :: u) else _) ++ [c]
    rw [if_pos rfl, if_pos rfl, if_neg h3, if_neg ht2]
    rfl
  · have : ¬ (some a = some (46 : UInt8)) := by simpa using ha
    simp [this]
theorem restB_last {r : List UInt8} (h0 : r ≠ []) (h1 : r ≠ [46]) (h2 : r ≠ [46, 13]) : (restB r).getLast? = r.getLast? := by
  obtain ⟨l, c, rfl⟩ : ∃ l c, r = l ++ [c] := by
    rcases List.eq_nil_or_concat r with h | ⟨l, c, h⟩
    · exact absurd h h0
    · exact ⟨l, c, by rw [h, List.concat_eq_append]⟩
  by_cases a0 : l = []
  · subst a0
    have hc : ¬ (c = 46) := fun e => h1 (by rw [e]; rfl)
    simp [restB, hc]
  · by_cases a1 : l = [46]
    · subst a1
      have hc : ¬ (c = 13) := fun e => h2 (by rw [e]; rfl)
      simp [restB, hc]
    · by_cases a2 : l = [46, 13]
      · subst a2; simp [restB]
      · rw [restB_snoc a0 a1 a2]; simp
theorem restB_ends {r : List UInt8} (h2 : r ≠ [46, 13]) (hl : r.getLast? = some 13) : restB r = unst r.dropLast ++ [13] := by
  obtain ⟨l, rfl⟩ : ∃ l, r = l ++ [13] := by
    rcases List.eq_nil_or_concat r with h | ⟨l, c, h⟩
    · subst h; simp at hl
    · subst h; rw [List.concat_eq_append] at hl ⊢; simp at hl; subst hl; exact ⟨l, rfl⟩
  rw [List.dropLast_concat]
  cases l with
  | nil => rfl
  | cons a t =>
    unfold restB unst
    by_cases ha : a = 46
    · subst ha
      have ht : t ≠ [] := fun e => h2 (by rw [e]; rfl)
      obtain ⟨x, u, rfl⟩ := List.exists_cons_of_ne_nil ht
      simp
    · simp [ha]
theorem bodyL_last (ls : List (List UInt8)) : (bodyL ls).getLast? = none ∨ (bodyL ls).getLast? = some 10 := by
  rcases List.eq_nil_or_concat ls with rfl | ⟨l, c, rfl⟩
  · left; rfl
  · right; rw [List.concat_eq_append, bodyL_snoc, List.getLast?_append, List.getLast?_append]; rfl
theorem br1_after (b : List UInt8) (h : b.getLast? ≠ some 13) (c : UInt8) : (br (b ++ [c])).2 = ((br b).2 || c == 10) := by
  rw [br_snoc, br1, br_last]
  have : (b.getLast? == some 13) = false := by simpa using h
  simp [this, bne]
theorem br1_cr (b : List UInt8) (h : b.getLast? = some 13) (c : UInt8) (hc : c ≠ 10) : (br (b ++ [c])).2 = true := by
  rw [br_snoc, br1, br_last, h]
  simp [hc]
theorem br1_crlf (b : List UInt8) (h : b.getLast? = some 13) : (br (b ++ [10])).2 = (br b).2 := by
  rw [br_snoc, br1, br_last, h]
  simp
theorem high_snoc (b : List UInt8) (c : UInt8) : high (b ++ [c]) = (high b || decide (127 < c.toNat)) := by simp [high]
theorem long_snoc (text : Nat) (ls : List (List UInt8)) (x : List UInt8) : long text (ls ++ [x]) = (long text ls || decide (text < (unst x).length)) := by simp [long]

/-- One byte more, which doesn't end the body. -/
theorem mk_step (text : Nat) (ls : List (List UInt8)) (r : List UInt8) (c : UInt8) (h : ¬ (r = [46, 13] ∧ c = 10)) :
    (mk text ls r).step text c = (mk text (ln1 (ls, r) c).1 (ln1 (ls, r) c).2, (mk text ls r).step text c |>.2) ∧
    bodyL (ln1 (ls, r) c).1 ++ restB (ln1 (ls, r) c).2 = bodyL ls ++ restB r ++ ((mk text ls r).step text c).2 := by
  by_cases hE : c = 10 ∧ r.getLast? = some 13
  · obtain ⟨rfl, hl⟩ := hE
    have h2 : r ≠ [46, 13] := fun e => h ⟨e, rfl⟩
    have h0 : r ≠ [] := by rintro rfl; simp at hl
    have h1 : r ≠ [46] := by rintro rfl; simp at hl
    have e1 : ln1 (ls, r) 10 = (ls ++ [r.dropLast], []) := by simp [ln1, hl]
    have hb : bodyL (ls ++ [r.dropLast]) ++ restB [] = bodyL ls ++ restB r ++ [10] := by
      rw [bodyL_snoc, restB_ends h2 hl]; simp [restB]
    have hst : stOf r = 4 := by simp [stOf, h0, h1, h2, hl]
    have hs : (mk text ls r).step text 10 = (⟨0, 0, (bodyL ls ++ restB r).length + 1, (br (bodyL ls ++ restB r)).2, long text ls || decide (text + 2 < (restB r).length + 1), high (bodyL ls ++ restB r)⟩, [10]) := by
      simp [DS.step, mk, hst]
    rw [e1, hs]
    refine ⟨?_, hb⟩
    simp only [Prod.mk.injEq, and_true]
    unfold mk
    rw [hb, long_snoc, high_snoc]
    have hlast : (bodyL ls ++ restB r).getLast? = some 13 := by rw [restB_ends h2 hl]; simp
    rw [br1_crlf _ hlast]
    have hlen : (restB r).length = (unst r.dropLast).length + 1 := by rw [restB_ends h2 hl]; simp
    have : decide (text + 2 < (restB r).length + 1) = decide (text < (unst r.dropLast).length) := by rw [decide_eq_decide]; omega
    rw [this]
    simp only [stOf, restB, List.length_append, List.length_cons, List.length_nil, List.head?_nil]
    simp [Nat.add_assoc]
  · have e1 : ln1 (ls, r) c = (ls, r ++ [c]) := by simp only [ln1]; rw [if_neg hE]
    rw [e1]
    simp only
    have hbl := bodyL_last ls
    have hbn : (bodyL ls).getLast? ≠ some 13 := by rcases hbl with e | e <;> rw [e] <;> decide
    by_cases h0 : r = []
    · subst h0
      by_cases hc : c = 46
      · subst hc
        simp [DS.step, mk, stOf, restB]
      · have e2 : restB [c] = [c] := by simp [restB, hc]
        have hs : (mk text ls []).step text c = (DS.fin ⟨3, 0, (bodyL ls).length, (br (bodyL ls)).2, long text ls, high (bodyL ls)⟩ c, [c]) := by
          simp [DS.step, mk, stOf, hc, restB]
        rw [hs]
        simp only [List.nil_append, e2, Prod.mk.injEq, and_true]
        refine ⟨?_, by simp [restB]⟩
        unfold mk
        rw [e2, high_snoc, br1_after _ hbn]
        by_cases h13 : c = 13
        · subst h13; simp [DS.fin, DS.put, stOf]
        · simp [DS.fin, DS.put, stOf, h13, hc]
    by_cases h1 : r = [46]
    · subst h1
      by_cases hc : c = 13
      · subst hc
        simp [DS.step, mk, stOf, restB]
      · have e2 : restB ([46] ++ [c]) = [c] := by simp [restB, hc]
        have hs : (mk text ls [46]).step text c = (DS.fin ⟨3, 0, (bodyL ls).length, (br (bodyL ls)).2, long text ls, high (bodyL ls)⟩ c, [c]) := by
          simp [DS.step, mk, stOf, hc, restB]
        rw [hs]
        simp only [e2, Prod.mk.injEq, and_true]
        refine ⟨?_, by simp [restB]⟩
        unfold mk
        rw [e2, high_snoc, br1_after _ hbn]
        simp [DS.fin, DS.put, stOf, hc]
    by_cases h2 : r = [46, 13]
    · subst h2
      have hc : c ≠ 10 := fun e => h ⟨rfl, e⟩
      have e2 : restB ([46, 13] ++ [c]) = [13, c] := by simp [restB]
      have hs : (mk text ls [46, 13]).step text c = (DS.fin ⟨3, 1, (bodyL ls).length + 1, true, long text ls, high (bodyL ls)⟩ c, [13, c]) := by
        simp [DS.step, mk, stOf, hc, restB]
      rw [hs]
      simp only [e2, Prod.mk.injEq, and_true]
      refine ⟨?_, by simp [restB]⟩
      unfold mk
      have e3 : bodyL ls ++ [13, c] = (bodyL ls ++ [13]) ++ [c] := by simp
      rw [e2, e3, high_snoc, high_snoc, br1_cr _ (by simp) _ hc]
      by_cases h13 : c = 13
      · subst h13; simp [DS.fin, DS.put, stOf]
      · simp [DS.fin, DS.put, stOf, h13]
    · have e2 := restB_snoc h0 h1 h2 c
      have hlast := restB_last h0 h1 h2
      have hrn : restB r ≠ [] := by
        intro e; rw [e] at hlast
        rw [List.getLast?_nil] at hlast
        exact h0 (List.getLast?_eq_none_iff.1 hlast.symm)
      have hl2 : (bodyL ls ++ restB r).getLast? = r.getLast? := by
        rw [List.getLast?_append, hlast]
        cases hr : r.getLast? with
        | none => exact absurd (List.getLast?_eq_none_iff.1 hr) h0
        | some x => rfl
      have n0 : r ++ [c] ≠ [] := by simp
      have n1 : r ++ [c] ≠ [46] := by
        intro e
        have := congrArg List.length e
        simp at this
        exact h0 this
      have n2 : r ++ [c] ≠ [46, 13] := by
        intro e
        have e' : r ++ [c] = [46] ++ [13] := e
        have := (List.append_inj' e' rfl).1
        exact h1 this
      by_cases h4 : r.getLast? = some 13
      · have hc : c ≠ 10 := fun e => hE ⟨e, h4⟩
        have hst : stOf r = 4 := by simp [stOf, h0, h1, h2, h4]
        have hs : (mk text ls r).step text c = (DS.fin ⟨3, (restB r).length, (bodyL ls ++ restB r).length, true, long text ls, high (bodyL ls ++ restB r)⟩ c, [c]) := by
          simp [DS.step, mk, hst, hc]
        rw [hs]
        simp only [e2, Prod.mk.injEq, and_true]
        refine ⟨?_, by simp⟩
        unfold mk
        rw [e2, ← List.append_assoc, high_snoc, br1_cr _ (by rw [hl2, h4]) _ hc]
        by_cases h13 : c = 13
        · subst h13; simp [DS.fin, DS.put, stOf, n1, n2, Nat.add_assoc]
        · simp [DS.fin, DS.put, stOf, h13, n1, n2, Nat.add_assoc]
      · have hst : stOf r = 3 := by simp [stOf, h0, h1, h2, h4]
        have hs : (mk text ls r).step text c = (DS.fin ⟨3, (restB r).length, (bodyL ls ++ restB r).length, (br (bodyL ls ++ restB r)).2, long text ls, high (bodyL ls ++ restB r)⟩ c, [c]) := by
          simp [DS.step, mk, hst]
        rw [hs]
        simp only [e2, Prod.mk.injEq, and_true]
        refine ⟨?_, by simp⟩
        unfold mk
        rw [e2, ← List.append_assoc, high_snoc, br1_after _ (by rw [hl2]; exact h4)]
        by_cases h13 : c = 13
        · subst h13; simp [DS.fin, DS.put, stOf, n1, n2, Nat.add_assoc]
        · simp [DS.fin, DS.put, stOf, h13, n1, n2, Nat.add_assoc]

/-- The byte that ends the body. -/
theorem mk_end (text : Nat) (ls : List (List UInt8)) : (mk text ls [46, 13]).step text 10 = (⟨5, 0, (bodyL ls).length, (br (bodyL ls)).2, long text ls, high (bodyL ls)⟩, []) := by
  simp [DS.step, mk, stOf, restB]

theorem ln1_mem {ls : List (List UInt8)} {r : List UInt8} {c : UInt8} : [46] ∈ (ln1 (ls, r) c).1 ↔ [46] ∈ ls ∨ (r = [46, 13] ∧ c = 10) := by
  unfold ln1
  split
  · rename_i h
    simp only at h
    simp only [List.mem_append, List.mem_singleton]
    constructor
    · rintro (e | e)
      · exact .inl e
      · right
        refine ⟨?_, h.1⟩
        have hr : r ≠ [] := by rintro rfl; simp at h
        rw [← List.dropLast_concat_getLast hr, ← e]
        have := h.2
        rw [List.getLast?_eq_some_getLast hr] at this
        simp at this; simp [this]
    · rintro (e | ⟨e, _⟩)
      · exact .inl e
      · right; rw [e]; rfl
  · rename_i h
    simp only at h
    constructor
    · exact .inl
    · rintro (e | ⟨e, e2⟩)
      · exact e
      · exact absurd ⟨e2, by rw [e]; rfl⟩ h

theorem list_snoc_ind {α : Type} {P : List α → Prop} (h0 : P []) (h1 : ∀ l a, P l → P (l ++ [a])) (l : List α) : P l := by
  have : ∀ n (l : List α), l.length = n → P l := by
    intro n
    induction n with
    | zero => intro l hl; rw [List.eq_nil_of_length_eq_zero hl]; exact h0
    | succ n ih =>
      intro l hl
      have hne : l ≠ [] := by rintro rfl; simp at hl
      rw [← List.dropLast_concat_getLast hne]
      exact h1 _ _ (ih _ (by rw [List.length_dropLast]; omega))
  exact this _ l rfl
theorem stOf_ne (r : List UInt8) : stOf r ≠ 5 := by
  unfold stOf
  repeat' split
  all_goals omega
theorem mk_ne (text : Nat) (ls : List (List UInt8)) (r : List UInt8) : (mk text ls r).st ≠ 5 := stOf_ne r
/-- All of a stream in which no line is a dot. -/
theorem feed_lines (text : Nat) (b : List UInt8) : [46] ∉ (lines b).1 → feed text DS.new b = (b.length, mk text (lines b).1 (lines b).2, bodyL (lines b).1 ++ restB (lines b).2) := by
  induction b using list_snoc_ind with
  | h0 => intro _; rfl
  | h1 l c ih =>
    intro h
    rw [lines_snoc] at h ⊢
    have hm := (not_congr ln1_mem).1 h
    have hl : [46] ∉ (lines l).1 := fun e => hm (.inl e)
    have hn : ¬ ((lines l).2 = [46, 13] ∧ c = 10) := fun e => hm (.inr e)
    have hi := ih hl
    obtain ⟨s1, s2⟩ := mk_step text (lines l).1 (lines l).2 c hn
    have h5 : (feed text DS.new l).2.1.st ≠ 5 := by rw [hi]; exact mk_ne _ _ _
    have h6 : (mk text (lines l).1 (lines l).2).st ≠ 5 := mk_ne _ _ _
    rw [feed_append _ _ _ _ h5, hi]
    simp only [feed, h6, if_false, List.append_nil, List.length_append, List.length_singleton]
    rw [s1]
    simp only [Prod.mk.injEq, true_and]
    exact s2.symm
/-- .. and of one that ends with it. -/
theorem feed_end (text : Nat) (b : List UInt8) (h : [46] ∉ (lines b).1) (hr : (lines b).2 = [46, 13]) :
    feed text DS.new (b ++ [10]) = (b.length + 1, ⟨5, 0, (bodyL (lines b).1).length, (br (bodyL (lines b).1)).2, long text (lines b).1, high (bodyL (lines b).1)⟩, bodyL (lines b).1) := by
  have hi := feed_lines text b h
  have h5 : (feed text DS.new b).2.1.st ≠ 5 := by rw [hi]; exact mk_ne _ _ _
  rw [feed_append _ _ _ _ h5, hi, hr]
  have h6 : (mk text (lines b).1 [46, 13]).st ≠ 5 := mk_ne _ _ _
  simp only [feed, h6, if_false, mk_end, List.append_nil]
  simp [restB]

end Go.Proofs.YtmenphpilckphaaDoor.Dt
