/- Check and Stuff, and bodies that are read again: plain. No condition but what each states. -/
import Derived.Test.YtmenphpilckphaaDoorDtIdx
namespace Go.Proofs.YtmenphpilckphaaDoor.Dt
open Go

/-- Stands a CR or an LF alone at place i? -/
def bareAt (b : List UInt8) (i : Nat) : Bool := (b[i]? == some 13 && b[i + 1]? != some 10) || (b[i]? == some 10 && (i == 0 || b[i - 1]? != some 13))
def bareI (b : List UInt8) : Bool := (List.range b.length).any (bareAt b)
def brk : Option UInt8 → List UInt8 → Bool
  | _, [] => false
  | p, c :: r => (p == some 13 && c != 10) || (c == 10 && p != some 13) || brk (some c) r
theorem brk_fold : ∀ (l : List UInt8) (p : Option UInt8) (a : Bool), (l.foldl br1 (p, a)).2 = (a || brk p l)
  | [], p, a => by simp [brk]
  | c :: r, p, a => by rw [List.foldl_cons, br1, brk_fold r, brk]; simp [Bool.or_assoc]
theorem br_brk (b : List UInt8) : (br b).2 = brk none b := by unfold br; rw [brk_fold]; simp
theorem brk_append : ∀ (l r : List UInt8) (p : Option UInt8), brk p (l ++ r) = (brk p l || brk (if l = [] then p else l.getLast?) r)
  | [], r, p => by simp [brk]
  | c :: l, r, p => by
    rw [List.cons_append, brk, brk, brk_append l r]
    have : (if l = [] then some c else l.getLast?) = (c :: l).getLast? := by
      cases l with
      | nil => rfl
      | cons d t => simp
    rw [this]; simp [Bool.or_assoc]
theorem brk_iff : ∀ (l : List UInt8) (p : Option UInt8), brk p l = true ↔ ∃ i, i < l.length ∧ (((if i = 0 then p else l[i - 1]?) = some 13 ∧ l[i]? ≠ some 10) ∨ (l[i]? = some 10 ∧ (if i = 0 then p else l[i - 1]?) ≠ some 13))
  | [], p => by simp [brk]
  | c :: r, p => by
    rw [brk]
    simp only [Bool.or_eq_true, Bool.and_eq_true, beq_iff_eq, bne_iff_ne, ne_eq]
    rw [brk_iff r]
    constructor
    · rintro ((⟨h1, h2⟩ | ⟨h1, h2⟩) | ⟨i, hi, h⟩)
      · exact ⟨0, by simp, .inl ⟨by simpa using h1, by simpa using h2⟩⟩
      · exact ⟨0, by simp, .inr ⟨by simpa using h1, by simpa using h2⟩⟩
      · refine ⟨i + 1, by simpa using hi, ?_⟩
        cases i with
        | zero => simpa using h
        | succ i => simpa using h
    · rintro ⟨i, hi, h⟩
      cases i with
      | zero => left; simpa using h
      | succ i =>
        right
        refine ⟨i, by simpa using hi, ?_⟩
        cases i with
        | zero => simpa using h
        | succ i => simpa using h
theorem bareI_bareD (b : List UInt8) : bareI b = bareD b := by
  rw [Bool.eq_iff_iff]
  unfold bareI bareD
  rw [br_brk, Bool.or_eq_true, brk_iff, List.any_eq_true]
  constructor
  · rintro ⟨i, hi, h⟩
    rw [List.mem_range] at hi
    unfold bareAt at h
    simp only [Bool.or_eq_true, Bool.and_eq_true, beq_iff_eq, bne_iff_ne, ne_eq] at h
    rcases h with ⟨h1, h2⟩ | ⟨h1, h2⟩
    · by_cases hl : i + 1 = b.length
      · right
        rw [List.getLast?_eq_getElem?, ← hl]; simpa using h1
      · left; exact ⟨i + 1, by omega, .inl ⟨by simpa using h1, h2⟩⟩
    · left
      refine ⟨i, hi, .inr ⟨h1, ?_⟩⟩
      by_cases h0 : i = 0
      · simp [h0]
      · rw [if_neg h0]; exact h2.resolve_left h0
  · rintro (⟨i, hi, ⟨h1, h2⟩ | ⟨h1, h2⟩⟩ | h)
    · by_cases h0 : i = 0
      · simp [h0] at h1
      · rw [if_neg h0] at h1
        refine ⟨i - 1, by rw [List.mem_range]; omega, ?_⟩
        unfold bareAt
        rw [show i - 1 + 1 = i from by omega, h1]
        simp [h2]
    · refine ⟨i, by rw [List.mem_range]; omega, ?_⟩
      unfold bareAt
      rw [h1]
      by_cases h0 : i = 0
      · simp [h0]
      · rw [if_neg h0] at h2; simp [h2]
    · rw [beq_iff_eq, List.getLast?_eq_getElem?] at h
      have hl : b.length - 1 < b.length := (List.getElem?_eq_some_iff.1 h).1
      refine ⟨b.length - 1, by rw [List.mem_range]; omega, ?_⟩
      unfold bareAt
      rw [h, show b.length - 1 + 1 = b.length from by omega]
      simp

theorem mem_le_sum : ∀ (l : List Nat) (n : Nat), n ∈ l → n ≤ l.sum
  | a :: r, n, h => by
    rw [List.sum_cons]
    rcases List.mem_cons.1 h with rfl | h
    · omega
    · have := mem_le_sum r n h; omega
def Clean (x : List UInt8) : Prop := ∀ c ∈ x, c ≠ 13 ∧ c ≠ 10
theorem Clean.noCr {x : List UInt8} (h : Clean x) : NoCr x := noCr_of x fun _ ⟨h1, _⟩ => (h 13 (List.mem_of_getElem? h1)).1 rfl
theorem NoCr.not2 {x : List UInt8} (h : NoCr (13 :: 10 :: x)) : False := by
  have h2 : lines [13, 10] = ([[]], []) := by simpa using lines_line (x := []) rfl
  have := lines_append_nil h2 x
  unfold NoCr at h
  rw [show ([13, 10] ++ x : List UInt8) = 13 :: 10 :: x from rfl, h] at this
  have := congrArg (fun p => p.1.length) this
  simp at this
theorem brk_row : ∀ (x : List UInt8) (p : Option UInt8) (r : List UInt8), NoCr x → p ≠ some 13 → (brk p (x ++ 13 :: 10 :: r) = false ↔ Clean x ∧ brk (some 10) r = false)
  | [], p, r, _, hp => by
    have : (p == some 13) = false := by simpa using hp
    simp [brk, Clean, this]
  | c :: x, p, r, hn, hp => by
    have hp' : (p == some 13) = false := by simpa using hp
    rw [List.cons_append, brk]
    by_cases h10 : c = 10
    · subst h10
      simp [hp', bne, Clean]
    · by_cases h13 : c = 13
      · subst h13
        have hb : brk (some 13) (x ++ 13 :: 10 :: r) = true := by
          cases x with
          | nil => simp [brk]
          | cons d t =>
            by_cases hd : d = 10
            · subst hd; exact (NoCr.not2 hn).elim
            · simp [brk, hd]
        simp [hb, Clean]
      · rw [show (c == 10) = false from by simpa using h10]
        simp only [hp', Bool.false_and, Bool.false_or]
        rw [brk_row x (some c) r hn.tail (by simpa using h13)]
        simp [Clean, h10, h13]
theorem brk_rows : ∀ (ls : List (List UInt8)) (p : Option UInt8), (∀ x ∈ ls, NoCr x) → p ≠ some 13 → (brk p (ls.flatMap fun x => x ++ [13, 10]) = false ↔ ∀ x ∈ ls, Clean x)
  | [], p, _, _ => by simp [brk]
  | x :: ls, p, h, hp => by
    rw [List.flatMap_cons, show (x ++ [13, 10]) ++ (ls.flatMap fun x => x ++ [13, 10]) = x ++ 13 :: 10 :: (ls.flatMap fun x => x ++ [13, 10]) from by simp]
    rw [brk_row x p _ (h x (by simp)) hp, brk_rows ls (some 10) (fun y hy => h y (by simp [hy])) (by simp)]
    simp
def rows (ls : List (List UInt8)) : List UInt8 := ls.flatMap fun x => x ++ [13, 10]
theorem rows_last (ls : List (List UInt8)) : (rows ls).getLast? = none ∨ (rows ls).getLast? = some 10 := by
  rcases List.eq_nil_or_concat ls with rfl | ⟨l, x, rfl⟩
  · left; rfl
  · right; rw [rows, List.concat_eq_append, List.flatMap_append]; simp
theorem bareD_rows (ls : List (List UInt8)) (h : ∀ x ∈ ls, NoCr x) : bareD (rows ls) = false ↔ ∀ x ∈ ls, Clean x := by
  unfold bareD
  rw [br_brk, Bool.or_eq_false_iff]
  have h2 : ((rows ls).getLast? == some 13) = false := by rcases rows_last ls with e | e <;> rw [e] <;> rfl
  rw [h2]
  simp only [and_true]
  exact brk_rows ls none h (by simp)
/-- Bytes of whole rows. -/
theorem whole_rows {b : List UInt8} (hr : (lines b).2 = []) : b = rows (lines b).1 := by
  have := lines_join b
  rw [hr, List.append_nil] at this
  exact this.symm
theorem rest_last {b : List UInt8} (hb : bareD b = false) : (lines b).2 = [] ↔ ¬ (b ≠ [] ∧ b.getLast? ≠ some 10) := by
  constructor
  · rintro hr ⟨h1, h2⟩
    have := whole_rows hr
    rcases rows_last (lines b).1 with e | e
    · rw [← this] at e; exact h1 (List.getLast?_eq_none_iff.1 e)
    · rw [← this] at e; exact h2 e
  · intro h
    rcases List.eq_nil_or_concat b with rfl | ⟨l, c, rfl⟩
    · rfl
    · rw [List.concat_eq_append] at h hb ⊢
      have hc : c = 10 := by
        rcases Decidable.em (c = 10) with e | e
        · exact e
        · exact absurd ⟨by simp, by simpa using e⟩ h
      subst hc
      unfold bareD at hb
      rw [Bool.or_eq_false_iff, br_brk, brk_append] at hb
      have h1 := hb.1
      rw [Bool.or_eq_false_iff] at h1
      rcases List.eq_nil_or_concat l with rfl | ⟨m, d, rfl⟩
      · simp [brk] at h1
      · rw [List.concat_eq_append] at h1 ⊢
        have h2 := h1.2
        rw [if_neg (by simp)] at h2
        simp [brk] at h2
        subst h2
        rw [List.append_assoc]
        obtain ⟨t, ht⟩ := lines_crlf m
        show (lines (m ++ [13, 10])).2 = []
        rw [ht]

/-! Check. -/
def lookP (b : List UInt8) : Int := if bareI b then 130 else if b ≠ [] ∧ b.getLast? ≠ some 10 then 141 else 0
def wholeP (b : List UInt8) : Int := if bareI b then 130 else if (lines b).2 ≠ [] then 141 else 0
theorem look_whole (b : List UInt8) : lookP b = wholeP b := by
  unfold lookP wholeP
  by_cases h : bareI b = true
  · rw [if_pos h, if_pos h]
  · rw [if_neg h, if_neg h]
    have hd : bareD b = false := by rw [← bareI_bareD]; simpa using h
    have := rest_last hd
    by_cases h2 : (lines b).2 = []
    · rw [if_neg (this.1 h2), if_neg (by simpa using h2)]
    · rw [if_pos h2, if_pos]
      rcases Decidable.em (b ≠ [] ∧ b.getLast? ≠ some 10) with e | e
      · exact e
      · exact absurd (this.2 e) h2
def checkP (b : List UInt8) (text : Int) : Int := if text < 1 ∨ 16777216 < text then 2 else if lookP b ≠ 0 then lookP b else if longD text.toNat b then 140 else 0
/-! Stuff. -/
def stf1 (p : Bool × List UInt8) (c : UInt8) : Bool × List UInt8 := (c == 10, p.2 ++ (if p.1 && c == 46 then [46, c] else [c]))
def stfB (b : List UInt8) : List UInt8 := (b.foldl stf1 (true, [])).2
def stuffP (b : List UInt8) : List UInt8 := stfB b ++ [46, 13, 10]
def dot (x : List UInt8) : List UInt8 := if x.head? = some 46 then 46 :: x else x
def stuffR (b : List UInt8) : List UInt8 := rows ((lines b).1.map dot) ++ [46, 13, 10]
theorem stf_acc : ∀ (l : List UInt8) (p : Bool) (o : List UInt8), l.foldl stf1 (p, o) = ((l.foldl stf1 (p, [])).1, o ++ (l.foldl stf1 (p, [])).2)
  | [], p, o => by simp
  | c :: r, p, o => by
    rw [List.foldl_cons, List.foldl_cons, stf1, stf_acc r]
    conv => rhs; rw [stf1, stf_acc r]
    simp
theorem stf_plain : ∀ (x : List UInt8) (o : List UInt8), Clean x → x.foldl stf1 (false, o) = (false, o ++ x)
  | [], o, _ => by simp
  | c :: r, o, h => by
    have hc := h c (by simp)
    rw [List.foldl_cons, stf1, show (c == 10) = false from by simpa using hc.2]
    rw [stf_plain r _ (fun d hd => h d (by simp [hd]))]
    simp
theorem stf_row (x : List UInt8) (o : List UInt8) (h : Clean x) : (x ++ [13, 10]).foldl stf1 (true, o) = (true, o ++ (dot x ++ [13, 10])) := by
  rw [List.foldl_append]
  cases x with
  | nil => simp [stf1, dot]
  | cons c r =>
    have hc := h c (by simp)
    rw [List.foldl_cons (a := c), stf1, show (c == 10) = false from by simpa using hc.2, stf_plain r _ (fun d hd => h d (by simp [hd]))]
    by_cases h46 : c = 46
    · subst h46; simp [stf1, dot]
    · simp [stf1, dot, h46]
theorem stf_rows : ∀ (ls : List (List UInt8)) (o : List UInt8), (∀ x ∈ ls, Clean x) → (rows ls).foldl stf1 (true, o) = (true, o ++ rows (ls.map dot))
  | [], o, _ => by simp [rows]
  | x :: ls, o, h => by
    have := stf_rows ls (o ++ (dot x ++ [13, 10])) (fun y hy => h y (by simp [hy]))
    rw [rows] at this ⊢
    rw [List.flatMap_cons, List.foldl_append, stf_row x o (h x (by simp)), this]
    simp [rows]
/-- A body that may be: its rows are clean. -/
theorem look_ok {b : List UInt8} (h : lookP b = 0) : b = rows (lines b).1 ∧ (lines b).2 = [] ∧ (∀ x ∈ (lines b).1, Clean x) ∧ bareD b = false := by
  rw [look_whole] at h
  unfold wholeP at h
  split at h
  · simp at h
  · rename_i hb
    have hd : bareD b = false := by rw [← bareI_bareD]; simpa using hb
    split at h
    · simp at h
    · rename_i hr
      have hr : (lines b).2 = [] := Decidable.not_not.1 hr
      have e := whole_rows hr
      refine ⟨e, hr, ?_, hd⟩
      have h2 := hd
      rw [e] at h2
      exact (bareD_rows _ (lines_noCr b).1).1 h2
theorem stuff_ref {b : List UInt8} (h : lookP b = 0) : stuffP b = stuffR b := by
  obtain ⟨e, _, hc, _⟩ := look_ok h
  unfold stuffP stuffR stfB
  conv => lhs; rw [e]
  rw [stf_rows _ _ hc]
  simp
theorem dot_ne (x : List UInt8) : dot x ≠ [46] := by
  unfold dot
  cases x with
  | nil => simp
  | cons c r =>
    by_cases h : c = 46
    · subst h; simp
    · simp [h]
theorem unst_dot (x : List UInt8) : unst (dot x) = x := by
  unfold dot
  by_cases h : x.head? = some 46
  · rw [if_pos h]; rfl
  · rw [if_neg h]; unfold unst; rw [if_neg h]
theorem Clean.dot {x : List UInt8} (h : Clean x) : Clean (dot x) := by
  unfold Dt.dot
  split
  · intro c hc
    rcases List.mem_cons.1 hc with rfl | hc
    · decide
    · exact h c hc
  · exact h
theorem lines_rows' (ls : List (List UInt8)) (h : ∀ x ∈ ls, NoCr x) : lines (rows ls) = (ls, []) := lines_rows ls h
/-- What is stuffed, read again. -/
theorem back {b : List UInt8} (h : lookP b = 0) (text all : Nat) (ht : b.length ≤ text) (ha : b.length ≤ all) (more : List UInt8) :
    hd text all (stuffP b ++ more) = ⟨b, (stuffP b).length, true, ⟨4, [], [], 0, high b⟩⟩ := by
  obtain ⟨e, _, hc, hd0⟩ := look_ok h
  obtain ⟨ls, hls⟩ : ∃ ls, ls = (lines b).1 := ⟨_, rfl⟩
  rw [← hls] at e hc
  have hs := stuff_ref h
  unfold stuffR at hs
  rw [← hls] at hs
  have hcd : ∀ x ∈ ls.map dot, NoCr x := fun x hx => by
    obtain ⟨y, hy, rfl⟩ := List.mem_map.1 hx
    exact (hc y hy).dot.noCr
  obtain ⟨p, hp⟩ : ∃ p, p = rows (ls.map dot) ++ [46, 13] := ⟨_, rfl⟩
  have hlp : lines p = (ls.map dot, [46, 13]) := by
    rw [hp, lines_append_nil (lines_rows' _ hcd)]
    have : lines [46, 13] = ([], [46, 13]) := rfl
    rw [this]; simp
  have h46 : [46] ∉ (lines p).1 := by
    rw [hlp]; intro hx
    obtain ⟨y, _, hy⟩ := List.mem_map.1 hx
    exact dot_ne y hy
  have hf := feed_end text p h46 (by rw [hlp])
  have hsp : stuffP b = p ++ [10] := by rw [hs, hp]; simp
  have hbody : bodyL (lines p).1 = b := by
    rw [hlp]
    show bodyL (ls.map dot) = b
    conv => rhs; rw [e]
    unfold bodyL rows
    rw [List.flatMap_map]
    simp [unst_dot]
  have hlong : long text (lines p).1 = false := by
    rw [hlp]
    unfold long
    rw [List.any_eq_false]
    intro x hx
    obtain ⟨y, hy, rfl⟩ := List.mem_map.1 hx
    rw [unst_dot]
    simp only [decide_eq_true_eq, Nat.not_lt]
    have h3 : (y ++ [13, 10]).length ≤ (rows ls).length := by
      unfold rows
      have := List.length_flatMap (l := ls) (f := fun x => x ++ [13, 10])
      rw [this]
      exact mem_le_sum _ _ (List.mem_map.2 ⟨y, hy, rfl⟩)
    rw [← e] at h3
    simp at h3
    omega
  rw [hbody] at hf
  have hbr : (br b).2 = false := by unfold bareD at hd0; rw [Bool.or_eq_false_iff] at hd0; exact hd0.1
  rw [hlong, hbr] at hf
  have h5 : (fed text (p ++ [10])).2.1.st = 5 := by unfold fed; rw [hf]
  rw [hsp, hd_done more (hd_ended.2 h5)]
  unfold hd fed
  rw [hf]
  simp only [if_true, decide_true, Hd.mk.injEq, true_and]
  refine ⟨List.take_of_length_le ha, by simp, ?_⟩
  unfold DS.end
  simp only [Bool.false_eq_true, if_false]
  rw [if_neg (by omega)]
end Go.Proofs.YtmenphpilckphaaDoor.Dt
