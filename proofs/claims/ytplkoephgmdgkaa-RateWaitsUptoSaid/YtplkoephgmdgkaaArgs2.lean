/- A slice of rows (structs), opened element by element. No condition. -/
import Derived.Test.YtplkoephgmdgkaaArgs
namespace Go.Proofs.Ytplkoephgmdgkaa
open Go Go.RowKit Go.ChangeShapes Go.WideShapes Go.ChangeAt

theorem bulkAll_ge {H : Type} : ∀ (l : List (DataW H)) (f : Nat → Nat), (∀ i (h : i < l.length), f i ≤ Rows.uptoBulk l[i]) → ((List.range l.length).map f).sum ≤ Rows.uptoBulkAll l
  | [], _, _ => by simp [Rows.uptoBulkAll]
  | d :: r, f, h => by
    have h0 := h 0 (by simp)
    have ih := bulkAll_ge r (fun i => f (i + 1)) (fun i hi => h (i + 1) (by simpa using hi))
    simp only [List.length_cons, List.range_succ_eq_map, List.map_cons, List.map_map, List.sum_cons, Rows.uptoBulkAll]
    simp only [List.getElem_cons_zero] at h0
    have e : ((fun i => f (i + 1)) : Nat → Nat) = f ∘ Nat.succ := rfl
    rw [e] at ih
    omega
theorem rows_at {α : Type} (sz : Nat) (rowOf : α → List Value) (hsz : ∀ a, (rowOf a).length = sz) : ∀ (l : List α) (i j : Nat) (hi : i < l.length) (_hj : j < sz),
    (l.flatMap rowOf)[i * sz + j]? = (rowOf l[i])[j]?
  | a :: r, 0, j, _, hj => by
    rw [List.flatMap_cons, List.getElem?_append_left (by rw [hsz]; omega)]; simp
  | a :: r, i + 1, j, hi, hj => by
    rw [List.flatMap_cons, List.getElem?_append_right (by rw [hsz, Nat.add_mul]; omega), hsz]
    rw [show (i + 1) * sz + j - sz = i * sz + j from by rw [Nat.add_mul]; omega]
    rw [rows_at sz rowOf hsz r i j (by simpa using hi) hj]; simp
theorem rows_len {α : Type} (sz : Nat) (rowOf : α → List Value) (hsz : ∀ a, (rowOf a).length = sz) (l : List α) : (l.flatMap rowOf).length = l.length * sz := by
  induction l with
  | nil => simp
  | cons a r ih => rw [List.flatMap_cons, List.length_append, hsz, ih, List.length_cons, Nat.add_mul]; omega

section
variable {H : Type} {enc : TypeId × Value → H} {P : Program} {W : World}

/-- A slice whose elements read as rows. -/
theorem arg_rows {α : Type} [Inhabited α] {T E : TypeId} (sz : Nat) (rowOf : α → List Value) (Q : α → Prop) (bk : α → Nat) (hT : P.underlying T = some (.slice E)) (hE : P.cellsOf E = sz) (hsz : ∀ a, (rowOf a).length = sz) (hpos : 0 < sz)
    {sp : Nat → Bool} {m : Nat} {cs : List Value} {x : DataW H × List MemPlace} (h : DataW.trod enc P W 0 sp true m T cs = some x)
    (hrow : ∀ k cs' D Pl, DataW.trod enc P W 0 sp true k E cs' = some (D, Pl) → ∃ a, cs' = rowOf a ∧ Q a ∧ bk a ≤ Rows.uptoBulk D) :
    ∃ (ao : Option Addr) (n cap : Nat) (l : List α), cs = [.slice ao n cap] ∧ Rd W (.slice ao n cap) sz (l.flatMap rowOf) ∧ l.length = n ∧ (∀ a ∈ l, Q a) ∧ (l.map bk).sum + 1 ≤ Rows.uptoBulk x.1 := by
  rcases Go.Deep.open_slice hT h with ⟨rfl, rfl⟩ | ⟨a, len, cap, m', n, D, Pl, rfl, _, hl, hm, hmm, rfl, hx⟩
  · exact ⟨none, 0, 0, [], rfl, ⟨none, 0, 0, rfl, by simp, by simp, by simp [maxLen], fun _ => ⟨rfl, rfl⟩, fun a h => by cases h⟩, rfl, by simp, by simp [Rows.uptoBulk]⟩
  · have hlm : len ≤ m' := by rw [hmm]; split <;> omega
    obtain ⟨f, hf⟩ := Go.Deep.choose_lt (n := len) (p := fun i (y : α) => W.cells? 0 (a.add (i * sz)) sz = some (rowOf y) ∧ Q y ∧ bk y ≤ Rows.uptoBulk (D i)) (fun i hi => by
      obtain ⟨cs', h1, h2⟩ := hx i (by omega)
      obtain ⟨y, rfl, h3, h4⟩ := hrow _ _ _ _ h2
      rw [hE] at h1
      exact ⟨y, h1, h3, h4⟩)
    refine ⟨some a, len, cap, (List.range len).map f, rfl, ⟨some a, len, cap, rfl, ?_, hl, hm, fun h => by simp at h, ?_⟩, by simp, ?_, ?_⟩
    · rw [rows_len sz rowOf hsz]; simp
    · intro a' ha hne
      injection ha with ha; subst ha
      have hlen0 : 0 < len := by
        rcases Nat.eq_zero_or_pos len with h | h
        · subst h; simp at hne
        · exact h
      have cellAt : ∀ i j, i < len → j < sz → W.cell? ((a.add (i * sz)).add j) = (rowOf (f i))[j]? := fun i j hi hj => by
        obtain ⟨_, g1, g2⟩ := World.cells?_some (hf i hi).1
        rw [g2 j hj]
      have hsp : a.spot = none := by
        have h0 := cellAt 0 0 hlen0 hpos
        rw [List.getElem?_eq_getElem (by rw [hsz]; exact hpos)] at h0
        unfold World.cell? at h0
        simp only [Nat.zero_mul, Addr.add, if_true] at h0
        split at h0
        · cases hs : a.spot with
          | none => rfl
          | some s => simp [hs] at h0
        · cases h0
      obtain ⟨b, o, s⟩ := a
      simp only at hsp; subst hsp
      refine ⟨rfl, fun i hi => ?_⟩
      rw [rows_len sz rowOf hsz] at hi
      simp only [List.length_map, List.length_range] at hi
      have hq : i / sz < len := Nat.div_lt_of_lt_mul (by rw [Nat.mul_comm]; exact hi)
      have hr : i % sz < sz := Nat.mod_lt _ hpos
      have hc := cellAt (i / sz) (i % sz) hq hr
      rw [Addr.add_none, Addr.add_none] at hc
      have hdm : i / sz * sz + i % sz = i := by rw [Nat.mul_comm]; exact Nat.div_add_mod i sz
      rw [Nat.add_assoc, hdm] at hc
      show W.cell? ⟨b, o + i, none⟩ = _
      rw [hc]
      have ht := rows_at sz rowOf hsz ((List.range len).map f) (i / sz) (i % sz) (by simpa using hq) hr
      rw [hdm] at ht
      rw [← List.getElem?_eq_getElem, ht]
      simp
    · intro y hy
      simp only [List.mem_map, List.mem_range] at hy
      obtain ⟨i, hi, rfl⟩ := hy
      exact (hf i hi).2.1
    · simp only [Rows.uptoBulk]
      have := bulkAll_ge ((List.range len).map D) (fun i => bk (f i)) (fun i hi => by
        simp only [List.length_map, List.length_range] at hi
        simpa using (hf i hi).2.2)
      simp only [List.length_map, List.length_range] at this
      rw [List.map_map]
      have e : (bk ∘ f) = fun i => bk (f i) := rfl
      rw [e]
      omega
end
end Go.Proofs.Ytplkoephgmdgkaa
