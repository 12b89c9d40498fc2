/- Which entry goes first: one and the same, in whatever order the entries are looked at. No program in sight. -/
import Derived.Test.YtplkoephgmdgkaaRtTab
import Derived.Laws.Strings
namespace Go.Proofs.Ytplkoephgmdgkaa
open Go
namespace Rt
theorem bl_eq : ∀ x y : List UInt8, Op.bytesLess x y = decide (x < y)
  | [], [] => by simp [Op.bytesLess]
  | _ :: _, [] => by simp [Op.bytesLess]
  | [], _ :: _ => by simp [Op.bytesLess]
  | a :: x, b :: y => by
    rw [Op.bytesLess, bl_eq x y]
    simp only [List.cons_lt_cons_iff]
    by_cases h1 : a < b <;> by_cases h2 : a = b <;> by_cases h3 : x < y <;> simp [h1, h2, h3]
theorem ba_inj {a b : ByteArray} (h : a.toList = b.toList) : a = b := by
  rw [ByteArray.toList_eq, ByteArray.toList_eq] at h
  cases a; cases b
  exact congrArg ByteArray.mk (Array.toList_inj.1 h)
theorem bef_iff (a b : Ent) : bef a b = true ↔ last a < last b ∨ (last a = last b ∧ a.key.toList < b.key.toList) := by
  unfold bef
  rw [bl_eq]
  simp
theorem bef_irrefl (a : Ent) : bef a a = false := by
  rw [Bool.eq_false_iff]
  intro h
  rcases (bef_iff a a).1 h with h | h
  · omega
  · exact List.lt_irrefl _ h.2
theorem bef_trans {a b c : Ent} (h : bef a b = true) (k : bef b c = true) : bef a c = true := by
  rw [bef_iff] at *
  rcases h with h | ⟨h1, h2⟩ <;> rcases k with k | ⟨k1, k2⟩
  · exact .inl (by omega)
  · exact .inl (by omega)
  · exact .inl (by omega)
  · exact .inr ⟨by omega, List.lt_trans h2 k2⟩
theorem bef_key {a b : Ent} (h : bef a b = false) (k : bef b a = false) : a.key = b.key := by
  rw [Bool.eq_false_iff] at h k
  rw [ne_eq, bef_iff] at h k
  have e : last a = last b := by omega
  apply ba_inj
  refine List.le_antisymm (List.not_lt.1 (fun g => k (.inr ⟨e.symm, g⟩))) (List.not_lt.1 (fun g => h (.inr ⟨e, g⟩)))
/-- Of the entries that were looked at (seen) this is the one that goes first. -/
def Bst (t : Tb) (now : Nat) (seen : ByteArray → Bool) : Option Ent → Prop
  | none => ∀ e ∈ t.L, seen e.key = true → lvl t e now ≠ t.burst
  | some g => g ∈ t.L ∧ seen g.key = true ∧ lvl t g now = t.burst ∧ ∀ e ∈ t.L, seen e.key = true → lvl t e now = t.burst → bef e g = false
theorem Bst.start {t : Tb} {now : Nat} {seen : ByteArray → Bool} (h : ∀ k, seen k = false) : Bst t now seen none := fun e _ he => by rw [h] at he; cases he
theorem key_one {t : Tb} (h : t.ok) {a b : Ent} (ha : a ∈ t.L) (hb : b ∈ t.L) (e : a.key = b.key) : a = b := by
  have hp := h.apart
  generalize t.L = l at *
  induction l with
  | nil => cases ha
  | cons x r ih =>
    rw [List.pairwise_cons] at hp
    rcases List.mem_cons.1 ha with h1 | h1 <;> rcases List.mem_cons.1 hb with h2 | h2
    · rw [h1, h2]
    · subst h1; exact absurd e (hp.1 b h2)
    · subst h2; exact absurd e.symm (hp.1 a h1)
    · exact ih h1 h2 hp.2
theorem Bst.skip {t : Tb} (ht : t.ok) {now : Nat} {seen seen' : ByteArray → Bool} {o : Option Ent} {e : Ent} (h : Bst t now seen o) (he : e ∈ t.L) (hs : ∀ k, seen' k = (seen k || decide (k = e.key))) (hl : lvl t e now ≠ t.burst) : Bst t now seen' o := by
  have hx : ∀ x ∈ t.L, seen' x.key = true → lvl t x now = t.burst → seen x.key = true := by
    intro x hx h1 h2
    rw [hs] at h1
    rcases Bool.or_eq_true_iff.1 h1 with h1 | h1
    · exact h1
    · rw [key_one ht hx he (of_decide_eq_true h1)] at h2; exact absurd h2 hl
  cases o with
  | none => exact fun x hx1 h1 h2 => h x hx1 (hx x hx1 h1 h2) h2
  | some g =>
    obtain ⟨h1, h2, h3, h4⟩ := h
    exact ⟨h1, by rw [hs, h2]; rfl, h3, fun x hx1 g1 g2 => h4 x hx1 (hx x hx1 g1 g2) g2⟩
theorem Bst.step {t : Tb} (ht : t.ok) {now : Nat} {seen seen' : ByteArray → Bool} {o : Option Ent} {e : Ent} (h : Bst t now seen o) (he : e ∈ t.L) (hs : ∀ k, seen' k = (seen k || decide (k = e.key))) (hl : lvl t e now = t.burst) : Bst t now seen' (better o e) := by
  have hx : ∀ x ∈ t.L, seen' x.key = true → seen x.key = true ∨ x = e := by
    intro x hx h1
    rw [hs] at h1
    rcases Bool.or_eq_true_iff.1 h1 with h1 | h1
    · exact .inl h1
    · exact .inr (key_one ht hx he (of_decide_eq_true h1))
  have hse : seen' e.key = true := by rw [hs]; simp
  cases o with
  | none =>
    refine ⟨he, hse, hl, fun x hx1 g1 g2 => ?_⟩
    rcases hx x hx1 g1 with h' | rfl
    · exact absurd g2 (h x hx1 h')
    · exact bef_irrefl x
  | some g =>
    obtain ⟨h1, h2, h3, h4⟩ := h
    unfold better
    simp only
    split
    · rename_i hb
      refine ⟨he, hse, hl, fun x hx1 g1 g2 => ?_⟩
      rcases hx x hx1 g1 with h' | rfl
      · rw [Bool.eq_false_iff]
        intro hc
        have := h4 x hx1 h' g2
        rw [bef_trans hc hb] at this
        cases this
      · exact bef_irrefl x
    · rename_i hb
      refine ⟨h1, by rw [hs, h2]; rfl, h3, fun x hx1 g1 g2 => ?_⟩
      rcases hx x hx1 g1 with h' | rfl
      · exact h4 x hx1 h' g2
      · simpa using hb
theorem Bst.one {t : Tb} (ht : t.ok) {now : Nat} {seen : ByteArray → Bool} {o o' : Option Ent} (h : Bst t now seen o) (h' : Bst t now seen o') : o = o' := by
  cases o with
  | none =>
    cases o' with
    | none => rfl
    | some g => exact absurd h'.2.2.1 (h g h'.1 h'.2.1)
  | some g =>
    cases o' with
    | none => exact absurd h.2.2.1 (h' g h.1 h.2.1)
    | some g' =>
      have h1 := h.2.2.2 g' h'.1 h'.2.1 h'.2.2.1
      have h2 := h'.2.2.2 g h.1 h.2.1 h.2.2.1
      rw [key_one ht h.1 h'.1 (bef_key h2 h1)]
theorem foldl_bst {t : Tb} (ht : t.ok) (now : Nat) : ∀ (l : List Ent) (o : Option Ent) (seen : ByteArray → Bool), (∀ e ∈ l, e ∈ t.L) → Bst t now seen o →
    Bst t now (fun k => seen k || l.any (fun e => decide (k = e.key))) (l.foldl (fun o e => if lvl t e now = t.burst then better o e else o) o)
  | [], o, seen, _, h => by simpa using h
  | e :: r, o, seen, hm, h => by
    have he := hm e (List.mem_cons_self ..)
    have hr := fun x hx => hm x (List.mem_cons_of_mem _ hx)
    have key : Bst t now (fun k => seen k || decide (k = e.key)) (if lvl t e now = t.burst then better o e else o) := by
      by_cases hl : lvl t e now = t.burst
      · rw [if_pos hl]; exact h.step ht he (fun _ => rfl) hl
      · rw [if_neg hl]; exact h.skip ht he (fun _ => rfl) hl
    have := foldl_bst ht now r _ _ hr key
    simpa [Bool.or_assoc] using this
theorem best_bst {t : Tb} (ht : t.ok) (now : Nat) : Bst t now (fun k => t.L.any (fun e => decide (k = e.key))) (best t now) := by
  have := foldl_bst ht now t.L none (fun _ => false) (fun _ h => h) (Bst.start fun _ => rfl)
  simpa [best] using this
theorem best_is {t : Tb} (ht : t.ok) {now : Nat} {seen : ByteArray → Bool} {o : Option Ent} (h : Bst t now seen o) (hs : ∀ e ∈ t.L, seen e.key = true) : best t now = o := by
  have hb := best_bst ht now
  have hall : ∀ e ∈ t.L, (t.L.any fun x => decide (e.key = x.key)) = true := fun e he => List.any_eq_true.2 ⟨e, he, by simp⟩
  have h' : Bst t now seen (best t now) := by
    generalize best t now = b at *
    cases b with
    | none => exact fun e he _ => hb e he (hall e he)
    | some g => exact ⟨hb.1, hs g hb.1, hb.2.2.1, fun e he _ g2 => hb.2.2.2 e he (hall e he) g2⟩
  exact h'.one ht h
end Rt
end Go.Proofs.Ytplkoephgmdgkaa
