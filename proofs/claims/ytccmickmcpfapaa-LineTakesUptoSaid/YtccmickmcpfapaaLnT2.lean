/- A liner and the definition's, each with what it takes up, or none. No condition but what each states. -/
import Derived.Test.YtccmickmcpfapaaLnT1
import Derived.Deep.SlicePairs
namespace Go.Proofs.Ytccmickmcpfapaa
open Go Go.RowKit Ln Go.ChangeShapes Go.WideShapes Go.ChangeAt

theorem state_ok {m : Int} (h0 : 0 ≤ m) (l : List UInt8) : (state m l).ok m := by
  have h := state_held h0 l
  unfold LS.ok
  cases hc : (state m l).cr
  · rw [hc] at h
    unfold state at h hc ⊢
    simp only at h hc ⊢
    rw [hc] at h ⊢
    simp only [Bool.false_eq_true, if_false] at h ⊢
    by_cases ha : l.any (fun c => c == 13 || c == 10) = true
    · rw [if_pos ha, if_neg (by decide)]; simpa using h0
    · rw [if_neg ha]
      by_cases hg : (l.length : Int) > m
      · rw [if_pos hg, if_neg (by decide)]; simpa using h0
      · rw [if_neg hg, if_pos rfl]; omega
  · rw [hc] at h; simp only [if_true] at h; omega

/-- What a Take of one that may not be there comes to. -/
def otake (m : Int) : Option (List UInt8) → List UInt8 → Nat × Itm × Option (List UInt8)
  | none, _ => (0, Itm.none, none)
  | some l, bs => ((refTake m l bs).1, (refTake m l bs).2.1, some (refTake m l bs).2.2)
theorem refTake_le (m : Int) : ∀ (b all : List UInt8), (refTake m all b).1 ≤ b.length
  | [], _ => by simp [refTake]
  | c :: r, all => by
    unfold refTake; split
    · simp
    · have := refTake_le m r (all ++ [c]); simp; omega
theorem otake_le (m : Int) (o : Option (List UInt8)) (bs : List UInt8) : (otake m o bs).1 ≤ bs.length := by
  cases o with
  | none => simp [otake]
  | some l => exact refTake_le m bs l
def olen : Option (List UInt8) → Nat
  | none => 0
  | some l => l.length
theorem otake_len (m : Int) (o : Option (List UInt8)) (bs : List UInt8) : olen (otake m o bs).2.2 ≤ olen o + (otake m o bs).1 := by
  cases o with
  | none => simp [otake, olen]
  | some l => exact refTake_len m bs l

/-- The liner, or none. -/
def LO (w : World) (F : Nat → Prop) (p : Value) (m : Int) : Option (List UInt8) → Prop
  | none => p = .pointer none
  | some l => 1 ≤ m ∧ m ≤ 16777216 ∧ ∃ b v, p = .pointer (some ⟨b, 0, none⟩) ∧ LinerAt w b m v (state m l) ∧ F b ∧ ∀ k, v.ownBlock = some k → F k
/-- The definition's, or none. -/
def RO (w : World) (F : Nat → Prop) (p : Value) (m : Int) : Option (List UInt8) → Prop
  | none => p = .pointer none
  | some l => 1 ≤ m ∧ m ≤ 16777216 ∧ ∃ b v, p = .pointer (some ⟨b, 0, none⟩) ∧ RefAt w b m v l ∧ F b ∧ ∀ k, v.ownBlock = some k → F k
theorem LO.kept {S F : Nat → Prop} {w w' : World} {p : Value} {m : Int} {o : Option (List UInt8)} (h : LO w F p m o) (c : Chg S w w') (d : Dis F S) : LO w' F p m o := by
  cases o with
  | none => exact h
  | some l =>
    obtain ⟨a1, a2, b, v, e, h1, h2, h3⟩ := h
    exact ⟨a1, a2, b, v, e, h1.kept c (d b h2) (fun k hk => d k (h3 k hk)), h2, h3⟩
theorem RO.kept {S F : Nat → Prop} {w w' : World} {p : Value} {m : Int} {o : Option (List UInt8)} (h : RO w F p m o) (c : Chg S w w') (d : Dis F S) : RO w' F p m o := by
  cases o with
  | none => exact h
  | some l =>
    obtain ⟨a1, a2, b, v, e, h1, h2, h3⟩ := h
    exact ⟨a1, a2, b, v, e, h1.kept c (d b h2) (fun k hk => d k (h3 k hk)), h2, h3⟩

theorem lo_take {w : World} {F : Nat → Prop} {p : Value} {m : Int} {o : Option (List UInt8)} (h : LO w F p m o) (hi : Ins w F) (bv : Value) (bs : List UInt8) (hbs : Rd w bv 1 (bvs bs)) (hsep : ∀ k, bv.ownBlock = some k → ¬ F k) :
    Calls Try.prog 16 #[p, bv] w fun r w' => r = .returned (.tuple #[.int .i64 (otake m o bs).1, itmV (otake m o bs).2.1]) ∧
      ∃ F', LO w' F' p m (otake m o bs).2.2 ∧ Ins w' F' ∧ Grow w F F' ∧ Chg F w w' := by
  cases o with
  | none =>
    have h : p = .pointer none := h
    subst h
    exact (line_take_nil w bv).mono fun r w' ⟨e, c⟩ => ⟨e, F, rfl, hi.of c, Grow.refl _ _, c.mono (fun _ _ h => h.elim)⟩
  | some l =>
    obtain ⟨a1, a2, b, v, rfl, h1, h2, h3⟩ := h
    have hb := lt_of_block h1.blk
    refine (line_take w b v m (state m l) h1 a1 a2 (state_ok (by omega) l) bv bs hbs (fun _ k hk => ⟨fun e => hsep k hk (e ▸ h2), fun e => hsep k hk (h3 k e)⟩)).mono ?_
    rintro r w' ⟨rfl, v', g1, g2, g3⟩
    have et := take_ref (show 0 ≤ m by omega) bs l
    rw [et] at g1 ⊢
    refine ⟨rfl, fun k => k = b ∨ v'.ownBlock = some k, ⟨a1, a2, b, v', rfl, g1, .inl rfl, fun k hk => .inr hk⟩, ?_, ?_, g3.mono (fun i _ e => e.elim (fun e => e ▸ h2) (fun e => h3 i e.symm))⟩
    · rintro k (e | e)
      · subst e; exact lt_of_block g1.blk
      · exact g1.arr.lt k e
    · rintro k (e | e)
      · left; subst e; exact h2
      · rcases g2 with g | g | ⟨i, g, hi'⟩
        · rw [e] at g; cases g
        · left; exact h3 k (by rw [← g]; exact e)
        · rw [e] at g; injection g with g; subst g; right; omega
theorem ro_take {w : World} {F : Nat → Prop} {p : Value} {m : Int} {o : Option (List UInt8)} (h : RO w F p m o) (hi : Ins w F) (bv : Value) (bs : List UInt8) (hbs : Rd w bv 1 (bvs bs)) (hsep : ∀ k, bv.ownBlock = some k → ¬ F k) (hlen : olen o + bs.length ≤ 4194304) :
    Calls Try.prog 15 #[p, bv] w fun r w' => r = .returned (.tuple #[.int .i64 (otake m o bs).1, itmV (otake m o bs).2.1]) ∧
      ∃ F', RO w' F' p m (otake m o bs).2.2 ∧ Ins w' F' ∧ Grow w F F' ∧ Chg F w w' := by
  cases o with
  | none =>
    have h : p = .pointer none := h
    subst h
    go_enter Try.func15, Try.ntmps15
    go_wp2
    refine bodyPost_ret (v := .tuple #[.int .i64 0, itmV Itm.none]) ?_ rfl ⟨rfl, F, rfl, ?_, Grow.refl _ _, (Chg.refl _ w).alloc _⟩
    · simp [results, Try.results15, go_sem, itmV, Itm.none]
    · exact hi.of ((Chg.refl F w).alloc _)
  | some l =>
    obtain ⟨a1, a2, b, v, rfl, h1, h2, h3⟩ := h
    have hb := lt_of_block h1.blk
    refine (ref_take w b v m l h1 bv bs hbs (fun _ k hk => ⟨fun e => hsep k hk (e ▸ h2), fun e => hsep k hk (h3 k e)⟩) hlen).mono ?_
    rintro r w' ⟨rfl, v', g1, g2, g3⟩
    refine ⟨rfl, fun k => k = b ∨ v'.ownBlock = some k, ⟨a1, a2, b, v', rfl, g1, .inl rfl, fun k hk => .inr hk⟩, ?_, ?_, g3.mono (fun i _ e => e.elim (fun e => e ▸ h2) (fun e => h3 i e.symm))⟩
    · rintro k (e | e)
      · subst e; exact lt_of_block g1.blk
      · exact g1.arr.lt k e
    · rintro k (e | e)
      · left; subst e; exact h2
      · rcases g2 with g | g | ⟨i, g, hi'⟩
        · rw [e] at g; cases g
        · left; exact h3 k (by rw [← g]; exact e)
        · rw [e] at g; injection g with g; subst g; right; omega
/-- What Held tells. -/
def oheld (m : Int) : Option (List UInt8) → Int
  | none => 0
  | some l => heldN (state m l)
theorem lo_held {w : World} {F : Nat → Prop} {p : Value} {m : Int} {o : Option (List UInt8)} (h : LO w F p m o) :
    Calls Try.prog 19 #[p] w fun r w' => r = .returned (.int .i64 (oheld m o)) ∧ w = w' := by
  cases o with
  | none =>
    have h : p = .pointer none := h
    subst h
    exact line_held_nil w
  | some l =>
    obtain ⟨a1, a2, b, v, rfl, h1, h2, h3⟩ := h
    exact line_held w b v m (state m l) h1 a2 (state_ok (by omega) l)
theorem oheld_ok {w : World} {F : Nat → Prop} {p : Value} {m : Int} {o : Option (List UInt8)} (h : LO w F p m o) : 0 ≤ oheld m o ∧ (o = none → oheld m o = 0) ∧ (∀ l, o = some l → oheld m o ≤ l.length ∧ oheld m o ≤ m + 1) := by
  cases o with
  | none => exact ⟨by simp [oheld], fun _ => rfl, fun l h => by cases h⟩
  | some l =>
    obtain ⟨a1, a2, _⟩ := h
    have := state_held (show 0 ≤ m by omega) l
    refine ⟨?_, fun h => (by cases h), fun l' e => ?_⟩
    · unfold oheld heldN; split <;> omega
    · injection e with e; subst e; exact this

/-- What New makes. -/
def newE (m : Int) : Int := if m < 1 ∨ 16777216 < m then 2 else 0
def onew (m : Int) : Option (List UInt8) := if m < 1 ∨ 16777216 < m then none else some []
theorem lo_new (m : Int) (w : World) : Calls Try.prog 12 #[.int .i64 m] w fun r w' => ∃ p F, r = .returned (.tuple #[p, .int .i64 (newE m)]) ∧ LO w' F p m (onew m) ∧ Ins w' F ∧ (∀ k, F k → w.heap.size ≤ k) ∧ Chg (fun _ => False) w w' := by
  unfold onew newE
  by_cases h : m < 1 ∨ 16777216 < m
  · rw [if_pos h, if_pos h]
    exact (line_new_no m w h).mono fun r w' ⟨e, c⟩ => ⟨_, fun _ => False, e, rfl, fun k h => h.elim, fun k h => h.elim, c ▸ Chg.refl _ _⟩
  · rw [if_neg h, if_neg h]
    refine (line_new m w (by omega) (by omega)).mono fun r w' ⟨e, a, c⟩ => ⟨_, (· = w.heap.size), e, ⟨by omega, by omega, w.heap.size, .slice none 0 0, rfl, ?_, rfl, fun k h => by simp [Value.ownBlock] at h⟩, fun k h => by subst h; exact lt_of_block a.blk, fun k h => by subst h; exact Nat.le_refl _, c⟩
    rw [state_nil (by omega)]; exact a
theorem ro_new (m : Int) (w : World) : Calls Try.prog 13 #[.int .i64 m] w fun r w' => ∃ p F, r = .returned (.tuple #[p, .int .i64 (newE m)]) ∧ RO w' F p m (onew m) ∧ Ins w' F ∧ (∀ k, F k → w.heap.size ≤ k) ∧ Chg (fun _ => False) w w' := by
  unfold onew newE
  by_cases h : m < 1 ∨ 16777216 < m
  · rw [if_pos h, if_pos h]
    exact (ref_new_no m w h).mono fun r w' ⟨e, c⟩ => ⟨_, fun _ => False, e, rfl, fun k h => h.elim, fun k h => h.elim, c ▸ Chg.refl _ _⟩
  · rw [if_neg h, if_neg h]
    exact (ref_new m w (by omega) (by omega)).mono fun r w' ⟨e, a, c⟩ => ⟨_, (· = w.heap.size), e, ⟨by omega, by omega, w.heap.size, _, rfl, a, rfl, fun k h => by simp [Value.ownBlock] at h⟩, fun k h => by subst h; exact lt_of_block a.blk, fun k h => by subst h; exact Nat.le_refl _, c⟩
end Go.Proofs.Ytccmickmcpfapaa
