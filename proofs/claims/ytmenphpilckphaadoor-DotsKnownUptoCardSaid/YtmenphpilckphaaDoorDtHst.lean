/- A hearing, step by step: plain. No condition but what each states. -/
import Derived.Test.YtmenphpilckphaaDoorDtHear
namespace Go.Proofs.YtmenphpilckphaaDoor.Dt

/-- What one Take adds to a hearing. -/
def Hd.step (h : Hd) (n : Nat) (x : It) : Hd := ⟨if x.kind = 3 then h.told ++ x.bytes else h.told, h.taken + n, decide (x.kind = 4), if x.kind = 4 then x else h.fin⟩
theorem Hd.step_none (h : Hd) (n : Nat) (he : h.ended = false) : h.step n It.none = ⟨h.told, h.taken + n, h.ended, h.fin⟩ := by
  simp [Hd.step, It.none, he]
theorem Hd.step_body (h : Hd) (n : Nat) (b : List UInt8) (he : h.ended = false) : h.step n (It.body b) = ⟨h.told ++ b, h.taken + n, h.ended, h.fin⟩ := by
  simp [Hd.step, It.body, he]
theorem Hd.step_end (h : Hd) (n : Nat) (x : It) (hx : x.kind = 4) : h.step n x = ⟨h.told, h.taken + n, true, x⟩ := by
  simp [Hd.step, hx]
/-- Where a piece p behind P stands: g Takes at most are left; h, r: hearing and reader; q: what is left of the piece; a: whether it is to be taken again. -/
def PS (text all : Nat) (P p : List UInt8) (g : Nat) (h : Hd) (r : RS) (q : List UInt8) (a : Bool) : Prop :=
  (g = 2 ∧ h = hd text all P ∧ r = rs text P ∧ q = p ∧ a = true ∧ h.ended = false) ∨
  (g = 1 ∧ h = hdMid text all P p ∧ r = ⟨(fed text (P ++ p)).2.1, (hd text all (P ++ p)).ended⟩ ∧ ((hd text all (P ++ p)).ended = false → q = []) ∧ a = true) ∨
  (g = 0 ∧ h = hd text all (P ++ p) ∧ r = rs text (P ++ p) ∧ (a = false ∨ h.ended = true))
theorem PS.start (text all : Nat) (P p : List UInt8) : PS text all P p (if (hd text all P).ended then 0 else 2) (hd text all P) (rs text P) p true := by
  by_cases h : (hd text all P).ended = true
  · rw [if_pos h]
    exact .inr (.inr ⟨rfl, (hd_done p h).symm, (rs_done p h).symm, .inr h⟩)
  · rw [if_neg h]
    exact .inl ⟨rfl, rfl, rfl, rfl, rfl, by simpa using h⟩
theorem PS.open {text all : Nat} {P p : List UInt8} {g : Nat} {h : Hd} {r : RS} {q : List UInt8} {a : Bool} (s : PS text all P p g h r q a) (hg : g ≠ 0) : a = true ∧ h.ended = false ∧ r.d.size ≤ 2 * (P ++ p).length := by
  rcases s with ⟨_, _, rfl, _, h5, h6⟩ | ⟨_, rfl, rfl, _, h5⟩ | ⟨h0, _⟩
  · refine ⟨h5, h6, ?_⟩
    have := rs_size text P
    simp only [List.length_append]; omega
  · exact ⟨h5, rfl, rs_size text (P ++ p)⟩
  · exact absurd h0 hg
theorem PS.done {text all : Nat} {P p : List UInt8} {h : Hd} {r : RS} {q : List UInt8} {a : Bool} (s : PS text all P p 0 h r q a) : h = hd text all (P ++ p) ∧ r = rs text (P ++ p) ∧ (a = false ∨ h.ended = true) := by
  rcases s with ⟨h0, _⟩ | ⟨h0, _⟩ | ⟨_, h⟩
  · cases h0
  · cases h0
  · exact h
theorem PS.next {text all : Nat} {P p : List UInt8} {g : Nat} {h : Hd} {r : RS} {q : List UInt8} {a : Bool} (s : PS text all P p g h r q a) (hg : g ≠ 0) {n : Nat} {x : It} {r' : RS} (ht : RS.take text all r q = (n, x, r')) :
    n ≤ q.length ∧ ∃ g', g' < g ∧ PS text all P p g' (h.step n x) r' (q.drop n) (decide (x.kind = 3)) ∧
      ((x.kind = 3 ∧ x = It.body x.bytes ∧ x.bytes ≠ []) ∨ (x.kind = 4 ∧ x.bytes = []) ∨ (x = It.none ∧ n = q.length)) := by
  rcases s with ⟨rfl, rfl, rfl, rfl, rfl, h6⟩ | ⟨rfl, rfl, rfl, h4, rfl⟩ | ⟨h0, _⟩
  · by_cases hk : x.kind = 3
    · obtain ⟨e1, e2, e3, e4, e5, e6⟩ := take_body q h6 ht hk
      have hn : n ≤ q.length := by rw [e1]; exact feed_le _ _ _
      refine ⟨hn, 1, by omega, .inr (.inl ⟨rfl, ?_, e6, fun he => ?_, by simp [hk]⟩), .inl ⟨hk, e2, e3⟩⟩
      · unfold Hd.step hdMid
        rw [if_pos hk, ← e4, ← e5]
        have h4' : ¬ x.kind = 4 := by omega
        rw [if_neg h4', (hd_open h6).2]
        simp [h4']
      · have := take_whole q h6 he
        rw [← e1] at this
        exact List.drop_eq_nil_of_le (by omega)
    · obtain ⟨e1, e2, e3, e4, e5⟩ := take_quiet q h6 ht hk
      have hn : n ≤ q.length := by rw [e1]; exact feed_le _ _ _
      have hb : x.kind = 4 → x.bytes = [] := fun hk4 => by
        rcases e5 with ⟨_, f2, f3⟩ | ⟨f1, _⟩
        · rw [← f3]
          unfold hd
          simp only
          split
          · rfl
          · rfl
        · rw [f1]; rfl
      refine ⟨hn, 0, by omega, .inr (.inr ⟨rfl, ?_, e4, .inl (by simp [hk])⟩), ?_⟩
      · rcases e5 with ⟨f1, f2, f3⟩ | ⟨f1, f2, f3⟩
        · rw [Hd.step_end _ _ _ f1, ← e2, ← e3, ← f3, ← f2]
        · rw [f1, Hd.step_none _ _ h6, ← e2, ← e3, (hd_open h6).2, h6]
          conv => lhs; rw [← f2, ← (hd_open f2).2]
      · rcases e5 with ⟨f1, f2, f3⟩ | ⟨f1, f2, f3⟩
        · exact .inr (.inl ⟨f1, hb f1⟩)
        · exact .inr (.inr ⟨f1, f3⟩)
  · by_cases he : (hd text all (P ++ p)).ended = true
    · rw [he] at ht
      obtain ⟨e1, e2⟩ := take_second_end q he
      rw [e1] at ht
      simp only [Prod.mk.injEq] at ht
      obtain ⟨rfl, rfl, rfl⟩ := ht
      refine ⟨Nat.zero_le _, 0, by omega, .inr (.inr ⟨rfl, ?_, rfl, .inl (by rw [e2]; rfl)⟩), .inr (.inl ⟨e2, ?_⟩)⟩
      · unfold Hd.step hdMid
        rw [if_neg (by rw [e2]; decide), if_pos e2]
        have : decide ((hd text all (P ++ p)).fin.kind = 4) = (hd text all (P ++ p)).ended := by rw [e2, he]; rfl
        rw [this]; rfl
      · have h5 := hd_ended.1 he
        simp [hd, h5, DS.end]
    · have he' : (hd text all (P ++ p)).ended = false := by simpa using he
      have hq := h4 he'
      subst hq
      rw [he', take_second_none he'] at ht
      simp only [Prod.mk.injEq] at ht
      obtain ⟨rfl, rfl, rfl⟩ := ht
      refine ⟨Nat.le_refl _, 0, by omega, .inr (.inr ⟨rfl, ?_, rfl, .inl rfl⟩), .inr (.inr ⟨rfl, rfl⟩)⟩
      rw [Hd.step_none _ _ rfl]
      unfold hdMid
      simp only [Nat.add_zero]
      conv => lhs; rw [← he', ← (hd_open he').2]
  · exact absurd h0 hg
theorem PS.le {text all : Nat} {P p : List UInt8} {g : Nat} {h : Hd} {r : RS} {q : List UInt8} {a : Bool} (s : PS text all P p g h r q a) : h.told.length ≤ 2 * (P ++ p).length ∧ h.taken ≤ (P ++ p).length ∧ (h.fin.bytes = [] ∧ h.fin.text = []) := by
  have hf : ∀ Q, (hd text all Q).fin.bytes = [] ∧ (hd text all Q).fin.text = [] := fun Q => by
    unfold hd; simp only; split
    · exact ⟨rfl, rfl⟩
    · exact ⟨rfl, rfl⟩
  have h1 := hd_told_le text all P
  have h2 := hd_told_le text all (P ++ p)
  rw [List.length_append] at h2 ⊢
  rcases s with ⟨_, rfl, _⟩ | ⟨_, rfl, _⟩ | ⟨_, rfl, _⟩
  · exact ⟨by omega, by omega, hf _⟩
  · unfold hdMid; exact ⟨h2.1, h2.2, rfl, rfl⟩
  · exact ⟨by omega, by omega, hf _⟩
end Go.Proofs.YtmenphpilckphaaDoor.Dt
