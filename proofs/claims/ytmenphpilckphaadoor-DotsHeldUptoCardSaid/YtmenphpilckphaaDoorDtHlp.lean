/- One piece of a stream, and what is held behind it: plain. No condition but what each states. -/
import Derived.Test.YtmenphpilckphaaDoorDtHst
import Derived.Test.YtmenphpilckphaaDoorDtHld
namespace Go.Proofs.YtmenphpilckphaaDoor.Dt

theorem piece_law (text all : Nat) (P p : List UInt8) (h : (hd text all P).ended = false) (ha : (P ++ p).length ≤ all) {n : Nat} {x : It} {r' : RS} (ht : RS.take text all (rs text P) p = (n, x, r')) :
    n ≤ p.length ∧ (((x.kind = 4 ∨ n < p.length) ∧ RS.held r' = 0) ∨
    (x.kind ≠ 4 ∧ n = p.length ∧ (hd text all (P ++ p)).told.length = (hd text all P).told.length + x.bytes.length ∧ endsB (P ++ p) = (hd text all (P ++ p)).ended ∧
      (((hd text all (P ++ p)).ended = true ∧ RS.held r' = 0) ∨
       ((hd text all (P ++ p)).ended = false ∧ r' = rs text (P ++ p) ∧ ((P ++ p).length : Int) - (hd text all (P ++ p)).told.length = dropN (P ++ p) + max (RS.held r' - 1) 0 ∧ 0 ≤ RS.held r' ∧ RS.held r' ≤ 2)))) := by
  obtain ⟨h5, -⟩ := hd_open h
  have hP : (hd text all P).taken = P.length := fed_all h5
  by_cases hk : x.kind = 3
  · obtain ⟨e1, e2, e3, e4, e5, e6⟩ := take_body p h ht hk
    have hn : n ≤ p.length := by rw [e1]; exact feed_le _ _ _
    refine ⟨hn, ?_⟩
    by_cases hlt : n < p.length
    · left
      refine ⟨.inr hlt, ?_⟩
      have he : (hd text all (P ++ p)).ended = true := by
        cases hb : (hd text all (P ++ p)).ended with
        | true => rfl
        | false => have := take_whole p h hb; omega
      rw [e6]; exact held_ended text all _ _ he
    · right
      have hnn : n = p.length := by omega
      have htk : (hd text all (P ++ p)).taken = (P ++ p).length := by rw [e5, hP, List.length_append]; omega
      refine ⟨by omega, hnn, by rw [e4, List.length_append], ends_spec text all _ htk, ?_⟩
      cases he : (hd text all (P ++ p)).ended with
      | true => left; refine ⟨rfl, ?_⟩; rw [e6]; exact held_ended text all _ _ he
      | false =>
        right
        have er : r' = rs text (P ++ p) := by rw [e6, he]; rfl
        have := held_law text all (P ++ p) he ha
        rw [← er] at this
        exact ⟨rfl, er, this⟩
  · obtain ⟨e1, e2, e3, e4, e5⟩ := take_quiet p h ht hk
    have hn : n ≤ p.length := by rw [e1]; exact feed_le _ _ _
    refine ⟨hn, ?_⟩
    rcases e5 with ⟨f1, f2, f3⟩ | ⟨f1, f2, f3⟩
    · left
      refine ⟨.inl f1, ?_⟩
      rw [e4]; exact held_ended text all _ _ f2
    · right
      have htk : (hd text all (P ++ p)).taken = (P ++ p).length := by rw [e3, hP, List.length_append]; omega
      refine ⟨by rw [f1]; decide, f3, by rw [e2, f1]; rfl, ends_spec text all _ htk, .inr ⟨f2, e4, ?_⟩⟩
      have := held_law text all (P ++ p) f2 ha
      rw [← e4] at this
      exact this
end Go.Proofs.YtmenphpilckphaaDoor.Dt
