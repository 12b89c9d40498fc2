/- Plain facts on runs: the stretches between the line ends. No condition. -/
import Derived.Test.YtccmickmcpfapaaLnSpec
namespace Go.Proofs.Ytccmickmcpfapaa.Ln

/-- No CR LF stands in it. -/
def NoEnd (l : List UInt8) : Prop := ∀ (e : Nat) (h : e + 1 < l.length), ¬ (l[e] = 13 ∧ l[e + 1] = 10)

theorem NoEnd.init {l : List UInt8} {c : UInt8} (h : NoEnd (l ++ [c])) : NoEnd l := by
  intro e he hx
  refine h e (by simp; omega) ?_
  rw [List.getElem_append_left (by omega), List.getElem_append_left he]
  exact hx
theorem NoEnd.last {l : List UInt8} {c : UInt8} (h : NoEnd (l ++ [c])) : ¬ (l.getLast? = some 13 ∧ c = 10) := by
  rintro ⟨h1, h2⟩
  have hl : l ≠ [] := by rintro rfl; simp at h1
  have hpos := List.length_pos_iff.2 hl
  refine h (l.length - 1) (by simp; omega) ⟨?_, ?_⟩
  · rw [List.getElem_append_left (by omega)]
    rw [List.getLast?_eq_getElem?, List.getElem?_eq_getElem (by omega)] at h1
    exact Option.some.inj h1
  · rw [List.getElem_append_right (by omega)]
    simp only [show l.length - 1 + 1 - l.length = 0 from by omega, List.getElem_cons_zero]
    exact h2

theorem list_snoc_ind {α : Type} {P : List α → Prop} (h0 : P []) (h1 : ∀ l a, P l → P (l ++ [a])) (l : List α) : P l := by
  have : ∀ n (l : List α), l.length = n → P l := by
    intro n
    induction n with
    | zero => intro l hl; rw [List.eq_nil_of_length_eq_zero hl]; exact h0
    | succ n ih =>
      intro l hl
      have hne : l ≠ [] := by rintro rfl; simp at hl
      rw [← List.dropLast_concat_getLast hne]
      exact h1 _ _ (ih _ (by rw [List.length_dropLast]; omega))
  exact this _ l rfl

theorem run_noend {m : Int} (h0 : 0 ≤ m) (l : List UInt8) : NoEnd l → run m LS.new 0 l = ([], state m l, l.length) := by
  induction l using list_snoc_ind with
  | h0 => intro _; rw [state_nil h0]; rfl
  | h1 l c ih =>
    intro h
    have := ih h.init
    rw [run_append, this]
    have hn := h.last
    have he : (state m l).ends c = false := by
      have hc : (state m l).cr = (l.getLast? == some 13) := rfl
      simp only [LS.ends, hc]
      by_cases hx : l.getLast? = some 13
      · have : ¬ c = 10 := fun e => hn ⟨hx, e⟩
        simp [hx, this]
      · simp [hx]
    simp only [run, he, Bool.false_eq_true, if_false]
    rw [state_next _ _ he]
    simp
theorem run_line {m : Int} (h0 : 0 ≤ m) (s : List UInt8) (h : NoEnd (s ++ [13])) : run m LS.new 0 (s ++ [13, 10]) = ([(line s m, s.length + 2)], LS.new, 0) := by
  have e : s ++ [13, 10] = (s ++ [13]) ++ [10] := by simp
  rw [e, run_append, run_noend h0 _ h]
  have hc : (state m (s ++ [13])).cr = true := by simp [state]
  have he : (state m (s ++ [13])).ends 10 = true := by simp [LS.ends, hc]
  have hi := state_item m (s ++ [13]) hc
  rw [List.dropLast_concat] at hi
  simp [run, he, hi]

/-- The law's own state: k items are told, the last ends ahead of 'from', from there to i no CR LF stands. -/
structure WInv (m : Int) (bs : List UInt8) (k from_ i : Nat) : Prop where
  le : from_ ≤ bs.length
  ran : ∃ done, run m LS.new 0 (bs.take from_) = (done, LS.new, 0) ∧ done.length = k
  none : NoEnd ((bs.take (i + 1)).drop from_)
theorem WInv.start (m : Int) (bs : List UInt8) : WInv m bs 0 0 0 := by
  refine ⟨by omega, ⟨[], by simp [run], rfl⟩, ?_⟩
  intro e he
  rw [List.length_drop, List.length_take] at he
  omega
theorem WInv.skip {m : Int} {bs : List UInt8} {k from_ i : Nat} (h : WInv m bs k from_ i) (hi : i + 1 < bs.length) (hx : ¬ (from_ ≤ i ∧ bs[i] = 13 ∧ bs[i + 1] = 10)) : WInv m bs k from_ (i + 1) := by
  refine ⟨h.le, h.ran, ?_⟩
  intro e he hp
  rw [List.length_drop, List.length_take] at he
  simp only [List.getElem_drop, List.getElem_take] at hp
  by_cases hei : from_ + e = i
  · apply hx
    refine ⟨by omega, ?_⟩
    have h1 := hp.1
    have h2 := hp.2
    simp only [hei] at h1
    simp only [show from_ + (e + 1) = i + 1 from by omega] at h2
    exact ⟨h1, h2⟩
  · refine h.none e (by rw [List.length_drop, List.length_take]; omega) ?_
    simp only [List.getElem_drop, List.getElem_take]
    exact hp
theorem WInv.hit {m : Int} (h0 : 0 ≤ m) {bs : List UInt8} {k from_ i : Nat} (h : WInv m bs k from_ i) (hi : i + 1 < bs.length) (hf : from_ ≤ i) (h13 : bs[i] = 13) (h10 : bs[i + 1] = 10) :
    WInv m bs (k + 1) (i + 2) (i + 1) ∧ ∃ hk : k < (run m LS.new 0 bs).1.length, (run m LS.new 0 bs).1[k] = (line ((bs.take i).drop from_) m, (i - from_) + 2) := by
  obtain ⟨done, hd, hdl⟩ := h.ran
  have hs : ((bs.take i).drop from_).length = i - from_ := by rw [List.length_drop, List.length_take]; omega
  have e1 : (bs.take (i + 1)).drop from_ = (bs.take i).drop from_ ++ [13] := by
    rw [List.take_succ_eq_append_getElem (by omega), h13, List.drop_append_of_le_length (by rw [List.length_take]; omega)]
  have e2 : bs.take (i + 2) = bs.take from_ ++ ((bs.take i).drop from_ ++ [13, 10]) := by
    rw [List.take_succ_eq_append_getElem (by omega), List.take_succ_eq_append_getElem (show i < bs.length by omega), h13, h10]
    have : bs.take i = bs.take from_ ++ (bs.take i).drop from_ := by
      conv => lhs; rw [← List.take_append_drop from_ (bs.take i), List.take_take, Nat.min_eq_left hf]
    conv => lhs; rw [this]
    simp
  have hn := h.none
  rw [e1] at hn
  have hr : run m LS.new 0 (bs.take (i + 2)) = (done ++ [(line ((bs.take i).drop from_) m, (i - from_) + 2)], LS.new, 0) := by
    rw [e2, run_append, hd]
    simp only
    rw [run_line h0 _ hn, hs]
  refine ⟨⟨by omega, ⟨_, hr, by simp [hdl]⟩, ?_⟩, ?_⟩
  · intro e he
    rw [List.length_drop, List.length_take] at he
    omega
  · have hall : run m LS.new 0 bs = run m LS.new 0 (bs.take (i + 2) ++ bs.drop (i + 2)) := by rw [List.take_append_drop]
    rw [hall, run_append, hr]
    subst hdl
    refine ⟨by simp, ?_⟩
    rw [List.getElem_append_left (by simp), List.getElem_append_right (Nat.le_refl _)]
    simp
theorem WInv.done {m : Int} (h0 : 0 ≤ m) {bs : List UInt8} {k from_ i : Nat} (h : WInv m bs k from_ i) (hi : bs.length ≤ i + 1) : k = (run m LS.new 0 bs).1.length ∧ (run m LS.new 0 bs).2.2 = bs.length - from_ := by
  obtain ⟨done, hd, hdl⟩ := h.ran
  have hn := h.none
  rw [List.take_of_length_le hi] at hn
  have hall : run m LS.new 0 bs = run m LS.new 0 (bs.take from_ ++ bs.drop from_) := by rw [List.take_append_drop]
  rw [hall, run_append, hd]
  simp only
  rw [run_noend h0 _ hn]
  simp [hdl]

end Go.Proofs.Ytccmickmcpfapaa.Ln
