/- What bounds a stream's play: how often items come without a byte, how many they are, how long. No condition but what each states. -/
import Derived.Test.YtnjloldhmjadoaaPlSpec
namespace Go.Proofs.Ytnjloldhmjadoaa.Pl
open Ln Dt Fr

/-- How far to the first place where p is false (at most f). -/
def distF (p : Nat → Bool) : Nat → Nat → Nat
  | 0, _ => 0
  | f + 1, i => if p i then distF p f (i + 1) + 1 else 0
theorem distF_le (p : Nat → Bool) : ∀ f i, distF p f i ≤ f
  | 0, _ => Nat.le_refl _
  | f + 1, i => by
    unfold distF; split
    · have := distF_le p f (i + 1); omega
    · omega
theorem distF_eq (p : Nat → Bool) : ∀ f d i, d < f → (∀ e, e < d → p (i + e) = true) → p (i + d) = false → distF p f i = d
  | 0, d, i, h, _, _ => by omega
  | f + 1, 0, i, _, _, hf => by unfold distF; rw [if_neg (by simpa using hf)]
  | f + 1, d + 1, i, h, ht, hf => by
    unfold distF
    rw [if_pos (by simpa using ht 0 (by omega)), distF_eq p f d (i + 1) (by omega) (fun e he => by have := ht (e + 1) (by omega); rwa [show i + (e + 1) = i + 1 + e from by omega] at this) (by rwa [show i + (d + 1) = i + 1 + d from by omega] at hf)]
theorem least (p : Nat → Bool) : ∀ n, p n = false → ∃ d, d ≤ n ∧ (∀ e, e < d → p e = true) ∧ p d = false := by
  intro n
  induction n using Nat.strongRecOn with
  | _ n ih =>
    intro h
    by_cases hx : ∃ e, e < n ∧ p e = false
    · obtain ⟨e, he, hp⟩ := hx
      obtain ⟨d, h1, h2, h3⟩ := ih e he hp
      exact ⟨d, by omega, h2, h3⟩
    · refine ⟨n, Nat.le_refl _, fun e he => ?_, h⟩
      cases hpe : p e with
      | true => rfl
      | false => exact absurd ⟨e, he, hpe⟩ hx
theorem dist_step (p : Nat → Bool) (K : Nat) (hp : ∀ i, p (i % K) = p i) (j : Nat) (hj : j < K) (hf : p j = false) (i : Nat) : distF p K i < K ∧ (p i = true → distF p K i = distF p K (i + 1) + 1) := by
  have near : ∀ i, ∃ d, d < K ∧ p (i + d) = false := by
    intro i
    refine ⟨(j + K - i % K) % K, Nat.mod_lt _ (by omega), ?_⟩
    rw [← hp]
    have hm : i % K < K := Nat.mod_lt _ (by omega)
    have e : (i + (j + K - i % K) % K) % K = j := by
      rw [Nat.add_mod_mod, ← Nat.mod_add_mod, show i % K + (j + K - i % K) = j + K from by omega, Nat.add_mod_right, Nat.mod_eq_of_lt hj]
    rw [e]; exact hf
  have find : ∀ i, ∃ d, d < K ∧ (∀ e, e < d → p (i + e) = true) ∧ p (i + d) = false := by
    intro i
    obtain ⟨n, h1, h2⟩ := near i
    obtain ⟨d, h3, h4, h5⟩ := least (fun e => p (i + e)) n h2
    exact ⟨d, by omega, h4, h5⟩
  obtain ⟨d, h1, h2, h3⟩ := find i
  refine ⟨by rw [distF_eq p K d i h1 h2 h3]; exact h1, fun ht => ?_⟩
  cases d with
  | zero => rw [Nat.add_zero, ht] at h3; cases h3
  | succ d =>
    rw [distF_eq p K (d + 1) i h1 h2 h3, distF_eq p K d (i + 1) (by omega) (fun e he => by have := h2 (e + 1) (by omega); rwa [show i + (e + 1) = i + 1 + e from by omega] at this) (by rwa [show i + (d + 1) = i + 1 + d from by omega] at h3)]

def nought (o : Tn) : Bool := decide (o.kind = 2 ∧ o.n ≤ 0)
/-- All turns ask for chunks of nothing. -/
def endl (ts : List Tn) : Bool := decide (ts ≠ []) && ts.all nought
def dt (ts : List Tn) (t : Nat) : Nat := distF (fun i => nought (turnAt ts i)) ts.length t
theorem dt_step {ts : List Tn} (he : endl ts = false) (h0 : ts ≠ []) {t : Nat} (h : nought (turnAt ts t) = true) : dt ts t = dt ts (t + 1) + 1 := by
  have hl : 0 < ts.length := List.length_pos_iff.2 h0
  have hx : ∃ j, j < ts.length ∧ nought (turnAt ts j) = false := by
    have : ts.all nought = false := by simpa [endl, h0] using he
    rw [List.all_eq_false] at this
    obtain ⟨o, ho, hn⟩ := this
    obtain ⟨j, hj, rfl⟩ := List.getElem_of_mem ho
    refine ⟨j, hj, ?_⟩
    unfold turnAt
    rw [Nat.mod_eq_of_lt hj, List.getD_eq_getElem?_getD, List.getElem?_eq_getElem hj]
    simpa using hn
  obtain ⟨j, hj, hf⟩ := hx
  exact (dist_step (fun i => nought (turnAt ts i)) ts.length (fun i => by simp [turnAt]) j hj hf t).2 h
def pterm (ts : List Tn) (S : PS) : Nat := if pend S.m then dt ts S.t + 1 else 0
theorem pterm_le (ts : List Tn) (S : PS) : pterm ts S ≤ ts.length + 1 := by
  unfold pterm; split
  · have := distF_le (fun i => nought (turnAt ts i)) ts.length S.t; unfold dt; omega
  · omega
theorem take_pend {L : Lim} (m : FM) (p : List UInt8) (h : pend m = true) : FM.take L m p = (0, pendIt L m, FM.new) := by
  cases m with
  | lines ls bg => cases h
  | data r =>
    have : r.waits = true := h
    simp [FM.take, RS.take, this, DS.end, pendIt]
  | chunk left room =>
    have : left = 0 := by simpa [pend] using h
    subst this
    simp [FM.take, pendIt]
theorem act_pend (o : Tn) : pend (o.act FM.new) = nought o := by
  unfold Tn.act nought
  by_cases h1 : o.kind = 1
  · simp [h1, FM.new, FM.data?, pend, RS.new]
  · by_cases h2 : o.kind = 2
    · have hm : ¬ (max 0 o.n < 0 ∨ max 0 o.room < 0) := by omega
      simp only [h2, FM.new, FM.chunk?, if_neg hm]
      by_cases hn : o.n ≤ 0
      · have e : (max 0 o.n).toNat = 0 := by omega
        simp [pend, e, hn]
      · have e : (max 0 o.n).toNat ≠ 0 := by omega
        simp only [pend]
        simp [hn]
        omega
    · simp [h1, h2, FM.new, pend]
def mu (ts : List Tn) (S : PS) (len : Nat) : Nat := len * (ts.length + 2) + pterm ts S
theorem mu_step {L : Lim} {ts : List Tn} (he : endl ts = false) {S : PS} {p : List UInt8} (hg : good S.m) (h0 : (FM.take L S.m p).2.1.kind ≠ 0) (len : Nat) (hl : p.length ≤ len) :
    mu ts (tell ts S (FM.take L S.m p).2.1 (FM.take L S.m p).2.2) (len - (FM.take L S.m p).1) + 1 ≤ mu ts S len := by
  obtain ⟨q1, q2, q3⟩ := take_pay S.m p hg h0
  cases hp : pend S.m with
  | false =>
    have h1 := q2 hp
    have := pterm_le ts (tell ts S (FM.take L S.m p).2.1 (FM.take L S.m p).2.2)
    unfold mu
    generalize (FM.take L S.m p).1 = n at *
    have e : len * (ts.length + 2) = (len - n) * (ts.length + 2) + n * (ts.length + 2) := by rw [← Nat.add_mul, Nat.sub_add_cancel (by omega)]
    have e2 : 1 * (ts.length + 2) ≤ n * (ts.length + 2) := Nat.mul_le_mul_right _ h1
    rw [e]; omega
  | true =>
    rw [take_pend S.m p hp]
    have hk : (pendIt L S.m).kind ≠ 3 := by unfold pendIt; split <;> simp [DS.end]
    simp only [mu, Nat.sub_zero, tell, if_neg hk]
    have e0 : pterm ts S = dt ts S.t + 1 := by simp [pterm, hp]
    unfold turned
    split
    · rw [e0]; simp [pterm, FM.new, pend]
    · rename_i hne
      rw [e0]
      unfold pterm
      simp only [act_pend]
      cases hn : nought (turnAt ts S.t) with
      | false => simp <;> try omega
      | true => rw [dt_step he hne hn]; simp <;> try omega

theorem step_out2 (text : Nat) (s : DS) (c : UInt8) : (s.step text c).2.length ≤ 2 := by
  unfold DS.step
  repeat' split
  all_goals simp
theorem feed_out (text : Nat) : ∀ (p : List UInt8) (d : DS), (feed text d p).2.2.length ≤ 2 * (feed text d p).1
  | [], d => by simp [feed]
  | c :: r, d => by
    unfold feed; split
    · simp
    · have := feed_out text r (d.step text c).1
      have := step_out2 text d c
      simp; omega
def sizeM : FM → Nat
  | .data r => r.d.size
  | _ => 0
/-- What a Take lays on. -/
theorem take_sizes {L : Lim} (m : FM) (p : List UInt8) : sizeM (FM.take L m p).2.2 ≤ sizeM m + 2 * (FM.take L m p).1 ∧ (FM.take L m p).2.1.bytes.length ≤ 2 * (FM.take L m p).1 := by
  cases m with
  | lines ls bg => simp [FM.take, sizeM, ofItm]
  | data r =>
    have h1 := feed_size L.text p r.d
    have h2 := feed_out L.text p r.d
    simp only [FM.take, RS.take]
    split
    · simp [DS.end, sizeM, FM.new]
    · split
      · simp only [It.body, sizeM]
        simp
        omega
      · split
        · simp [DS.end, sizeM, FM.new]
        · simp [It.none, sizeM]; omega
  | chunk left room =>
    simp only [FM.take]
    split
    · simp [It.body, sizeM]; omega
    · split <;> simp [sizeM, FM.new, It.none]
structure PInv (N : Nat) (ts : List Tn) (S : PS) (left : Nat) : Prop where
  good : good S.m
  le : left ≤ N
  size : sizeM S.m + 2 * left ≤ 2 * N
  outl : S.out.length + mu ts S left ≤ N * (ts.length + 2)
  byt : ∀ x ∈ S.out, x.bytes.length + 2 * left ≤ 2 * N
  tt : S.t ≤ S.out.length
theorem PInv.new (N : Nat) (ts : List Tn) : PInv N ts PS.new N := ⟨trivial, Nat.le_refl _, by simp [PS.new, FM.new, sizeM], by simp [PS.new, mu, pterm, FM.new, pend], by simp [PS.new], by simp [PS.new]⟩
theorem addB_len (out : List It) (b : List UInt8) : (addB out b).length ≤ out.length + 1 ∧ out.length ≤ (addB out b).length := by
  unfold addB
  split
  · omega
  · rcases List.eq_nil_or_concat out with rfl | ⟨l, y, rfl⟩
    · simp
    · simp only [List.concat_eq_append, List.getLast?_append, List.getLast?_singleton, Option.some_or]
      split <;> simp
theorem addB_mem {out : List It} {b : List UInt8} {x : It} (h : x ∈ addB out b) : x ∈ out ∨ x.bytes = b ∨ ∃ y ∈ out, x.bytes = y.bytes ++ b := by
  unfold addB at h
  split at h
  · exact .inl h
  · rcases List.eq_nil_or_concat out with rfl | ⟨l, y, rfl⟩
    · simp at h; subst h; exact .inr (.inl rfl)
    · simp only [List.concat_eq_append, List.getLast?_append, List.getLast?_singleton, Option.some_or, List.dropLast_concat] at h ⊢
      split at h
      · rcases List.mem_append.1 h with h | h
        · exact .inl (by simp [h])
        · simp at h; subst h; exact .inr (.inr ⟨y, by simp, rfl⟩)
      · rcases List.mem_append.1 h with h | h
        · exact .inl h
        · simp at h; subst h; exact .inr (.inl rfl)
theorem act_size (o : Tn) : sizeM (o.act FM.new) = 0 := by
  unfold Tn.act
  split
  · rfl
  · split
    · simp only [FM.new, FM.chunk?]; split <;> rfl
    · rfl
theorem PInv.step {L : Lim} {N : Nat} {ts : List Tn} (he : endl ts = false) {S : PS} {left : Nat} (h : PInv N ts S left) {p : List UInt8} (hl : p.length ≤ left) (h0 : (FM.take L S.m p).2.1.kind ≠ 0) :
    PInv N ts (tell ts S (FM.take L S.m p).2.1 (FM.take L S.m p).2.2) (left - (FM.take L S.m p).1) := by
  obtain ⟨q1, q2, q3⟩ := take_pay S.m p h.good h0
  obtain ⟨z1, z2⟩ := take_sizes (L := L) S.m p
  have hm := mu_step he h.good h0 left hl
  have g2 := good_take (L := L) S.m p h.good
  have hk := take_kind (L := L) S.m p h0
  have h1 := h.le
  have h2 := h.size
  have h3 := h.outl
  have h4 := h.byt
  have h5 := h.tt
  generalize (FM.take L S.m p).1 = n at *
  generalize (FM.take L S.m p).2.1 = x at *
  generalize (FM.take L S.m p).2.2 = m' at *
  by_cases h3k : x.kind = 3
  · have hl2 := addB_len S.out x.bytes
    have et : tell ts S x m' = ⟨m', addB S.out x.bytes, S.t⟩ := by simp [tell, h3k]
    rw [et] at hm ⊢
    refine ⟨g2, by omega, by show sizeM m' + _ ≤ _; omega, ?_, ?_, ?_⟩
    · show (addB S.out x.bytes).length + _ ≤ _; omega
    · intro y hy
      rcases addB_mem hy with e | e | ⟨z, hz, e⟩
      · have := h4 y e; omega
      · rw [e]; omega
      · have := h4 z hz; rw [e, List.length_append]; omega
    · show S.t ≤ (addB S.out x.bytes).length; omega
  · obtain ⟨rfl, hb⟩ := hk h3k
    have et : tell ts S x FM.new = turned ts ⟨FM.new, S.out ++ [x], S.t⟩ := by simp [tell, h3k]
    rw [et] at hm ⊢
    have ho : (turned ts ⟨FM.new, S.out ++ [x], S.t⟩).out = S.out ++ [x] := by unfold turned; split <;> rfl
    refine ⟨?_, by omega, ?_, ?_, ?_, ?_⟩
    · unfold turned; split
      · exact good_new
      · exact good_act _ _ good_new
    · have : sizeM (turned ts ⟨FM.new, S.out ++ [x], S.t⟩).m = 0 := by
        unfold turned; split
        · rfl
        · exact act_size _
      omega
    · rw [ho]; simp; omega
    · rw [ho]; intro y hy
      rcases List.mem_append.1 hy with e | e
      · have := h4 y e; omega
      · simp at e; subst e; rw [hb]; simp; omega
    · rw [ho]
      unfold turned; split
      · simp; omega
      · simp; omega
theorem PInv.none {L : Lim} {N : Nat} {ts : List Tn} {S : PS} {left : Nat} (h : PInv N ts S left) {p : List UInt8} (hl : p.length ≤ left) (h0 : (FM.take L S.m p).2.1.kind = 0) :
    PInv N ts ⟨(FM.take L S.m p).2.2, S.out, S.t⟩ (left - p.length) ∧ pend (FM.take L S.m p).2.2 = false := by
  obtain ⟨z1, z2⟩ := take_sizes (L := L) S.m p
  have hn := ((take_run (L := L) (ts := ts) (S' := S) S.m S.out S.t p h.good).1 h0).1
  have g2 := good_take (L := L) S.m p h.good
  have hp : pend (FM.take L S.m p).2.2 = false := by
    have hr := ((take_run (L := L) (ts := ts) (S' := S) S.m S.out S.t p h.good).1 h0).2
    clear hn z1 z2 g2
    generalize (FM.take L S.m p).2.2 = m2 at hr
    generalize hS : (⟨m2, S.out, S.t⟩ : PS) = S2 at hr
    have : pend S2.m = false := by
      clear hS h0 hl
      generalize (⟨S.m, S.out, S.t⟩ : PS) = S1 at hr
      induction hr with
      | done h => exact h
      | pend _ _ ih => exact ih
      | byte _ _ ih => exact ih
    rw [← hS] at this; exact this
  refine ⟨⟨g2, by have := h.le; omega, ?_, ?_, ?_, h.tt⟩, hp⟩
  · show sizeM (FM.take L S.m p).2.2 + _ ≤ _
    rw [hn] at z1; have := h.size; omega
  · have h3 := h.outl
    unfold mu at h3 ⊢
    have e : pterm ts ⟨(FM.take L S.m p).2.2, S.out, S.t⟩ = 0 := by simp [pterm, hp]
    rw [e]
    have e2 : (left - p.length) * (ts.length + 2) ≤ left * (ts.length + 2) := Nat.mul_le_mul_right _ (by omega)
    show S.out.length + _ ≤ _
    omega
  · intro x hx; have := h.byt x hx; omega
end Go.Proofs.Ytnjloldhmjadoaa.Pl
