/- Who waits long enough has a full bucket. No program in sight. -/
import Derived.Test.YtplkoephgmdgkaaRtBn
import Derived.Test.YtplkoephgmdgkaaRtNew
namespace Go.Proofs.Ytplkoephgmdgkaa
open Go
namespace Rt
/-- A QUOTIENT from below. -/
theorem quo_ge {x y z ρ : Nat} (hx : x < INF) (hx0 : 0 < x) (hy : y < INF) (hy0 : 0 < y) (hz : z ≤ INF) (h : U z * U y ≤ U x * 2 ^ BB) (e : floatBits .quo .f64 x y = some ρ) : z ≤ ρ := by
  have hB : BB = 1074 := rfl
  have pos : ∀ r, 0 < r → sig r ≠ 0 := by
    intro r hr e
    have := U_pos hr
    unfold U at this
    rw [e, Nat.zero_mul] at this
    omega
  have hn := pos y hy0
  have hs := pos x hx0
  obtain ⟨more, hmore⟩ : ∃ more, more = 54 + (sig y).log2 - (sig x).log2 := ⟨_, rfl⟩
  obtain ⟨mag, hmag⟩ : ∃ mag, mag = 2 * ((sig x <<< more) / sig y) + ((sig x <<< more) % sig y != 0).toNat := ⟨_, rfl⟩
  have hρ : ρ = rung (exo y + more + 1) (mag * 2 ^ (exo x + BB)) := by
    have h1 : Ieee.double.div x y = some ρ := e
    unfold Ieee.Format.div at h1
    rw [read_fin (lt64 hx) (by rw [mod_pos hx]; exact hx), read_fin (lt64 hy) (by rw [mod_pos hy]; exact hy), mod_pos hx, mod_pos hy, sg_pos hx, sg_pos hy] at h1
    simp only [Ieee.Datum.quotient, dbl_frac] at h1
    rw [if_neg hn, show 52 + 2 + (sig y).log2 - (sig x).log2 = more from hmore.symm] at h1
    simp only [Option.map_some, Ieee.Format.write, Bool.xor_false, Option.some.injEq] at h1
    rw [nearest_rung _ _ (exo y + more + 1) (exo x + BB) _ (by omega), ← hmag, word_f] at h1
    exact h1.symm
  have hsl := sig_lt x
  have hlog : (sig x).log2 ≤ 52 := by have := (Nat.log2_lt hs).2 hsl; omega
  have l1 : 2 ^ (sig x).log2 ≤ sig x := Nat.log2_self_le hs
  have l2 : sig y < 2 ^ ((sig y).log2 + 1) := Nat.lt_log2_self
  have l3 := sig_lt z
  -- the whole part has its digits
  have hq : 2 ^ 53 ≤ (sig x <<< more) / sig y := by
    rw [Nat.shiftLeft_eq, Nat.le_div_iff_mul_le (Nat.pos_of_ne_zero hn)]
    have a1 : 2 ^ 53 * sig y ≤ 2 ^ 53 * 2 ^ ((sig y).log2 + 1) := Nat.mul_le_mul_left _ (Nat.le_of_lt l2)
    have a2 : 2 ^ (sig x).log2 * 2 ^ more ≤ sig x * 2 ^ more := Nat.mul_le_mul_right _ l1
    rw [← Nat.pow_add] at a1 a2
    rw [show (sig x).log2 + more = 53 + ((sig y).log2 + 1) by omega] at a2
    exact Nat.le_trans a1 a2
  have main : U z * 2 ^ (exo y + more + 1) ≤ mag * 2 ^ (exo x + BB) := by
    by_cases hc : exo x + BB ≤ exo z + exo y + more
    · obtain ⟨f, hf⟩ : ∃ f, exo z + exo y + more = f + (exo x + BB) := ⟨exo z + exo y + more - (exo x + BB), by omega⟩
      have hD : sig y * (sig z * 2 ^ f) ≤ sig x * 2 ^ more := by
        have h1 : sig y * (sig z * 2 ^ f) * 2 ^ (exo x + BB) ≤ sig x * 2 ^ more * 2 ^ (exo x + BB) := by
          have h2 := Nat.mul_le_mul_right (2 ^ more) h
          have e1 : sig x * 2 ^ more * 2 ^ (exo x + BB) = U x * 2 ^ BB * 2 ^ more := by
            unfold U; rw [Nat.pow_add]
            generalize 2 ^ more = p
            generalize 2 ^ exo x = q
            generalize 2 ^ BB = r
            rw [Nat.mul_right_comm, ← Nat.mul_assoc (sig x) q r]
          have e2 : sig y * (sig z * 2 ^ f) * 2 ^ (exo x + BB) = U z * U y * 2 ^ more := by
            have e3 : 2 ^ f * 2 ^ (exo x + BB) = 2 ^ exo z * 2 ^ exo y * 2 ^ more := by rw [← Nat.pow_add, ← Nat.pow_add, ← Nat.pow_add, ← hf]
            unfold U
            rw [Nat.mul_assoc, Nat.mul_assoc, e3]
            generalize 2 ^ exo z = p
            generalize 2 ^ exo y = q
            generalize 2 ^ more = r
            generalize sig y = m
            generalize sig z = k
            rw [Nat.mul_mul_mul_comm k p m q, ← Nat.mul_assoc k, ← Nat.mul_assoc m, ← Nat.mul_assoc m, Nat.mul_comm m k, Nat.mul_assoc (k * m)]
          rw [e1, e2]; exact h2
        exact Nat.le_of_mul_le_mul_right h1 (Nat.two_pow_pos _)
      have hT : 2 * (sig z * 2 ^ f) ≤ mag := by
        rw [hmag, Nat.shiftLeft_eq]
        have : sig z * 2 ^ f ≤ sig x * 2 ^ more / sig y := by
          rw [Nat.le_div_iff_mul_le (Nat.pos_of_ne_zero hn), Nat.mul_comm]; exact hD
        omega
      refine Nat.le_trans (Nat.le_of_eq ?_) (Nat.mul_le_mul_right _ hT)
      unfold U
      rw [Nat.mul_assoc 2, Nat.mul_assoc (sig z), Nat.mul_assoc (sig z), ← Nat.pow_add, ← Nat.pow_add, ← hf, show exo z + (exo y + more + 1) = exo z + exo y + more + 1 by omega, Nat.pow_succ]
      generalize 2 ^ (exo z + exo y + more) = p
      rw [Nat.mul_left_comm 2, Nat.mul_comm 2]
    · have b1 : U z * 2 ^ (exo y + more + 1) ≤ 2 ^ 53 * 2 ^ (exo x + BB) := by
        unfold U
        rw [Nat.mul_assoc, ← Nat.pow_add]
        exact Nat.mul_le_mul (Nat.le_of_lt l3) (Nat.pow_le_pow_right (by decide) (by omega))
      exact Nat.le_trans b1 (Nat.mul_le_mul_right _ (by omega))
  have := rung_mono (k := exo y + more + 1) main
  rw [rung_own hz] at this
  rw [hρ]; exact this
/-- Cut towards nought. -/
theorem trunc_pos {ρ : Nat} (h : ρ < INF) (hm : U ρ / 2 ^ BB ≤ 9223372036854775807) : floatToIntVal .f64 ρ .i64 = some ((U ρ / 2 ^ BB : Nat) : Int) := by
  have hB : BB = 1074 := rfl
  have hr : FloatKind.f64.decode ρ = .number false (sig ρ) (-1074 + (exo ρ : Int)) := by
    have := read_fin (lt64 h) (by rw [mod_pos h]; exact h)
    rw [sg_pos h, mod_pos h] at this
    exact this
  have key : Ieee.Toward.zero.cut false (sig ρ <<< ((-1074 + (exo ρ : Int))).toNat) (-(-1074 + (exo ρ : Int))).toNat = U ρ / 2 ^ BB := by
    unfold Ieee.Toward.cut
    simp only [Bool.toNat_false, Nat.add_zero, Nat.shiftLeft_eq, Nat.one_mul]
    rcases Nat.le_total 1074 (exo ρ) with g | g
    · obtain ⟨k, hk⟩ : ∃ k, exo ρ = k + BB := ⟨exo ρ - 1074, by omega⟩
      have e1 : (-1074 + (exo ρ : Int)).toNat = k := by omega
      have e2 : (-(-1074 + (exo ρ : Int))).toNat = 0 := by omega
      rw [e1, e2, Nat.zero_min, Nat.pow_zero, Nat.div_one]
      unfold U
      rw [hk, Nat.pow_add, ← Nat.mul_assoc, Nat.mul_div_cancel _ (Nat.two_pow_pos _)]
    · obtain ⟨k, hk⟩ : ∃ k, exo ρ + k = BB := ⟨1074 - exo ρ, by omega⟩
      have e1 : (-1074 + (exo ρ : Int)).toNat = 0 := by omega
      have e2 : (-(-1074 + (exo ρ : Int))).toNat = k := by omega
      rw [e1, e2, Nat.pow_zero, Nat.mul_one]
      have e3 : U ρ / 2 ^ BB = sig ρ / 2 ^ k := by
        unfold U
        rw [← hk, Nat.add_comm, Nat.pow_add, Nat.mul_div_mul_right _ _ (Nat.two_pow_pos _)]
      rw [e3]
      rcases Nat.le_total k ((sig ρ).log2 + 2) with g2 | g2
      · rw [Nat.min_eq_left g2]
      · rw [Nat.min_eq_right g2]
        have h4 : sig ρ < 2 ^ ((sig ρ).log2 + 2) := by have := lt_four (sig ρ); omega
        rw [Nat.div_eq_of_lt h4, Nat.div_eq_of_lt (Nat.lt_of_lt_of_le h4 (Nat.pow_le_pow_right (by decide) g2))]
  unfold floatToIntVal
  rw [hr]
  unfold Ieee.Datum.toInt Ieee.Datum.integral
  simp only
  rw [key]
  generalize U ρ / 2 ^ BB = n at *
  have hs : Ieee.signed false n 0 = (n : Int) := by simp [Ieee.signed]
  rw [hs, if_pos]
  constructor
  · have : IntKind.i64.min = -9223372036854775808 := by decide
    omega
  · have : IntKind.i64.max = 9223372036854775807 := by decide
    omega
def R40 : Nat := 4787326403894837248
theorem U_R40 : U R40 = 2 ^ (BB + 40) := U_of (e := 1062) (by decide) (by decide) (by decide)
theorem U_LEAST : U LEAST * 2 ^ 20 = 2 ^ BB := by
  have hB : BB = 1054 + 20 := rfl
  have h := U_of (r := LEAST) (e := 1002) (p := 1054) (by decide) (by decide) (by decide)
  rw [h, hB]
  generalize 1054 = a
  rw [Nat.pow_add]
/-- How long to wait. -/
def waitOf (ρ : Nat) : Nat := U ρ / 2 ^ BB + 3
theorem quo_pace {b p : Nat} (hb : b ≤ MOST) (hp : p ≤ MOST) (_ : LEAST ≤ b) (hp0 : LEAST ≤ p) : ∃ ρ, floatBits .quo .f64 b p = some ρ ∧ ρ < INF ∧ U ρ / 2 ^ BB ≤ 2 ^ 40 := by
  have hmi : MOST < INF := by decide
  have hl : 0 < LEAST := by decide
  have h1 : b < INF := by omega
  obtain ⟨ρ, r1, e⟩ := quo_bound (z := R40) (fin_pos h1) (show p < INF by omega) (by omega) (by decide) (by
    rw [mod_pos h1, U_R40]
    have a1 := U_le hb
    have a2 := U_le hp0
    have a3 := U_LEAST
    rw [U_MOST] at a1
    refine Nat.le_trans (Nat.mul_le_mul_right _ a1) ?_
    have e1 : 2 ^ (BB + 20) * 2 ^ BB = 2 ^ (BB + 40) * U LEAST := by
      generalize U LEAST = l at *
      have e2 : 2 ^ (BB + 20) * 2 ^ BB = 2 ^ (BB + 20) * (l * 2 ^ 20) := by rw [a3]
      rw [e2, Nat.mul_comm l, ← Nat.mul_assoc, ← Nat.pow_add]
    rw [e1]
    exact Nat.mul_le_mul_left _ a2)
  rw [sg_pos h1, word_f] at e
  refine ⟨ρ, e, ?_, ?_⟩
  · have : R40 < INF := by decide
    omega
  · have := U_le r1
    rw [U_R40] at this
    have h2 := Nat.div_le_div_right (c := 2 ^ BB) this
    rw [Nat.pow_add, Nat.mul_div_cancel_left _ (Nat.two_pow_pos _)] at h2
    exact h2
theorem U_fi {d : Nat} (h : d < 2 ^ 53) : U (fi d) = d * 2 ^ BB ∧ fi d < INF := by
  have := hv_fact h (show 0 ≤ 1000 by omega)
  have e2 : BB - 0 = BB := Nat.sub_zero _
  have e : fi d = hv d 0 := by rw [fi_eq]; unfold hv; rw [e2]
  rw [e2] at this
  rw [e]
  exact ⟨this.2, this.1⟩
/-- LONG ENOUGH. -/
theorem wait_lvl {t : Tb} (ht : t.ok) {e : Ent} {ρ now : Nat} (hq : floatBits .quo .f64 t.burst t.per = some ρ) (hw : e.since + waitOf ρ ≤ now) (hn : now ≤ MAXT) : lvl t e now = t.burst := by
  have hmi : MOST < INF := by decide
  have hl : 0 < LEAST := by decide
  have b1 := ht.burst; have b2 := ht.burst0; have p1 := ht.per; have p2 := ht.per0
  obtain ⟨d, hd⟩ : ∃ d, d = now - e.since := ⟨_, rfl⟩
  have hM : MAXT = 253402300799 := rfl
  have hd2 : d < 2 ^ 53 := by omega
  have hdw : waitOf ρ ≤ d := by omega
  unfold waitOf at hdw
  have key : U t.burst ≤ d * U t.per := by
    rcases Nat.lt_or_ge (d * U t.per) (U t.burst) with g | g
    · exfalso
      obtain ⟨n, hnn⟩ : ∃ n, n = U ρ / 2 ^ BB := ⟨_, rfl⟩
      rw [← hnn] at hdw
      have f1 := U_fi (d := n + 1) (by omega)
      have h2 : (n + 1) * U t.per ≤ d * U t.per := Nat.mul_le_mul_right _ (by omega)
      have := quo_ge (z := fi (n + 1)) (show t.burst < INF by omega) (by omega) (show t.per < INF by omega) (by omega) (Nat.le_of_lt f1.2) (by
        rw [f1.1, Nat.mul_right_comm]
        exact Nat.mul_le_mul_right _ (by omega)) hq
      have h3 := U_le this
      rw [f1.1] at h3
      have h4 : n + 1 ≤ U ρ / 2 ^ BB := (Nat.le_div_iff_mul_le (Nat.two_pow_pos _)).2 h3
      omega
    · exact g
  have f2 := U_fi hd2
  have hm : t.burst ≤ more t.per d := by
    unfold more
    have h5 : U t.burst * 2 ^ BB ≤ U (fi d) * U t.per := by
      rw [f2.1, Nat.mul_right_comm]; exact Nat.mul_le_mul_right _ key
    have := rung_mono (k := BB) h5
    rwa [rung_own (by omega)] at this
  unfold lvl
  rw [← hd]
  apply Nat.min_eq_left
  have h6 : U t.burst * 2 ^ 0 ≤ U e.lev + U (more t.per d) := by have := U_le hm; omega
  have := rung_mono (k := 0) h6
  rwa [rung_own (by omega)] at this
/-- All was long ago. -/
def Old (t : Tb) (l : Nat) : Prop := ∀ e ∈ t.L, e.since ≤ l
theorem Old.mono {t : Tb} {l m : Nat} (h : Old t l) (hm : l ≤ m) : Old t m := fun e he => Nat.le_trans (h e he) hm
theorem Old.upd {t : Tb} {l : Nat} (h : Old t l) {k : ByteArray} {f : Ent → Ent} (hf : ∀ e, e.since ≤ l → (f e).since ≤ l) : Old (t.upd k f) l := by
  intro e he
  simp only [Tb.upd, List.mem_map] at he
  obtain ⟨x, hx, rfl⟩ := he
  split
  · exact hf x (h x hx)
  · exact h x hx
theorem Old.laid {t u : Tb} {l : Nat} (h : Old t l) {k : ByteArray} {n : Nat} (hn : n ≤ l) (e : t.laid k n = some u) : Old u l := by
  have hnew : ∀ x ∈ [t.new k n], x.since ≤ l := by
    intro x hx
    simp only [List.mem_singleton] at hx
    subst hx; exact hn
  unfold Tb.laid at e
  cases hg : t.get k with
  | some y => rw [hg] at e; simp only [Option.some.injEq] at e; rw [← e]; exact h
  | none =>
    rw [hg] at e
    simp only at e
    split at e
    · simp only [Option.some.injEq] at e
      subst e
      intro x hx
      rcases List.mem_append.1 hx with hx | hx
      · exact h x hx
      · exact hnew x hx
    · cases hb : best t n with
      | none => rw [hb] at e; cases e
      | some g =>
        rw [hb] at e; simp only [Option.some.injEq] at e
        subst e
        intro x hx
        rcases List.mem_append.1 hx with hx | hx
        · exact h x (List.mem_filter.1 hx).1
        · exact hnew x hx
theorem Old.ask {t : Tb} {l : Nat} (h : Old t l) {k : ByteArray} {now : Int} {c : Nat} (hn : timely now = true → now ≤ l) : Old (t.ask k now c).2 l := by
  unfold Tb.ask
  split
  · rename_i hc
    have hl := hn hc.1
    cases hlay : t.laid k now.toNat with
    | none => exact h
    | some u =>
      refine (h.laid (by omega) hlay).upd (fun e he => ?_)
      show max e.since now.toNat ≤ l
      omega
  · exact h
theorem Old.note {t : Tb} {l : Nat} (h : Old t l) {k : ByteArray} {now : Int} {x : Nat} (hn : timely now = true → now ≤ l) : Old (t.note k now x).2 l := by
  unfold Tb.note
  split
  · exact h
  · rename_i hc
    have hc' : timely now = true := by simpa using hc
    have hl := hn hc'
    split
    · exact h
    · cases hlay : t.laid k now.toNat with
      | none => exact h
      | some u =>
        refine (h.laid (by omega) hlay).upd (fun e he => ?_)
        exact he
theorem fold_full {t : Tb} {now : Nat} : ∀ (l : List Ent) (o : Option Ent), (∀ e ∈ l, lvl t e now = t.burst) → (o.isSome = true ∨ l ≠ []) → (l.foldl (fun o e => if lvl t e now = t.burst then better o e else o) o).isSome = true
  | [], o, _, h => by rcases h with h | h <;> simp_all
  | e :: r, o, hl, _ => by
    have h1 := hl e (List.mem_cons_self ..)
    rw [List.foldl_cons, if_pos h1]
    refine fold_full r _ (fun x hx => hl x (List.mem_cons_of_mem _ hx)) (.inl ?_)
    unfold better
    cases o with
    | none => rfl
    | some g => simp only; split <;> rfl
/-- A TABLE LONG LEFT ALONE: full, and it lets in. -/
theorem Old.full {t : Tb} (ht : t.ok) {l ρ now : Nat} (h : Old t l) (hq : floatBits .quo .f64 t.burst t.per = some ρ) (hw : l + waitOf ρ ≤ now) (hn : now ≤ MAXT) (k : ByteArray) :
    t.level k now = t.burst ∧ ∀ c, payable c t.burst = true → (t.ask k now c).1 = true := by
  have hty : timely (now : Int) = true := by
    have hM : MAXT = 253402300799 := rfl
    unfold timely; simp; omega
  have hall : ∀ e ∈ t.L, lvl t e now = t.burst := fun e he => wait_lvl ht hq (by have := h e he; omega) hn
  have hlev : t.level k now = t.burst := by
    unfold Tb.level
    rw [if_pos hty]
    cases hg : t.get k with
    | none => rfl
    | some e => exact hall e (get_some hg).1
  refine ⟨hlev, fun c hc => ?_⟩
  unfold Tb.ask
  rw [if_pos ⟨hty, by rw [hlev]; exact hc⟩]
  have hs : (t.laid k now).isSome = true := by
    unfold Tb.laid
    cases hg : t.get k with
    | some e => rfl
    | none =>
      simp only
      split
      · rfl
      · have := fold_full (t := t) (now := now) t.L none hall (.inr (by intro e; rename_i h1; rw [e] at h1; simp at h1))
        cases hb : best t now with
        | none => unfold best at hb; rw [hb] at this; cases this
        | some g => rfl
  have e1 : (now : Int).toNat = now := by simp
  rw [e1]
  cases hl : t.laid k now with
  | none => rw [hl] at hs; cases hs
  | some u => rfl
end Rt
end Go.Proofs.Ytplkoephgmdgkaa
