/- The mean's step: it stays between, its spread is not below nought. No program in sight. -/
import Derived.Test.YtplkoephgmdgkaaRtBt
namespace Go.Proofs.Ytplkoephgmdgkaa
open Go
namespace Rt
/-- The words of 2^400 and 2^401. -/
def P400 : Nat := 6408622269748215808
def P401 : Nat := 6413125869375586304
theorem p400_inf : P400 < INF := by decide
theorem p401_inf : P401 < INF := by decide
theorem U_P401 : U P401 = 2 * U P400 := by
  have h0 : U P400 = 2 ^ (BB + 400) := U_of (e := 1422) (by decide) (by decide) (by decide)
  have h1 : U P401 = 2 ^ (BB + 400 + 1) := U_of (e := 1423) (by decide) (by decide) (by decide)
  rw [h0, h1, Nat.pow_succ, Nat.mul_comm]
/-- Not beyond 2^400. -/
def Bnd (x : Nat) : Prop := fin x ∧ -(P400 : Int) ≤ key x ∧ key x ≤ (P400 : Int)
theorem fin_pos {x : Nat} (h : x < INF) : fin x := ⟨lt64 h, by rw [mod_pos h]; exact h⟩
theorem key_nat {x : Nat} (h : x < INF) : key x = x := by
  have := inf_lt
  unfold key; rw [if_pos (by omega), mod_pos h]
theorem Bnd.V {x : Nat} (h : Bnd x) : -(U P400 : Int) ≤ V x ∧ V x ≤ (U P400 : Int) := by
  have f := fin_pos p400_inf
  have k := key_nat p400_inf
  constructor
  · have := V_neg p400_inf
    rw [← this]
    exact V_le_iff.2 (by rw [key_fneg f, k]; exact h.2.1)
  · rw [← V_pos p400_inf]
    exact V_le_iff.2 (by rw [k]; exact h.2.2)
theorem Bnd.of {x lo hi : Nat} (hx : fin x) (hl : Bnd lo) (hh : Bnd hi) (h1 : key lo ≤ key x) (h2 : key x ≤ key hi) : Bnd x :=
  ⟨hx, Int.le_trans hl.2.1 h1, Int.le_trans h2 hh.2.2⟩
theorem num_of {x : Nat} (h : fin x) : isN x = false := by
  have := isN_iff x
  have h2 := h.2
  rw [Bool.eq_false_iff]; intro g
  have := this.1 g
  omega
/-- A DIFFERENCE of two such. -/
theorem sub_bnd {x m : Nat} (hx : Bnd x) (hm : Bnd m) : ∃ d, floatBits .sub .f64 x m = some d ∧ fin d ∧ d % 2 ^ 63 = rung 0 (V x - V m).natAbs ∧ (key m ≤ key x → 0 ≤ key d) ∧ (key x ≤ key m → key d ≤ 0) ∧ (key x = key m → d % 2 ^ 63 = 0) := by
  have v1 := hx.V
  have v2 := hm.V
  have e := V_fneg hm.1
  have f1 := fin_pos p401_inf
  have n1 : V (fneg P401) = -(U P401 : Int) := V_neg p401_inf
  have n2 : V P401 = (U P401 : Int) := V_pos p401_inf
  have u := U_P401
  obtain ⟨z, ez, fz, _, _, kz, mz⟩ := add_between hx.1 (fin_fneg hm.1) (fin_fneg f1) f1 (by rw [n1, e]; omega) (by rw [n2, e]; omega)
  have hs : V x + V (fneg m) = V x - V m := by rw [e]; omega
  rw [hs] at mz kz
  have kr0 : kr 0 = 0 := by
    unfold kr; rw [if_neg (by omega), Int.natAbs_zero, rung_zero]; rfl
  refine ⟨z, by rw [sub_add hm.1.1 hm.1.2]; exact ez, fz, mz, fun h => ?_, fun h => ?_, fun h => ?_⟩
  · have := V_le_iff.2 h
    rw [kz, ← kr0]; exact kr_mono (by omega)
  · have := V_le_iff.2 h
    rw [kz, ← kr0]; exact kr_mono (by omega)
  · rw [mz, V_eq_of h, Int.sub_self, Int.natAbs_zero, rung_zero]
theorem V_word {s : Bool} {r : Nat} (h : r ≤ INF) : V (Ieee.double.word s r) = if s then -(U r : Int) else (U r : Int) := by
  rw [V_sg, word_sg h, word_mod h]
/-- THE MEAN's STEP, behind the first. -/
theorem mean_step {x m y : Nat} (hx : Bnd x) (hm : Bnd m) (hy : y < INF) (h2 : TWO ≤ y) : ∃ d q a, floatBits .sub .f64 x m = some d ∧ floatBits .quo .f64 d y = some q ∧ floatBits .add .f64 m q = some a ∧ Bnd a ∧
    (key m ≤ key x → key m ≤ key a ∧ key a ≤ key x) ∧ (key x ≤ key m → key x ≤ key a ∧ key a ≤ key m) ∧ fin d ∧ (key m ≤ key x → 0 ≤ key d) ∧ (key x ≤ key m → key d ≤ 0) ∧ (key x = key m → d % 2 ^ 63 = 0) := by
  obtain ⟨d, ed, fd, md, d1, d2, d3⟩ := sub_bnd hx hm
  have hfd : rung 0 (V x - V m).natAbs < INF := by have := fd.2; omega
  obtain ⟨z, zi, z1, z2, z0⟩ := near _ hfd
  rw [← md] at z2
  have u2 : U TWO = 2 ^ BB * 2 := by
    have h := U_of (r := TWO) (e := 1023) (p := BB + 1) (by decide) (by decide) (by decide)
    rw [h, Nat.pow_succ]
  have uy : 2 ^ BB * 2 ≤ U y := by rw [← u2]; exact U_le h2
  obtain ⟨ρ, r1, eq⟩ := quo_bound fd hy (by have : 0 < TWO := by decide
                                            omega) zi (by
    refine Nat.le_trans (Nat.mul_le_mul_right _ z2) ?_
    rw [Nat.mul_comm 2, Nat.mul_assoc, Nat.mul_comm 2]
    exact Nat.mul_le_mul_left _ uy)
  have ri : ρ ≤ INF := Nat.le_trans r1 zi
  have ur : U ρ ≤ (V x - V m).natAbs := Nat.le_trans (U_le r1) z1
  have rinf : ρ < INF := by
    have : U ρ ≤ U P401 := by
      have v1 := hx.V
      have v2 := hm.V
      have u := U_P401
      omega
    have h3 := p401_inf
    rcases Nat.lt_or_ge ρ INF with g | g
    · exact g
    · have := U_mono (show P401 < ρ by omega)
      omega
  have fq : fin (Ieee.double.word (sg d) ρ) := ⟨word_lt ri, by rw [word_mod ri]; exact rinf⟩
  have vq := V_word (s := sg d) ri
  -- the quotient lies between nought and the difference
  have hb : (key m ≤ key x → 0 ≤ V (Ieee.double.word (sg d) ρ) ∧ V (Ieee.double.word (sg d) ρ) ≤ V x - V m) ∧ (key x ≤ key m → V x - V m ≤ V (Ieee.double.word (sg d) ρ) ∧ V (Ieee.double.word (sg d) ρ) ≤ 0) := by
    have k0 := key_sg (x := d)
    constructor
    · intro h
      have h4 := V_le_iff.2 h
      have h5 := d1 h
      by_cases hs : sg d = true
      · rw [hs, if_pos rfl] at k0
        have hd0 : d % 2 ^ 63 = 0 := by omega
        have hy0 : (V x - V m).natAbs = 0 := by
          rcases Nat.eq_zero_or_pos (V x - V m).natAbs with g | g
          · exact g
          · exfalso
            have h6 := rung_mono (k := 0) (show 1 ≤ (V x - V m).natAbs by omega)
            have h7 : rung 0 1 = 1 := by have := rung_own (r := 1) (by decide) 0; simpa [show U 1 = 1 by decide] using this
            omega
        have hr0 : ρ = 0 := by have := z0 hy0; omega
        rw [vq, hr0, U_zero]; simp; omega
      · have hs' : sg d = false := by simpa using hs
        rw [vq, hs', if_neg (by decide)]
        omega
    · intro h
      have h4 := V_le_iff.2 h
      have h5 := d2 h
      by_cases hs : sg d = true
      · rw [vq, hs, if_pos rfl]
        omega
      · have hs' : sg d = false := by simpa using hs
        rw [hs', if_neg (by decide)] at k0
        have hd0 : d % 2 ^ 63 = 0 := by omega
        have hy0 : (V x - V m).natAbs = 0 := by
          rcases Nat.eq_zero_or_pos (V x - V m).natAbs with g | g
          · exact g
          · exfalso
            have h6 := rung_mono (k := 0) (show 1 ≤ (V x - V m).natAbs by omega)
            have h7 : rung 0 1 = 1 := by have := rung_own (r := 1) (by decide) 0; simpa [show U 1 = 1 by decide] using this
            omega
        have hr0 : ρ = 0 := by have := z0 hy0; omega
        rw [vq, hr0, U_zero]; simp; omega
  have tot : key m ≤ key x ∨ key x ≤ key m := by omega
  rcases tot with h | h
  · have b := hb.1 h
    obtain ⟨a, ea, fa, ka1, ka2, _, _⟩ := add_between hm.1 fq hm.1 hx.1 (by omega) (by omega)
    refine ⟨d, _, a, ed, eq, ea, Bnd.of fa hm hx ka1 ka2, fun _ => ⟨ka1, ka2⟩, fun h' => ?_, fd, d1, d2, d3⟩
    omega
  · have b := hb.2 h
    obtain ⟨a, ea, fa, ka1, ka2, _, _⟩ := add_between hm.1 fq hx.1 hm.1 (by omega) (by omega)
    refine ⟨d, _, a, ed, eq, ea, Bnd.of fa hx hm ka1 ka2, fun h' => ?_, fun _ => ⟨ka1, ka2⟩, fd, d1, d2, d3⟩
    omega
/-- THE FIRST. -/
theorem mean_first {x : Nat} (hx : Bnd x) : ∃ d q a, floatBits .sub .f64 x 0 = some d ∧ floatBits .quo .f64 d ONE = some q ∧ floatBits .add .f64 0 q = some a ∧ Bnd a ∧ key a = key x ∧ fin d := by
  have hz : Bnd 0 := ⟨fin_pos (by decide), by decide, by decide⟩
  have v0 : V 0 = 0 := by decide
  obtain ⟨d, ed, fd, md, _, _, _⟩ := sub_bnd hx hz
  have e0 := V_fneg hz.1
  obtain ⟨z, ez, _, _, kz⟩ := add_key hx.1 (fin_fneg hz.1)
  have hdz : d = z := by
    have := sub_add (x := x) hz.1.1 hz.1.2
    rw [ed, ez] at this; injection this
  subst hdz
  rw [e0, v0, Int.neg_zero, Int.add_zero, kr_own hx.1] at kz
  have eq := quo_pow (t := 0) (b := d % 2 ^ 63) fd.1 fd.2 (show ONE < INF by decide) (by decide) (by decide) (Nat.le_of_lt fd.2) (by simp)
  rw [word_own fd.1] at eq
  obtain ⟨a, ea, al, am, ka⟩ := add_key hz.1 fd
  rw [v0, Int.zero_add, kr_own fd, kz] at ka
  refine ⟨d, d, a, ed, eq, ea, ⟨⟨al, ?_⟩, by rw [ka]; exact hx.2.1, by rw [ka]; exact hx.2.2⟩, ka, fd⟩
  have a1 := key_abs (z := a)
  have a2 := key_abs (z := x)
  have := hx.1.2
  rw [ka] at a1
  omega
/-- Not below nought, and a number. -/
def NN (s : Nat) : Prop := s < 2 ^ 64 ∧ isN s = false ∧ 0 ≤ key s
theorem NN.cases {s : Nat} (h : NN s) : (fin s ∧ 0 ≤ V s) ∨ s = INF := by
  obtain ⟨h1, h2, h3⟩ := h
  have hn : ¬ INF < s % 2 ^ 63 := fun e => by rw [(isN_iff s).2 e] at h2; cases h2
  by_cases g : s % 2 ^ 63 < INF
  · left
    refine ⟨⟨h1, g⟩, ?_⟩
    have := (V_le_iff (x := 0) (y := s)).2 (by rw [show key 0 = 0 by decide]; exact h3)
    rw [show V 0 = 0 by decide] at this
    exact this
  · right
    have hi : INF = 0x7ff0000000000000 := rfl
    have e : s % 2 ^ 63 = INF := by omega
    unfold key at h3
    split at h3
    · omega
    · omega
theorem prod_nn {d e : Nat} (hd : fin d) (he : fin e) (h : (0 ≤ key d ∧ 0 ≤ key e) ∨ (key d ≤ 0 ∧ key e ≤ 0)) : ∃ p, floatBits .mul .f64 d e = some p ∧ NN p ∧ (d % 2 ^ 63 = 0 → p % 2 ^ 63 = 0) ∧ (e % 2 ^ 63 = 0 → p % 2 ^ 63 = 0) := by
  have hl := rung_le 1074 (U (d % 2 ^ 63) * U (e % 2 ^ 63))
  have z1 : d % 2 ^ 63 = 0 → rung 1074 (U (d % 2 ^ 63) * U (e % 2 ^ 63)) = 0 := by
    intro g; rw [g, U_zero, Nat.zero_mul, rung_zero]
  have z2 : e % 2 ^ 63 = 0 → rung 1074 (U (d % 2 ^ 63) * U (e % 2 ^ 63)) = 0 := by
    intro g; rw [g, U_zero, Nat.mul_zero, rung_zero]
  have hmod := word_mod (s := sg d ^^ sg e) hl
  refine ⟨_, mul_fin hd.1 he.1 hd.2 he.2, ⟨word_lt hl, ?_, ?_⟩, fun g => by rw [hmod]; exact z1 g, fun g => by rw [hmod]; exact z2 g⟩
  · rw [Bool.eq_false_iff]; intro g
    have := (isN_iff _).1 g
    rw [hmod] at this
    omega
  · rw [key_word hl]
    have k1 := key_sg (x := d)
    have k2 := key_sg (x := e)
    generalize rung 1074 (U (d % 2 ^ 63) * U (e % 2 ^ 63)) = r at *
    generalize key d = a at *
    generalize key e = b at *
    cases h1 : sg d <;> cases h2 : sg e <;> rw [h1] at k1 <;> rw [h2] at k2 <;> simp only [if_true, Bool.false_eq_true, if_false] at k1 k2
    · simp
    · have : r = 0 := by
        rcases h with h | h
        · exact z2 (by omega)
        · exact z1 (by omega)
      simp [this]
    · have : r = 0 := by
        rcases h with h | h
        · exact z1 (by omega)
        · exact z2 (by omega)
      simp [this]
    · simp
theorem sum_nn {s p : Nat} (hs : NN s) (hp : NN p) : ∃ z, floatBits .add .f64 s p = some z ∧ NN z ∧ (s % 2 ^ 63 = 0 → p % 2 ^ 63 = 0 → z % 2 ^ 63 = 0) := by
  have hi : INF = 0x7ff0000000000000 := rfl
  have ninf : NN INF := ⟨by decide, by decide, by decide⟩
  rcases hs.cases with ⟨fs, vs⟩ | rfl
  · rcases hp.cases with ⟨fp, vp⟩ | rfl
    · obtain ⟨z, ez, zl, zm, kz⟩ := add_key fs fp
      have hl := rung_le 0 (V s + V p).natAbs
      refine ⟨z, ez, ⟨zl, ?_, ?_⟩, fun g1 g2 => ?_⟩
      · rw [Bool.eq_false_iff]; intro g
        have := (isN_iff _).1 g
        omega
      · rw [kz]; unfold kr; rw [if_neg (by omega)]; omega
      · have a1 : V s = 0 := by rw [V_sg, g1, U_zero]; split <;> rfl
        have a2 : V p = 0 := by rw [V_sg, g2, U_zero]; split <;> rfl
        rw [zm, a1, a2]; simp [rung_zero]
    · refine ⟨INF, ?_, ninf, fun _ g => absurd g (by decide)⟩
      show Ieee.double.add s INF = _
      unfold Ieee.Format.add
      rw [read_fin fs.1 fs.2, read_inf (by decide)]
      rfl
  · refine ⟨INF, ?_, ninf, fun g => absurd g (by decide)⟩
    show Ieee.double.add INF p = _
    rcases hp.cases with ⟨fp, vp⟩ | rfl
    · unfold Ieee.Format.add
      rw [read_fin fp.1 fp.2, read_inf (by decide)]
      rfl
    · decide +kernel
theorem quo_nn {s y : Nat} (hs : NN s) (hy : y < INF) (h1 : ONE ≤ y) : ∃ z, floatBits .quo .f64 s y = some z ∧ NN z ∧ (s % 2 ^ 63 = 0 → z % 2 ^ 63 = 0) := by
  have ninf : NN INF := ⟨by decide, by decide, by decide⟩
  have hi : INF = 0x7ff0000000000000 := rfl
  rcases hs.cases with ⟨fs, vs⟩ | rfl
  · obtain ⟨ρ, r1, eq⟩ := quo_bound fs hy (by have : 0 < ONE := by decide
                                              omega) (Nat.le_of_lt fs.2) (by
      have := U_le h1
      rw [U_one] at this
      exact Nat.mul_le_mul_left _ this)
    have ri : ρ ≤ INF := by have := fs.2; omega
    refine ⟨_, eq, ⟨word_lt ri, ?_, ?_⟩, fun g => by rw [word_mod ri]; omega⟩
    · rw [Bool.eq_false_iff]; intro g
      have := (isN_iff _).1 g
      rw [word_mod ri] at this
      omega
    · rw [key_word ri]
      have k := hs.2.2
      rw [key_sg] at k
      cases h : sg s <;> rw [h] at k <;> simp only [if_true, Bool.false_eq_true, if_false] at k ⊢ <;> omega
  · refine ⟨INF, ?_, ninf, fun g => absurd g (by decide)⟩
    show Ieee.double.div INF y = _
    unfold Ieee.Format.div
    rw [read_fin (lt64 hy) (by rw [mod_pos hy]; exact hy), read_inf (by decide), sg_pos hy]
    rfl
theorem fi_one : fi 1 = ONE := by
  rw [fi_eq, Nat.one_mul, ← U_one]
  have := rung_own (r := ONE) (by decide) 0
  simpa using this
theorem fi_two : fi 2 = TWO := by
  have h := U_of (r := TWO) (e := 1023) (p := BB + 1) (by decide) (by decide) (by decide)
  rw [fi_eq, Nat.mul_comm, ← Nat.pow_succ, ← h]
  have := rung_own (r := TWO) (by decide) 0
  simpa using this
def R63 : Nat := 4890909195324358656
theorem U_R63 : U R63 = 2 ^ (BB + 63) := U_of (e := 1085) (by decide) (by decide) (by decide)
theorem fi_inf {n : Nat} (h : n ≤ 2 ^ 63) : fi n < INF := by
  have h0 : fi n ≤ R63 := by
    rw [fi_eq]
    have h1 : n * 2 ^ BB ≤ U R63 * 2 ^ 0 := by
      rw [U_R63, Nat.pow_zero, Nat.mul_one, Nat.add_comm, Nat.pow_add]
      exact Nat.mul_le_mul_right _ h
    have h2 := rung_mono (k := 0) h1
    rw [rung_own (by decide)] at h2
    exact h2
  have : R63 < INF := by decide
  omega
/-- What holds of a mean, the least and the greatest. -/
def BtI (m : Mn) (l g : Nat) : Prop := (m = Mn.new ∧ l = INF ∧ g = 2 ^ 63 + INF) ∨ (m.n ≠ 0 ∧ ∃ a s, m.a = some a ∧ m.s = some s ∧ Bnd a ∧ Bnd l ∧ Bnd g ∧ key l ≤ key a ∧ key a ≤ key g ∧ NN s ∧ (key l = key g → s % 2 ^ 63 = 0))
/-- z is the lesser one. -/
def Lsr (z x y : Nat) : Prop := (z = x ∨ z = y) ∧ key z ≤ key x ∧ key z ≤ key y
def Gtr (z x y : Nat) : Prop := (z = x ∨ z = y) ∧ key x ≤ key z ∧ key y ≤ key z
theorem BtI.add {m : Mn} {l g x l' g' : Nat} (h : BtI m l g) (hx : Bnd x) (hn : m.n + 1 ≤ 2 ^ 63) (hl : Lsr l' l x) (hg : Gtr g' g x) : BtI (m.add (some x)) l' g' := by
  have hi : INF = 0x7ff0000000000000 := rfl
  have hp4 : P400 = 6408622269748215808 := rfl
  right
  refine ⟨by simp [Mn.add], ?_⟩
  rcases h with ⟨rfl, rfl, rfl⟩ | ⟨hn0, a0, s0, ea0, es0, ba, bl, bg, k1, k2, ns, hz⟩
  · have k1 : key INF = INF := by decide
    have k2 : key (2 ^ 63 + INF) = -(INF : Int) := by decide
    obtain ⟨l1, l2, l3⟩ := hl
    obtain ⟨g1, g2, g3⟩ := hg
    rw [k1] at l2; rw [k2] at g2
    have hx1 := hx.2.1; have hx2 := hx.2.2
    have e1 : l' = x := by
      rcases l1 with rfl | rfl
      · rw [k1] at l3; omega
      · rfl
    have e2 : g' = x := by
      rcases g1 with rfl | rfl
      · rw [k2] at g3; omega
      · rfl
    rw [e1, e2]
    obtain ⟨d, q, a, ed, eq, ea, ba, ka, fd⟩ := mean_first hx
    obtain ⟨e, ee, fe, me, _, _, e0⟩ := sub_bnd hx ba
    have hez : e % 2 ^ 63 = 0 := e0 ka.symm
    have hke : key e = 0 := by have := key_abs (z := e); omega
    obtain ⟨p, ep, np, _, pz⟩ := prod_nn fd fe (by rw [hke]; omega)
    obtain ⟨z, es, nz, zz⟩ := sum_nn (s := 0) ⟨by decide, by decide, by decide⟩ np
    have hd : fo .sub (some x) (some 0) = some d := ed
    have hq : fo .quo (some d) (some (fi (0 + 1))) = some q := by rw [Nat.zero_add, fi_one]; exact eq
    have ha : fo .add (some 0) (some q) = some a := ea
    have he : fo .sub (some x) (some a) = some e := ee
    have hp : fo .mul (some d) (some e) = some p := ep
    have hs : fo .add (some 0) (some p) = some z := es
    refine ⟨a, z, ?_, ?_, ba, hx, hx, by omega, by omega, nz, fun _ => zz (by decide) (pz hez)⟩
    · simp only [Mn.add, Mn.new, hd, hq, ha]
    · simp only [Mn.add, Mn.new, hd, hq, ha, he, hp, hs]
  · obtain ⟨d, q, a, ed, eq, ea, bd, h1, h2, fd, d1, d2, d3⟩ := mean_step hx ba (fi_inf hn) (by rw [← fi_two]; exact fi_mono (show 2 ≤ m.n + 1 by omega))
    obtain ⟨e, ee, fe, me, e1, e2, e3⟩ := sub_bnd hx bd
    obtain ⟨p, ep, np, pd, pe⟩ := prod_nn fd fe (by
      rcases Int.le_total (key a0) (key x) with g | g
      · exact .inl ⟨d1 g, e1 (h1 g).2⟩
      · exact .inr ⟨d2 g, e2 (h2 g).1⟩)
    obtain ⟨z, es, nz, zz⟩ := sum_nn ns np
    have hd : fo .sub (some x) (some a0) = some d := ed
    have hq : fo .quo (some d) (some (fi (m.n + 1))) = some q := eq
    have ha : fo .add (some a0) (some q) = some a := ea
    have he : fo .sub (some x) (some a) = some e := ee
    have hp : fo .mul (some d) (some e) = some p := ep
    have hs : fo .add (some s0) (some p) = some z := es
    obtain ⟨l1, l2, l3⟩ := hl
    obtain ⟨g1, g2, g3⟩ := hg
    have bl' : Bnd l' := by rcases l1 with rfl | rfl <;> assumption
    have bg' : Bnd g' := by rcases g1 with rfl | rfl <;> assumption
    have hbt : key l' ≤ key a ∧ key a ≤ key g' := by
      rcases Int.le_total (key a0) (key x) with g | g
      · have := h1 g; omega
      · have := h2 g; omega
    refine ⟨a, z, ?_, ?_, bd, bl', bg', hbt.1, hbt.2, nz, fun hk => ?_⟩
    · simp only [Mn.add, ea0, hd, hq, ha]
    · simp only [Mn.add, ea0, es0, hd, hq, ha, he, hp, hs]
    · have hxa : key x = key a0 := by omega
      exact zz (hz (by omega)) (pd (d3 hxa))
/-- WHAT THE MEAN TELLS. -/
theorem BtI.tell {m : Mn} {l g : Nat} (h : BtI m l g) (hn0 : m.n ≠ 0) (hn : m.n ≤ 2 ^ 63) : ∃ a s, m.tell = (m.n, some a, some s) ∧ Bnd a ∧ Bnd l ∧ Bnd g ∧ key l ≤ key a ∧ key a ≤ key g ∧ NN s ∧ (key l = key g → key s = 0) := by
  rcases h with ⟨rfl, _, _⟩ | ⟨_, a0, s0, ea0, es0, ba, bl, bg, k1, k2, ns, hz⟩
  · exact absurd rfl hn0
  · obtain ⟨z, e, nz, zz⟩ := quo_nn ns (fi_inf hn) (by rw [← fi_one]; exact fi_mono (show 1 ≤ m.n by omega))
    have he : fo .quo (some s0) (some (fi m.n)) = some z := e
    refine ⟨a0, z, ?_, ba, bl, bg, k1, k2, nz, fun hk => ?_⟩
    · unfold Mn.tell; rw [if_neg hn0, ea0, es0, he]
    · have h1 := zz (hz hk)
      have := key_abs (z := z)
      omega
end Rt
end Go.Proofs.Ytplkoephgmdgkaa
