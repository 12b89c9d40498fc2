/- The document's Soft; finite of both. No condition but what each states. -/
import Derived.Test.YthhmdlmgjienoaaScF1
import Derived.Test.YthhmdlmgjienoaaFltO
namespace Go.Proofs.Ythhmdlmgjienoaa
open Go Go.RowKit
attribute [local go_sem] run_fadd run_fsub run_fmul run_fquo

theorem fbig_eq {x : Nat} (hx : x < 2 ^ 64) : fbig x = decide (x = INF) := big_iff hx
theorem fneg_lt {x : Nat} (hx : x < 2 ^ 64) : fneg x < 2 ^ 64 := by rw [fneg_eq hx]; split <;> omega
theorem m_isInfm (x : Nat) (w : World) : Calls Try.prog 30 #[.float .f64 x, .int .i64 (-1)] w fun r w' => r = .returned (.bool (fbig (fneg x))) ∧ w' = w := by
  have hn : Op.unary .neg (.float .f64 x) = pure (.float .f64 (fneg x)) := rfl
  unfold fbig
  generalize fneg x = y at *
  go_enter Try.func30, Try.ntmps30
  go_wp2
  go_ret
  exact ⟨rfl, rfl⟩

theorem r_soft (x : Nat) (hx : x < 2 ^ 64) (w : World) : Calls Try.prog 17 #[.float .f64 x] w fun r w' => ∃ s, r = .returned (.float .f64 s) ∧ FS (softO x) s ∧ Chg (fun _ => False) w w' := by
  have hi : INF = 0x7ff0000000000000 := rfl
  have e0 := fbig_eq (x := x % 2 ^ 63) (by omega)
  by_cases h1 : x = INF
  · have b1 : fbig x = true := by rw [fbig_eq hx, h1]; rfl
    have e : softO x = some 4607182418800017408 := by
      rw [softO, e0, decide_eq_true (show x % 2 ^ 63 = INF by omega)]
      unfold one_as
      rw [if_pos (show x < 2 ^ 63 by omega)]; rfl
    rw [e]
    clear h1 e e0
    go_enter Try.func17, Try.ntmps17
    go_wp2_with fail
    refine (m_isInf1 x w).mono ?_
    rintro e w' ⟨rfl, rfl⟩
    rw [b1]
    go_wp2
    go_ret
    exact ⟨_, rfl, FS.some (by decide), Chg.refl _ _⟩
  · have b1 : fbig x = false := by rw [fbig_eq hx, decide_eq_false h1]
    by_cases h2 : x = INF + 2 ^ 63
    · have b2 : fbig (fneg x) = true := by rw [fbig_eq (fneg_lt hx), fneg_eq hx, if_neg (by omega)]; simp; omega
      have e : softO x = some 13830554455654793216 := by
        rw [softO, e0, decide_eq_true (show x % 2 ^ 63 = INF by omega)]
        unfold one_as
        rw [if_neg (show ¬ x < 2 ^ 63 by omega)]; rfl
      rw [e]
      clear h1 e e0 h2
      go_enter Try.func17, Try.ntmps17
      go_wp2_with fail
      refine (m_isInf1 x w).mono ?_
      rintro e w' ⟨rfl, rfl⟩
      rw [b1]
      go_wp2_with fail
      refine (m_isInfm x w').mono ?_
      rintro e w'' ⟨rfl, rfl⟩
      rw [b2]
      go_wp2
      go_ret
      exact ⟨_, rfl, FS.some (by decide), Chg.refl _ _⟩
    · have b2 : fbig (fneg x) = false := by
        rw [fbig_eq (fneg_lt hx), fneg_eq hx]
        apply decide_eq_false
        split <;> omega
      have e : softO x = fo .quo (some x) (fo .add (some 4607182418800017408) (some (x % 2 ^ 63))) := by
        rw [softO, e0, decide_eq_false (show ¬ x % 2 ^ 63 = INF by omega)]; rfl
      have hy : x % 2 ^ 63 < 2 ^ 64 := by omega
      have hn : ∀ z z', FS (softO x) (fres z .quo x (fres z' .add 4607182418800017408 (x % 2 ^ 63))) := by
        intro z z'
        rw [e]
        exact fres_fs _ _ (FS.some hx) (fres_fs _ _ (FS.some (by decide)) (FS.some hy))
      have HN := Lib.hid hn
      clear hn h1 h2 e e0 hy
      go_enter Try.func17, Try.ntmps17
      go_wp2_with fail
      refine (m_isInf1 x w).mono ?_
      rintro e w' ⟨rfl, rfl⟩
      rw [b1]
      go_wp2_with fail
      refine (m_isInfm x w').mono ?_
      rintro e w'' ⟨rfl, rfl⟩
      rw [b2]
      go_wp2_with fail
      refine (m_abs x hx w'').mono ?_
      rintro e w3 ⟨rfl, rfl⟩
      have HN' := HN.out
      revert HN'
      generalize x % 2 ^ 63 = y
      intro HN'
      have HN2 := Lib.hid HN'
      clear HN' HN
      go_wp2
      go_ret
      exact ⟨_, rfl, HN2.out _ _, (Chg.refl _ _).drewN _⟩

theorem softs_walk (x : Nat) (hx : x < 2 ^ 64) (W : World) : Calls Try.prog 4 #[.float .f64 x] W fun r w' => r = .returned (.bool true) ∧ Below W.heap.size W w' := by
  go_enter Try.func4, Try.ntmps4
  go_wp2_with fail
  refine (s_soft x hx W).mono ?_
  rintro e w1 ⟨s1, rfl, hs1, c1⟩
  have H1 := Lib.hid hs1
  have C1 := Lib.hid c1
  clear hs1 c1
  go_wp2_with fail
  refine (r_soft x hx w1).mono ?_
  rintro e w2 ⟨s2, rfl, hs2, c2⟩
  have H2 := Lib.hid hs2
  have C2 := Lib.hid c2
  clear hs2 c2
  go_wp2_with fail
  refine (same_true H1.out H2.out w2).mono ?_
  rintro e w3 ⟨rfl, rfl⟩
  go_wp2_with fail
  refine (sc_head w3).mono ?_
  rintro e w4 ⟨rfl, c4⟩
  have C4 := Lib.hid c4
  clear c4
  go_wp2
  go_ret
  exact ⟨rfl, ((C1.out.trans C2.out (fun _ _ h => h)).trans C4.out (fun _ _ h => h)).below (Nat.le_refl _) (fun _ _ h => h)⟩
end Go.Proofs.Ythhmdlmgjienoaa
