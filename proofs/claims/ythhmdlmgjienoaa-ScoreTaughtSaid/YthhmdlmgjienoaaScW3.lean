/- Soft, Copysign, head: walks. No condition but what each states. -/
import Derived.Test.YthhmdlmgjienoaaScW2
namespace Go.Proofs.Ythhmdlmgjienoaa
open Go Go.RowKit
attribute [local go_sem] run_fadd run_fsub run_fmul run_fquo

theorem bits_top (x : Nat) (hx : x < 2 ^ 64) : bits .and .u64 (x : Int) 9223372036854775808 = ((if x < 2 ^ 63 then 0 else 2 ^ 63 : Nat) : Int) := by
  rw [u64_and (x : Int) 9223372036854775808 (by omega) (by omega) (by decide) (by decide)]
  congr 1
  rw [Int.toNat_natCast, show (9223372036854775808 : Int).toNat = 2 ^ 63 from rfl]
  apply Nat.eq_of_testBit_eq
  intro i
  rw [Nat.testBit_and, Nat.testBit_two_pow]
  by_cases h : x < 2 ^ 63
  · rw [if_pos h, Nat.zero_testBit]
    by_cases hi : 63 = i
    · subst hi; rw [Nat.testBit_lt_two_pow h]; rfl
    · simp [hi]
  · rw [if_neg h, Nat.testBit_two_pow]
    by_cases hi : 63 = i
    · subst hi
      have : x.testBit 63 = true := by
        rw [Nat.testBit_eq_decide_div_mod_eq]
        simp; omega
      rw [this]; rfl
    · simp [hi]
/-- 1 with the sign of x. -/
def one_as (x : Nat) : Nat := if x < 2 ^ 63 then 4607182418800017408 else 13830554455654793216

theorem m_copysign1 (x : Nat) (hx : x < 2 ^ 64) (w : World) : Calls Try.prog 31 #[.float .f64 4607182418800017408, .float .f64 x] w fun r w' => r = .returned (.float .f64 (one_as x)) ∧ w' = w := by
  have h1 := run_bits x w
  have h2 : (callFunc 23 #[.float .f64 4607182418800017408]).run Try.prog w = .ok (.value (.int .u64 4607182418800017408)) w := run_bits _ w
  have h3 := bits_top x hx
  have h4 : (callFunc 35 #[.int .u64 4607182418800017408]).run Try.prog w = .ok (.value (.float .f64 4607182418800017408)) w := run_frombits 4607182418800017408 w
  have h5 : (callFunc 35 #[.int .u64 13830554455654793216]).run Try.prog w = .ok (.value (.float .f64 13830554455654793216)) w := run_frombits 13830554455654793216 w
  have k1 : bits .andNot .u64 4607182418800017408 9223372036854775808 = 4607182418800017408 := by decide
  have k2 : bits .or .u64 4607182418800017408 0 = 4607182418800017408 := by decide
  have k3 : bits .or .u64 4607182418800017408 9223372036854775808 = 13830554455654793216 := by decide
  by_cases hs : x < 2 ^ 63
  · rw [if_pos hs] at h3
    have h3' : bits .and .u64 (x : Int) 9223372036854775808 = 0 := h3
    have e : one_as x = 4607182418800017408 := if_pos hs
    rw [e]
    clear hs h3 e hx
    go_enter Try.func31, Try.ntmps31
    go_wp2
    go_ret
    exact ⟨rfl, rfl⟩
  · rw [if_neg hs] at h3
    have h3' : bits .and .u64 (x : Int) 9223372036854775808 = 9223372036854775808 := h3
    have e : one_as x = 13830554455654793216 := if_neg hs
    rw [e]
    clear hs h3 e hx
    go_enter Try.func31, Try.ntmps31
    go_wp2
    go_ret
    exact ⟨rfl, rfl⟩

def softO (x : Nat) : Option Nat := if fbig (x % 2 ^ 63) then some (one_as x) else fo .quo (some x) (fo .add (some 4607182418800017408) (some (x % 2 ^ 63)))

theorem s_soft (x : Nat) (hx : x < 2 ^ 64) (w : World) : Calls Try.prog 16 #[.float .f64 x] w fun r w' => ∃ s, r = .returned (.float .f64 s) ∧ FS (softO x) s ∧ Chg (fun _ => False) w w' := by
  cases hb : fbig (x % 2 ^ 63)
  · have hy : x % 2 ^ 63 < 2 ^ 64 := by omega
    have hn : ∀ z z', FS (softO x) (fres z .quo x (fres z' .add 4607182418800017408 (x % 2 ^ 63))) := by
      intro z z'
      rw [softO, hb]
      exact fres_fs _ _ (FS.some hx) (fres_fs _ _ (FS.some (by decide)) (FS.some hy))
    have HN := Lib.hid hn
    clear hn
    go_enter Try.func16, Try.ntmps16
    go_wp2_with fail
    refine (m_isInf0 x hx w).mono ?_
    rintro e w' ⟨rfl, rfl⟩
    rw [hb]
    go_wp2_with fail
    refine (m_abs x hx w').mono ?_
    rintro e w'' ⟨rfl, rfl⟩
    clear hb hy
    have HN' := HN.out
    revert HN'
    generalize x % 2 ^ 63 = y
    intro HN'
    have HN2 := Lib.hid HN'
    clear HN' HN
    go_wp2
    go_ret
    exact ⟨_, rfl, HN2.out _ _, (Chg.refl _ _).drewN _⟩
  · have e : softO x = some (one_as x) := by rw [softO, hb]; rfl
    rw [e]
    have ho : one_as x < 2 ^ 64 := by unfold one_as; split <;> omega
    go_enter Try.func16, Try.ntmps16
    go_wp2_with fail
    refine (m_isInf0 x hx w).mono ?_
    rintro e w' ⟨rfl, rfl⟩
    rw [hb]
    go_wp2_with fail
    refine (m_copysign1 x hx w').mono ?_
    rintro e w'' ⟨rfl, rfl⟩
    have HO := Lib.hid ho
    clear ho e
    go_wp2
    go_ret
    exact ⟨_, rfl, FS.some HO.out, Chg.refl _ _⟩

theorem sc_head (w : World) : Calls Try.prog 15 #[] w fun r w' => r = .returned (.bool true) ∧ Chg (fun _ => False) w w' := by
  have e1 : wsum [4607182418800017408, 4611686018427387904, 0, 0, 0, 0, 0, 0] [4613937818241073152, 4616189618054758400, 0, 0, 0, 0, 0, 0] 8 = some 4622382067542392832 := by kernel_rfl
  have e2 : softO 4607182418800017408 = some 4602678819172646912 := by kernel_rfl
  have o1 : (FloatKind.f64.format.order 4622382067542392832 4622382067542392832 == some .eq) = true := by kernel_rfl
  have o2 : (FloatKind.f64.format.order 4602678819172646912 4602678819172646912 == some .eq) = true := by kernel_rfl
  go_enter Try.func15, Try.ntmps15
  go_wp2_with fail
  refine (s_weigh [4607182418800017408, 4611686018427387904, 0, 0, 0, 0, 0, 0] [4613937818241073152, 4616189618054758400, 0, 0, 0, 0, 0, 0] rfl rfl (by decide) (by decide) w).mono ?_
  rintro e w1 ⟨s, rfl, hs, c1⟩
  rw [e1] at hs
  obtain rfl : s = 4622382067542392832 := hs.2
  have C1 := Lib.hid c1
  clear e1 hs c1
  go_wp2_with fail
  refine (s_soft 4607182418800017408 (by decide) w1).mono ?_
  rintro e w2 ⟨s, rfl, hs, c2⟩
  rw [e2] at hs
  obtain rfl : s = 4602678819172646912 := hs.2
  have C2 := Lib.hid c2
  clear e2 hs c2
  go_wp2
  go_ret
  exact ⟨rfl, C1.out.trans C2.out (fun _ _ h => h)⟩
end Go.Proofs.Ythhmdlmgjienoaa
