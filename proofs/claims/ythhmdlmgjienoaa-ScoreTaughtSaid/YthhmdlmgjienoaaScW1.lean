/- The small functions over floats: bits, Abs, IsInf, IsNaN, Same. No condition but what each states. -/
import Derived.Test.YthhmdlmgjienoaaProg
import Derived.Test.YthhmdlmgjienoaaMem
import Derived.Test.YthhmdlmgjienoaaFltP
import Derived.Outline
import Derived.KernelRfl
import Derived.BigRegion
import Derived.Deep.QuietTactic
import Derived.BigQuiet
import Derived.ChangeAlike
import Derived.Laws.BitsAll
import Derived.Laws.Externs
import Derived.Deep.RegionWith
namespace Go.Proofs.Ythhmdlmgjienoaa
open Go Go.RowKit

theorem run_bits (x : Nat) (w : World) : (callFunc 23 #[.float .f64 x]).run Try.prog w = .ok (.value (.int .u64 x)) w := by
  rw [run_callFunc_extern (fn := Try.f23) (e := Extern.MathFloatBits.float64bits) rfl (by kernel_rfl) (by kernel_rfl) (by kernel_rfl) (by kernel_rfl)]
  rfl
theorem run_frombits (x : Nat) (w : World) : (callFunc 35 #[.int .u64 x]).run Try.prog w = .ok (.value (.float .f64 x)) w := by
  rw [run_callFunc_extern (fn := Try.f35) (e := Extern.MathFloatBits.float64frombits) rfl (by kernel_rfl) (by kernel_rfl) (by kernel_rfl) (by kernel_rfl)]
  rfl

theorem bits_abs (x : Nat) (hx : x < 2 ^ 64) : bits .andNot .u64 (x : Int) 9223372036854775808 = ((x % 2 ^ 63 : Nat) : Int) := by
  have h := u64_andNot (x : Int) 9223372036854775808 (by omega) (by omega) (by decide) (by decide)
  rw [h]
  congr 1
  have e : (18446744073709551615 - (9223372036854775808 : Int).toNat) = 2 ^ 63 - 1 := by decide
  rw [Int.toNat_natCast, e, Nat.and_two_pow_sub_one_eq_mod]

theorem m_abs (x : Nat) (hx : x < 2 ^ 64) (w : World) : Calls Try.prog 32 #[.float .f64 x] w fun r w' => r = .returned (.float .f64 (x % 2 ^ 63)) ∧ w' = w := by
  have h1 := run_bits x w
  have h2 := bits_abs x hx
  have h3 := run_frombits (x % 2 ^ 63) w
  revert h2 h3
  generalize x % 2 ^ 63 = y
  intro h2 h3
  go_enter Try.func32, Try.ntmps32
  go_wp2
  go_ret
  exact ⟨rfl, rfl⟩

theorem m_isNaN (x : Nat) (w : World) : Calls Try.prog 21 #[.float .f64 x] w fun r w' => r = .returned (.bool (isN x)) ∧ w' = w := by
  have e : (FloatKind.f64.format.order x x != some .eq) = isN x := by
    have := order_self x
    cases h : isN x <;> simp_all [FloatKind.format]
  go_enter Try.func21, Try.ntmps21
  go_wp2
  go_ret
  exact ⟨by rw [← e]; rfl, rfl⟩

/-- Above the greatest float. -/
def fbig (x : Nat) : Bool := Ieee.double.order x 9218868437227405311 == some .gt

theorem m_isInf0 (x : Nat) (hx : x < 2 ^ 64) (w : World) : Calls Try.prog 30 #[.float .f64 x, .int .i64 0] w fun r w' => r = .returned (.bool (fbig (x % 2 ^ 63))) ∧ w' = w := by
  go_enter Try.func30, Try.ntmps30
  go_wp2_with fail
  refine (m_abs x hx w).mono ?_
  rintro e w' ⟨rfl, rfl⟩
  go_wp2
  go_ret
  exact ⟨rfl, rfl⟩
theorem m_isInf1 (x : Nat) (w : World) : Calls Try.prog 30 #[.float .f64 x, .int .i64 1] w fun r w' => r = .returned (.bool (fbig x)) ∧ w' = w := by
  go_enter Try.func30, Try.ntmps30
  go_wp2
  go_ret
  exact ⟨rfl, rfl⟩

theorem ref_same (x y : Nat) (w : World) : Calls Try.prog 12 #[.float .f64 x, .float .f64 y] w fun r w' => r = .returned (.bool (isN x && isN y || x == y)) ∧ w' = w := by
  have e : ∀ z, FloatKind.f64.format.order z z = if isN z then none else some .eq := order_self
  have ex := e x
  have ey := e y
  have h1 := run_bits x w
  have h2 := run_bits y w
  have hxy : ((x : Int) == (y : Int)) = (x == y) := by
    rw [Bool.eq_iff_iff]; simp; omega
  have key : ∀ a b : Bool, isN x = a → isN y = b → Calls Try.prog 12 #[.float .f64 x, .float .f64 y] w fun r w' => r = .returned (.bool (a && b || x == y)) ∧ w' = w := by
    intro a b ha hb
    rw [ha] at ex
    rw [hb] at ey
    cases a <;> cases b
    all_goals
      simp only [Bool.false_eq_true, if_false, if_true] at ex ey
      go_enter Try.func12, Try.ntmps12
      go_wp2
      go_ret
      exact ⟨rfl, rfl⟩
  exact key _ _ rfl rfl
end Go.Proofs.Ythhmdlmgjienoaa
