/- NaN, Inf, Copysign, walked. No condition but what each states. -/
import Derived.Test.YtplkoephgmdgkaaRtA1
import Derived.Laws.BitsAll
namespace Go.Proofs.Ytplkoephgmdgkaa
open Go Go.RowKit Rt
set_option linter.unusedVariables false
theorem run_frombits (x : Nat) (w : World) : (callFunc 60 #[.int .u64 x]).run Try.prog w = .ok (.value (.float .f64 x)) w := by
  rw [run_callFunc_extern (fn := Try.f60) (e := Extern.MathFloatBits.float64frombits) rfl (by kernel_rfl) (by kernel_rfl) (by kernel_rfl) (by kernel_rfl)]
  rfl
theorem m_NaN (w : World) : Calls Try.prog 41 #[] w fun r w' => r = .returned (.float .f64 9221120237041090561) ∧ w' = w := by
  have h : (callFunc 60 #[.int .u64 9221120237041090561]).run Try.prog w = .ok (.value (.float .f64 9221120237041090561)) w := run_frombits 9221120237041090561 w
  go_enter Try.func41, Try.ntmps41
  go_wp2
  go_ret
  exact ⟨rfl, rfl⟩
theorem m_Inf (w : World) : Calls Try.prog 42 #[.int .i64 1] w fun r w' => r = .returned (.float .f64 9218868437227405312) ∧ w' = w := by
  have h : (callFunc 60 #[.int .u64 9218868437227405312]).run Try.prog w = .ok (.value (.float .f64 9218868437227405312)) w := run_frombits 9218868437227405312 w
  go_enter Try.func42, Try.ntmps42
  go_wp2
  go_ret
  exact ⟨rfl, rfl⟩
theorem m_Copysign (w : World) : Calls Try.prog 43 #[.float .f64 0, .float .f64 13830554455654793216] w fun r w' => r = .returned (.float .f64 9223372036854775808) ∧ w' = w := by
  have h1 : (callFunc 56 #[.float .f64 0]).run Try.prog w = .ok (.value (.int .u64 0)) w := run_bits 0 w
  have h2 : (callFunc 56 #[.float .f64 13830554455654793216]).run Try.prog w = .ok (.value (.int .u64 13830554455654793216)) w := run_bits 13830554455654793216 w
  have h3 : (callFunc 60 #[.int .u64 9223372036854775808]).run Try.prog w = .ok (.value (.float .f64 9223372036854775808)) w := run_frombits 9223372036854775808 w
  have b1 : bits .andNot .u64 0 9223372036854775808 = 0 := by decide +kernel
  have b2 : bits .and .u64 13830554455654793216 9223372036854775808 = 9223372036854775808 := by decide +kernel
  have b3 : bits .or .u64 0 9223372036854775808 = 9223372036854775808 := by decide +kernel
  go_enter Try.func43, Try.ntmps43
  go_wp2
  go_ret
  exact ⟨rfl, rfl⟩
end Go.Proofs.Ytplkoephgmdgkaa
