/- Ldexp(1, 400), walked; min and max of floats. No condition but what each states. -/
import Derived.Test.YtplkoephgmdgkaaRtL5
namespace Go.Proofs.Ytplkoephgmdgkaa
open Go Go.RowKit Rt
set_option linter.unusedVariables false
attribute [local go_sem] run_fadd run_fsub run_fmul run_fquo store_f64
theorem m_Inf1 (w : World) : Calls Try.prog 42 #[.int .i64 (-1)] w fun r w' => r = .returned (.float .f64 18442240474082181120) ∧ w' = w := by
  have h : (callFunc 60 #[.int .u64 18442240474082181120]).run Try.prog w = .ok (.value (.float .f64 18442240474082181120)) w := run_frombits 18442240474082181120 w
  go_enter Try.func42, Try.ntmps42
  go_wp2
  go_ret
  exact ⟨rfl, rfl⟩
theorem m_isInf (w : World) : Calls Try.prog 70 #[.float .f64 4607182418800017408, .int .i64 0] w fun r w' => r = .returned (.bool false) ∧ w' = w := by
  have h1 : (FloatKind.f64.format.order 4607182418800017408 9218868437227405311 == some .gt) = false := by decide +kernel
  have A := m_Abs 4607182418800017408 (by decide) w
  rw [show 4607182418800017408 % 2 ^ 63 = 4607182418800017408 from by decide] at A
  go_enter Try.func70, Try.ntmps70
  go_wp2_with fail
  refine A.mono ?_
  rintro e w' ⟨rfl, rfl⟩
  go_wp2
  go_ret
  exact ⟨rfl, rfl⟩
theorem m_isNaN (w : World) : Calls Try.prog 69 #[.float .f64 4607182418800017408] w fun r w' => r = .returned (.bool false) ∧ w' = w := by
  have h1 : (FloatKind.f64.format.order 4607182418800017408 4607182418800017408 != some .eq) = false := by decide +kernel
  go_enter Try.func69, Try.ntmps69
  go_wp2
  go_ret
  exact ⟨rfl, rfl⟩
theorem m_normalize (w : World) : Calls Try.prog 72 #[.float .f64 4607182418800017408] w fun r w' => r = .returned (.tuple #[.float .f64 4607182418800017408, .int .i64 0]) ∧ w' = w := by
  have h1 : (FloatKind.f64.format.order 4607182418800017408 4503599627370496 == some .lt) = false := by decide +kernel
  have A := m_Abs 4607182418800017408 (by decide) w
  rw [show 4607182418800017408 % 2 ^ 63 = 4607182418800017408 from by decide] at A
  go_enter Try.func72, Try.ntmps72
  go_wp2_with fail
  refine A.mono ?_
  rintro e w' ⟨rfl, rfl⟩
  go_wp2
  go_ret2
  exact ⟨rfl, rfl⟩
set_option maxRecDepth 100000 in
theorem m_ldexp (w : World) : Calls Try.prog 65 #[.float .f64 4607182418800017408, .int .i64 400] w fun r w' => r = .returned (.float .f64 P400) ∧ Chg (fun _ => False) w w' := by
  have h0 : (FloatKind.f64.format.order 4607182418800017408 0 == some .eq) = false := by decide +kernel
  have hb : (callFunc 56 #[.float .f64 4607182418800017408]).run Try.prog w = .ok (.value (.int .u64 4607182418800017408)) w := run_bits 4607182418800017408 w
  have b1 : bits .and .i64 1023 2047 = 1023 := by decide +kernel
  have b2 : bits .andNot .u64 4607182418800017408 9218868437227405312 = 0 := by decide +kernel
  have b3 : bits .or .u64 0 6408622269748215808 = 6408622269748215808 := by decide +kernel
  have b4 : wrap64 400 = 400 := by decide +kernel
  have hf : (callFunc 60 #[.int .u64 6408622269748215808]).run Try.prog w = .ok (.value (.float .f64 6408622269748215808)) w := run_frombits 6408622269748215808 w
  have hm : floatBits .mul .f64 4607182418800017408 6408622269748215808 = some 6408622269748215808 := by decide +kernel
  have hm1 := fres_some hm
  have hm2 := fdr_some hm
  go_enter Try.func65, Try.ntmps65
  go_wp2_with fail
  refine (m_isInf w).mono ?_
  rintro e w' ⟨rfl, h9⟩
  have h9 := h9.symm; subst h9
  go_wp2_with fail
  refine (m_isNaN w).mono ?_
  rintro e w' ⟨rfl, h9⟩
  have h9 := h9.symm; subst h9
  go_wp2_with fail
  refine (m_normalize w).mono ?_
  rintro e w' ⟨rfl, h9⟩
  have h9 := h9.symm; subst h9
  go_wp2
  go_ret
  exact ⟨rfl, (Chg.refl _ _).drewN _⟩
theorem m_Ldexp (w : World) : Calls Try.prog 46 #[.float .f64 4607182418800017408, .int .i64 400] w fun r w' => r = .returned (.float .f64 P400) ∧ Chg (fun _ => False) w w' := by
  have L := Lib.hid (m_ldexp w)
  go_enter Try.func46, Try.ntmps46
  go_wp2_with fail
  refine L.out.mono ?_
  rintro e w1 ⟨rfl, c1⟩
  have C1 := Lib.hid c1
  clear c1
  go_wp2
  go_ret
  exact ⟨rfl, C1.out⟩
/-- The lesser, the greater of two floats. -/
def fmn (x y : Nat) : Nat := match Ieee.double.order x y with
  | some .lt => x
  | some .gt => y
  | _ => if (FloatKind.f64.decode x).neg then x else y
def fmx (x y : Nat) : Nat := match Ieee.double.order x y with
  | some .gt => x
  | some .lt => y
  | _ => if (FloatKind.f64.decode x).neg then y else x
theorem run_fmin {P : Program} (w : World) (ts : Array TypeId) (ty : TypeId) (x y : Nat) (hx : x < 2 ^ 64) (hy : y < 2 ^ 64) (nx : isN x = false) (ny : isN y = false) : (Builtin.min_ ts ty #[.float .f64 x, .float .f64 y]).run P w = .ok (.float .f64 (fmn x y)) w := by
  have hm : (Builtin.min_ ts ty #[.float .f64 x, .float .f64 y]) = Builtin.min2 (.float .f64 x) (.float .f64 y) := by simp [Builtin.min_]
  have h : FloatKind.f64.format.order x y = some (compare (key x) (key y)) := order_key hx hy nx ny
  have h' : Ieee.double.order x y = some (compare (key x) (key y)) := h
  rw [hm]
  unfold Builtin.min2 fmn
  simp only [h, h']
  rcases Int.lt_trichotomy (key x) (key y) with g | g | g
  · rw [Int.compare_eq_lt.2 g]; simp
  · rw [Int.compare_eq_eq.2 g]; simp
  · rw [Int.compare_eq_gt.2 g]; simp
theorem run_fmax {P : Program} (w : World) (ts : Array TypeId) (ty : TypeId) (x y : Nat) (hx : x < 2 ^ 64) (hy : y < 2 ^ 64) (nx : isN x = false) (ny : isN y = false) : (Builtin.max_ ts ty #[.float .f64 x, .float .f64 y]).run P w = .ok (.float .f64 (fmx x y)) w := by
  have hm : (Builtin.max_ ts ty #[.float .f64 x, .float .f64 y]) = Builtin.max2 (.float .f64 x) (.float .f64 y) := by simp [Builtin.max_]
  have h : FloatKind.f64.format.order x y = some (compare (key x) (key y)) := order_key hx hy nx ny
  have h' : Ieee.double.order x y = some (compare (key x) (key y)) := h
  rw [hm]
  unfold Builtin.max2 fmx
  simp only [h, h']
  rcases Int.lt_trichotomy (key x) (key y) with g | g | g
  · rw [Int.compare_eq_lt.2 g]; simp
  · rw [Int.compare_eq_eq.2 g]; simp
  · rw [Int.compare_eq_gt.2 g]; simp
theorem fmn_lsr {x y : Nat} (hx : x < 2 ^ 64) (hy : y < 2 ^ 64) (nx : isN x = false) (ny : isN y = false) : Lsr (fmn x y) x y := by
  have h' : Ieee.double.order x y = some (compare (key x) (key y)) := order_key hx hy nx ny
  unfold fmn
  rw [h']
  rcases Int.lt_trichotomy (key x) (key y) with g | g | g
  · rw [Int.compare_eq_lt.2 g]; simp only; exact ⟨.inl rfl, by omega, by omega⟩
  · rw [Int.compare_eq_eq.2 g]
    simp only
    split
    · exact ⟨.inl rfl, by omega, by omega⟩
    · exact ⟨.inr rfl, by omega, by omega⟩
  · rw [Int.compare_eq_gt.2 g]; simp only; exact ⟨.inr rfl, by omega, by omega⟩
theorem fmx_gtr {x y : Nat} (hx : x < 2 ^ 64) (hy : y < 2 ^ 64) (nx : isN x = false) (ny : isN y = false) : Gtr (fmx x y) x y := by
  have h' : Ieee.double.order x y = some (compare (key x) (key y)) := order_key hx hy nx ny
  unfold fmx
  rw [h']
  rcases Int.lt_trichotomy (key x) (key y) with g | g | g
  · rw [Int.compare_eq_lt.2 g]; simp only; exact ⟨.inr rfl, by omega, by omega⟩
  · rw [Int.compare_eq_eq.2 g]
    simp only
    split
    · exact ⟨.inr rfl, by omega, by omega⟩
    · exact ⟨.inl rfl, by omega, by omega⟩
  · rw [Int.compare_eq_gt.2 g]; simp only; exact ⟨.inl rfl, by omega, by omega⟩
end Go.Proofs.Ytplkoephgmdgkaa
