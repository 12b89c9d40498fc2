/- alike walked; a slice of floats as an argument. No condition but what each states. -/
import Derived.Test.YtplkoephgmdgkaaRtW10
import Derived.Test.YtplkoephgmdgkaaArgs2
import Derived.Test.YtplkoephgmdgkaaFltA
import Derived.Test.YtplkoephgmdgkaaFpr
namespace Go.Proofs.Ytplkoephgmdgkaa
open Go Go.RowKit Rt Go.Maps Go.ChangeShapes Go.WideShapes Go.ChangeAt
set_option linter.unusedVariables false
theorem run_bits (x : Nat) (w : World) : (callFunc 56 #[.float .f64 x]).run Try.prog w = .ok (.value (.int .u64 x)) w := by
  rw [run_callFunc_extern (fn := Try.f56) (e := Extern.MathFloatBits.float64bits) rfl (by kernel_rfl) (by kernel_rfl) (by kernel_rfl) (by kernel_rfl)]
  rfl
theorem rt_alike (x y : Nat) (w : World) : Calls Try.prog 23 #[.float .f64 x, .float .f64 y] w fun r w' => r = .returned (.bool (alikeB x y)) ∧ w' = w := by
  have e : ∀ z, FloatKind.f64.format.order z z = if isN z then none else some .eq := order_self
  have ex := e x
  have ey := e y
  have h1 := run_bits x w
  have h2 := run_bits y w
  have hxy : ((x : Int) == (y : Int)) = (x == y) := by
    rw [Bool.eq_iff_iff]; simp; omega
  have key : ∀ a b : Bool, isN x = a → isN y = b → Calls Try.prog 23 #[.float .f64 x, .float .f64 y] w fun r w' => r = .returned (.bool (a && b || x == y)) ∧ w' = w := by
    intro a b ha hb
    rw [ha] at ex
    rw [hb] at ey
    cases a <;> cases b
    all_goals
      simp only [Bool.false_eq_true, if_false, if_true] at ex ey
      go_enter Try.func23, Try.ntmps23
      go_wp2
      go_ret
      exact ⟨rfl, rfl⟩
  exact key _ _ rfl rfl
theorem Try.cellsF64 : Try.prog.cellsOf 22 = 1 := by kernel_rfl
theorem flat_one {α β : Type} (f : α → β) : ∀ l : List α, l.flatMap (fun x => [f x]) = l.map f
  | [] => rfl
  | x :: r => by rw [List.flatMap_cons, flat_one f r]; rfl
theorem sum_ones {α : Type} : ∀ l : List α, (l.map fun _ => 1).sum = l.length
  | [] => rfl
  | x :: r => by rw [List.map_cons, List.sum_cons, sum_ones r, List.length_cons]; omega
def F64 (x : Nat) : Prop := x < 2 ^ 64
/-- Floats as cells. -/
def fls (l : List Nat) : List Value := l.map (Value.float .f64)
set_option maxRecDepth 100000 in
theorem arg_floats {H : Type} {enc : TypeId × Value → H} {W : World} {v : Value} {d : DataW H} {p : List MemPlace} (ok : ∃ base, Value.okWide Try.prog W .any base 61 v) (h : DataW.Trod enc Try.prog W 0 (fun _ => true) true 61 v d p) :
    ∃ (ao : Option Addr) (cap : Nat) (l : List Nat), v = .slice ao l.length cap ∧ Rd W (.slice ao l.length cap) 1 (fls l) ∧ (∀ x ∈ l, F64 x) ∧ l.length + 1 ≤ Rows.uptoBulk d := by
  obtain ⟨base, ok⟩ := ok
  obtain ⟨a0, len, cap, rfl⟩ := okWide_slice Try.underlying61 ok
  obtain ⟨m, hm⟩ := h
  obtain ⟨ao, n, cap', l, hcs, h1, h2, h3, h4⟩ := arg_rows (enc := enc) (P := Try.prog) (W := W) 1 (fun x => [Value.float .f64 x]) F64 (fun _ => 1) Try.underlying61 Try.cellsF64 (fun _ => rfl) (by omega) hm (fun k cs' D Pl hr => by
    obtain ⟨b, hb, hb2⟩ := trod_float Try.underlying22 hr
    exact ⟨b, hb, hb2, bulk_one _⟩)
  simp [Value.cells] at hcs
  obtain ⟨rfl, rfl, rfl⟩ := hcs
  subst h2
  rw [flat_one] at h1
  rw [sum_ones] at h4
  exact ⟨a0, cap, l, rfl, h1, h3, h4⟩
end Go.Proofs.Ytplkoephgmdgkaa
