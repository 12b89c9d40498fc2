/- The rate table, powers and means as plain functions on words. No program in sight. -/
import Derived.Test.YtplkoephgmdgkaaFltQ
import Derived.Laws.Cover2
namespace Go.Proofs.Ytplkoephgmdgkaa
open Go
namespace Rt

/-- x * f^n by squares. -/
def pw (x f : Option Nat) (n : Nat) : Option Nat :=
  if h : n = 0 then x else pw (if n % 2 = 1 then fo .mul x f else x) (fo .mul f f) (n / 2)
termination_by n
theorem pw_zero (x f : Option Nat) : pw x f 0 = x := by rw [pw]; simp
theorem pw_step (x f : Option Nat) {n : Nat} (h : n ≠ 0) : pw x f n = pw (if n % 2 = 1 then fo .mul x f else x) (fo .mul f f) (n / 2) := by rw [pw]; simp [h]

/-- The float of a whole number. -/
def fi (n : Nat) : Nat := floatOfInt .f64 (n : Int)
theorem fi_lt (n : Nat) : fi n < 2 ^ 64 := by
  have := floatOfInt_wf .f64 (n : Int)
  simpa [Lit.wf, fi] using this

/-- A running mean: how many, the mean, the sum. -/
structure Mn where
  n : Nat
  a : Option Nat
  s : Option Nat
def Mn.new : Mn := ⟨0, some 0, some 0⟩
def Mn.add (m : Mn) (x : Option Nat) : Mn :=
  let d := fo .sub x m.a
  let a := fo .add m.a (fo .quo d (some (fi (m.n + 1))))
  ⟨m.n + 1, a, fo .add m.s (fo .mul d (fo .sub x a))⟩
def Mn.tell (m : Mn) : Nat × Option Nat × Option Nat := if m.n = 0 then (0, some 0, some 0) else (m.n, m.a, fo .quo m.s (some (fi m.n)))
end Rt
end Go.Proofs.Ytplkoephgmdgkaa
