/- Floats as words: NaN, what an operation gives (or that it is open), the order of words. No program in sight. -/
import Derived.Laws.FloatArith
import Derived.WalkLawsBesides
import Derived.Deep.Draws
namespace Go.Proofs.Ytplkoephgmdgkaa
open Go

/-- The word is a NaN. -/
def isN (x : Nat) : Bool := (Ieee.double.read x).isNaN
/-- Equal as Go compares. -/
def feq (x y : Nat) : Bool := Ieee.double.order x y == some .eq

theorem sgn_cmp (s : Bool) (m : Nat) (k : Nat) : compare (Ieee.signed s m k) (Ieee.signed s m k) = .eq := by
  rw [Int.compare_eq_eq]
theorem order_self (x : Nat) : Ieee.double.order x x = if isN x then none else some .eq := by
  unfold Ieee.Format.order isN
  cases h : Ieee.double.read x with
  | nan s t => rfl
  | infinity s => cases s <;> rfl
  | number s m i => simp [Ieee.Datum.order, Ieee.Datum.isNaN]
theorem order_nan_left {x : Nat} (y : Nat) (h : isN x = true) : Ieee.double.order x y = none := by
  unfold isN at h
  unfold Ieee.Format.order
  cases hx : Ieee.double.read x <;> simp [hx, Ieee.Datum.isNaN] at h
  rfl
theorem order_nan_right (x : Nat) {y : Nat} (h : isN y = true) : Ieee.double.order x y = none := by
  unfold isN at h
  unfold Ieee.Format.order
  cases hy : Ieee.double.read y <;> simp [hy, Ieee.Datum.isNaN] at h
  cases Ieee.double.read x <;> rfl

theorem read_nan {x : Nat} (h : isN x = true) : ∃ s t, Ieee.double.read x = .nan s t := by
  unfold isN at h
  cases hx : Ieee.double.read x <;> simp [hx, Ieee.Datum.isNaN] at h
  exact ⟨_, _, rfl⟩
theorem fb_nan_left (op : BinOp) {x : Nat} (y : Nat) (h : isN x = true) : floatBits op .f64 x y = none := by
  obtain ⟨s, t, hx⟩ := read_nan h
  cases op <;> simp only [floatBits, FloatKind.format]
  all_goals first | rfl | skip
  · rw [Ieee.Format.add, hx]; rfl
  · rw [Ieee.Format.sub, hx]; rfl
  · rw [Ieee.Format.mul, hx]; rfl
  · rw [Ieee.Format.div, hx]; rfl
theorem fb_nan_right (op : BinOp) (x : Nat) {y : Nat} (h : isN y = true) : floatBits op .f64 x y = none := by
  obtain ⟨s, t, hy⟩ := read_nan h
  cases op <;> simp only [floatBits, FloatKind.format]
  all_goals first | rfl | skip
  · rw [Ieee.Format.add, hy]; cases Ieee.double.read x <;> rfl
  · rw [Ieee.Format.sub, hy]; cases Ieee.double.read x <;> rfl
  · rw [Ieee.Format.mul, hy]; cases Ieee.double.read x <;> rfl
  · rw [Ieee.Format.div, hy]; cases Ieee.double.read x <;> rfl

/-- The bits that the model takes where the operation is open. -/
def nanOf (w : World) (x y : Nat) : Nat := (Question.nanBits .f64 x y).cut (w.tape w.drawn (.nanBits .f64 x y))
theorem nanOf_lt (w : World) (x y : Nat) : nanOf w x y < 2 ^ 64 := by
  unfold nanOf Question.cut
  have h1 := Nat.mod_lt (w.tape w.drawn (.nanBits .f64 x y)) (show 0 < 2 by decide)
  have h2 := Nat.mod_lt (w.tape w.drawn (.nanBits .f64 x y) / 2) (show 0 < 2 ^ 52 - 1 by decide)
  simp only at *
  omega
theorem isN_cut (a r : Nat) (_ : a < 2) (hr : r < 2 ^ 52 - 1) : isN (a * 2 ^ 63 + 0x7ff0000000000000 + 1 + r) = true := by
  have e1 : Ieee.double.signWeight = 2 ^ 63 := rfl
  have e2 : Ieee.double.binade = 2 ^ 52 := rfl
  have e3 : Ieee.double.infRung = 0x7ff0000000000000 := by decide
  have hm : (a * 2 ^ 63 + 0x7ff0000000000000 + 1 + r) % 2 ^ 63 = 0x7ff0000000000000 + 1 + r := by omega
  unfold isN Ieee.Format.read
  simp only [e1, e2, e3, hm]
  rw [if_neg (by omega), if_neg (by omega), if_neg (by omega)]
  rfl
theorem isN_nanOf (w : World) (x y : Nat) : isN (nanOf w x y) = true :=
  isN_cut _ _ (Nat.mod_lt _ (by decide)) (Nat.mod_lt _ (by decide))

def fres (w : World) (op : BinOp) (x y : Nat) : Nat := (floatBits op .f64 x y).getD (nanOf w x y)
def fdr (op : BinOp) (x y : Nat) : Nat := if (floatBits op .f64 x y).isSome then 0 else 1

/-- x is what s says: these bits, or some NaN. -/
def FS (s : Option Nat) (x : Nat) : Prop := x < 2 ^ 64 ∧ match s with
  | some r => x = r
  | none => isN x = true
/-- The operation on such. -/
def fo (op : BinOp) (a b : Option Nat) : Option Nat := match a, b with
  | some x, some y => floatBits op .f64 x y
  | _, _ => none
theorem FS.lt {s : Option Nat} {x : Nat} (h : FS s x) : x < 2 ^ 64 := h.1
theorem FS.some {x : Nat} (h : x < 2 ^ 64) : FS (some x) x := ⟨h, rfl⟩
theorem fb_lt {op : BinOp} {x y r : Nat} (h : floatBits op .f64 x y = some r) : r < 2 ^ 64 := by
  unfold floatBits at h
  split at h
  · exact Ieee.Format.add_lt _ h
  · exact Ieee.Format.sub_lt _ h
  · exact Ieee.Format.mul_lt _ h
  · exact Ieee.Format.div_lt _ h
  · cases h
theorem fres_fs (w : World) (op : BinOp) {a b : Option Nat} {x y : Nat} (ha : FS a x) (hb : FS b y) : FS (fo op a b) (fres w op x y) := by
  have none_case : floatBits op .f64 x y = none → FS none (fres w op x y) := by
    intro h
    rw [fres, h]
    exact ⟨nanOf_lt w x y, isN_nanOf w x y⟩
  cases a with
  | none => exact none_case (fb_nan_left op y ha.2)
  | some p =>
    cases b with
    | none => exact none_case (fb_nan_right op x hb.2)
    | some q =>
      have e1 : x = p := ha.2
      have e2 : y = q := hb.2
      subst e1 e2
      show FS (floatBits op .f64 x y) _
      cases h : floatBits op .f64 x y with
      | none => exact none_case h
      | some r => rw [fres, h]; exact ⟨fb_lt h, rfl⟩
theorem FS.same {s : Option Nat} {x y : Nat} (ha : FS s x) (hb : FS s y) : x = y ∨ (isN x = true ∧ isN y = true) := by
  cases s with
  | none => exact .inr ⟨ha.2, hb.2⟩
  | some r => left; rw [show x = r from ha.2, show y = r from hb.2]

theorem run_fadd {P : Program} (w : World) (t : TypeId) (x y : Nat) : (binOp .add t (.float .f64 x) (.float .f64 y)).run P w = .ok (.float .f64 (fres w .add x y)) (w.drewN (fdr .add x y)) := by
  cases h : floatBits .add .f64 x y with
  | some r => rw [run_float_arith w .add t .f64 x y r h, fres, fdr, h]; rfl
  | none =>
    have h' : Ieee.double.add x y = none := h
    rw [fres, fdr, h]
    simp [binOp, Op.floatArith, FloatKind.format, h', Question.forced, nanOf, World.drew_is_drewN]
theorem run_fsub {P : Program} (w : World) (t : TypeId) (x y : Nat) : (binOp .sub t (.float .f64 x) (.float .f64 y)).run P w = .ok (.float .f64 (fres w .sub x y)) (w.drewN (fdr .sub x y)) := by
  cases h : floatBits .sub .f64 x y with
  | some r => rw [run_float_arith w .sub t .f64 x y r h, fres, fdr, h]; rfl
  | none =>
    have h' : Ieee.double.sub x y = none := h
    rw [fres, fdr, h]
    simp [binOp, Op.floatArith, FloatKind.format, h', Question.forced, nanOf, World.drew_is_drewN]
theorem run_fmul {P : Program} (w : World) (t : TypeId) (x y : Nat) : (binOp .mul t (.float .f64 x) (.float .f64 y)).run P w = .ok (.float .f64 (fres w .mul x y)) (w.drewN (fdr .mul x y)) := by
  cases h : floatBits .mul .f64 x y with
  | some r => rw [run_float_arith w .mul t .f64 x y r h, fres, fdr, h]; rfl
  | none =>
    have h' : Ieee.double.mul x y = none := h
    rw [fres, fdr, h]
    simp [binOp, Op.floatArith, FloatKind.format, h', Question.forced, nanOf, World.drew_is_drewN]
theorem run_fquo {P : Program} (w : World) (t : TypeId) (x y : Nat) : (binOp .quo t (.float .f64 x) (.float .f64 y)).run P w = .ok (.float .f64 (fres w .quo x y)) (w.drewN (fdr .quo x y)) := by
  cases h : floatBits .quo .f64 x y with
  | some r => rw [run_float_arith w .quo t .f64 x y r h, fres, fdr, h]; rfl
  | none =>
    have h' : Ieee.double.div x y = none := h
    rw [fres, fdr, h]
    simp [binOp, Op.floatArith, FloatKind.format, h', Question.forced, nanOf, World.drew_is_drewN]

/-- The weighed sum of the first terms. -/
def wsum (ws xs : List Nat) : Nat → Option Nat
  | 0 => some 0
  | j + 1 => fo .add (wsum ws xs j) (fo .mul (some (ws.getD j 0)) (some (xs.getD j 0)))
/-- Floats as cells. -/
def fvs (l : List Nat) : Array Value := (l.map (Value.float .f64)).toArray
theorem fvs_at {l : List Nat} {j : Nat} (h : j < l.length) : (fvs l)[j]? = some (.float .f64 (l.getD j 0)) := by
  simp [fvs, List.getElem?_eq_getElem h]
theorem fvs_size (l : List Nat) : (fvs l).size = l.length := by simp [fvs]
end Go.Proofs.Ytplkoephgmdgkaa
