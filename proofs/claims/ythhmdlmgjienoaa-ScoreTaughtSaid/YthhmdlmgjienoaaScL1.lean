/- Learn, as a plain function; the program's walk. No condition but what each states. -/
import Derived.Test.YthhmdlmgjienoaaScW7
import Derived.Test.YthhmdlmgjienoaaScF1
import Derived.Test.YthhmdlmgjienoaaFltA
namespace Go.Proofs.Ythhmdlmgjienoaa
open Go Go.RowKit
attribute [local go_sem] run_fadd run_fsub run_fmul run_fquo

/-- A float is stored as an integer is. -/
theorem store_f64 (P : Program) (w : World) (a : Addr) (m : Mode) (b : Nat) : (store a (.float .f64 b) m).run P w = stored P w a (.float .f64 b) m := run_store P w a _ m rfl

def softOO : Option Nat → Option Nat
  | none => none
  | some x => softO x
theorem soft_fs {s : Option Nat} {x y : Nat} (hx : FS s x) (hy : FS (softO x) y) : FS (softOO s) y := by
  cases s with
  | some r => rw [show x = r from hx.2] at hy; exact hy
  | none =>
    have hn : INF < x % 2 ^ 63 := (isN_iff x).1 hx.2
    have e : softO x = none := by
      rw [softO, fbig_eq (show x % 2 ^ 63 < 2 ^ 64 by omega), decide_eq_false (show ¬ x % 2 ^ 63 = INF by omega)]
      have : fo .add (some 4607182418800017408) (some (x % 2 ^ 63)) = none := fb_nan_right .add _ ((isN_iff _).2 (by omega))
      rw [this]
      rfl
    rw [e] at hy
    exact hy
def finO : Option Nat → Bool
  | none => false
  | some x => ffin x
theorem fin_fs {s : Option Nat} {x : Nat} (h : FS s x) : ffin x = finO s := by
  cases s with
  | some r => rw [show x = r from h.2]; rfl
  | none =>
    have := (isN_iff x).1 h.2
    rw [ffin, decide_eq_false (by omega)]; rfl

def okStep (step : Nat) : Bool := (Ieee.double.order step 0 == some .gt) && (Ieee.double.order step 4607182418800017408 == some .lt || Ieee.double.order step 4607182418800017408 == some .eq)
def wantOf (bad : Bool) : Nat := if bad then 4607182418800017408 else 13830554455654793216
theorem wantOf_lt (bad : Bool) : wantOf bad < 2 ^ 64 := by cases bad <;> decide
def learnD (ws xs : List Nat) (bad : Bool) (step : Nat) : Option Nat := fo .mul (some step) (fo .sub (some (wantOf bad)) (softOO (wsum ws xs 8)))
def learnI (d : Option Nat) (ws xs : List Nat) (i : Nat) : Option Nat := fo .add (some (ws.getD i 0)) (fo .mul d (some (xs.getD i 0)))
/-- The first eight all so. -/
def eights (p : Nat → Bool) : Bool := (List.range 8).all p
theorem eights_yes {p : Nat → Bool} (h : ∀ i, i < 8 → p i = true) : eights p = true := by
  rw [eights, List.all_eq_true]; intro i hi; exact h i (by simpa using hi)
theorem eights_no {p : Nat → Bool} {i : Nat} (hi : i < 8) (h : p i = false) : eights p = false := by
  rw [eights, List.all_eq_false]; exact ⟨i, by simpa using hi, by rw [h]; simp⟩
def learnE (ws xs : List Nat) (bad : Bool) (step : Nat) : Int :=
  if okStep step then
    if eights (fun i => ffin (ws.getD i 0) && ffin (xs.getD i 0)) then
      if eights (fun i => finO (learnI (learnD ws xs bad step) ws xs i)) then 0 else 5
    else 210
  else 2
def learnO (ws xs : List Nat) (bad : Bool) (step : Nat) (i : Nat) : Option Nat := if learnE ws xs bad step = 0 then learnI (learnD ws xs bad step) ws xs i else some 0

def z8 : List Nat := [0, 0, 0, 0, 0, 0, 0, 0]
def LAt1 (w0 : World) (ws xs : List Nat) (g : Nat) (iv : Value) (wr : World) : Prop :=
  ∃ j : Nat, j + g = 8 ∧ iv = .int .i64 j ∧ (∀ i, i < j → (ffin (ws.getD i 0) && ffin (xs.getD i 0)) = true) ∧ Chg (fun _ => False) w0 wr
/-- In the second loop: the row in block b holds what was reckoned, then what was there before. -/
def LAt2 (w0 : World) (b : Nat) (old : List Nat) (f : Nat → Option Nat) (g : Nat) (iv : Value) (wr : World) : Prop :=
  ∃ (j : Nat) (l : List Nat), j + g = 8 ∧ iv = .int .i64 j ∧ l.length = 8 ∧ Row b l wr ∧ (∀ i, i < j → FS (f i) (l.getD i 0) ∧ finO (f i) = true) ∧ (∀ i, j ≤ i → l.getD i 0 = old.getD i 0) ∧ Chg (· = b) w0 wr
theorem learnD_fs {ws xs : List Nat} {bad : Bool} {step s y : Nat} (hst : step < 2 ^ 64) (hs : FS (wsum ws xs 8) s) (hy : FS (softO s) y) (z z' : World) :
    FS (learnD ws xs bad step) (fres z .mul step (fres z' .sub (wantOf bad) y)) :=
  fres_fs z .mul (FS.some hst) (fres_fs z' .sub (FS.some (wantOf_lt bad)) (soft_fs hs hy))
theorem learnI_fs {d : Option Nat} {ws xs : List Nat} {i dv a b : Nat} (hd : FS d dv) (ha : a = ws.getD i 0) (hb : b = xs.getD i 0) (la : a < 2 ^ 64) (lb : b < 2 ^ 64) (z z' : World) :
    FS (learnI d ws xs i) (fres z .add a (fres z' .mul dv b)) := by
  subst ha hb
  exact fres_fs z .add (FS.some la) (fres_fs z' .mul hd (FS.some lb))
theorem getD_set_same {l : List Nat} {j v : Nat} (h : j < l.length) : (l.set j v).getD j 0 = v := by
  rw [List.getD_eq_getElem?_getD, List.getElem?_set_self h]; rfl
theorem getD_set_other {l : List Nat} {i j v : Nat} (h : j ≠ i) : (l.set j v).getD i 0 = l.getD i 0 := by
  rw [List.getD_eq_getElem?_getD, List.getElem?_set_ne h, List.getD_eq_getElem?_getD]
theorem Row.at {b : Nat} {l : List Nat} {w : World} (h : Row b l w) {i : Nat} (hi : i < l.length) : w.cell? ⟨b, i, none⟩ = some (.float .f64 (l.getD i 0)) := by
  rw [cell_of_blk h, fvs_at hi]
theorem Row.free {b : Nat} {l : List Nat} {w : World} (h : Row b l w) (i : Nat) : w.frozen? ⟨b, i, none⟩ = false := free_of_blk h i
theorem Row.set {b : Nat} {l : List Nat} {w : World} (h : Row b l w) (i v : Nat) : Row b (l.set i v) (w.setCell ⟨b, i, none⟩ (.float .f64 v)) := by
  have := heap_setCell_at h (i := i) (.float .f64 v)
  rw [Row, this]
  congr 2
  simp [fvs]
theorem Row.set_ne {b b' : Nat} {l : List Nat} {w : World} (h : Row b l w) (hb : b' ≠ b) (i : Nat) (v : Value) : Row b l (w.setCell ⟨b', i, none⟩ v) := heap_setCell_ne h hb v
theorem Row.drewN {b : Nat} {l : List Nat} {w : World} (h : Row b l w) (n : Nat) : Row b l (w.drewN n) := h
theorem Row.ofN {b n : Nat} {l : List Nat} {w : World} (h : Row b l w) (e : n = b) : Row n l w := e ▸ h
end Go.Proofs.Ythhmdlmgjienoaa
