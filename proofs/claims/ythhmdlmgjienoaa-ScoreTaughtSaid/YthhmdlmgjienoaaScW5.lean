/- Judge, finite, NaN. No condition but what each states. -/
import Derived.Test.YthhmdlmgjienoaaScW4
namespace Go.Proofs.Ythhmdlmgjienoaa
open Go Go.RowKit
attribute [local go_sem] run_fadd run_fsub run_fmul run_fquo

/-- Go's comparisons. -/
def fge (x y : Nat) : Bool := Ieee.double.order x y == some .gt || Ieee.double.order x y == some .eq
def flt (x y : Nat) : Bool := Ieee.double.order x y == some .lt
def judge (refuse mark weight : Nat) : Int := if fge weight refuse then 3 else if fge weight mark then 2 else 1
/-- A bar's cells: eight weights, Mark, Refuse. -/
def barV (ws : List Nat) (mark refuse : Nat) : Array Value := fvs (ws ++ [mark, refuse])

def Bar (b : Nat) (ws : List Nat) (mark refuse : Nat) (w : World) : Prop := w.heap[b]? = some (.cells (barV ws mark refuse) 32 (0, 0))
theorem Bar.kept {S : Nat → Prop} {b : Nat} {ws : List Nat} {mark refuse : Nat} {w w' : World} (c : Chg S w w') (h : Bar b ws mark refuse w) (hs : ¬ S b) : Bar b ws mark refuse w' := c.obj h hs
theorem Bar.new (w : World) (ws : List Nat) (mark refuse : Nat) : Bar w.heap.size ws mark refuse (w.alloc (.cells (barV ws mark refuse) 32)) := heap_alloc_at _ _
theorem Bar.mark_at {b : Nat} {ws : List Nat} {mark refuse : Nat} {w : World} (h : Bar b ws mark refuse w) (hl : ws.length = 8) : w.cell? ⟨b, 8, none⟩ = some (.float .f64 mark) := by
  rw [cell_of_blk h]; simp [barV, fvs, hl]
theorem Bar.refuse_at {b : Nat} {ws : List Nat} {mark refuse : Nat} {w : World} (h : Bar b ws mark refuse w) (hl : ws.length = 8) : w.cell? ⟨b, 9, none⟩ = some (.float .f64 refuse) := by
  rw [cell_of_blk h]; simp [barV, fvs, hl]
theorem Bar.at {b : Nat} {ws : List Nat} {mark refuse : Nat} {w : World} (h : Bar b ws mark refuse w) {i : Nat} (hi : i < ws.length) : w.cell? ⟨b, i, none⟩ = some (.float .f64 (ws.getD i 0)) := by
  rw [cell_of_blk h]; simp [barV, fvs, List.getElem?_append, hi]

theorem s_judge (ws : List Nat) (mark refuse x : Nat) (hl : ws.length = 8) (w : World) :
    Calls Try.prog 19 #[.agg (barV ws mark refuse), .float .f64 x] w fun r w' => r = .returned (.int .i64 (judge refuse mark x)) ∧ Chg (fun _ => False) w w' := by
  have hb := Bar.new w ws mark refuse
  have c1 := hb.mark_at hl
  have c2 := hb.refuse_at hl
  have key : ∀ p q : Bool, fge x refuse = p → fge x mark = q → Calls Try.prog 19 #[.agg (barV ws mark refuse), .float .f64 x] w fun r w' => r = .returned (.int .i64 (if p then 3 else if q then 2 else 1)) ∧ Chg (fun _ => False) w w' := by
    intro p q hp hq
    have hp' : (FloatKind.f64.format.order x refuse == some .gt || FloatKind.f64.format.order x refuse == some .eq) = p := hp
    have hq' : (FloatKind.f64.format.order x mark == some .gt || FloatKind.f64.format.order x mark == some .eq) = q := hq
    clear hb hp hq
    cases p <;> cases q
    all_goals
      go_enter Try.func19, Try.ntmps19
      go_wp2
      go_ret
      exact ⟨rfl, (Chg.refl _ w).alloc _⟩
  exact key _ _ rfl rfl
theorem r_judge (ws : List Nat) (mark refuse x : Nat) (hl : ws.length = 8) (w : World) :
    Calls Try.prog 20 #[.agg (barV ws mark refuse), .float .f64 x] w fun r w' => r = .returned (.int .i64 (judge refuse mark x)) ∧ Chg (fun _ => False) w w' := by
  have hb := Bar.new w ws mark refuse
  have c1 := hb.mark_at hl
  have c2 := hb.refuse_at hl
  have key : ∀ p q : Bool, fge x refuse = p → fge x mark = q → Calls Try.prog 20 #[.agg (barV ws mark refuse), .float .f64 x] w fun r w' => r = .returned (.int .i64 (if p then 3 else if q then 2 else 1)) ∧ Chg (fun _ => False) w w' := by
    intro p q hp hq
    have hp' : (FloatKind.f64.format.order x refuse == some .gt || FloatKind.f64.format.order x refuse == some .eq) = p := hp
    have hq' : (FloatKind.f64.format.order x mark == some .gt || FloatKind.f64.format.order x mark == some .eq) = q := hq
    clear hb hp hq
    cases p <;> cases q
    all_goals
      go_enter Try.func20, Try.ntmps20
      go_wp2
      go_ret
      exact ⟨rfl, (Chg.refl _ w).alloc _⟩
  exact key _ _ rfl rfl

/-- Finite: a number and not without end. -/
def ffin (x : Nat) : Bool := decide (x % 2 ^ 63 < INF)
theorem fin_of {x : Nat} : (!isN x && !fbig (x % 2 ^ 63)) = ffin x := by
  rw [fbig_eq (show x % 2 ^ 63 < 2 ^ 64 by omega), ffin, Bool.eq_iff_iff]
  cases hn : isN x
  · have nf : ¬ INF < x % 2 ^ 63 := fun h => by rw [(isN_iff x).2 h] at hn; cases hn
    simp; omega
  · have nf := (isN_iff x).1 hn
    simp; omega
theorem s_finite (x : Nat) (hx : x < 2 ^ 64) (w : World) : Calls Try.prog 33 #[.float .f64 x] w fun r w' => r = .returned (.bool (ffin x)) ∧ w' = w := by
  have key : ∀ p q : Bool, isN x = p → fbig (x % 2 ^ 63) = q → Calls Try.prog 33 #[.float .f64 x] w fun r w' => r = .returned (.bool (!p && !q)) ∧ w' = w := by
    intro p q hp hq
    have HQ := Lib.hid hq
    clear hq
    go_enter Try.func33, Try.ntmps33
    go_wp2_with fail
    refine (m_isNaN x w).mono ?_
    rintro e w1 ⟨rfl, rfl⟩
    rw [hp]
    cases p
    · go_wp2_with fail
      refine (m_isInf0 x hx w1).mono ?_
      rintro e w2 ⟨rfl, rfl⟩
      rw [HQ.out]
      go_wp2
      go_ret
      exact ⟨rfl, rfl⟩
    · go_wp2
      go_ret
      exact ⟨rfl, rfl⟩
  have := key _ _ rfl rfl
  rw [fin_of] at this
  exact this
theorem l_finite (x : Nat) (hx : x < 2 ^ 64) (w : World) : Calls Try.prog 18 #[.float .f64 x] w fun r w' => r = .returned (.bool (ffin x)) ∧ w' = w := by
  have key : ∀ p q : Bool, isN x = p → fbig (x % 2 ^ 63) = q → Calls Try.prog 18 #[.float .f64 x] w fun r w' => r = .returned (.bool (!p && !q)) ∧ w' = w := by
    intro p q hp hq
    have HQ := Lib.hid hq
    clear hq
    go_enter Try.func18, Try.ntmps18
    go_wp2_with fail
    refine (m_isNaN x w).mono ?_
    rintro e w1 ⟨rfl, rfl⟩
    rw [hp]
    cases p
    · go_wp2_with fail
      refine (m_isInf0 x hx w1).mono ?_
      rintro e w2 ⟨rfl, rfl⟩
      rw [HQ.out]
      go_wp2
      go_ret
      exact ⟨rfl, rfl⟩
    · go_wp2
      go_ret
      exact ⟨rfl, rfl⟩
  have := key _ _ rfl rfl
  rw [fin_of] at this
  exact this
end Go.Proofs.Ythhmdlmgjienoaa
