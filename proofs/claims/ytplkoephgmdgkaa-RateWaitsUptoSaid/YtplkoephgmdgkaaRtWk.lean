/- The answers that the document names, reckoned. No program in sight. -/
import Derived.Test.YtplkoephgmdgkaaRtNew
import Derived.KernelRfl
namespace Go.Proofs.Ytplkoephgmdgkaa
open Go
namespace Rt
def kk : ByteArray := ⟨#[107]⟩
def f05 : Nat := 4602678819172646912
def f1 : Nat := 4607182418800017408
def f15 : Nat := 4609434218613702656
def f2 : Nat := 4611686018427387904
def f3 : Nat := 4613937818241073152
def f8 : Nat := 4620693217682128896
def wt0 : Tb := newT f05 f3 f05
def wt1 : Tb := (wt0.ask kk 10 f2).2
def wt2 : Tb := (wt1.ask kk 12 f2).2
def wt3 : Tb := (wt2.note kk 20 f8).2
theorem wk_a : (wt0.ask kk 10 f2).1 = true := by kernel_rfl
theorem wk_b : (wt1.ask kk 10 f2).1 = false := by kernel_rfl
theorem wk_b2 : (wt1.ask kk 10 f2).2 = wt1 := by
  have h1 : (timely 10 && payable f2 (wt1.level kk 10)) = false := by kernel_rfl
  have h2 : ¬ (timely 10 = true ∧ payable f2 (wt1.level kk 10) = true) := fun h => by rw [h.1, h.2] at h1; cases h1
  unfold Tb.ask
  rw [if_neg h2]
theorem wk_c : wt1.level kk 10 = f1 := by kernel_rfl
theorem wk_d : wt1.level kk 11 = f15 := by kernel_rfl
theorem wk_e : wt1.level kk 99 = f3 := by kernel_rfl
theorem wk_f : (wt1.ask kk 12 f2).1 = true := by kernel_rfl
theorem wk_g : wt2.level kk 5 = 0 := by kernel_rfl
theorem wk_h : (wt2.note kk 20 f8).1 = 0 := by kernel_rfl
/-- A power that is reckoned in kernel: so many rounds at most. -/
def pwF : Nat → Option Nat → Option Nat → Nat → Option Nat
  | 0, x, _, _ => x
  | g + 1, x, f, n => if n = 0 then x else pwF g (if n % 2 = 1 then fo .mul x f else x) (fo .mul f f) (n / 2)
theorem pw_pwF : ∀ (g : Nat) (x f : Option Nat) (n : Nat), n < 2 ^ g → pw x f n = pwF g x f n
  | 0, x, f, n, h => by
    obtain rfl : n = 0 := by simpa using h
    rw [pw_zero]; rfl
  | g + 1, x, f, n, h => by
    unfold pwF
    by_cases h0 : n = 0
    · rw [if_pos h0, h0, pw_zero]
    · rw [if_neg h0, pw_step _ _ h0, pw_pwF g _ _ _ (by rw [Nat.pow_succ] at h; omega)]
theorem wk_p : pw (some 4617315517961601024) (some f2) 10 = some 4662351514235305984 := by
  rw [pw_pwF 4 _ _ _ (by decide)]; kernel_rfl
theorem wk_s : wt3.standing kk 23 = some f1 := by
  have h1 : timely 23 = true := by kernel_rfl
  have h2 : (wt3.get kk).map (fun e => (e.std, e.noted)) = some (fo .add (pw (some 0) (some f05) 10) (some f8), 20) := by kernel_rfl
  have h3 : pw (some 0) (some f05) 10 = some 0 := by rw [pw_pwF 4 _ _ _ (by decide)]; kernel_rfl
  have h4 : pw (some f8) (some f05) 3 = some f1 := by rw [pw_pwF 2 _ _ _ (by decide)]; kernel_rfl
  have h5 : fo .add (some 0) (some f8) = some f8 := by kernel_rfl
  rw [h3, h5] at h2
  unfold Tb.standing
  rw [if_pos h1]
  cases hg : wt3.get kk with
  | none => rw [hg] at h2; cases h2
  | some e =>
    rw [hg] at h2
    simp only [Option.map_some, Option.some.injEq, Prod.mk.injEq] at h2
    have hf : wt3.fade = f05 := by kernel_rfl
    have h6 : ∀ (t : Tb) (n : Nat), stn t e n = pw e.std (some t.fade) (n - e.noted) := fun _ _ => rfl
    have h7 : (23 : Int).toNat - 20 = 3 := by decide
    simp only
    rw [h6, hf, h2.1, h2.2, h7]
    exact h4
theorem wk_k : wt3.L.map (fun e => e.key) = [kk] := by kernel_rfl
def wm : Mn := ((Mn.new.add (some f1)).add (some f2)).add (some 4618441417868443648)
theorem wk_m : wm.tell = (3, some f3, some 4616940217992653483) := by kernel_rfl
end Rt
end Go.Proofs.Ytplkoephgmdgkaa
