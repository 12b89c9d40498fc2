/- New walked. No condition but what each states. -/
import Derived.Test.YtplkoephgmdgkaaRtW8
import Derived.Test.YtplkoephgmdgkaaRtNew
namespace Go.Proofs.Ytplkoephgmdgkaa
open Go Go.RowKit Rt Go.Maps
set_option linter.unusedVariables false
attribute [local go_sem] run_fadd run_fsub run_fmul run_fquo store_f64
def paceV (per burst fade : Nat) : Value := .agg #[.float .f64 per, .float .f64 burst, .float .f64 fade]
/-- What New leaves: no table, or one of its own memory. -/
def NewSays (per burst fade : Nat) (w : World) (ok : Bool) (r : Ending) (w' : World) : Prop := Chg (fun _ => False) w w' ∧ match ok with
  | false => r = .returned (.tuple #[.pointer none, .int .i64 200])
  | true => ∃ tb m F, r = .returned (.tuple #[.pointer (some ⟨tb, 0, none⟩), .int .i64 0]) ∧ TAx tb m (newT per burst fade) (fun _ => none) F w' ∧ ∀ i, F i → w.heap.size ≤ i
theorem new_made {w wx : World} {per burst fade : Nat} (ok : (newT per burst fade).ok) (c : Chg (fun _ => False) w wx) :
    NewSays per burst fade w true (.returned (.tuple #[.pointer (some ⟨wx.heap.size + 1, 0, none⟩), .int .i64 0])) ((wx.alloc (.map #[] 0)).alloc (.cells (tabC (newT per burst fade) wx.heap.size) 47)) := by
  have hs : (wx.alloc (.map #[] 0)).heap.size = wx.heap.size + 1 := by simp
  have h1 := KM.made wx
  have hm : KM ((wx.alloc (.map #[] 0)).alloc (.cells (tabC (newT per burst fade) wx.heap.size) 47)) wx.heap.size (fun _ => none) 0 := h1.kept ((Chg.refl (fun _ => False) _).alloc _) (fun h => h)
  have ht : ((wx.alloc (.map #[] 0)).alloc (.cells (tabC (newT per burst fade) wx.heap.size) 47)).heap[wx.heap.size + 1]? = some (.cells (tabC (newT per burst fade) wx.heap.size) 47 (0, 0)) := by
    have := heap_alloc_at (wx.alloc (.map #[] 0)) (.cells (tabC (newT per burst fade) wx.heap.size) 47)
    rwa [hs] at this
  refine ⟨(c.alloc _).alloc _, wx.heap.size + 1, wx.heap.size, fun i => i = wx.heap.size ∨ i = wx.heap.size + 1, rfl, ⟨ok, ht, hm, fun e he => absurd he (List.not_mem_nil), fun k b h => (by cases h), fun k k' b h => (by cases h), .inr rfl, .inl rfl, fun k b h => (by cases h), fun i hi => ?_⟩, fun i hi => ?_⟩
  · have : ((wx.alloc (.map #[] 0)).alloc (.cells (tabC (newT per burst fade) wx.heap.size) 47)).heap.size = wx.heap.size + 2 := by simp
    rw [this]
    rcases hi with rfl | rfl <;> omega
  · have := c.size
    rcases hi with rfl | rfl <;> omega
set_option maxHeartbeats 2000000 in
set_option maxRecDepth 100000 in
theorem rt_New (w : World) (per burst fade : Nat) (hp : per < 2 ^ 64) (hb : burst < 2 ^ 64) (hf : fade < 2 ^ 64) :
    Calls Try.prog 13 #[paceV per burst fade] w (NewSays per burst fade w (checkB per burst fade)) := by
  have CK := Lib.hid (rt_check per burst fade)
  unfold paceV
  cases hc : checkB per burst fade
  · have hr : rateE false = 200 := rfl
    rw [hc, hr] at CK
    clear hp hb hf hc hr
    go_enter Try.func13, Try.ntmps13
    go_wp2_with (go_at_call 21; refine (CK.out _).mono ?_; rintro e w' ⟨rfl, c'⟩; have C' := Lib.hid c'; clear c')
    go_ret2
    exact ⟨((Chg.refl _ _).alloc _).trans C'.out (fun _ _ h => h), rfl⟩
  · have hr : rateE true = 0 := rfl
    rw [hc, hr] at CK
    have hck : withinB per LEAST MOST = true ∧ withinB burst LEAST MOST = true ∧ withinB fade 0 ONE = true := by
      unfold checkB at hc
      simp only [Bool.and_eq_true] at hc
      exact ⟨hc.1.1, hc.1.2, hc.2⟩
    have OK := Lib.hid (new_table hp hb hf hck.1 hck.2.1 hck.2.2)
    have hmm := @run_makeMap Try.prog
    clear hp hb hf hc hr hck
    by_cases h0 : FloatKind.f64.format.order fade 0 = some .eq
    · have h0' : (FloatKind.f64.format.order fade 0 == some .eq) = true := by rw [h0]; rfl
      have hfn : fadeN fade = 0 := by
        have h1 : Ieee.double.order fade 0 = some .eq := h0
        unfold fadeN; rw [if_pos h1]
      have HFN := Lib.hid hfn
      clear hfn
      go_enter Try.func13, Try.ntmps13
      go_wp2_with (fail)
      refine (CK.out _).mono ?_
      rintro e w1 ⟨rfl, c1⟩
      have hb1 := c1.obj (heap_alloc_at w (.cells #[.float .f64 per, .float .f64 burst, .float .f64 fade] 24)) (fun h => h)
      have C1 := Lib.hid (((Chg.refl (fun _ => False) w).alloc (.cells #[.float .f64 per, .float .f64 burst, .float .f64 fade] 24)).trans c1 (fun _ _ h => h))
      have q0 := cell_of_blk hb1 0
      have q1 := cell_of_blk hb1 1
      have q2 := cell_of_blk hb1 2
      simp at q0 q1 q2
      have qf : ∀ i, w1.frozen? ⟨w.heap.size, i, none⟩ = false := fun i => by simp [World.frozen?, hb1]
      have hl1 := lt_of_block hb1
      clear c1 hb1
      have MD := Lib.hid (new_made OK.out (Chg.set (p := ⟨w.heap.size, 2, none⟩) C1.out (fun h => absurd h (Nat.lt_irrefl _)) (.float .f64 0)))
      have hss : (w1.setCell ⟨w.heap.size, 2, none⟩ (.float .f64 0)).heap.size = w1.heap.size := by simp
      unfold newT tabC at MD
      simp only [HFN.out, hss] at MD
      clear hss
      go_wp2
      go_ret2
      exact MD.out
    · have h0' : (FloatKind.f64.format.order fade 0 == some .eq) = false := by simpa using h0
      have hfn : fadeN fade = fade := by
        have h1 : ¬ Ieee.double.order fade 0 = some .eq := h0
        unfold fadeN; rw [if_neg h1]
      have HFN := Lib.hid hfn
      clear hfn
      go_enter Try.func13, Try.ntmps13
      go_wp2_with (fail)
      refine (CK.out _).mono ?_
      rintro e w1 ⟨rfl, c1⟩
      have hb1 := c1.obj (heap_alloc_at w (.cells #[.float .f64 per, .float .f64 burst, .float .f64 fade] 24)) (fun h => h)
      have C1 := Lib.hid (((Chg.refl (fun _ => False) w).alloc (.cells #[.float .f64 per, .float .f64 burst, .float .f64 fade] 24)).trans c1 (fun _ _ h => h))
      have q0 := cell_of_blk hb1 0
      have q1 := cell_of_blk hb1 1
      have q2 := cell_of_blk hb1 2
      simp at q0 q1 q2
      have qf : ∀ i, w1.frozen? ⟨w.heap.size, i, none⟩ = false := fun i => by simp [World.frozen?, hb1]
      have hl1 := lt_of_block hb1
      clear c1 hb1
      have MD := Lib.hid (new_made OK.out C1.out)
      unfold newT tabC at MD
      simp only [HFN.out] at MD
      go_wp2
      go_ret2
      exact MD.out
end Go.Proofs.Ytplkoephgmdgkaa
