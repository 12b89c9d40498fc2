/- Powers and means, the program's and the document's, walked. No condition but what each states. -/
import Derived.Test.YtplkoephgmdgkaaProg
import Derived.Test.YtplkoephgmdgkaaMem
import Derived.Test.YtplkoephgmdgkaaRtSpec
import Derived.Deep.LoopGhost
import Derived.Deep.DeepCutAuto
import Derived.Outline
import Derived.KernelRfl
import Derived.BigRegion
import Derived.IntWalk
namespace Go.Proofs.Ytplkoephgmdgkaa
open Go Go.RowKit Rt
attribute [local go_sem] run_fadd run_fsub run_fmul run_fquo
/-- A float is stored as an integer is. -/
theorem store_f64 (P : Program) (w : World) (a : Addr) (m : Mode) (b : Nat) : (store a (.float .f64 b) m).run P w = stored P w a (.float .f64 b) m := run_store P w a _ m rfl
attribute [local go_sem] store_f64

def PwRel (w0 : World) (X F : Option Nat) (n0 : Nat) (g : Nat) (xv fv nv : Value) (wr : World) : Prop :=
  ∃ (x f n : Nat) (X' F' : Option Nat), n ≤ g ∧ n < 9223372036854775808 ∧ xv = .float .f64 x ∧ fv = .float .f64 f ∧ nv = .int .i64 n ∧ FS X' x ∧ FS F' f ∧ pw X' F' n = pw X F n0 ∧ Chg (fun _ => False) w0 wr

set_option maxRecDepth 100000 in
theorem rt_power (w : World) (x f : Nat) (X F : Option Nat) (n : Int) (hx : FS X x) (hf : FS F f) (hn : n ≤ 9223372036854775807) :
    Calls Try.prog 32 #[.float .f64 x, .float .f64 f, .int .i64 n] w fun r w' => ∃ y, r = .returned (.float .f64 y) ∧ FS (pw X F n.toNat) y ∧ Chg (fun _ => False) w w' := by
  by_cases h0 : n ≤ 0
  · have hx' : FS (pw X F n.toNat) x := by rw [show n.toNat = 0 by omega, pw_zero]; exact hx
    have HX := Lib.hid hx'
    have hn0 : ¬ 0 < n := by omega
    clear hx hf hx' h0
    go_enter Try.func32, Try.ntmps32
    go_wp2
    go_loopg [0, 1, 2] 1 (fun g xv fv nv wr => xv = .float .f64 x ∧ fv = .float .f64 f ∧ nv = .int .i64 n ∧ wr = w)
    case atStart => exact ⟨rfl, rfl, rfl, rfl⟩
    case round =>
      obtain ⟨rfl, rfl, rfl, rfl⟩ := hrel
      go_wp2
      go_ret
      exact ⟨x, rfl, HX.out, Chg.refl _ _⟩
  · obtain ⟨m, rfl⟩ : ∃ m : Nat, n = m := ⟨n.toNat, by omega⟩
    have hX := hx; have hF := hf
    have hm : ((m : Int)).toNat = m := by simp
    rw [hm]
    clear h0 hm hx hf
    have HX := Lib.hid hX
    have HF := Lib.hid hF
    clear hX hF
    go_enter Try.func32, Try.ntmps32
    go_wp2
    go_loopg [0, 1, 2] (m + 1) (PwRel w X F m)
    case atStart => exact ⟨x, f, m, X, F, by omega, by omega, rfl, rfl, rfl, HX.out, HF.out, rfl, Chg.refl _ _⟩
    case round =>
      obtain ⟨y, q, k, X', F', hg, hk, rfl, rfl, rfl, hy, hq, he, hc⟩ := hrel
      have HY := Lib.hid hy
      have HQ := Lib.hid hq
      have HE := Lib.hid he
      have HC := Lib.hid hc
      have HK9 := Lib.hid hk
      have hki : (k : Int) ≤ 9223372036854775807 := by omega
      clear hy hq he hc hk
      by_cases hk0 : k = 0
      · have hlt : ¬ (0 : Int) < k := by omega
        have hlt' : ¬ 0 < k := by omega
        have HK := Lib.hid hk0
        clear hk0
        go_wp2
        go_ret
        refine ⟨y, rfl, ?_, HC.out⟩
        rw [← HE.out, HK.out, pw_zero]; exact HY.out
      · have hlt : (0 : Int) < k := by omega
        have hlt' : 0 < k := by omega
        have hp := pw_step X' F' hk0
        have HP := Lib.hid hp
        clear hp
        have hq : ((k : Int)).tdiv 2 = ((k / 2 : Nat) : Int) := rfl
        obtain ⟨k2, hk2⟩ : ∃ k2, k2 = k / 2 := ⟨_, rfl⟩
        have hlt2 : k2 < k := by omega
        rw [← hk2] at hq HP
        by_cases h1 : k % 2 = 1
        · have hr : ((k : Int) % 2 == 1) = true := by
            have : (k : Int) % 2 = ((k % 2 : Nat) : Int) := rfl
            rw [this, h1]; rfl
          rw [if_pos h1] at HP
          clear h1 hk2 hk0
          go_wp2
          go_roundg (gk - 1)
          case measure => omega
          case rel => exact ⟨_, _, k2, _, _, by omega, by have := HK9.out; omega, rfl, rfl, rfl, fres_fs _ .mul HY.out HQ.out, fres_fs _ .mul HQ.out HQ.out, by rw [← HP.out]; exact HE.out, HC.out.drewN _⟩
        · have hr : ((k : Int) % 2 == 1) = false := by
            have : (k : Int) % 2 = ((k % 2 : Nat) : Int) := rfl
            rw [this, show k % 2 = 0 by omega]; rfl
          rw [if_neg h1] at HP
          clear h1 hk2 hk0
          go_wp2
          go_roundg (gk - 1)
          case measure => omega
          case rel => exact ⟨_, _, k2, _, _, by omega, by have := HK9.out; omega, rfl, rfl, rfl, HY.out, fres_fs _ .mul HQ.out HQ.out, by rw [← HP.out]; exact HE.out, HC.out.drewN _⟩
set_option maxRecDepth 100000 in
theorem rr_power (w : World) (x f : Nat) (X F : Option Nat) (n : Int) (hx : FS X x) (hf : FS F f) (hn : n ≤ 9223372036854775807) :
    Calls Try.prog 33 #[.float .f64 x, .float .f64 f, .int .i64 n] w fun r w' => ∃ y, r = .returned (.float .f64 y) ∧ FS (pw X F n.toNat) y ∧ Chg (fun _ => False) w w' := by
  by_cases h0 : n ≤ 0
  · have hx' : FS (pw X F n.toNat) x := by rw [show n.toNat = 0 by omega, pw_zero]; exact hx
    have HX := Lib.hid hx'
    have hn0 : ¬ 0 < n := by omega
    clear hx hf hx' h0
    go_enter Try.func33, Try.ntmps33
    go_wp2
    go_loopg [7, 8, 9] 1 (fun g xv fv nv wr => xv = .float .f64 x ∧ fv = .float .f64 f ∧ nv = .int .i64 n ∧ wr = w)
    case atStart => exact ⟨rfl, rfl, rfl, rfl⟩
    case round =>
      obtain ⟨rfl, rfl, rfl, rfl⟩ := hrel
      go_wp2
      go_ret
      exact ⟨x, rfl, HX.out, Chg.refl _ _⟩
  · obtain ⟨m, rfl⟩ : ∃ m : Nat, n = m := ⟨n.toNat, by omega⟩
    have hX := hx; have hF := hf
    have hm : ((m : Int)).toNat = m := by simp
    rw [hm]
    clear h0 hm hx hf
    have HX := Lib.hid hX
    have HF := Lib.hid hF
    clear hX hF
    go_enter Try.func33, Try.ntmps33
    go_wp2
    go_loopg [7, 8, 9] (m + 1) (PwRel w X F m)
    case atStart => exact ⟨x, f, m, X, F, by omega, by omega, rfl, rfl, rfl, HX.out, HF.out, rfl, Chg.refl _ _⟩
    case round =>
      obtain ⟨y, q, k, X', F', hg, hk, rfl, rfl, rfl, hy, hq, he, hc⟩ := hrel
      have HY := Lib.hid hy
      have HQ := Lib.hid hq
      have HE := Lib.hid he
      have HC := Lib.hid hc
      have HK9 := Lib.hid hk
      have hki : (k : Int) ≤ 9223372036854775807 := by omega
      clear hy hq he hc hk
      by_cases hk0 : k = 0
      · have hlt : ¬ (0 : Int) < k := by omega
        have hlt' : ¬ 0 < k := by omega
        have HK := Lib.hid hk0
        clear hk0
        go_wp2
        go_ret
        refine ⟨y, rfl, ?_, HC.out⟩
        rw [← HE.out, HK.out, pw_zero]; exact HY.out
      · have hlt : (0 : Int) < k := by omega
        have hlt' : 0 < k := by omega
        have hp := pw_step X' F' hk0
        have HP := Lib.hid hp
        clear hp
        have hq : ((k : Int)).tdiv 2 = ((k / 2 : Nat) : Int) := rfl
        obtain ⟨k2, hk2⟩ : ∃ k2, k2 = k / 2 := ⟨_, rfl⟩
        have hlt2 : k2 < k := by omega
        rw [← hk2] at hq HP
        by_cases h1 : k % 2 = 1
        · have hr : ((k : Int) % 2 == 1) = true := by
            have : (k : Int) % 2 = ((k % 2 : Nat) : Int) := rfl
            rw [this, h1]; rfl
          rw [if_pos h1] at HP
          clear h1 hk2 hk0
          go_wp2
          go_roundg (gk - 1)
          case measure => omega
          case rel => exact ⟨_, _, k2, _, _, by omega, by have := HK9.out; omega, rfl, rfl, rfl, fres_fs _ .mul HY.out HQ.out, fres_fs _ .mul HQ.out HQ.out, by rw [← HP.out]; exact HE.out, HC.out.drewN _⟩
        · have hr : ((k : Int) % 2 == 1) = false := by
            have : (k : Int) % 2 = ((k % 2 : Nat) : Int) := rfl
            rw [this, show k % 2 = 0 by omega]; rfl
          rw [if_neg h1] at HP
          clear h1 hk2 hk0
          go_wp2
          go_roundg (gk - 1)
          case measure => omega
          case rel => exact ⟨_, _, k2, _, _, by omega, by have := HK9.out; omega, rfl, rfl, rfl, HY.out, fres_fs _ .mul HQ.out HQ.out, by rw [← HP.out]; exact HE.out, HC.out.drewN _⟩

/-- A mean in memory: its four cells. -/
def MnC (m : Mn) (c : Array Value) : Prop := ∃ a s, c = #[.bool true, .int .i64 m.n, .float .f64 a, .float .f64 s] ∧ FS m.a a ∧ FS m.s s

theorem rt_newMean (w : World) : Calls Try.prog 34 #[] w fun r w' => r = .returned (.pointer (some ⟨w.heap.size, 0, none⟩)) ∧ w' = w.alloc (.cells #[.bool true, .int .i64 0, .float .f64 0, .float .f64 0] 66) := by
  go_enter Try.func34, Try.ntmps34
  go_wp2
  go_ret
  exact ⟨rfl, rfl⟩
theorem rt_add_none (w : World) (x : Nat) : Calls Try.prog 35 #[.pointer none, .float .f64 x] w fun r w' => r = .returned (.tuple #[]) ∧ w' = w := by
  go_enter Try.func35, Try.ntmps35
  go_wp2
  refine bodyPost_ret (v := .tuple #[]) ?_ rfl ⟨rfl, rfl⟩
  simp [results, Try.results35, go_sem]
theorem rt_add_odd (w : World) (b x : Nat) (c1 c2 c3 : Value) (t : TypeId) (h : w.heap[b]? = some (.cells #[.bool false, c1, c2, c3] t (0, 0))) : Calls Try.prog 35 #[.pointer (some ⟨b, 0, none⟩), .float .f64 x] w fun r w' => r = .returned (.tuple #[]) ∧ w' = w := by
  have h0 := cell_of_blk h 0
  simp at h0
  go_enter Try.func35, Try.ntmps35
  go_wp2
  refine bodyPost_ret (v := .tuple #[]) ?_ rfl ⟨rfl, rfl⟩
  simp [results, Try.results35, go_sem]
theorem rt_tell_none (w : World) : Calls Try.prog 37 #[.pointer none] w fun r w' => r = .returned (.tuple #[.int .i64 0, .float .f64 0, .float .f64 0]) ∧ w' = w := by
  go_enter Try.func37, Try.ntmps37
  go_wp2
  go_ret3
  exact ⟨rfl, rfl⟩

theorem cells4 {w : World} {b : Nat} {c0 c1 c2 c3 : Value} {t : TypeId} (h : w.heap[b]? = some (.cells #[c0, c1, c2, c3] t (0, 0))) :
    w.cell? ⟨b, 0, none⟩ = some c0 ∧ w.cell? ⟨b, 1, none⟩ = some c1 ∧ w.cell? ⟨b, 2, none⟩ = some c2 ∧ w.cell? ⟨b, 3, none⟩ = some c3 ∧ ∀ i, w.frozen? ⟨b, i, none⟩ = false := by
  refine ⟨?_, ?_, ?_, ?_, fun i => ?_⟩
  · simpa using cell_of_blk h 0
  · simpa using cell_of_blk h 1
  · simpa using cell_of_blk h 2
  · simpa using cell_of_blk h 3
  · simp [World.frozen?, h]
/-- The mean m lies in block b. -/
def MnAt (b : Nat) (m : Mn) (w : World) : Prop := ∃ a s, w.heap[b]? = some (.cells #[.bool true, .int .i64 m.n, .float .f64 a, .float .f64 s] 66 (0, 0)) ∧ FS m.a a ∧ FS m.s s
set_option maxRecDepth 100000 in
theorem rt_add (w : World) (b : Nat) (m : Mn) (h : MnAt b m w) (x : Nat) (X : Option Nat) (hx : FS X x) (hn : m.n ≤ 4611686018427387904) : Calls Try.prog 35 #[.pointer (some ⟨b, 0, none⟩), .float .f64 x] w fun r w' => r = .returned (.tuple #[]) ∧ MnAt b (m.add X) w' ∧ Chg (· = b) w w' := by
  obtain ⟨n, A, S⟩ := m
  obtain ⟨a, s, hb, ha, hs⟩ := h
  simp only at hb ha hs hn
  obtain ⟨c0, c1, c2, c3, cf⟩ := cells4 hb
  have l0 := lt_of_block hb
  have HA := Lib.hid ha
  have HS := Lib.hid hs
  have HX := Lib.hid hx
  have HB := Lib.hid hb
  have hw : IntKind.i64.wrap ((n : Int) + 1) = (n : Int) + 1 := IntWalk.i64_in _ (by omega)
  have hn' : (n : Int) ≤ 4611686018427387904 := by omega
  clear ha hs hx hb hn
  go_enter Try.func35, Try.ntmps35
  go_wp2
  have hd := fres_fs (w.setCell ⟨b, 1, none⟩ (.int .i64 ((n : Int) + 1))) .sub HX.out HA.out
  have hw1 : ((w.setCell ⟨b, 1, none⟩ (.int .i64 ((n : Int) + 1))).drewN (fdr .sub x a)).heap[b]? = some (.cells #[.bool true, .int .i64 ((n : Int) + 1), .float .f64 a, .float .f64 s] 66 (0, 0)) := heap_setCell_at HB.out (i := 1) (.int .i64 ((n : Int) + 1))
  have ch1 : Chg (· = b) w ((w.setCell ⟨b, 1, none⟩ (.int .i64 ((n : Int) + 1))).drewN (fdr .sub x a)) := ((Chg.refl (· = b) w).set (fun _ => rfl) _).drewN _
  generalize fres (w.setCell ⟨b, 1, none⟩ (.int .i64 ((n : Int) + 1))) .sub x a = d at *
  generalize (w.setCell ⟨b, 1, none⟩ (.int .i64 ((n : Int) + 1))).drewN (fdr .sub x a) = w1 at *
  clear c0 c1 c2 c3 cf l0 HB
  obtain ⟨c0, c1, c2, c3, cf⟩ := cells4 hw1
  have l0 := lt_of_block hw1
  have HD := Lib.hid hd
  have HW1 := Lib.hid hw1
  have CH1 := Lib.hid ch1
  clear hd hw1 ch1
  as_aux_lemma =>
    go_big_region
    have hq := fres_fs w1.drew .quo HD.out (FS.some (fi_lt (n + 1)))
    have efi : fi (n + 1) = floatOfInt .f64 ((n : Int) + 1) := by unfold fi; norm_cast
    rw [efi] at hq
    generalize fres w1.drew .quo d (floatOfInt .f64 ((n : Int) + 1)) = q at *
    generalize 1 + fdr .quo d (floatOfInt .f64 ((n : Int) + 1)) = k1 at *
    have hm := fres_fs (w1.drewN k1) .add HA.out hq
    generalize fres (w1.drewN k1) .add a q = a2 at *
    generalize k1 + fdr .add a q = k2 at *
    have hw2 : ((w1.drewN k2).setCell ⟨b, 2, none⟩ (.float .f64 a2)).heap[b]? = some (.cells #[.bool true, .int .i64 ((n : Int) + 1), .float .f64 a2, .float .f64 s] 66 (0, 0)) := heap_setCell_at HW1.out (i := 2) (.float .f64 a2)
    have ch2 : Chg (· = b) w ((w1.drewN k2).setCell ⟨b, 2, none⟩ (.float .f64 a2)) := (CH1.out.drewN _).set (fun _ => rfl) _
    generalize (w1.drewN k2).setCell ⟨b, 2, none⟩ (.float .f64 a2) = w2 at *
    clear c0 c1 c2 c3 cf l0 HW1 CH1
    obtain ⟨c0, c1, c2, c3, cf⟩ := cells4 hw2
    have l0 := lt_of_block hw2
    have HM := Lib.hid hm
    have HW2 := Lib.hid hw2
    have CH2 := Lib.hid ch2
    have EFI := Lib.hid efi
    clear hm hw2 ch2 hq efi
    as_aux_lemma =>
      go_wp2
      go_big_region
      have he := fres_fs w2.drew .sub HX.out HM.out
      generalize fres w2.drew .sub x a2 = e at *
      generalize 1 + fdr .sub x a2 = k3 at *
      have hp := fres_fs (w2.drewN k3) .mul HD.out he
      generalize fres (w2.drewN k3) .mul d e = p at *
      generalize k3 + fdr .mul d e = k4 at *
      have hz := fres_fs (w2.drewN k4) .add HS.out hp
      generalize fres (w2.drewN k4) .add s p = z at *
      generalize k4 + fdr .add s p = k5 at *
      have hb := heap_setCell_at (w := w2.drewN k5) HW2.out (i := 3) (.float .f64 z)
      have hc : Chg (· = b) w ((w2.drewN k5).setCell ⟨b, 3, none⟩ (.float .f64 z)) := (CH2.out.drewN _).set (fun _ => rfl) _
      generalize (w2.drewN k5).setCell ⟨b, 3, none⟩ (.float .f64 z) = w3 at *
      have fin : MnAt b (Mn.add ⟨n, A, S⟩ X) w3 := by
        rw [← EFI.out] at HM hz
        exact ⟨a2, z, by simpa [Mn.add] using hb, HM.out, hz⟩
      clear he hp hz hb c0 c1 c2 c3 cf HM HW2 HD HX HA HS CH2 EFI
      refine bodyPost_end ?_ rfl ⟨rfl, fin, hc⟩
      simp [results, Try.results35, go_sem]
end Go.Proofs.Ytplkoephgmdgkaa
