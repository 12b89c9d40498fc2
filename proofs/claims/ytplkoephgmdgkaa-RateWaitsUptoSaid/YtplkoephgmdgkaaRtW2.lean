/- Means told, the document's means, alike. No condition but what each states. -/
import Derived.Test.YtplkoephgmdgkaaRtW1
import Derived.Deep.QuietTactic
import Derived.BigQuiet
import Derived.Laws.BitsAll
import Derived.Laws.Externs
import Derived.Deep.RegionWith
import Derived.Deep.RegionHeld3
namespace Go.Proofs.Ytplkoephgmdgkaa
open Go Go.RowKit Rt
set_option linter.unusedVariables false
attribute [local go_sem] run_fadd run_fsub run_fmul run_fquo store_f64

theorem rt_tell0 (w : World) (b : Nat) (a s : Value) (t : TypeId) (n : Int) (made : Bool) (h : w.heap[b]? = some (.cells #[.bool made, .int .i64 n, a, s] t (0, 0))) (h0 : made = false ∨ n = 0) : Calls Try.prog 37 #[.pointer (some ⟨b, 0, none⟩)] w fun r w' => r = .returned (.tuple #[.int .i64 0, .float .f64 0, .float .f64 0]) ∧ w' = w := by
  obtain ⟨c0, c1, c2, c3, cf⟩ := cells4 h
  have l0 := lt_of_block h
  clear h
  cases made
  · clear h0
    go_enter Try.func37, Try.ntmps37
    go_wp2
    go_ret3
    exact ⟨rfl, rfl⟩
  · obtain rfl : n = 0 := by simpa using h0
    clear h0
    go_enter Try.func37, Try.ntmps37
    go_wp2
    go_ret3
    exact ⟨rfl, rfl⟩
/-- What Tell tells. -/
def TellSays (q : Nat × Option Nat × Option Nat) (r : Ending) : Prop := ∃ a s, r = .returned (.tuple #[.int .i64 q.1, .float .f64 a, .float .f64 s]) ∧ FS q.2.1 a ∧ FS q.2.2 s
set_option maxRecDepth 100000 in
theorem rt_tell (w : World) (b : Nat) (m : Mn) (h : MnAt b m w) (hn : m.n ≤ 4611686018427387904) : Calls Try.prog 37 #[.pointer (some ⟨b, 0, none⟩)] w fun r w' => TellSays m.tell r ∧ Chg (fun _ => False) w w' := by
  obtain ⟨n, A, S⟩ := m
  obtain ⟨a, s, hb, ha, hs⟩ := h
  simp only at hb ha hs hn
  by_cases h0 : n = 0
  · refine (rt_tell0 w b _ _ _ _ _ hb (.inr (by simp [h0]))).mono ?_
    rintro r w' ⟨rfl, rfl⟩
    exact ⟨⟨0, 0, by simp [Mn.tell, h0], by simp [Mn.tell, h0, FS], by simp [Mn.tell, h0, FS]⟩, Chg.refl _ _⟩
  · obtain ⟨c0, c1, c2, c3, cf⟩ := cells4 hb
    have l0 := lt_of_block hb
    have ht : (Mn.tell ⟨n, A, S⟩) = (n, A, fo .quo S (some (fi n))) := by simp [Mn.tell, h0]
    have hne : ((n : Int) == 0) = false := by simpa using h0
    have hq := fun w => fres_fs w .quo hs (FS.some (fi_lt n))
    have HQ := Lib.hid hq
    have HT := Lib.hid ht
    have HA := Lib.hid ha
    have efi := Lib.hid (show fi n = floatOfInt .f64 (n : Int) from rfl)
    clear hb ha hs hq ht
    go_enter Try.func37, Try.ntmps37
    go_wp2
    as_aux_lemma =>
      go_big_region
      go_wp2
      go_ret3
      refine ⟨⟨a, fres w.drew .quo s (fi n), by rw [HT.out]; rfl, by rw [HT.out]; exact HA.out, by rw [HT.out]; exact HQ.out _⟩, (Chg.refl _ _).drewN _⟩
/-- The document's mean as a value. -/
def mnV (is : Bool) (n : Int) (a s : Nat) : Value := .agg #[.bool is, .int .i64 n, .float .f64 a, .float .f64 s]
set_option maxRecDepth 100000 in
theorem rr_add (w : World) (n : Nat) (A S X : Option Nat) (a s x : Nat) (ha : FS A a) (hs : FS S s) (hx : FS X x) (hn : n ≤ 4611686018427387904) : Calls Try.prog 36 #[mnV true n a s, .float .f64 x] w fun r w' => (∃ a2 s2, r = .returned (mnV true ((n + 1 : Nat) : Int) a2 s2) ∧ FS (Mn.add ⟨n, A, S⟩ X).a a2 ∧ FS (Mn.add ⟨n, A, S⟩ X).s s2) ∧ Chg (fun _ => False) w w' := by
  have hw : IntKind.i64.wrap ((n : Int) + 1) = (n : Int) + 1 := IntWalk.i64_in _ (by omega)
  have hn' : (n : Int) ≤ 4611686018427387904 := by omega
  have HD := Lib.hid fun w => fres_fs w .sub hx ha
  have HA := Lib.hid ha
  have HS := Lib.hid hs
  have HX := Lib.hid hx
  have EFI := Lib.hid (show fi (n + 1) = floatOfInt .f64 ((n : Int) + 1) by unfold fi; norm_cast)
  clear ha hs hx hn
  unfold mnV
  obtain ⟨W1, hW1⟩ : ∃ W1, W1 = (w.alloc (.cells #[.bool true, .int .i64 ((n : Int) + 1), .float .f64 a, .float .f64 s] 68)).alloc (.cells #[.bool false, .int .i64 0, .float .f64 0, .float .f64 0] 68) := ⟨_, rfl⟩
  have hb : W1.heap[w.heap.size]? = some (.cells #[.bool true, .int .i64 ((n : Int) + 1), .float .f64 a, .float .f64 s] 68 (0, 0)) := by rw [hW1]; exact heap_alloc_lt _ _ (heap_alloc_at _ _)
  have hb2 : W1.heap[w.heap.size + 1]? = some (.cells #[.bool false, .int .i64 0, .float .f64 0, .float .f64 0] 68 (0, 0)) := by rw [hW1]; have := heap_alloc_at (w.alloc (.cells #[.bool true, .int .i64 ((n : Int) + 1), .float .f64 a, .float .f64 s] 68)) (.cells #[.bool false, .int .i64 0, .float .f64 0, .float .f64 0] 68); simpa using this
  have hc : Chg (fun _ => False) w W1 := by rw [hW1]; exact ((Chg.refl _ _).alloc _).alloc _
  have HB := Lib.hid hb
  have HB2 := Lib.hid hb2
  have HC := Lib.hid hc
  have HW := Lib.hid hW1
  clear hb hb2 hc hW1
  go_enter Try.func36, Try.ntmps36
  go_upto_region 5 with (fail)
  rw [← HW.out]
  have hd := HD.out W1
  have hwr : Chg (fun _ => False) w (W1.drewN (fdr .sub x a)) := HC.out.drewN _
  generalize fres W1 .sub x a = d at *
  generalize fdr .sub x a = k0 at *
  obtain ⟨c0, c1, c2, c3, cf⟩ := cells4 HB.out
  have l0 := lt_of_block HB.out
  obtain ⟨g0, g1, g2, g3, gf⟩ := cells4 HB2.out
  have l1 := lt_of_block HB2.out
  have HD' := Lib.hid hd
  have HWR := Lib.hid hwr
  clear hd hwr HD
  as_aux_lemma =>
    go_upto_region 6 with (fail)
    have hq := fres_fs (W1.drewN k0) .quo HD'.out (FS.some (fi_lt (n + 1)))
    rw [EFI.out] at hq
    generalize fres (W1.drewN k0) .quo d (floatOfInt .f64 ((n : Int) + 1)) = q at *
    generalize k0 + fdr .quo d (floatOfInt .f64 ((n : Int) + 1)) = k1 at *
    have hm := fres_fs (W1.drewN k1) .add HA.out hq
    generalize fres (W1.drewN k1) .add a q = a2 at *
    generalize k1 + fdr .add a q = k2 at *
    have hw2 : ((W1.drewN k2).setCell ⟨w.heap.size, 2, none⟩ (.float .f64 a2)).heap[w.heap.size]? = some (.cells #[.bool true, .int .i64 ((n : Int) + 1), .float .f64 a2, .float .f64 s] 68 (0, 0)) := heap_setCell_at HB.out (i := 2) (.float .f64 a2)
    have hw3 : ((W1.drewN k2).setCell ⟨w.heap.size, 2, none⟩ (.float .f64 a2)).heap[w.heap.size + 1]? = some (.cells #[.bool false, .int .i64 0, .float .f64 0, .float .f64 0] 68 (0, 0)) := heap_setCell_ne HB2.out (by simp) _
    have ch2 : Chg (fun _ => False) w ((W1.drewN k2).setCell ⟨w.heap.size, 2, none⟩ (.float .f64 a2)) := Chg.set (HC.out.drewN _) (fun h => by simp at h) _
    generalize (W1.drewN k2).setCell ⟨w.heap.size, 2, none⟩ (.float .f64 a2) = w2 at *
    clear c0 c1 c2 c3 cf l0 g0 g1 g2 g3 gf l1 HB HB2 HC HWR HW
    obtain ⟨c0, c1, c2, c3, cf⟩ := cells4 hw2
    have l0 := lt_of_block hw2
    obtain ⟨g0, g1, g2, g3, gf⟩ := cells4 hw3
    have l1 := lt_of_block hw3
    have HM := Lib.hid hm
    have CH2 := Lib.hid ch2
    have HW2 := Lib.hid hw2
    have HW3 := Lib.hid hw3
    clear hm hw2 hw3 ch2 hq
    as_aux_lemma =>
      go_upto_region 7 with (fail)
      have he := fres_fs w2 .sub HX.out HM.out
      generalize fres w2 .sub x a2 = e at *
      generalize fdr .sub x a2 = k3 at *
      have hp := fres_fs (w2.drewN k3) .mul HD'.out he
      generalize fres (w2.drewN k3) .mul d e = p at *
      generalize k3 + fdr .mul d e = k4 at *
      have hz := fres_fs (w2.drewN k4) .add HS.out hp
      generalize fres (w2.drewN k4) .add s p = z at *
      generalize k4 + fdr .add s p = k5 at *
      have hb := heap_setCell_at (w := w2.drewN k5) HW2.out (i := 3) (.float .f64 z)
      have hb' : ((w2.drewN k5).setCell ⟨w.heap.size, 3, none⟩ (.float .f64 z)).heap[w.heap.size]? = some (.cells #[.bool true, .int .i64 ((n : Int) + 1), .float .f64 a2, .float .f64 z] 68 (0, 0)) := by simpa using hb
      have hb3 : ((w2.drewN k5).setCell ⟨w.heap.size, 3, none⟩ (.float .f64 z)).heap[w.heap.size + 1]? = some (.cells #[.bool false, .int .i64 0, .float .f64 0, .float .f64 0] 68 (0, 0)) := heap_setCell_ne HW3.out (by simp) _
      have hc : Chg (fun _ => False) w ((w2.drewN k5).setCell ⟨w.heap.size, 3, none⟩ (.float .f64 z)) := Chg.set (CH2.out.drewN _) (fun h => by simp at h) _
      generalize (w2.drewN k5).setCell ⟨w.heap.size, 3, none⟩ (.float .f64 z) = w3 at *
      have fin : FS (Mn.add ⟨n, A, S⟩ X).a a2 ∧ FS (Mn.add ⟨n, A, S⟩ X).s z := by
        rw [← EFI.out] at HM hz
        exact ⟨HM.out, hz⟩
      have FIN := Lib.hid fin
      have HC3 := Lib.hid hc
      clear he hp hz hb c0 c1 c2 c3 cf HM HW2 HD' HX HA HS CH2 EFI g0 g1 g2 g3 gf l0 l1 HW3 fin hc
      obtain ⟨c0, c1, c2, c3, cf⟩ := cells4 hb'
      have l0 := lt_of_block hb'
      obtain ⟨g0, g1, g2, g3, gf⟩ := cells4 hb3
      have l1 := lt_of_block hb3
      clear hb' hb3
      have hcs : ∀ v0 v1 v2 v3, Chg (fun _ => False) w ((((w3.setCell ⟨w.heap.size + 1, 0, none⟩ v0).setCell ⟨w.heap.size + 1, 1, none⟩ v1).setCell ⟨w.heap.size + 1, 2, none⟩ v2).setCell ⟨w.heap.size + 1, 3, none⟩ v3) := fun v0 v1 v2 v3 =>
        Chg.set (Chg.set (Chg.set (Chg.set HC3.out (fun h => by simp only at h; omega) _) (fun h => by simp only at h; omega) _) (fun h => by simp only at h; omega) _) (fun h => by simp only at h; omega) _
      have HCS := Lib.hid hcs
      clear hcs HC3
      as_aux_lemma =>
        go_wp2
        as_aux_lemma =>
          refine bodyPost_ret (v := .agg #[.bool true, .int .i64 ((n : Int) + 1), .float .f64 a2, .float .f64 z]) ?_ rfl ⟨⟨a2, z, by rw [Int.natCast_add]; rfl, FIN.out.1, FIN.out.2⟩, HCS.out _ _ _ _⟩
          simp [results, Try.results36, go_sem, g0, g1, g2, g3]
set_option maxRecDepth 100000 in
theorem rr_tell (w : World) (is : Bool) (n : Nat) (A S : Option Nat) (a s : Nat) (ha : FS A a) (hs : FS S s) : Calls Try.prog 38 #[mnV is n a s] w fun r w' => TellSays (Mn.tell ⟨n, A, S⟩) r ∧ Chg (fun _ => False) w w' := by
  by_cases h0 : n = 0
  · have ht : (Mn.tell ⟨n, A, S⟩) = (0, some 0, some 0) := by simp [Mn.tell, h0]
    have HT := Lib.hid ht
    subst h0
    clear ha hs ht
    unfold mnV
    go_enter Try.func38, Try.ntmps38
    go_wp2
    go_ret3
    exact ⟨⟨0, 0, by rw [HT.out]; rfl, by rw [HT.out]; exact FS.some (by decide), by rw [HT.out]; exact FS.some (by decide)⟩, (Chg.refl _ _).alloc _⟩
  · have ht : (Mn.tell ⟨n, A, S⟩) = (n, A, fo .quo S (some (fi n))) := by simp [Mn.tell, h0]
    have hne : ((n : Int) == 0) = false := by simpa using h0
    have HQ := Lib.hid fun w => fres_fs w .quo hs (FS.some (fi_lt n))
    have HT := Lib.hid ht
    have HA := Lib.hid ha
    clear ha hs ht
    unfold mnV
    go_enter Try.func38, Try.ntmps38
    go_wp2
    as_aux_lemma =>
      go_big_region
      go_wp2
      go_ret3
      refine ⟨⟨a, _, by rw [HT.out]; rfl, by rw [HT.out]; exact HA.out, by rw [HT.out]; exact HQ.out _⟩, ((Chg.refl _ _).alloc _).drewN _⟩
/-- Two floats are alike. -/
def alikeB (x y : Nat) : Bool := isN x && isN y || x == y
theorem FS.alike {s : Option Nat} {x y : Nat} (ha : FS s x) (hb : FS s y) : alikeB x y = true := by
  rcases ha.same hb with h | ⟨h1, h2⟩
  · simp [alikeB, h]
  · simp [alikeB, h1, h2]
end Go.Proofs.Ytplkoephgmdgkaa
