/- The laws' limits, endless. No condition but what is stated. -/
import Derived.Test.YtnjloldhmjadoaaPlC
import Derived.StillTailTactics
namespace Go.Proofs.Ytnjloldhmjadoaa
set_option linter.unusedVariables false
open Go Go.RowKit Ln Dt Fr Pl
attribute [local irreducible] withinN

theorem within_still (w : World) (n : Int) : Calls Try.prog 43 #[.int .i64 n] w fun r w' => r = .returned (.int .i64 (withinN n)) ∧ w' = w :=
  (within_calls w n).mono fun _ _ ⟨h1, h2⟩ => ⟨h1, h2.symm⟩
set_option maxHeartbeats 1000000 in
set_option maxRecDepth 100000 in
theorem limits_calls (W : World) (l0 l1 l2 l3 l4 l5 : Int) :
    Calls Try.prog 24 #[.agg #[.int .i64 l0, .int .i64 l1, .int .i64 l2, .int .i64 l3, .int .i64 l4, .int .i64 l5]] W fun r w' => r = .returned (.agg #[.int .i64 (withinN l0), .int .i64 (withinN l1), .int .i64 (withinN l2), .int .i64 1, .int .i64 1, .int .i64 1]) ∧ Chg (fun _ => False) W w' := by
  go_enter Try.func24, Try.ntmps24
  go_upto_region 1 with (fail)
  obtain ⟨W1, hW1⟩ : ∃ W1 : World, W1 = W.alloc (.cells #[.int .i64 l0, .int .i64 l1, .int .i64 l2, .int .i64 l3, .int .i64 l4, .int .i64 l5] 23) := ⟨_, rfl⟩
  have hs1 : W1.heap.size = W.heap.size + 1 := by rw [hW1]; simp
  obtain ⟨W2, hW2⟩ : ∃ W2 : World, W2 = W1.alloc (.cells #[.int .i64 0, .int .i64 0, .int .i64 0, .int .i64 0, .int .i64 0, .int .i64 0] 23) := ⟨_, rfl⟩
  have b1 : W2.heap[W.heap.size]? = some (.cells #[.int .i64 l0, .int .i64 l1, .int .i64 l2, .int .i64 l3, .int .i64 l4, .int .i64 l5] 23 (0, 0)) := by rw [hW2, hW1]; exact heap_alloc_lt _ _ (heap_alloc_at _ _)
  have b2 : W2.heap[W.heap.size + 1]? = some (.cells #[.int .i64 0, .int .i64 0, .int .i64 0, .int .i64 0, .int .i64 0, .int .i64 0] 23 (0, 0)) := by rw [hW2, ← hs1]; exact heap_alloc_at _ _
  have hc : Chg (fun _ => False) W W2 := by rw [hW2, hW1]; exact ((Chg.refl _ W).alloc _).alloc _
  rw [← hW1, ← hW2]
  have HC := Lib.hid hc
  have hl2 := lt_of_block b2
  have k0 : W2.cell? ⟨W.heap.size, 0, none⟩ = some (.int .i64 l0) := cell_of_blk b1 0
  have k1 : W2.cell? ⟨W.heap.size, 1, none⟩ = some (.int .i64 l1) := cell_of_blk b1 1
  have k2 : W2.cell? ⟨W.heap.size, 2, none⟩ = some (.int .i64 l2) := cell_of_blk b1 2
  have d0 := cell_of_blk b2 0
  have d1 := cell_of_blk b2 1
  have d2 := cell_of_blk b2 2
  have d3 := cell_of_blk b2 3
  have d4 := cell_of_blk b2 4
  have d5 := cell_of_blk b2 5
  have df := fun i => free_of_blk b2 i
  simp at d0 d1 d2 d3 d4 d5
  have B2 := Lib.hid b2
  clear b1 b2 hc hW2 hW1 hs1
  refine wp_region_still_tail 10 (by kernel_rfl) (by kernel_rfl) ?_
  simp only [List.take_succ_cons, List.take_zero, List.drop_succ_cons, List.drop_zero]
  change wpStill _ _ W2.drew _ _ _
  still_step
  still_step
  still_call (within_still _ _)
  still_step
  still_step
  still_call (within_still _ _)
  still_step
  still_step
  still_call (within_still _ _)
  still_step
  refine wpStill_nil ?_
  change wpList _ _ _ _ _ W2.drew
  go_wp2
  refine bodyPost_ret (v := .agg #[.int .i64 (withinN l0), .int .i64 (withinN l1), .int .i64 (withinN l2), .int .i64 1, .int .i64 1, .int .i64 1]) ?_ rfl ⟨rfl, ?_⟩
  · simp [results, Try.results24, go_sem, d0, d1, d2, d3, d4, d5]
  · have nb : ∀ i : Nat, (⟨W.heap.size + 1, i, none⟩ : Addr).block < W.heap.size → False := fun i h => by simp only at h; omega
    exact ((((((HC.out.set (nb 0) _).set (nb 1) _).set (nb 2) _).set (nb 3) _).set (nb 4) _).set (nb 5) _).drew

/-- endless's loop. -/
def EnRel (w0 : World) (ts : List Tn) (g : Nat) (iv : Value) (wr : World) : Prop := ∃ j : Nat, j + g = ts.length ∧ iv = .int .i64 j ∧ (∀ i (h : i < ts.length), i < j → nought ts[i] = true) ∧ Chg (fun _ => False) w0 wr
theorem endl_no {ts : List Tn} {j : Nat} (h : j < ts.length) (hn : nought ts[j] = false) : endl ts = false := by
  have : ts.all nought = false := by rw [List.all_eq_false]; exact ⟨ts[j], List.getElem_mem h, by simpa using hn⟩
  simp [endl, this]
theorem endl_yes {ts : List Tn} (h : ∀ i (h : i < ts.length), nought ts[i] = true) : endl ts = decide (0 < ts.length) := by
  have : ts.all nought = true := by
    rw [List.all_eq_true]
    intro c hc
    obtain ⟨i, hi, rfl⟩ := List.getElem_of_mem hc
    exact h i hi
  unfold endl
  rw [this, Bool.and_true]
  cases ts <;> simp
set_option maxHeartbeats 1000000 in
theorem endless_calls (w : World) (ta : Option Addr) (tc : Nat) (ts : List Tn) (h : Rd w (.slice ta ts.length tc) 3 (ts.flatMap tnCs)) (hl : ts.length ≤ 1099511627776) :
    Calls Try.prog 21 #[.slice ta ts.length tc] w fun r w' => r = .returned (.bool (endl ts)) ∧ Chg (fun _ => False) w w' := by
  have H := Lib.hid h
  clear h
  go_enter Try.func21, Try.ntmps21
  go_wp2_with fail
  go_loopg [7] ts.length (EnRel w ts)
  case atStart => exact ⟨0, by omega, rfl, fun i h hi => by omega, Chg.refl _ _⟩
  case round =>
    obtain ⟨j, hj, rfl, hz, hC⟩ := hrel
    have HC := Lib.hid hC
    have HZ := Lib.hid hz
    clear hC hz
    by_cases hg : gk = 0
    · have hlt : ¬ (j : Int) < ts.length := by omega
      have ha := endl_yes (fun i h => HZ.out i h (by omega))
      have HA := Lib.hid ha
      clear ha
      by_cases h0 : 0 < ts.length
      all_goals
        go_wp2
        go_ret
        refine ⟨?_, HC.out⟩
        rw [HA.out]
        simp [h0]
    · have hlt : (j : Int) < ts.length := by omega
      have hjl : j < ts.length := by omega
      have hne : ts ≠ [] := by rintro rfl; simp at hjl
      obtain ⟨tb, toff, j', rfl, hj', _, d0, d1, d2⟩ := turn_cells H.out j hne
      have e1 : turnAt ts j = ts[j] := by unfold turnAt; rw [Nat.mod_eq_of_lt hjl, List.getD_eq_getElem?_getD, List.getElem?_eq_getElem hjl]; rfl
      rw [Nat.mod_eq_of_lt hjl] at hj'
      subst hj'
      rw [e1] at d0 d1 d2
      have hnext : nought ts[j'] = true → ∀ i (h : i < ts.length), i < j' + 1 → nought ts[i] = true := fun e i h hi => by
        by_cases e2 : i = j'
        · subst e2; exact e
        · exact HZ.out i h (by omega)
      have hno : nought ts[j'] = false → endl ts = false := fun e => endl_no hjl e
      have HN := Lib.hid hnext
      have HO := Lib.hid hno
      have f0 := HC.out.cell d0 (fun h => h)
      have f1 := HC.out.cell d1 (fun h => h)
      have f2 := HC.out.cell d2 (fun h => h)
      generalize ts[j'] = o at *
      clear hnext hno e1 d0 d1 d2 hne
      by_cases h2 : o.kind = 2
      · by_cases hn : o.n ≤ 0
        · have hk : (o.kind != 2) = false := by simp [h2]
          have hk2 : ¬ 0 < o.n := by omega
          have HA := Lib.hid (HN.out (by simp [nought, h2, hn]))
          clear h2 hn
          go_wp2
          go_roundg (gk - 1)
          case measure => omega
          case rel => exact ⟨j' + 1, by omega, by go_num, HA.out, HC.out.alloc _⟩
        · have hk : (o.kind != 2) = false := by simp [h2]
          have hk2 : 0 < o.n := by omega
          have HA := Lib.hid (HO.out (by simp [nought, h2]; omega))
          clear h2 hn
          go_wp2
          go_ret
          exact ⟨congrArg (fun b => Ending.returned (.bool b)) HA.out.symm, HC.out.alloc _⟩
      · have hk : (o.kind != 2) = true := by simpa using h2
        have HA := Lib.hid (HO.out (by simp [nought, h2]))
        clear h2
        go_wp2
        go_ret
        exact ⟨congrArg (fun b => Ending.returned (.bool b)) HA.out.symm, HC.out.alloc _⟩
end Go.Proofs.Ytnjloldhmjadoaa
