/- No liner and one that New did not make; bound. No condition but what is stated. -/
import Derived.Test.YtccmickmcpfapaaLnL0
import Derived.Deep.RegionWith
namespace Go.Proofs.Ytccmickmcpfapaa
open Go Go.RowKit Ln

theorem line_take_nil (w : World) (bv : Value) : Calls Try.prog 16 #[.pointer none, bv] w fun r w' => r = .returned (.tuple #[.int .i64 0, .agg #[.int .i64 0, .string ⟨#[]⟩, .slice none 0 0, .int .i64 0, .bool false]]) ∧ Chg (fun _ => False) w w' := by
  go_enter Try.func16, Try.ntmps16
  go_wp2
  go_step3
  go_wp2
  rw [Exit.noGoto_ret]
  refine bodyPost_ret (v := .tuple #[.int .i64 0, itmV Itm.none]) ?_ rfl ⟨rfl, ?_⟩
  · simp [results, Try.results16, go_sem, itmV, Itm.none]
  · exact (Chg.refl _ w).alloc _

theorem line_take_zero (w : World) (b : Nat) (hb : w.cell? ⟨b, 0, none⟩ = some (.int .i64 0)) (bv : Value) : Calls Try.prog 16 #[.pointer (some ⟨b, 0, none⟩), bv] w fun r w' => r = .returned (.tuple #[.int .i64 0, .agg #[.int .i64 0, .string ⟨#[]⟩, .slice none 0 0, .int .i64 0, .bool false]]) ∧ Chg (fun _ => False) w w' := by
  have hlt := World.block_lt_of_cell? w _ hb
  go_enter Try.func16, Try.ntmps16
  go_wp2
  go_step3
  go_wp2
  rw [Exit.noGoto_ret]
  refine bodyPost_ret (v := .tuple #[.int .i64 0, itmV Itm.none]) ?_ rfl ⟨rfl, ?_⟩
  · simp [results, Try.results16, go_sem, itmV, Itm.none]
  · exact (Chg.refl _ w).alloc _

theorem line_held_nil (w : World) : Calls Try.prog 19 #[.pointer none] w fun r w' => r = .returned (.int .i64 0) ∧ w = w' := by
  go_enter Try.func19, Try.ntmps19
  go_wp2
  go_ret
  exact ⟨rfl, rfl⟩

theorem line_held_zero (w : World) (b : Nat) (h : LinerAt w b 0 (.slice none 0 0) LS.new) : Calls Try.prog 19 #[.pointer (some ⟨b, 0, none⟩)] w fun r w' => r = .returned (.int .i64 0) ∧ w = w' :=
  (line_held w b _ _ _ h (by omega) (by simp [LS.ok, LS.new])).mono fun _ _ h => by simpa [LS.new] using h

def bnd (n : Int) : Int := 1 + max (n.tmod 64) ((wrap64 (-n)).tmod 64)
theorem tm64 (n : Int) : -63 ≤ n.tmod 64 ∧ n.tmod 64 ≤ 63 := by
  have h1 := Int.tmod_lt_of_pos n (show (0 : Int) < 64 by decide)
  have h2 := Int.lt_tmod_of_pos n (show (0 : Int) < 64 by decide)
  omega
theorem bnd_range (n : Int) (h0 : -9223372036854775808 ≤ n) (h1 : n ≤ 9223372036854775807) : 1 ≤ bnd n ∧ bnd n ≤ 64 := by
  have a := tm64 n
  have b := tm64 (wrap64 (-n))
  unfold bnd
  have c : 0 ≤ n.tmod 64 ∨ 0 ≤ (wrap64 (-n)).tmod 64 := by
    by_cases h : 0 ≤ n
    · exact .inl (Int.tmod_nonneg _ h)
    · right
      by_cases hm : n = -9223372036854775808
      · subst hm
        have e : wrap64 (- -9223372036854775808) = -9223372036854775808 := by unfold wrap64; omega
        rw [e]; decide
      · exact Int.tmod_nonneg _ (by unfold wrap64; omega)
  omega

theorem line_bound (n : Int) (w : World) : Calls Try.prog 10 #[.int .i64 n] w fun r w' => r = .returned (.int .i64 (bnd n)) ∧ w = w' := by
  obtain ⟨a1, a2⟩ := tm64 n
  obtain ⟨b1, b2⟩ := tm64 (wrap64 (-n))
  go_enter Try.func10, Try.ntmps10
  go_wp2
  all_goals
    go_ret
    refine ⟨ret_i (k := .i64) ?_, rfl⟩
    unfold bnd
    generalize (wrap64 (-n)).tmod 64 = y at *
    generalize n.tmod 64 = z at *
    omega

theorem nil_walk (w : World) (bv : Value) : Calls Try.prog 8 #[bv] w fun r w' => r = .returned (.bool true) ∧ Below w.heap.size w w' := by
  have kc := fun (w : World) (b : Nat) (hb : b = w.heap.size) (C : Array Value) (n c : Nat) => run_const (P := Try.prog) w b hb 22 5 C n c Try.underlying22 Try.underlying5
  go_enter Try.func8, Try.ntmps8
  go_wp2_with fail
  refine (line_take_nil _ _).mono ?_
  rintro e w1 ⟨rfl, hc1⟩
  have b1 := hc1.obj (heap_alloc_at _ _) (fun h => h)
  have c1 := cell_of_blk b1 0
  have s1 := lt_of_block b1
  simp only [List.getElem?_toArray, List.getElem?_cons_zero] at c1
  have HB1 := Lib.hid b1
  have HC1 := Lib.hid hc1
  clear b1 hc1
  go_wp2_with fail
  refine (line_take_zero _ _ (by rw [World.cell?_alloc_lt]; exact c1; exact s1) _).mono ?_
  rintro e w2 ⟨rfl, hc2⟩
  have b2 := hc2.obj (heap_alloc_lt _ _ HB1.out) (fun h => h)
  have c2 := cell_of_blk b2 0
  have s2 := lt_of_block b2
  have i2 := hc2.obj (heap_alloc_at _ _) (fun h => h)
  simp only [List.getElem?_toArray, List.getElem?_cons_zero] at c2
  have HB2 := Lib.hid b2
  have HI2 := Lib.hid i2
  have HC2 := Lib.hid hc2
  have s3 := lt_of_block i2
  clear b2 hc2 c1 i2
  go_wp2_with fail
  refine (line_take_zero _ _ (by rw [World.cell?_alloc_lt, World.cell?_alloc_lt]; exact c2; exact s2; simp; omega) _).mono ?_
  rintro e w3 ⟨rfl, hc3⟩
  have i1 := hc3.obj (b := w1.heap.size) (heap_alloc_lt _ _ (heap_alloc_lt _ _ HI2.out)) (fun h => h)
  have i2 := hc3.obj (b := w2.heap.size) (heap_alloc_lt _ _ (heap_alloc_at _ _)) (fun h => h)
  have z3 := hc3.obj (b := w.heap.size) (heap_alloc_lt _ _ (heap_alloc_lt _ _ HB2.out)) (fun h => h)
  have I1 := Lib.hid i1
  have I2 := Lib.hid i2
  have Z3 := Lib.hid z3
  have HC3 := Lib.hid hc3
  have q2 := lt_of_block i2
  clear i1 i2 z3 hc3 c2
  go_wp2_with fail
  refine (line_wakes _).mono ?_
  rintro e w4 ⟨rfl, hc4⟩
  have hz4 := hc4.obj (heap_alloc_lt _ _ Z3.out) (fun h => h)
  have j1 := hc4.obj (heap_alloc_lt _ _ I1.out) (fun h => h)
  have j2 := hc4.obj (heap_alloc_lt _ _ I2.out) (fun h => h)
  have j3 := hc4.obj (heap_alloc_at _ _) (fun h => h)
  have hL : LinerAt w4 w.heap.size 0 (.slice none 0 0) LS.new := ⟨hz4, Arr.nil _ _ _, by simp [Value.ownBlock]⟩
  have HL := Lib.hid hL
  have HC4 := Lib.hid hc4
  have hs : ((⟨#[]⟩ : ByteArray) ++ ⟨#[]⟩ ++ ⟨#[]⟩).toList = [] := by decide +kernel
  have x10 := cell_of_blk j1 0
  have x11 := cell_of_blk j1 1
  have x12 := cell_of_blk j1 2
  have x13 := cell_of_blk j1 3
  have x20 := cell_of_blk j2 0
  have x21 := cell_of_blk j2 1
  have x22 := cell_of_blk j2 2
  have x23 := cell_of_blk j2 3
  have x30 := cell_of_blk j3 0
  have x31 := cell_of_blk j3 1
  have x32 := cell_of_blk j3 2
  have x33 := cell_of_blk j3 3
  simp only [List.getElem?_toArray, List.getElem?_cons_zero, List.getElem?_cons_succ] at x10 x11 x12 x13 x20 x21 x22 x23 x30 x31 x32 x33
  clear hz4 j1 j2 j3 hL hc4
  go_wp2_with (first | (go_at_call_of 19 (Value.pointer none); refine (line_held_nil _).mono ?_; rintro e w5 ⟨rfl, rfl⟩) | (go_at_call 19; refine (line_held_zero _ _ HL.out).mono ?_; rintro e w5 ⟨rfl, rfl⟩))
  go_ret
  refine ⟨rfl, ?_⟩
  exact (((((((((Chg.refl (fun _ => False) w).alloc _).trans HC1.out (fun _ _ h => h)).alloc _).trans HC2.out (fun _ _ h => h)).alloc _).alloc _).trans HC3.out (fun _ _ h => h)).alloc _ |>.trans HC4.out (fun _ _ h => h)).below (Nat.le_refl _) (fun _ _ h => h)

theorem walk_LineNil {H : Type} {enc : TypeId × Value → H} (W : World) (v0 : Value) (d0 : DataW H) (p0 : List MemPlace) (_ok0 : ∃ base, Value.okWide Try.prog W .any base 22 v0) (_h0 : DataW.Trod enc Try.prog W 0 (fun _ => true) true 22 v0 d0 p0) :
    Calls Try.prog 8 #[v0] W fun e w' => e = .returned (.bool true) ∧ Below W.heap.size W w' := nil_walk W v0

end Go.Proofs.Ytccmickmcpfapaa
