/- Walks of the liner's small methods: New, spoil, end, Held. No condition but what each states. -/
import Derived.Test.YtnjloldhmjadoaaProg
import Derived.Test.YtnjloldhmjadoaaMem
import Derived.Test.YtnjloldhmjadoaaLnSpec
import Derived.Outline
import Derived.KernelRfl
import Derived.BigRegion
import Derived.Deep.QuietTactic
import Derived.BigQuiet
import Derived.ChangeAlike
import Derived.Laws.BytesArg
namespace Go.Proofs.Ytnjloldhmjadoaa
open Go Go.RowKit Ln

/-- The liner in block b: its bound, its text's slice v, its state. -/
structure LinerAt (w : World) (b : Nat) (most : Int) (v : Value) (s : LS) : Prop where
  blk : w.heap[b]? = some (.cells #[.int .i64 most, v, .bool s.cr, .int .i64 s.why] 90 (0, 0))
  arr : Arr w 5 1 v (bvs s.text)
  apart : v.ownBlock ≠ some b

def itmV (i : Itm) : Value := .agg #[.int .i64 i.kind, .string ⟨i.text.toArray⟩, .slice none 0 0, .int .i64 i.why, .bool false]

theorem line_new (m : Int) (w : World) (h1 : 1 ≤ m) (h2 : m ≤ 16777216) :
    Calls Try.prog 29 #[.int .i64 m] w fun r w' => r = .returned (.tuple #[.pointer (some ⟨w.heap.size, 0, none⟩), .int .i64 0]) ∧ LinerAt w' w.heap.size m (.slice none 0 0) LS.new ∧ Chg (fun _ => False) w w' := by
  have t1 : ¬ m < 1 := by omega
  have t2 : ¬ 16777216 < m := by omega
  go_enter Try.func29, Try.ntmps29
  go_wp2
  go_ret2
  exact ⟨rfl, ⟨heap_alloc_at _ _, Arr.nil _ _ _, by simp [Value.ownBlock]⟩, (Chg.refl _ w).alloc _⟩

theorem line_new_no (m : Int) (w : World) (h : m < 1 ∨ 16777216 < m) :
    Calls Try.prog 29 #[.int .i64 m] w fun r w' => r = .returned (.tuple #[.pointer none, .int .i64 2]) ∧ w = w' := by
  rcases h with h | h
  all_goals
    go_enter Try.func29, Try.ntmps29
    go_wp2
    all_goals
      go_ret2
      exact ⟨rfl, rfl⟩

theorem line_spoil (w : World) (b : Nat) (e : Int) (v : Value) (m : Int) (s : LS) (h : LinerAt w b m v s) :
    Calls Try.prog 54 #[.pointer (some ⟨b, 0, none⟩), .int .i64 e] w fun r w' => r = .returned (.tuple #[]) ∧ LinerAt w' b m (.slice none 0 0) (s.spoil e) ∧ Chg (· = b) w w' := by
  obtain ⟨blk, arr, apart⟩ := h
  have c1 : w.cell? ⟨b, 1, none⟩ = some v := by simp [World.cell?, blk]
  have c3 : w.cell? ⟨b, 3, none⟩ = some (.int .i64 s.why) := by simp [World.cell?, blk]
  have f : ∀ i, w.frozen? ⟨b, i, none⟩ = false := by intro i; simp [World.frozen?, blk]
  have B := blk
  have HB : Hid _ := B
  clear blk B
  by_cases hw : s.why = 130
  · have hne : (s.why != 130) = false := by simpa using hw
    have HW : Hid (s.why = 130) := hw
    clear hw
    go_enter Try.func54, Try.ntmps54
    go_wp2
    go_end0
    refine ⟨rfl, ⟨?_, Arr.nil _ _ _, by simp [Value.ownBlock]⟩, (Chg.refl (· = b) w).set (fun _ => rfl) _⟩
    have := heap_setCell_at HB.out (.slice none 0 0) (i := 1)
    simpa [LS.spoil, HW.out] using this
  · have hne : (s.why != 130) = true := by simpa using hw
    have HW : Hid (¬ s.why = 130) := hw
    clear hw
    go_enter Try.func54, Try.ntmps54
    go_wp2
    go_end0
    refine ⟨rfl, ⟨?_, Arr.nil _ _ _, by simp [Value.ownBlock]⟩, ((Chg.refl (· = b) w).set (fun _ => rfl) _).set (fun _ => rfl) _⟩
    have := heap_setCell_at (heap_setCell_at HB.out (.int .i64 e) (i := 3)) (.slice none 0 0) (i := 1)
    simpa [LS.spoil, HW.out] using this

theorem line_held (w : World) (b : Nat) (v : Value) (m : Int) (s : LS) (h : LinerAt w b m v s) (hm1 : m ≤ 16777216) (hok : s.ok m) :
    Calls Try.prog 47 #[.pointer (some ⟨b, 0, none⟩)] w fun r w' => r = .returned (.int .i64 (s.text.length + if s.cr then 1 else 0)) ∧ w = w' := by
  obtain ⟨blk, arr, apart⟩ := h
  obtain ⟨ao, n, cap, rfl, hl, hm, _, _⟩ := arr.shape
  rw [bvs_length, Nat.mul_one] at hl
  unfold LS.ok at hok
  have hn : n ≤ 16777216 := by omega
  clear hm hok hm1
  have c1 : w.cell? ⟨b, 1, none⟩ = some (.slice ao n cap) := by simp [World.cell?, blk]
  have c2 : w.cell? ⟨b, 2, none⟩ = some (.bool s.cr) := by simp [World.cell?, blk]
  have HL := hl
  have hl' : Hid _ := HL
  clear blk arr hl HL
  cases hcr : s.cr
  · rw [hcr] at c2
    go_enter Try.func47, Try.ntmps47
    go_wp2
    go_ret
    exact ⟨by rw [hl'.out]; simp, rfl⟩
  · rw [hcr] at c2
    go_enter Try.func47, Try.ntmps47
    go_wp2
    go_ret
    exact ⟨by rw [hl'.out]; simp, rfl⟩

theorem LinerAt.kept {S : Nat → Prop} {w w' : World} {b : Nat} {m : Int} {v : Value} {s : LS} (h : LinerAt w b m v s) (hc : Chg S w w') (hb : ¬ S b) (hv : ∀ k, v.ownBlock = some k → ¬ S k) : LinerAt w' b m v s :=
  ⟨hc.obj h.blk hb, h.arr.kept hc hv, h.apart⟩
theorem LinerAt.alloc {w : World} {b : Nat} {m : Int} {v : Value} {s : LS} (h : LinerAt w b m v s) (o : Obj) : LinerAt (w.alloc o) b m v s :=
  h.kept ((Chg.refl (fun _ => False) w).alloc o) (fun h => h) (fun _ _ h => h)
theorem LinerAt.drew {w : World} {b : Nat} {m : Int} {v : Value} {s : LS} (h : LinerAt w b m v s) : LinerAt w.drew b m v s :=
  h.kept ((Chg.refl (fun _ => False) w).drew) (fun h => h) (fun _ _ h => h)
theorem LinerAt.drewN {w : World} {b : Nat} {m : Int} {v : Value} {s : LS} (h : LinerAt w b m v s) (n : Nat) : LinerAt (w.drewN n) b m v s :=
  h.kept ((Chg.refl (fun _ => False) w).drewN n) (fun h => h) (fun _ _ h => h)
theorem LinerAt.reset {w : World} {b : Nat} {m : Int} {ao : Option Addr} {n cap : Nat} {s : LS} (h : LinerAt w b m (.slice ao n cap) s) :
    LinerAt ((((w.setCell ⟨b, 0, none⟩ (.int .i64 m)).setCell ⟨b, 1, none⟩ (.slice ao 0 cap)).setCell ⟨b, 2, none⟩ (.bool false)).setCell ⟨b, 3, none⟩ (.int .i64 0)) b m (.slice ao 0 cap) LS.new := by
  obtain ⟨blk, arr, apart⟩ := h
  have hob : (Value.slice ao 0 cap).ownBlock = (Value.slice ao n cap).ownBlock := by cases ao <;> rfl
  refine ⟨?_, (arr.empty.of (fun k hk => ?_)), by rw [hob]; exact apart⟩
  · have := heap_setCell_at (heap_setCell_at (heap_setCell_at (heap_setCell_at blk (.int .i64 m) (i := 0)) (.slice ao 0 cap) (i := 1)) (.bool false) (i := 2)) (.int .i64 0) (i := 3)
    simpa [LS.new] using this
  · have hkb : k ≠ b := fun e => apart (by rw [← hob, hk, e])
    rw [Below.heap_setCell _ _ _ _ hkb, Below.heap_setCell _ _ _ _ hkb, Below.heap_setCell _ _ _ _ hkb, Below.heap_setCell _ _ _ _ hkb]

theorem line_end (w : World) (b : Nat) (v : Value) (m : Int) (s : LS) (h : LinerAt w b m v s) :
    Calls Try.prog 53 #[.pointer (some ⟨b, 0, none⟩)] w fun r w' => r = .returned (itmV s.item) ∧ (∃ v', LinerAt w' b m v' LS.new ∧ v'.ownBlock = v.ownBlock) ∧ Chg (· = b) w w' := by
  obtain ⟨ao, n, cap, rfl, hl, hm, _, _⟩ := h.arr.shape
  have hcopy := h
  obtain ⟨blk, arr, apart⟩ := hcopy
  have c0 : w.cell? ⟨b, 0, none⟩ = some (.int .i64 m) := by simp [World.cell?, blk]
  have c1 : w.cell? ⟨b, 1, none⟩ = some (.slice ao n cap) := by simp [World.cell?, blk]
  have c2 : w.cell? ⟨b, 2, none⟩ = some (.bool s.cr) := by simp [World.cell?, blk]
  have c3 : w.cell? ⟨b, 3, none⟩ = some (.int .i64 s.why) := by simp [World.cell?, blk]
  have f : ∀ i, w.frozen? ⟨b, i, none⟩ = false := by intro i; simp [World.frozen?, blk]
  have hb := lt_of_block blk
  have hcv : ∀ o, (convert 24 9 (.slice ao n cap)).run Try.prog (w.alloc o) = .ok (.string ⟨s.text.toArray⟩) (w.alloc o) := fun o =>
    run_conv_txt (arr.of (w' := w.alloc o) (fun b' hb' => Below.heap_alloc _ _ _ (arr.lt b' hb'))).rd _ _ _ Try.underlying24 Try.underlying5 Try.underlying9
  by_cases hw : s.why = 0
  · have hne : (s.why != 0) = false := by simpa using hw
    have HW := Lib.hid hw
    have HH := Lib.hid h
    clear hw blk arr hl apart h
    go_enter Try.func53, Try.ntmps53
    go_wp2
    go_region
    all_goals go_wp2
    refine bodyPost_ret (v := itmV s.item) ?_ rfl ⟨rfl, ⟨.slice ao 0 cap, ((HH.out.reset.alloc _).alloc _).drew, by cases ao <;> rfl⟩, ?_⟩
    · simp [results, Try.results53, go_sem, itmV, LS.item, HW.out]
    · exact (((((((Chg.refl (· = b) w).set (fun _ => rfl) _).set (fun _ => rfl) _).set (fun _ => rfl) _).set (fun _ => rfl) _).alloc _).alloc _).drew
  · have hne : (s.why != 0) = true := by simpa using hw
    have HW := Lib.hid hw
    have HH := Lib.hid h
    clear hw blk arr hl apart h
    go_enter Try.func53, Try.ntmps53
    go_wp2
    go_region
    all_goals go_wp2
    refine bodyPost_ret (v := itmV s.item) ?_ rfl ⟨rfl, ⟨.slice ao 0 cap, ((HH.out.reset.alloc _).alloc _).drew, by cases ao <;> rfl⟩, ?_⟩
    · simp [results, Try.results53, go_sem, itmV, LS.item, HW.out]
    · exact (((((((Chg.refl (· = b) w).set (fun _ => rfl) _).set (fun _ => rfl) _).set (fun _ => rfl) _).set (fun _ => rfl) _).alloc _).alloc _).drew

end Go.Proofs.Ytnjloldhmjadoaa
