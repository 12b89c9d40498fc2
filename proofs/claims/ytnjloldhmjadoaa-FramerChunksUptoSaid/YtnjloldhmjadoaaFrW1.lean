/- Walks of the framer's small methods. No condition but what each states. -/
import Derived.Test.YtnjloldhmjadoaaDtW3
import Derived.Test.YtnjloldhmjadoaaFrSpec
import Derived.Laws.EntriesVeiled
import Derived.Deep.RegionHeld3
namespace Go.Proofs.Ytnjloldhmjadoaa
set_option linter.unusedVariables false
open Go Go.RowKit Ln Dt Fr

/-- The framer's own cells. -/
structure FB where
  l0 : Int
  l1 : Int
  l2 : Int
  l3 : Int
  l4 : Int
  l5 : Int
  mode : Int
  tk : Value
  hd : Value
  lp : Value
  begun : Bool
  left : Int
  room : Int
def frC (x : FB) : Array Value := #[.int .i64 x.l0, .int .i64 x.l1, .int .i64 x.l2, .int .i64 x.l3, .int .i64 x.l4, .int .i64 x.l5, .int .i64 x.mode, x.tk, x.hd, x.lp, .bool x.begun, .int .i64 x.left, .int .i64 x.room]
def FBAt (w : World) (b : Nat) (x : FB) : Prop := w.heap[b]? = some (.cells (frC x) 48 (0, 0))
theorem FBAt.facts {w : World} {b : Nat} {x : FB} (h : FBAt w b x) :
    w.cell? ⟨b, 1, none⟩ = some (.int .i64 x.l1) ∧ w.cell? ⟨b, 2, none⟩ = some (.int .i64 x.l2) ∧ w.cell? ⟨b, 6, none⟩ = some (.int .i64 x.mode) ∧ w.cell? ⟨b, 7, none⟩ = some x.tk ∧ w.cell? ⟨b, 8, none⟩ = some x.hd ∧ w.cell? ⟨b, 9, none⟩ = some x.lp ∧ w.cell? ⟨b, 10, none⟩ = some (.bool x.begun) ∧
    w.cell? ⟨b, 11, none⟩ = some (.int .i64 x.left) ∧ w.cell? ⟨b, 12, none⟩ = some (.int .i64 x.room) ∧ ∀ i, w.frozen? ⟨b, i, none⟩ = false :=
  ⟨cell_of_blk h 1, cell_of_blk h 2, cell_of_blk h 6, cell_of_blk h 7, cell_of_blk h 8, cell_of_blk h 9, cell_of_blk h 10, cell_of_blk h 11, cell_of_blk h 12, fun i => free_of_blk h i⟩
theorem FBAt.kept {S : Nat → Prop} {w w' : World} {b : Nat} {x : FB} (h : FBAt w b x) (c : Chg S w w') (hb : ¬ S b) : FBAt w' b x := c.obj h hb
def fnV (n : Nat) (p : Value) : Value := .func (Fn.func n) #[p] #[]

theorem run_mkfunc {P : Program} (fn : Fn) (first cap : Array Value) (w : World) : (Instr.makeFunc fn first cap).run P w = .ok (.func fn first cap) w := rfl

theorem fr_mode (w : World) (b : Nat) (x : FB) (h : FBAt w b x) :
    Calls Try.prog 17 #[.pointer (some ⟨b, 0, none⟩)] w fun r w' => r = .returned (.int .i64 x.mode) ∧ w = w' := by
  obtain ⟨c1, c2, c6, c7, c8, c9, c10, c11, c12, f⟩ := h.facts
  clear h
  go_enter Try.func17, Try.ntmps17
  go_wp2
  go_ret
  exact ⟨rfl, rfl⟩
theorem fr_mode_nil (w : World) : Calls Try.prog 17 #[.pointer none] w fun r w' => r = .returned (.int .i64 0) ∧ w = w' := by
  go_enter Try.func17, Try.ntmps17
  go_wp2
  go_ret
  exact ⟨rfl, rfl⟩
theorem fr_none (w : World) (p : Value) : Calls Try.prog 45 #[p] w fun r w' => r = .returned (.int .i64 0) ∧ w = w' := by
  go_enter Try.func45, Try.ntmps45
  go_wp2
  go_ret
  exact ⟨rfl, rfl⟩
theorem fr_may (w : World) (b : Nat) (x : FB) (h : FBAt w b x) :
    Calls Try.prog 31 #[.pointer (some ⟨b, 0, none⟩)] w fun r w' => r = .returned (.int .i64 (if x.mode = 1 ∧ x.begun = false then 0 else 6)) ∧ w = w' := by
  obtain ⟨c1, c2, c6, c7, c8, c9, c10, c11, c12, f⟩ := h.facts
  clear h
  by_cases hm : x.mode = 1
  · have t1 : (x.mode != 1) = false := by simp [hm]
    cases hb : x.begun
    · rw [hb] at c10
      rw [if_pos ⟨hm, rfl⟩]
      clear hm hb
      go_enter Try.func31, Try.ntmps31
      go_wp2
      go_ret
      exact ⟨rfl, rfl⟩
    · rw [hb] at c10
      rw [if_neg (by simp)]
      clear hm hb
      go_enter Try.func31, Try.ntmps31
      go_wp2
      go_ret
      exact ⟨rfl, rfl⟩
  · have t1 : (x.mode != 1) = true := by simp [hm]
    rw [if_neg (fun h => hm h.1)]
    clear hm
    go_enter Try.func31, Try.ntmps31
    go_wp2
    go_ret
    exact ⟨rfl, rfl⟩

theorem lines_world {w : World} {b : Nat} {x : FB} (h : FBAt w b x) : FBAt ((((w.setCell ⟨b, 6, none⟩ (.int .i64 1)).setCell ⟨b, 10, none⟩ (.bool false)).setCell ⟨b, 7, none⟩ (fnV 46 x.lp)).setCell ⟨b, 8, none⟩ (fnV 47 x.lp)) b
    { x with mode := 1, begun := false, tk := fnV 46 x.lp, hd := fnV 47 x.lp } := by
  have := heap_setCell_at (heap_setCell_at (heap_setCell_at (heap_setCell_at h (.int .i64 1) (i := 6)) (.bool false) (i := 10)) (fnV 46 x.lp) (i := 7)) (fnV 47 x.lp) (i := 8)
  unfold FBAt
  simpa [frC, fnV] using this
set_option maxHeartbeats 1000000 in
theorem fr_lines (w : World) (b : Nat) (x : FB) (h : FBAt w b x) :
    Calls Try.prog 30 #[.pointer (some ⟨b, 0, none⟩)] w fun r w' => r = .returned (.tuple #[]) ∧ FBAt w' b { x with mode := 1, begun := false, tk := fnV 46 x.lp, hd := fnV 47 x.lp } ∧ Chg (· = b) w w' := by
  obtain ⟨c1, c2, c6, c7, c8, c9, c10, c11, c12, f⟩ := h.facts
  have H := Lib.hid h
  have hmf := @run_mkfunc Try.prog
  clear h c1 c2 c11 c12
  go_enter Try.func30, Try.ntmps30
  go_wp2
  go_region
  all_goals
    go_wp2
    go_end0
    refine ⟨rfl, ?_, (((((Chg.refl (· = b) w).set (fun _ => rfl) _).set (fun _ => rfl) _).set (fun _ => rfl) _).set (fun _ => rfl) _).drew⟩
    exact (lines_world H.out).kept ((Chg.refl (fun _ => False) _).drew) (fun h => h)

def minN (a b : Nat) : Nat := min a b
theorem minN_le (a b : Nat) : minN a b ≤ a ∧ minN a b ≤ b := ⟨Nat.min_le_left _ _, Nat.min_le_right _ _⟩
theorem run_min_nat (ats : Array TypeId) (ty : TypeId) (k k' : IntKind) (a b : Nat) : Builtin.min_ ats ty #[.int k a, .int k' b] = pure (.int k (minN a b : Nat)) := by
  have e : (if (b : Int) < (a : Int) then (b : Int) else (a : Int)) = ((minN a b : Nat) : Int) := by
    unfold minN; split <;> omega
  rw [← e]
  simp only [Builtin.min_, List.foldlM_cons, List.foldlM_nil, Builtin.min2]
  rfl
attribute [local go_sem ↓] run_min_nat
def octIt (bs : List UInt8) (n told left : Nat) : It := if 0 < told then It.body (bs.take told) else if left - n = 0 then ⟨4, [], [], 0, false⟩ else It.none

theorem Rd.first {w : World} {ao : Option Addr} {n cap : Nat} {l : List UInt8} (h : Rd w (.slice ao n cap) 1 (bvs l)) (k : Nat) (hk : k ≤ l.length) : Rd w (.slice ao k cap) 1 (bvs (l.take k)) := by
  obtain ⟨ao', n', cap', e1, r1, r2, r3, r4, r5⟩ := h
  injection e1 with e1 e2 e3
  subst e1 e2 e3
  rw [bvs_length] at r1
  refine ⟨ao, k, cap, rfl, by rw [bvs_length, List.length_take]; omega, by omega, r3, fun hn => ⟨by have := r4 hn; omega, (r4 hn).2⟩, fun a ha hx => ?_⟩
  have hl : bvs l ≠ [] := by
    rw [bvs_ne] at hx ⊢
    rintro rfl; simp at hx
  refine ⟨(r5 a ha hl).1, fun i hi => ?_⟩
  rw [bvs_length, List.length_take] at hi
  rw [(r5 a ha hl).2 i (by rw [bvs_length]; omega)]
  simp [bvs]
theorem arr_empty {w : World} {k : Nat} {cur : Array Value} {e : TypeId} {f : Nat × Nat} (h : w.heap[k]? = some (.cells cur e f)) (sz : Nat) : Arr w e sz (.slice (some ⟨k, 0, none⟩) 0 0) [] :=
  .inr ⟨k, 0, 0, 0, cur, f, rfl, Nat.le_refl _, Nat.zero_le _, h, by simp, fun i _ h2 => by omega, by simp, by simp⟩
theorem arr_empty_new (w : World) (k : Nat) (hk : k = w.heap.size) (e : TypeId) (sz : Nat) : Arr (w.alloc (.cells #[] e)) e sz (.slice (some ⟨k, 0, none⟩) 0 0) [] := by
  subst hk; exact arr_empty (heap_alloc_at _ _) sz
theorem octets_world {w : World} {b : Nat} {x : FB} (h : FBAt w b x) (y z : Int) : FBAt ((w.setCell ⟨b, 11, none⟩ (.int .i64 y)).setCell ⟨b, 12, none⟩ (.int .i64 z)) b { x with left := y, room := z } := by
  have := heap_setCell_at (heap_setCell_at h (.int .i64 y) (i := 11)) (.int .i64 z) (i := 12)
  unfold FBAt
  simpa [frC] using this

set_option maxHeartbeats 1000000 in
set_option maxRecDepth 100000 in
theorem fr_octets (w : World) (b : Nat) (x : FB) (h : FBAt w b x) (left room : Nat) (hl : x.left = left) (hr : x.room = room) (hl2 : (left : Int) ≤ 9223372036854775807) (hr2 : (room : Int) ≤ 9223372036854775807) (bv : Value) (bs : List UInt8) (hbs : Rd w bv 1 (bvs bs)) (hsep : ∀ k, bv.ownBlock = some k → k ≠ b) (hlen : bs.length ≤ 1099511627776) (n told : Nat) (hn : n = minN bs.length left) (htd : told = minN n room) :
    Calls Try.prog 44 #[.pointer (some ⟨b, 0, none⟩), bv] w fun r w' => ∃ v', r = .returned (.tuple #[.int .i64 n, itV (octIt bs n told left) v']) ∧
      FBAt w' b { x with left := (left - n : Nat), room := (room - told : Nat) } ∧ Arr w' 5 1 v' (bvs (octIt bs n told left).bytes) ∧ (∀ k, v'.ownBlock = some k → w.heap.size ≤ k) ∧ Chg (· = b) w w' := by
  obtain ⟨c1, c2, c6, c7, c8, c9, c10, c11, c12, f⟩ := h.facts
  obtain ⟨i0, hi, hz0, hz1, hz2⟩ := info_parts Try.infoByte
  obtain ⟨ao, nn, cap, rfl, _, hc1, hc2, hc3, _⟩ := hbs.shape
  obtain rfl : bs.length = nn := hbs.len.symm
  have hb := lt_of_block h
  rw [hl] at c11
  rw [hr] at c12
  obtain ⟨n1, n2⟩ := minN_le bs.length left
  obtain ⟨n3, n4⟩ := minN_le n room
  rw [← hn] at n1 n2
  rw [← htd] at n3 n4
  have H := Lib.hid h
  have HBS := Lib.hid hbs
  have HSEP := Lib.hid hsep
  have HL := Lib.hid hl
  have HR := Lib.hid hr
  have HCH : Hid (∀ (y z : Value) (o1 o2 : Obj), Chg (· = b) w ((((w.setCell ⟨b, 11, none⟩ y).setCell ⟨b, 12, none⟩ z).alloc o1).alloc o2)) := Lib.hid (fun _ _ _ _ => ((((Chg.refl (· = b) w).set (fun _ => rfl) _).set (fun _ => rfl) _).alloc _).alloc _)
  have e1 : minN bs.length left = n := hn.symm
  have e2 : minN n room = told := htd.symm
  clear h hbs hsep hl hr c1 c2 c6 c7 c8 c9 c10 hn htd
  by_cases ht : 0 < told
  · have ht' : (0 : Int) < told := by omega
    have HI : Hid (octIt bs n told left = It.body (bs.take told)) := Lib.hid (by rw [octIt, if_pos ht])
    clear ht
    go_enter Try.func44, Try.ntmps44
    go_wp2_with (at_builtin; refine wpList_append_arr _ rfl _ _ 24 24 rfl 5 i0 (.int .u8 0) 1 1 Try.underlying24 hi hz0 hz1 hz2 rfl (by decide) _ [] rfl (arr_empty_new _ _ (by simp) _ 1) (.slice ao told cap) rfl told (bvs (bs.take told)) ?c1 ?c2 ?c3 ?c4)
    case c1 => exact ((HBS.out.kept (HCH.out _ _ _ _) (fun _ k hk e => HSEP.out k hk e)).first told (by omega)).src (bvs_one _) Try.underlying24
    case c2 => simp; unfold maxLen; omega
    case c3 => simp; omega
    case c4 =>
      intro v2 w2 ha hc ho
      have hsz := (HCH.out (.int .i64 ((left : Int) - n)) (.int .i64 ((room : Int) - told)) (.cells itm5 35) (.cells #[] 5))
      have HX := Lib.hid (octets_world H.out ((left : Int) - n) ((room : Int) - told))
      have hfb := (((octets_world H.out ((left : Int) - n) ((room : Int) - told)).kept ((Chg.refl (fun _ => False) _).alloc (.cells itm5 35)) (fun h => h)).kept ((Chg.refl (fun _ => False) _).alloc (.cells #[] 5)) (fun h => h)).kept hc (fun e => by simp [Value.ownBlock] at e; omega)
      have hit : w2.heap[w.heap.size]? = some (.cells itm5 35 (0, 0)) := hc.obj (heap_alloc_lt _ _ (by rw [show w.heap.size = ((w.setCell ⟨b, 11, none⟩ (.int .i64 ((left : Int) - n))).setCell ⟨b, 12, none⟩ (.int .i64 ((room : Int) - told))).heap.size from by simp]; exact heap_alloc_at _ _)) (fun e => by simp [Value.ownBlock] at e)
      have hal := hsz.trans hc (fun i hi e => by simp [Value.ownBlock] at e; omega)
      obtain ⟨x0, x1, x2, x3, x4, xf⟩ := cells5 hit
      have hv : ∀ k, v2.ownBlock = some k → w.heap.size < k := by
        intro k hk
        rcases ho with e | e
        · rw [e] at hk; simp [Value.ownBlock] at hk; omega
        · rw [e] at hk; simp at hk; omega
      have HF := Lib.hid hfb
      have HA := Lib.hid ha
      have HV := Lib.hid hv
      have HW := Lib.hid hal
      have hw2 := lt_of_block hit
      obtain ⟨a2, m2, p2, rfl, _⟩ := ha.shape
      clear hsz HX hfb hit ha hc ho hv hal
      go_wp2
      refine bodyPost_ret (v := .tuple #[.int .i64 n, itV (It.body (bs.take told)) (.slice a2 m2 p2)]) ?_ rfl ⟨.slice a2 m2 p2, by rw [HI.out], ?_, ?_, fun k hk => Nat.le_of_lt (HV.out k hk), ?_⟩
      · simp [results, Try.results44, go_sem, itV, It.body, x0, x1, x2, x3, x4]
      · rw [show (((left - n : Nat)) : Int) = (left : Int) - n from by omega, show (((room - told : Nat)) : Int) = (room : Int) - told from by omega]
        exact HF.out.kept (five_sets _ _ _ _ _ _ _) (fun e => by omega)
      · rw [HI.out]; exact HA.out.kept (five_sets _ _ _ _ _ _ _) (fun k hk e => by have := HV.out k hk; omega)
      · exact HW.out.trans (five_sets _ _ _ _ _ _ _) (fun i hi e => by omega)
  · have ht' : ¬ (0 : Int) < told := by omega
    by_cases hz : left - n = 0
    · have hz' : ((left : Int) - n == 0) = true := by simp; omega
      have HI : Hid (octIt bs n told left = ⟨4, [], [], 0, false⟩) := Lib.hid (by rw [octIt, if_neg ht, if_pos hz])
      clear ht hz
      go_enter Try.func44, Try.ntmps44
      go_wp2
      refine bodyPost_ret (v := .tuple #[.int .i64 n, itV ⟨4, [], [], 0, false⟩ (.slice none 0 0)]) ?_ rfl ⟨.slice none 0 0, by rw [HI.out], ?_, ?_, fun k hk => by simp [Value.ownBlock] at hk, ?_⟩
      · simp [results, Try.results44, go_sem, itV]
      · rw [show (((left - n : Nat)) : Int) = (left : Int) - n from by omega, show (((room - told : Nat)) : Int) = (room : Int) - told from by omega]
        exact (octets_world H.out ((left : Int) - n) ((room : Int) - told)).kept ((Chg.refl (fun _ => False) _).alloc _) (fun h => h)
      · rw [HI.out]; exact Arr.nil _ _ _
      · exact (((Chg.refl (· = b) w).set (fun _ => rfl) _).set (fun _ => rfl) _).alloc _
    · have hz' : ((left : Int) - n == 0) = false := by simp; omega
      have HI : Hid (octIt bs n told left = It.none) := Lib.hid (by rw [octIt, if_neg ht, if_neg hz])
      clear ht hz
      go_enter Try.func44, Try.ntmps44
      go_wp2
      refine bodyPost_ret (v := .tuple #[.int .i64 n, itV It.none (.slice none 0 0)]) ?_ rfl ⟨.slice none 0 0, by rw [HI.out], ?_, ?_, fun k hk => by simp [Value.ownBlock] at hk, ?_⟩
      · simp [results, Try.results44, go_sem, itV, It.none]
      · rw [show (((left - n : Nat)) : Int) = (left : Int) - n from by omega, show (((room - told : Nat)) : Int) = (room : Int) - told from by omega]
        exact (octets_world H.out ((left : Int) - n) ((room : Int) - told)).kept ((Chg.refl (fun _ => False) _).alloc _) (fun h => h)
      · rw [HI.out]; exact Arr.nil _ _ _
      · exact (((Chg.refl (· = b) w).set (fun _ => rfl) _).set (fun _ => rfl) _).alloc _
end Go.Proofs.Ytnjloldhmjadoaa
