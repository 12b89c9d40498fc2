/- Walks of the dotted reader's small methods: New, put, end, Held. No condition but what each states. -/
import Derived.Test.YtmenphpilckphaaDoorDtB
import Derived.Test.YtmenphpilckphaaDoorFpr
import Derived.Test.YtmenphpilckphaaDoorDtSpec
namespace Go.Proofs.YtmenphpilckphaaDoor
open Go Go.RowKit Dt

theorem Chg.setNew {S : Nat → Prop} {a w : World} {p : Addr} {u : Value} (h : Chg S a w) (hp : a.heap.size ≤ p.block) : Chg S a (w.setCell p u) := h.set (fun e => by omega) u
def rdrC (text all : Nat) (d : DS) (wt : Bool) : Array Value := #[.bool true, .bool wt, .int .i64 text, .int .i64 all, .int .i64 d.st, .int .i64 d.line, .int .i64 d.size, .bool d.bare, .bool d.long, .bool d.high]
/-- The reader in block b. -/
structure RdrAt (w : World) (b text all : Nat) (d : DS) (wt : Bool) : Prop where
  blk : w.heap[b]? = some (.cells (rdrC text all d wt) 66 (0, 0))
  le : d.line ≤ d.size
theorem RdrAt.kept {S : Nat → Prop} {w w' : World} {b text all : Nat} {d : DS} {wt : Bool} (h : RdrAt w b text all d wt) (c : Chg S w w') (hb : ¬ S b) : RdrAt w' b text all d wt := ⟨c.obj h.blk hb, h.le⟩
theorem RdrAt.facts {w : World} {b text all : Nat} {d : DS} {wt : Bool} (h : RdrAt w b text all d wt) :
    w.cell? ⟨b, 0, none⟩ = some (.bool true) ∧ w.cell? ⟨b, 1, none⟩ = some (.bool wt) ∧ w.cell? ⟨b, 2, none⟩ = some (.int .i64 text) ∧ w.cell? ⟨b, 3, none⟩ = some (.int .i64 all) ∧ w.cell? ⟨b, 4, none⟩ = some (.int .i64 d.st) ∧ w.cell? ⟨b, 5, none⟩ = some (.int .i64 d.line) ∧ w.cell? ⟨b, 6, none⟩ = some (.int .i64 d.size) ∧
    w.cell? ⟨b, 7, none⟩ = some (.bool d.bare) ∧ w.cell? ⟨b, 8, none⟩ = some (.bool d.long) ∧ w.cell? ⟨b, 9, none⟩ = some (.bool d.high) ∧ ∀ i, w.frozen? ⟨b, i, none⟩ = false := by
  have c := fun i => cell_of_blk h.blk i
  exact ⟨c 0, c 1, c 2, c 3, c 4, c 5, c 6, c 7, c 8, c 9, fun i => free_of_blk h.blk i⟩

theorem dots_new (text all : Nat) (w : World) (h1 : 1 ≤ text) (h2 : text ≤ 16777216) (h3 : 1 ≤ all) (h4 : all ≤ 16777216) :
    Calls Tryd.prog 12 #[.int .i64 text, .int .i64 all] w fun r w' => r = .returned (.tuple #[.pointer (some ⟨w.heap.size, 0, none⟩), .int .i64 0]) ∧ RdrAt w' w.heap.size text all DS.new false ∧ Chg (fun _ => False) w w' := by
  have t1 : ¬ (text : Int) < 1 := by omega
  have t2 : ¬ (16777216 : Int) < text := by omega
  have t3 : ¬ (all : Int) < 1 := by omega
  have t4 : ¬ (16777216 : Int) < all := by omega
  go_enter Tryd.func12, Tryd.ntmps12
  go_wp2
  go_ret2
  exact ⟨rfl, ⟨heap_alloc_at _ _, Nat.le_refl _⟩, (Chg.refl _ w).alloc _⟩
theorem dots_new_no (text all : Int) (w : World) (h : text < 1 ∨ 16777216 < text ∨ all < 1 ∨ 16777216 < all) :
    Calls Tryd.prog 12 #[.int .i64 text, .int .i64 all] w fun r w' => r = .returned (.tuple #[.pointer none, .int .i64 2]) ∧ w = w' := by
  by_cases a1 : text < 1
  · go_enter Tryd.func12, Tryd.ntmps12
    go_wp2
    go_ret2
    exact ⟨rfl, rfl⟩
  by_cases a2 : 16777216 < text
  · go_enter Tryd.func12, Tryd.ntmps12
    go_wp2
    go_ret2
    exact ⟨rfl, rfl⟩
  by_cases a3 : all < 1
  · go_enter Tryd.func12, Tryd.ntmps12
    go_wp2
    go_ret2
    exact ⟨rfl, rfl⟩
  · have a4 : 16777216 < all := by omega
    go_enter Tryd.func12, Tryd.ntmps12
    go_wp2
    go_ret2
    exact ⟨rfl, rfl⟩

theorem dots_held (w : World) (b text all : Nat) (d : DS) (wt : Bool) (h : RdrAt w b text all d wt) :
    Calls Tryd.prog 30 #[.pointer (some ⟨b, 0, none⟩)] w fun r w' => r = .returned (.int .i64 (RS.held ⟨d, wt⟩)) ∧ w = w' := by
  obtain ⟨c0, c1, c2, c3, c4, c5, c6, c7, c8, c9, f⟩ := h.facts
  clear h
  unfold RS.held
  by_cases h1 : d.st = 1
  · have t1 : ((d.st : Int) == 1) = true := by rw [h1]; rfl
    rw [if_pos h1]
    clear h1
    go_enter Tryd.func30, Tryd.ntmps30
    go_wp2
    go_ret
    exact ⟨rfl, rfl⟩
  · have t1 : ((d.st : Int) == 1) = false := by simp; omega
    rw [if_neg h1]
    by_cases h2 : d.st = 2
    · have t2 : ((d.st : Int) == 2) = true := by rw [h2]; rfl
      rw [if_pos h2]
      clear h1 h2
      go_enter Tryd.func30, Tryd.ntmps30
      go_wp2
      go_ret
      exact ⟨rfl, rfl⟩
    · have t2 : ((d.st : Int) == 2) = false := by simp; omega
      rw [if_neg h2]
      clear h1 h2
      go_enter Tryd.func30, Tryd.ntmps30
      go_wp2
      go_ret
      exact ⟨rfl, rfl⟩

/-- An item's value, its bytes' slice in hand. -/
def itV (i : It) (v : Value) : Value := .agg #[.int .i64 i.kind, .string ⟨i.text.toArray⟩, v, .int .i64 i.why, .bool i.high]
theorem dots_end (w : World) (b text all : Nat) (d : DS) (wt : Bool) (h : RdrAt w b text all d wt) :
    Calls Tryd.prog 50 #[.pointer (some ⟨b, 0, none⟩)] w fun r w' => r = .returned (itV (d.end all) (.slice none 0 0)) ∧ Chg (fun _ => False) w w' := by
  have hb := lt_of_block h.blk
  obtain ⟨c0, c1, c2, c3, c4, c5, c6, c7, c8, c9, f⟩ := h.facts
  clear h
  unfold DS.end itV
  cases h1 : d.bare
  · rw [h1] at c7
    cases h2 : d.long
    · rw [h2] at c8
      by_cases h3 : all < d.size
      · have t3 : (all : Int) < d.size := by omega
        have HE : Hid ((if all < d.size then (150 : Int) else 0) = 150) := Lib.hid (if_pos h3)
        clear h3
        go_enter Tryd.func50, Tryd.ntmps50
        go_wp2
        go_quiet (fail)
        go_wp2
        refine bodyPost_ret (v := .agg #[.int .i64 4, .string ⟨#[]⟩, .slice none 0 0, .int .i64 150, .bool d.high]) ?_ rfl ⟨by first | rfl | (rw [HE.out]; rfl), ?_⟩
        · simp [results, Tryd.results50, go_sem]
        · repeat' (with_reducible first | exact Chg.refl _ _ | refine Chg.drewN ?_ _ | refine Chg.alloc ?_ _ | refine Chg.setNew ?_ ?_)
          all_goals simp
      · have t3 : ¬ (all : Int) < d.size := by omega
        have HE : Hid ((if all < d.size then (150 : Int) else 0) = 0) := Lib.hid (if_neg h3)
        clear h3
        go_enter Tryd.func50, Tryd.ntmps50
        go_wp2
        go_quiet (fail)
        go_wp2
        refine bodyPost_ret (v := .agg #[.int .i64 4, .string ⟨#[]⟩, .slice none 0 0, .int .i64 0, .bool d.high]) ?_ rfl ⟨by first | rfl | (rw [HE.out]; rfl), ?_⟩
        · simp [results, Tryd.results50, go_sem]
        · repeat' (with_reducible first | exact Chg.refl _ _ | refine Chg.drewN ?_ _ | refine Chg.alloc ?_ _ | refine Chg.setNew ?_ ?_)
          all_goals simp
    · rw [h2] at c8
      go_enter Tryd.func50, Tryd.ntmps50
      go_wp2
      refine bodyPost_ret (v := .agg #[.int .i64 4, .string ⟨#[]⟩, .slice none 0 0, .int .i64 140, .bool d.high]) ?_ rfl ⟨rfl, ?_⟩
      · simp [results, Tryd.results50, go_sem]
      · exact (((Chg.refl _ w).alloc _).alloc _)
  · rw [h1] at c7
    go_enter Tryd.func50, Tryd.ntmps50
    go_wp2
    refine bodyPost_ret (v := .agg #[.int .i64 4, .string ⟨#[]⟩, .slice none 0 0, .int .i64 130, .bool d.high]) ?_ rfl ⟨rfl, ?_⟩
    · simp [results, Tryd.results50, go_sem]
    · exact (((Chg.refl _ w).alloc _).alloc _)

/-- How a slice of one's own stands to one before it: the same block, or a new one. -/
def OwnNew (w : World) (v v' : Value) : Prop := v'.ownBlock = v.ownBlock ∨ ∃ k, v'.ownBlock = some k ∧ w.heap.size ≤ k
theorem OwnNew.refl (w : World) (v : Value) : OwnNew w v v := .inl rfl
theorem OwnNew.trans {w w' : World} {u v v' : Value} (h : OwnNew w u v) (g : OwnNew w' v v') (hs : w.heap.size ≤ w'.heap.size) : OwnNew w u v' := by
  rcases g with g | ⟨k, g, hk⟩
  · rcases h with h | ⟨k, h, hk⟩
    · exact .inl (g.trans h)
    · exact .inr ⟨k, g.trans h, hk⟩
  · exact .inr ⟨k, g, by omega⟩
theorem OwnNew.ne {w : World} {v v' : Value} (h : OwnNew w v v') {b : Nat} (hb : b < w.heap.size) (hv : v.ownBlock ≠ some b) : v'.ownBlock ≠ some b := by
  rcases h with h | ⟨k, h, hk⟩
  · rw [h]; exact hv
  · rw [h]; intro e; injection e with e; omega

/-- What put leaves. -/
structure PutPost (w w' : World) (b text all : Nat) (d : DS) (wt : Bool) (v v' : Value) (o : List UInt8) : Prop where
  rdr : RdrAt w' b text all d wt
  arr : Arr w' 5 1 v' (bvs o)
  own : OwnNew w v v'
  chg : Chg (fun k => k = b ∨ some k = v.ownBlock) w w'

theorem put_world {w : World} {b text all : Nat} {d : DS} {wt : Bool} (h : RdrAt w b text all d wt) (c : UInt8) :
    RdrAt (((w.setCell ⟨b, 5, none⟩ (.int .i64 ((d.line : Int) + 1))).setCell ⟨b, 6, none⟩ (.int .i64 ((d.size : Int) + 1))).setCell ⟨b, 9, none⟩ (.bool (d.high || decide (127 < c.toNat)))) b text all (d.put c) wt := by
  refine ⟨?_, by have := h.le; simp [DS.put]; omega⟩
  have := heap_setCell_at (heap_setCell_at (heap_setCell_at h.blk (.int .i64 ((d.line : Int) + 1)) (i := 5)) (.int .i64 ((d.size : Int) + 1)) (i := 6)) (.bool (d.high || decide (127 < c.toNat))) (i := 9)
  simpa [rdrC, DS.put] using this

set_option maxHeartbeats 1000000 in
set_option maxRecDepth 100000 in
theorem dots_put (w : World) (b text all : Nat) (d : DS) (wt : Bool) (h : RdrAt w b text all d wt) (c : UInt8) (v : Value) (o : List UInt8) (ha : Arr w 5 1 v (bvs o)) (hne : v.ownBlock ≠ some b) (hs : d.size ≤ 1099511627776) (ho : o.length ≤ 1099511627776) :
    Calls Tryd.prog 58 #[.pointer (some ⟨b, 0, none⟩), .int .u8 c.toNat, v] w fun r w' => ∃ v', r = .returned v' ∧ PutPost w w' b text all (d.put c) wt v v' (o ++ ([c] : List UInt8).take (all - d.size)) := by
  obtain ⟨i0, hi, hz0, hz1, hz2⟩ := info_parts Tryd.infoByte
  have hb := lt_of_block h.blk
  obtain ⟨c0, c1, c2, c3, c4, c5, c6, c7, c8, c9, f⟩ := h.facts
  have hle := h.le
  have PW := Lib.hid (put_world h c)
  have HA := Lib.hid ha
  have HNE := Lib.hid hne
  have HW : Hid (∀ x y z : Value, Chg (· = b) w (((w.setCell ⟨b, 5, none⟩ x).setCell ⟨b, 6, none⟩ y).setCell ⟨b, 9, none⟩ z)) := Lib.hid (fun _ _ _ => (((Chg.refl (· = b) w).set (fun _ => rfl) _).set (fun _ => rfl) _).set (fun _ => rfl) _)
  clear h ha hne
  have hx : decide ((127 : Int) < c.toNat) = decide (127 < c.toNat) := by rw [decide_eq_decide]; omega
  have HX := Lib.hid hx
  clear hx
  have hmx : 1099511627777 ≤ maxLen := by decide
  have HB1 : Hid ((bvs o).length / 1 + 1 ≤ maxLen) := Lib.hid (by rw [bvs_length]; omega)
  have HB2 : Hid (((bvs o).length / 1 + 1) * 1 ≤ 140737488355328) := Lib.hid (by rw [bvs_length]; omega)
  cases hh : d.high
  all_goals
    rw [hh] at c9 PW
    by_cases hal : all < d.size + 1
    · have t1 : (all : Int) < (d.size : Int) + 1 := by omega
      have HK : Hid (([c] : List UInt8).take (all - d.size) = []) := Lib.hid (by rw [show all - d.size = 0 from by omega]; rfl)
      clear hal
      go_enter Tryd.func58, Tryd.ntmps58
      go_wp2
      go_quiet (fail)
      go_wp2
      go_ret
      refine ⟨v, rfl, ?_⟩
      rw [HK.out, List.append_nil]
      have pw := PW.out
      simp only [Bool.true_or, Bool.false_or] at pw
      first
        | exact ⟨pw.kept ((Chg.refl (fun _ => False) _).drewN _) (fun h => h), HA.out.kept ((HW.out _ _ _).drewN _) (fun k hk e => HNE.out (by rw [hk, e])), .refl _ _, ((HW.out _ _ _).drewN _).mono (fun _ _ e => .inl e)⟩
        | (rw [HX.out]; exact ⟨pw.kept ((Chg.refl (fun _ => False) _).drewN _) (fun h => h), HA.out.kept ((HW.out _ _ _).drewN _) (fun k hk e => HNE.out (by rw [hk, e])), .refl _ _, ((HW.out _ _ _).drewN _).mono (fun _ _ e => .inl e)⟩)
    · have t1 : ¬ (all : Int) < (d.size : Int) + 1 := by omega
      have HK : Hid (([c] : List UInt8).take (all - d.size) = [c]) := Lib.hid (by obtain ⟨n, hn⟩ : ∃ n, all - d.size = n + 1 := ⟨all - d.size - 1, by omega⟩; rw [hn]; simp)
      clear hal
      go_enter Tryd.func58, Tryd.ntmps58
      go_wp2
      go_quiet (fail)
      go_wp2_with (at_builtin; refine wpList_append_arr _ rfl _ _ 22 22 rfl 5 i0 (.int .u8 0) 1 1 Tryd.underlying22 hi hz0 hz1 hz2 rfl (by decide) v (bvs o) rfl (HA.out.kept (((HW.out _ _ _).drewN _).alloc _) (fun k hk e => HNE.out (by rw [hk, e]))) _ rfl 1 (bvs [c]) (src_byte (cell_alloc_eq (by simp) rfl)) HB1.out HB2.out ?s4)
      case s4 =>
        intro v2 w2 ha2 hc2 ho2
        have pw := PW.out
        simp only [Bool.true_or, Bool.false_or] at pw
        try rw [← HX.out] at pw
        have pd := (pw.kept ((Chg.refl (fun _ => False) _).drewN nq) (fun h => h)).kept ((Chg.refl (fun _ => False) _).alloc (.cells #[.int .u8 c.toNat] 5)) (fun h => h)
        have p2 := Lib.hid (pd.kept hc2 (fun e => HNE.out e.symm))
        have A2 := Lib.hid ha2
        have O2 := Lib.hid ho2
        have C2 := Lib.hid (((((HW.out _ _ _).drewN nq).alloc (.cells #[.int .u8 c.toNat] 5)).mono (T := fun k => k = b ∨ some k = v.ownBlock) (fun _ _ e => .inl e)).trans hc2 (fun _ _ e => .inr e))
        obtain ⟨a2, n2, cap2, rfl, _⟩ := ha2.shape
        clear pw pd ha2 hc2 ho2
        go_wp2
        go_ret
        refine ⟨_, rfl, ?_⟩
        rw [HK.out]
        refine ⟨p2.out, by rw [bvs_append]; exact A2.out, ?_, C2.out⟩
        rcases O2.out with e | e
        · exact .inl e
        · exact .inr ⟨_, e, by simp⟩
end Go.Proofs.YtmenphpilckphaaDoor
