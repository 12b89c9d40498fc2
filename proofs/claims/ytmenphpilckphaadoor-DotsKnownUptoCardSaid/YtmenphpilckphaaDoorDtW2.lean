/- The walk of the dotted reader's step. Conditions as stated. -/
import Derived.Test.YtmenphpilckphaaDoorDtW1
import Derived.BigRegion
import Derived.ScopeJumps
import Derived.Deep.DeepCutAuto
namespace Go.Proofs.YtmenphpilckphaaDoor
set_option linter.unusedVariables false
set_option linter.unusedSimpArgs false
open Go Go.RowKit Dt

/-- A scope that jumps back once. -/
theorem wp_scope_once {P : Program} {a : Act} {w : World} {Q : Exit → Act → World → Prop} {c rest : Code} (l : Nat) (hf : findLabel c l = some rest)
    (first : c.wp P (Exit.jump l (fun a' w' => rest.wp P (Exit.jump l (fun _ _ => False) Q) a' w') Q) a w) : (Code.scope c).wp P Q a w :=
  wp_scope_jumps l (fun a' w' => rest.wp P (Exit.jump l (fun _ _ => False) Q) a' w') (fun _ _ => 0) hf first (fun a w h => wp_mono h (fun e a' w' hq => by
    cases e with
    | goto l' => exact ⟨hq.1, hq.2.elim⟩
    | _ => exact hq))

theorem setst_world {w : World} {b text all : Nat} {d : DS} {wt : Bool} (h : RdrAt w b text all d wt) (n : Nat) : RdrAt (w.setCell ⟨b, 4, none⟩ (.int .i64 n)) b text all ⟨n, d.line, d.size, d.bare, d.long, d.high⟩ wt := by
  refine ⟨?_, h.le⟩
  have := heap_setCell_at h.blk (.int .i64 n) (i := 4)
  simpa [rdrC] using this
theorem setbare_world {w : World} {b text all : Nat} {d : DS} {wt : Bool} (h : RdrAt w b text all d wt) (x : Bool) : RdrAt (w.setCell ⟨b, 7, none⟩ (.bool x)) b text all ⟨d.st, d.line, d.size, x, d.long, d.high⟩ wt := by
  refine ⟨?_, h.le⟩
  have := heap_setCell_at h.blk (.bool x) (i := 7)
  simpa [rdrC] using this
theorem PutPost.from {w w1 w2 : World} {b text all : Nat} {d : DS} {wt : Bool} {v v' : Value} {o : List UInt8} (p : PutPost w1 w2 b text all d wt v v' o) (c : Chg (· = b) w w1) : PutPost w w2 b text all d wt v v' o :=
  ⟨p.rdr, p.arr, by
    rcases p.own with h | ⟨k, h, hk⟩
    · exact .inl h
    · exact .inr ⟨k, h, by have := c.size; omega⟩, (c.mono (fun _ _ e => .inl e)).trans p.chg (fun _ _ e => e)⟩
theorem fin_plain (s : DS) (c : UInt8) (h1 : c ≠ 10) (h2 : c ≠ 13) : s.fin c = s.put c := by
  have e : (c == 10) = false := by simpa using h1
  simp [DS.fin, h2, e]
theorem fin_lf (s : DS) : s.fin 10 = DS.put ⟨s.st, s.line, s.size, true, s.long, s.high⟩ 10 := by simp [DS.fin]
theorem fin_cr (s : DS) : s.fin 13 = DS.put ⟨4, s.line, s.size, s.bare, s.long, s.high⟩ 13 := by
  have e : ((13 : UInt8) == 10) = false := rfl
  simp [DS.fin, e]
theorem byte_eq {c : UInt8} {n : Nat} (hn : n < 256) : ((c.toNat : Int) == (n : Int)) = decide (c = UInt8.ofNat n) := by
  rw [Bool.eq_iff_iff, beq_iff_eq, decide_eq_true_iff, ← UInt8.toNat_inj, UInt8.toNat_ofNat']
  omega

/-- What step leaves. -/
def StepPost (w : World) (b text all : Nat) (d : DS) (wt : Bool) (c : UInt8) (v : Value) (o : List UInt8) (r : Ending) (w' : World) : Prop :=
  ∃ v', r = .returned v' ∧ PutPost w w' b text all (d.step text c).1 wt v v' (o ++ (d.step text c).2.take (all - d.size))

set_option maxHeartbeats 1000000 in
set_option maxRecDepth 100000 in
theorem dots_step_e0 (w : World) (b text all : Nat) (d : DS) (wt : Bool) (h : RdrAt w b text all d wt) (c : UInt8) (v : Value) (o : List UInt8) (ha : Arr w 5 1 v (bvs o)) (hne : v.ownBlock ≠ some b) (hs : d.size ≤ 1099511627775) (ho : o.length ≤ 1099511627775) (s : d.st = 0) (hc : c = 46) :
    Calls Tryd.prog 51 #[.pointer (some ⟨b, 0, none⟩), .int .u8 c.toNat, v] w (StepPost w b text all d wt c v o) := by
  have hb := lt_of_block h.blk
  obtain ⟨c0, c1, c2, c3, c4, c5, c6, c7, c8, c9, f⟩ := h.facts
  have hle := h.le
  have H := Lib.hid h
  have HA := Lib.hid ha
  have HNE := Lib.hid hne
  clear h ha hne
  have t0 : ((d.st : Int) == 0) = true := by rw [s]; rfl
  have tc : ((c.toNat : Int) == 46) = true := by rw [hc]; rfl
  have HS : Hid (d.step text c = (⟨1, d.line, d.size, d.bare, d.long, d.high⟩, [])) := Lib.hid (by simp [DS.step, s, hc])
  clear s hc
  go_enter Tryd.func51, Tryd.ntmps51
  go_wp2
  go_step3
  go_wp2
  go_step3
  go_wp2
  rw [Exit.noGoto_ret]
  go_ret
  refine ⟨v, rfl, ?_⟩
  rw [HS.out, List.take_nil, List.append_nil]
  exact ⟨setst_world H.out 1, HA.out.kept ((Chg.refl (· = b) w).set (fun _ => rfl) _) (fun k hk e => HNE.out (by rw [hk, e])), .refl _ _, ((Chg.refl (· = b) w).set (fun _ => rfl) _).mono (fun _ _ e => .inl e)⟩

set_option maxHeartbeats 1000000 in
set_option maxRecDepth 100000 in
theorem dots_step_e1 (w : World) (b text all : Nat) (d : DS) (wt : Bool) (h : RdrAt w b text all d wt) (c : UInt8) (v : Value) (o : List UInt8) (ha : Arr w 5 1 v (bvs o)) (hne : v.ownBlock ≠ some b) (hs : d.size ≤ 1099511627775) (ho : o.length ≤ 1099511627775) (s : d.st = 1) (hc : c = 13) :
    Calls Tryd.prog 51 #[.pointer (some ⟨b, 0, none⟩), .int .u8 c.toNat, v] w (StepPost w b text all d wt c v o) := by
  have hb := lt_of_block h.blk
  obtain ⟨c0, c1, c2, c3, c4, c5, c6, c7, c8, c9, f⟩ := h.facts
  have hle := h.le
  have H := Lib.hid h
  have HA := Lib.hid ha
  have HNE := Lib.hid hne
  clear h ha hne
  have t0 : ((d.st : Int) == 0) = false := by rw [s]; rfl
  have t1 : ((d.st : Int) == 1) = true := by rw [s]; rfl
  have tc : ((c.toNat : Int) == 13) = true := by rw [hc]; rfl
  have HS : Hid (d.step text c = (⟨2, d.line, d.size, d.bare, d.long, d.high⟩, [])) := Lib.hid (by simp [DS.step, s, hc])
  clear s hc
  go_enter Tryd.func51, Tryd.ntmps51
  go_wp2
  go_step3
  go_wp2
  go_step3
  go_wp2
  rw [Exit.noGoto_ret]
  go_ret
  refine ⟨v, rfl, ?_⟩
  rw [HS.out, List.take_nil, List.append_nil]
  exact ⟨setst_world H.out 2, HA.out.kept ((Chg.refl (· = b) w).set (fun _ => rfl) _) (fun k hk e => HNE.out (by rw [hk, e])), .refl _ _, ((Chg.refl (· = b) w).set (fun _ => rfl) _).mono (fun _ _ e => .inl e)⟩

set_option maxHeartbeats 1000000 in
set_option maxRecDepth 100000 in
theorem dots_step_e2 (w : World) (b text all : Nat) (d : DS) (wt : Bool) (h : RdrAt w b text all d wt) (c : UInt8) (v : Value) (o : List UInt8) (ha : Arr w 5 1 v (bvs o)) (hne : v.ownBlock ≠ some b) (hs : d.size ≤ 1099511627775) (ho : o.length ≤ 1099511627775) (s : d.st = 2) (hc : c = 10) :
    Calls Tryd.prog 51 #[.pointer (some ⟨b, 0, none⟩), .int .u8 c.toNat, v] w (StepPost w b text all d wt c v o) := by
  have hb := lt_of_block h.blk
  obtain ⟨c0, c1, c2, c3, c4, c5, c6, c7, c8, c9, f⟩ := h.facts
  have hle := h.le
  have H := Lib.hid h
  have HA := Lib.hid ha
  have HNE := Lib.hid hne
  clear h ha hne
  have t0 : ((d.st : Int) == 0) = false := by rw [s]; rfl
  have t1 : ((d.st : Int) == 1) = false := by rw [s]; rfl
  have t2 : ((d.st : Int) == 2) = true := by rw [s]; rfl
  have tc : ((c.toNat : Int) == 10) = true := by rw [hc]; rfl
  have HS : Hid (d.step text c = (⟨5, d.line, d.size, d.bare, d.long, d.high⟩, [])) := Lib.hid (by simp [DS.step, s, hc])
  clear s hc
  go_enter Tryd.func51, Tryd.ntmps51
  go_wp2
  go_step3
  go_wp2
  go_step3
  go_wp2
  rw [Exit.noGoto_ret]
  go_ret
  refine ⟨v, rfl, ?_⟩
  rw [HS.out, List.take_nil, List.append_nil]
  exact ⟨setst_world H.out 5, HA.out.kept ((Chg.refl (· = b) w).set (fun _ => rfl) _) (fun k hk e => HNE.out (by rw [hk, e])), .refl _ _, ((Chg.refl (· = b) w).set (fun _ => rfl) _).mono (fun _ _ e => .inl e)⟩

set_option maxHeartbeats 1000000 in
set_option maxRecDepth 100000 in
theorem dots_step_f0pl (w : World) (b text all : Nat) (d : DS) (wt : Bool) (h : RdrAt w b text all d wt) (c : UInt8) (v : Value) (o : List UInt8) (ha : Arr w 5 1 v (bvs o)) (hne : v.ownBlock ≠ some b) (hs : d.size ≤ 1099511627775) (ho : o.length ≤ 1099511627775) (s : d.st = 0) (hn : c ≠ 46) (h10 : c ≠ 10) (h13 : c ≠ 13) :
    Calls Tryd.prog 51 #[.pointer (some ⟨b, 0, none⟩), .int .u8 c.toNat, v] w (StepPost w b text all d wt c v o) := by
  have hb := lt_of_block h.blk
  obtain ⟨c0, c1, c2, c3, c4, c5, c6, c7, c8, c9, f⟩ := h.facts
  have hle := h.le
  have H := Lib.hid h
  have HA := Lib.hid ha
  have HNE := Lib.hid hne
  clear h ha hne
  have t0 : ((d.st : Int) == 0) = true := by rw [s]; rfl
  have tn : ((c.toNat : Int) == 46) = false := by rw [show (46 : Int) = ((46 : Nat) : Int) from rfl, byte_eq (by decide)]; simpa using hn
  have t10 : ((c.toNat : Int) == 10) = false := byte_ne h10
  have t13 : ((c.toNat : Int) == 13) = false := byte_ne13 h13
  have HS : Hid (d.step text c = (DS.put ⟨3, d.line, d.size, d.bare, d.long, d.high⟩ c, [c])) := Lib.hid (by rw [show d.step text c = (DS.fin ⟨3, d.line, d.size, d.bare, d.long, d.high⟩ c, [c]) from by simp [DS.step, s, hn]]; rw [fin_plain _ _ h10 h13])
  have HC : Hid (c = c) := Lib.hid rfl
  clear s hn h10 h13
  go_enter Tryd.func51, Tryd.ntmps51
  go_wp2
  go_step3
  go_wp2
  go_step3
  go_wp2_with (go_at_call 58; refine (dots_put _ b text all ⟨3, d.line, d.size, d.bare, d.long, d.high⟩ wt (setst_world H.out 3) c v o (HA.out.kept (S := (· = b)) ((Chg.refl (· = b) w).set (fun _ => rfl) _) (fun k hk e => HNE.out (by rw [hk, e]))) HNE.out (by show d.size ≤ _; omega) (by omega)).mono ?_; rintro r w2 ⟨v2, rfl, hp⟩; have HP := Lib.hid hp; obtain ⟨a2, n2, cap2, rfl, _⟩ := hp.arr.shape; clear hp)
  rw [Exit.noGoto_ret]
  go_ret
  refine ⟨_, rfl, ?_⟩
  rw [HS.out]
  exact HP.out.from ((Chg.refl (· = b) w).set (fun _ => rfl) _)

set_option maxHeartbeats 1000000 in
set_option maxRecDepth 100000 in
theorem dots_step_f0lf (w : World) (b text all : Nat) (d : DS) (wt : Bool) (h : RdrAt w b text all d wt) (c : UInt8) (v : Value) (o : List UInt8) (ha : Arr w 5 1 v (bvs o)) (hne : v.ownBlock ≠ some b) (hs : d.size ≤ 1099511627775) (ho : o.length ≤ 1099511627775) (s : d.st = 0) (hn : c ≠ 46) (hc : c = 10) :
    Calls Tryd.prog 51 #[.pointer (some ⟨b, 0, none⟩), .int .u8 c.toNat, v] w (StepPost w b text all d wt c v o) := by
  have hb := lt_of_block h.blk
  obtain ⟨c0, c1, c2, c3, c4, c5, c6, c7, c8, c9, f⟩ := h.facts
  have hle := h.le
  have H := Lib.hid h
  have HA := Lib.hid ha
  have HNE := Lib.hid hne
  clear h ha hne
  have t0 : ((d.st : Int) == 0) = true := by rw [s]; rfl
  have tn : ((c.toNat : Int) == 46) = false := by rw [show (46 : Int) = ((46 : Nat) : Int) from rfl, byte_eq (by decide)]; simpa using hn
  have t10 : ((c.toNat : Int) == 10) = true := by rw [hc]; rfl
  have t13 : ((c.toNat : Int) == 13) = false := by rw [hc]; rfl
  have HS : Hid (d.step text c = (DS.put ⟨3, d.line, d.size, true, d.long, d.high⟩ c, [c])) := Lib.hid (by rw [show d.step text c = (DS.fin ⟨3, d.line, d.size, d.bare, d.long, d.high⟩ c, [c]) from by simp [DS.step, s, hn]]; rw [hc, fin_lf])
  have HC : Hid (c = c) := Lib.hid rfl
  clear s hn hc
  go_enter Tryd.func51, Tryd.ntmps51
  go_wp2
  go_step3
  go_wp2
  go_step3
  go_wp2_with (go_at_call 58; refine (dots_put _ b text all ⟨3, d.line, d.size, true, d.long, d.high⟩ wt (setbare_world (setst_world H.out 3) true) c v o (HA.out.kept (S := (· = b)) (((Chg.refl (· = b) w).set (fun _ => rfl) _).set (fun _ => rfl) _) (fun k hk e => HNE.out (by rw [hk, e]))) HNE.out (by show d.size ≤ _; omega) (by omega)).mono ?_; rintro r w2 ⟨v2, rfl, hp⟩; have HP := Lib.hid hp; obtain ⟨a2, n2, cap2, rfl, _⟩ := hp.arr.shape; clear hp)
  rw [Exit.noGoto_ret]
  go_ret
  refine ⟨_, rfl, ?_⟩
  rw [HS.out]
  exact HP.out.from (((Chg.refl (· = b) w).set (fun _ => rfl) _).set (fun _ => rfl) _)

set_option maxHeartbeats 1000000 in
set_option maxRecDepth 100000 in
theorem dots_step_f0cr (w : World) (b text all : Nat) (d : DS) (wt : Bool) (h : RdrAt w b text all d wt) (c : UInt8) (v : Value) (o : List UInt8) (ha : Arr w 5 1 v (bvs o)) (hne : v.ownBlock ≠ some b) (hs : d.size ≤ 1099511627775) (ho : o.length ≤ 1099511627775) (s : d.st = 0) (hn : c ≠ 46) (hc : c = 13) :
    Calls Tryd.prog 51 #[.pointer (some ⟨b, 0, none⟩), .int .u8 c.toNat, v] w (StepPost w b text all d wt c v o) := by
  have hb := lt_of_block h.blk
  obtain ⟨c0, c1, c2, c3, c4, c5, c6, c7, c8, c9, f⟩ := h.facts
  have hle := h.le
  have H := Lib.hid h
  have HA := Lib.hid ha
  have HNE := Lib.hid hne
  clear h ha hne
  have t0 : ((d.st : Int) == 0) = true := by rw [s]; rfl
  have tn : ((c.toNat : Int) == 46) = false := by rw [show (46 : Int) = ((46 : Nat) : Int) from rfl, byte_eq (by decide)]; simpa using hn
  have t10 : ((c.toNat : Int) == 10) = false := by rw [hc]; rfl
  have t13 : ((c.toNat : Int) == 13) = true := by rw [hc]; rfl
  have HS : Hid (d.step text c = (DS.put ⟨4, d.line, d.size, d.bare, d.long, d.high⟩ c, [c])) := Lib.hid (by rw [show d.step text c = (DS.fin ⟨3, d.line, d.size, d.bare, d.long, d.high⟩ c, [c]) from by simp [DS.step, s, hn]]; rw [hc, fin_cr])
  have HC : Hid (c = c) := Lib.hid rfl
  clear s hn hc
  go_enter Tryd.func51, Tryd.ntmps51
  go_wp2
  go_step3
  go_wp2
  go_step3
  go_wp2_with (go_at_call 58; refine (dots_put _ b text all ⟨4, d.line, d.size, d.bare, d.long, d.high⟩ wt (setst_world (setst_world H.out 3) 4) c v o (HA.out.kept (S := (· = b)) (((Chg.refl (· = b) w).set (fun _ => rfl) _).set (fun _ => rfl) _) (fun k hk e => HNE.out (by rw [hk, e]))) HNE.out (by show d.size ≤ _; omega) (by omega)).mono ?_; rintro r w2 ⟨v2, rfl, hp⟩; have HP := Lib.hid hp; obtain ⟨a2, n2, cap2, rfl, _⟩ := hp.arr.shape; clear hp)
  rw [Exit.noGoto_ret]
  go_ret
  refine ⟨_, rfl, ?_⟩
  rw [HS.out]
  exact HP.out.from (((Chg.refl (· = b) w).set (fun _ => rfl) _).set (fun _ => rfl) _)

set_option maxHeartbeats 1000000 in
set_option maxRecDepth 100000 in
theorem dots_step_f1pl (w : World) (b text all : Nat) (d : DS) (wt : Bool) (h : RdrAt w b text all d wt) (c : UInt8) (v : Value) (o : List UInt8) (ha : Arr w 5 1 v (bvs o)) (hne : v.ownBlock ≠ some b) (hs : d.size ≤ 1099511627775) (ho : o.length ≤ 1099511627775) (s : d.st = 1) (hn : c ≠ 13) (h10 : c ≠ 10) :
    Calls Tryd.prog 51 #[.pointer (some ⟨b, 0, none⟩), .int .u8 c.toNat, v] w (StepPost w b text all d wt c v o) := by
  have hb := lt_of_block h.blk
  obtain ⟨c0, c1, c2, c3, c4, c5, c6, c7, c8, c9, f⟩ := h.facts
  have hle := h.le
  have H := Lib.hid h
  have HA := Lib.hid ha
  have HNE := Lib.hid hne
  clear h ha hne
  have t0 : ((d.st : Int) == 0) = false := by rw [s]; rfl
  have t1 : ((d.st : Int) == 1) = true := by rw [s]; rfl
  have tn : ((c.toNat : Int) == 13) = false := by rw [show (13 : Int) = ((13 : Nat) : Int) from rfl, byte_eq (by decide)]; simpa using hn
  have t10 : ((c.toNat : Int) == 10) = false := byte_ne h10
  have HS : Hid (d.step text c = (DS.put ⟨3, d.line, d.size, d.bare, d.long, d.high⟩ c, [c])) := Lib.hid (by rw [show d.step text c = (DS.fin ⟨3, d.line, d.size, d.bare, d.long, d.high⟩ c, [c]) from by simp [DS.step, s, hn]]; rw [fin_plain _ _ h10 hn])
  have HC : Hid (c = c) := Lib.hid rfl
  clear s hn h10
  go_enter Tryd.func51, Tryd.ntmps51
  go_wp2
  go_step3
  go_wp2
  go_step3
  go_wp2_with (go_at_call 58; refine (dots_put _ b text all ⟨3, d.line, d.size, d.bare, d.long, d.high⟩ wt (setst_world H.out 3) c v o (HA.out.kept (S := (· = b)) ((Chg.refl (· = b) w).set (fun _ => rfl) _) (fun k hk e => HNE.out (by rw [hk, e]))) HNE.out (by show d.size ≤ _; omega) (by omega)).mono ?_; rintro r w2 ⟨v2, rfl, hp⟩; have HP := Lib.hid hp; obtain ⟨a2, n2, cap2, rfl, _⟩ := hp.arr.shape; clear hp)
  rw [Exit.noGoto_ret]
  go_ret
  refine ⟨_, rfl, ?_⟩
  rw [HS.out]
  exact HP.out.from ((Chg.refl (· = b) w).set (fun _ => rfl) _)

set_option maxHeartbeats 1000000 in
set_option maxRecDepth 100000 in
theorem dots_step_f1lf (w : World) (b text all : Nat) (d : DS) (wt : Bool) (h : RdrAt w b text all d wt) (c : UInt8) (v : Value) (o : List UInt8) (ha : Arr w 5 1 v (bvs o)) (hne : v.ownBlock ≠ some b) (hs : d.size ≤ 1099511627775) (ho : o.length ≤ 1099511627775) (s : d.st = 1) (hn : c ≠ 13) (hc : c = 10) :
    Calls Tryd.prog 51 #[.pointer (some ⟨b, 0, none⟩), .int .u8 c.toNat, v] w (StepPost w b text all d wt c v o) := by
  have hb := lt_of_block h.blk
  obtain ⟨c0, c1, c2, c3, c4, c5, c6, c7, c8, c9, f⟩ := h.facts
  have hle := h.le
  have H := Lib.hid h
  have HA := Lib.hid ha
  have HNE := Lib.hid hne
  clear h ha hne
  have t0 : ((d.st : Int) == 0) = false := by rw [s]; rfl
  have t1 : ((d.st : Int) == 1) = true := by rw [s]; rfl
  have tn : ((c.toNat : Int) == 13) = false := by rw [show (13 : Int) = ((13 : Nat) : Int) from rfl, byte_eq (by decide)]; simpa using hn
  have t10 : ((c.toNat : Int) == 10) = true := by rw [hc]; rfl
  have HS : Hid (d.step text c = (DS.put ⟨3, d.line, d.size, true, d.long, d.high⟩ c, [c])) := Lib.hid (by rw [show d.step text c = (DS.fin ⟨3, d.line, d.size, d.bare, d.long, d.high⟩ c, [c]) from by simp [DS.step, s, hn]]; rw [hc, fin_lf])
  have HC : Hid (c = c) := Lib.hid rfl
  clear s hn hc
  go_enter Tryd.func51, Tryd.ntmps51
  go_wp2
  go_step3
  go_wp2
  go_step3
  go_wp2_with (go_at_call 58; refine (dots_put _ b text all ⟨3, d.line, d.size, true, d.long, d.high⟩ wt (setbare_world (setst_world H.out 3) true) c v o (HA.out.kept (S := (· = b)) (((Chg.refl (· = b) w).set (fun _ => rfl) _).set (fun _ => rfl) _) (fun k hk e => HNE.out (by rw [hk, e]))) HNE.out (by show d.size ≤ _; omega) (by omega)).mono ?_; rintro r w2 ⟨v2, rfl, hp⟩; have HP := Lib.hid hp; obtain ⟨a2, n2, cap2, rfl, _⟩ := hp.arr.shape; clear hp)
  rw [Exit.noGoto_ret]
  go_ret
  refine ⟨_, rfl, ?_⟩
  rw [HS.out]
  exact HP.out.from (((Chg.refl (· = b) w).set (fun _ => rfl) _).set (fun _ => rfl) _)

set_option maxHeartbeats 1000000 in
set_option maxRecDepth 100000 in
theorem dots_step_f4pl (w : World) (b text all : Nat) (d : DS) (wt : Bool) (h : RdrAt w b text all d wt) (c : UInt8) (v : Value) (o : List UInt8) (ha : Arr w 5 1 v (bvs o)) (hne : v.ownBlock ≠ some b) (hs : d.size ≤ 1099511627775) (ho : o.length ≤ 1099511627775) (s : d.st = 4) (hn : c ≠ 10) (h13 : c ≠ 13) :
    Calls Tryd.prog 51 #[.pointer (some ⟨b, 0, none⟩), .int .u8 c.toNat, v] w (StepPost w b text all d wt c v o) := by
  have hb := lt_of_block h.blk
  obtain ⟨c0, c1, c2, c3, c4, c5, c6, c7, c8, c9, f⟩ := h.facts
  have hle := h.le
  have H := Lib.hid h
  have HA := Lib.hid ha
  have HNE := Lib.hid hne
  clear h ha hne
  have t0 : ((d.st : Int) == 0) = false := by rw [s]; rfl
  have t1 : ((d.st : Int) == 1) = false := by rw [s]; rfl
  have t2 : ((d.st : Int) == 2) = false := by rw [s]; rfl
  have t4 : ((d.st : Int) == 4) = true := by rw [s]; rfl
  have tn : ((c.toNat : Int) == 10) = false := by rw [show (10 : Int) = ((10 : Nat) : Int) from rfl, byte_eq (by decide)]; simpa using hn
  have t13 : ((c.toNat : Int) == 13) = false := byte_ne13 h13
  have HS : Hid (d.step text c = (DS.put ⟨3, d.line, d.size, true, d.long, d.high⟩ c, [c])) := Lib.hid (by rw [show d.step text c = (DS.fin ⟨3, d.line, d.size, true, d.long, d.high⟩ c, [c]) from by simp [DS.step, s, hn]]; rw [fin_plain _ _ hn h13])
  have HC : Hid (c = c) := Lib.hid rfl
  clear s hn h13
  go_enter Tryd.func51, Tryd.ntmps51
  go_wp2
  go_step3
  go_wp2
  go_step3
  go_wp2_with (go_at_call 58; refine (dots_put _ b text all ⟨3, d.line, d.size, true, d.long, d.high⟩ wt (setst_world (setbare_world H.out true) 3) c v o (HA.out.kept (S := (· = b)) (((Chg.refl (· = b) w).set (fun _ => rfl) _).set (fun _ => rfl) _) (fun k hk e => HNE.out (by rw [hk, e]))) HNE.out (by show d.size ≤ _; omega) (by omega)).mono ?_; rintro r w2 ⟨v2, rfl, hp⟩; have HP := Lib.hid hp; obtain ⟨a2, n2, cap2, rfl, _⟩ := hp.arr.shape; clear hp)
  rw [Exit.noGoto_ret]
  go_ret
  refine ⟨_, rfl, ?_⟩
  rw [HS.out]
  exact HP.out.from (((Chg.refl (· = b) w).set (fun _ => rfl) _).set (fun _ => rfl) _)

set_option maxHeartbeats 1000000 in
set_option maxRecDepth 100000 in
theorem dots_step_f4cr (w : World) (b text all : Nat) (d : DS) (wt : Bool) (h : RdrAt w b text all d wt) (c : UInt8) (v : Value) (o : List UInt8) (ha : Arr w 5 1 v (bvs o)) (hne : v.ownBlock ≠ some b) (hs : d.size ≤ 1099511627775) (ho : o.length ≤ 1099511627775) (s : d.st = 4) (hn : c ≠ 10) (hc : c = 13) :
    Calls Tryd.prog 51 #[.pointer (some ⟨b, 0, none⟩), .int .u8 c.toNat, v] w (StepPost w b text all d wt c v o) := by
  have hb := lt_of_block h.blk
  obtain ⟨c0, c1, c2, c3, c4, c5, c6, c7, c8, c9, f⟩ := h.facts
  have hle := h.le
  have H := Lib.hid h
  have HA := Lib.hid ha
  have HNE := Lib.hid hne
  clear h ha hne
  have t0 : ((d.st : Int) == 0) = false := by rw [s]; rfl
  have t1 : ((d.st : Int) == 1) = false := by rw [s]; rfl
  have t2 : ((d.st : Int) == 2) = false := by rw [s]; rfl
  have t4 : ((d.st : Int) == 4) = true := by rw [s]; rfl
  have tn : ((c.toNat : Int) == 10) = false := by rw [show (10 : Int) = ((10 : Nat) : Int) from rfl, byte_eq (by decide)]; simpa using hn
  have t13 : ((c.toNat : Int) == 13) = true := by rw [hc]; rfl
  have HS : Hid (d.step text c = (DS.put ⟨4, d.line, d.size, true, d.long, d.high⟩ c, [c])) := Lib.hid (by rw [show d.step text c = (DS.fin ⟨3, d.line, d.size, true, d.long, d.high⟩ c, [c]) from by simp [DS.step, s, hn]]; rw [hc, fin_cr])
  have HC : Hid (c = c) := Lib.hid rfl
  clear s hn hc
  go_enter Tryd.func51, Tryd.ntmps51
  go_wp2
  go_step3
  go_wp2
  go_step3
  go_wp2_with (go_at_call 58; refine (dots_put _ b text all ⟨4, d.line, d.size, true, d.long, d.high⟩ wt (setst_world (setst_world (setbare_world H.out true) 3) 4) c v o (HA.out.kept (S := (· = b)) ((((Chg.refl (· = b) w).set (fun _ => rfl) _).set (fun _ => rfl) _).set (fun _ => rfl) _) (fun k hk e => HNE.out (by rw [hk, e]))) HNE.out (by show d.size ≤ _; omega) (by omega)).mono ?_; rintro r w2 ⟨v2, rfl, hp⟩; have HP := Lib.hid hp; obtain ⟨a2, n2, cap2, rfl, _⟩ := hp.arr.shape; clear hp)
  rw [Exit.noGoto_ret]
  go_ret
  refine ⟨_, rfl, ?_⟩
  rw [HS.out]
  exact HP.out.from ((((Chg.refl (· = b) w).set (fun _ => rfl) _).set (fun _ => rfl) _).set (fun _ => rfl) _)

set_option maxHeartbeats 1000000 in
set_option maxRecDepth 100000 in
theorem dots_step_fxpl (w : World) (b text all : Nat) (d : DS) (wt : Bool) (h : RdrAt w b text all d wt) (c : UInt8) (v : Value) (o : List UInt8) (ha : Arr w 5 1 v (bvs o)) (hne : v.ownBlock ≠ some b) (hs : d.size ≤ 1099511627775) (ho : o.length ≤ 1099511627775) (s : d.st ≠ 0 ∧ d.st ≠ 1 ∧ d.st ≠ 2 ∧ d.st ≠ 4) (h10 : c ≠ 10) (h13 : c ≠ 13) :
    Calls Tryd.prog 51 #[.pointer (some ⟨b, 0, none⟩), .int .u8 c.toNat, v] w (StepPost w b text all d wt c v o) := by
  have hb := lt_of_block h.blk
  obtain ⟨c0, c1, c2, c3, c4, c5, c6, c7, c8, c9, f⟩ := h.facts
  have hle := h.le
  have H := Lib.hid h
  have HA := Lib.hid ha
  have HNE := Lib.hid hne
  clear h ha hne
  obtain ⟨s0, s1, s2, s4⟩ := s
  have t0 : ((d.st : Int) == 0) = false := by simp; omega
  have t1 : ((d.st : Int) == 1) = false := by simp; omega
  have t2 : ((d.st : Int) == 2) = false := by simp; omega
  have t4 : ((d.st : Int) == 4) = false := by simp; omega
  have t10 : ((c.toNat : Int) == 10) = false := byte_ne h10
  have t13 : ((c.toNat : Int) == 13) = false := byte_ne13 h13
  have HS : Hid (d.step text c = (DS.put ⟨d.st, d.line, d.size, d.bare, d.long, d.high⟩ c, [c])) := Lib.hid (by rw [show d.step text c = (DS.fin ⟨d.st, d.line, d.size, d.bare, d.long, d.high⟩ c, [c]) from by simp [DS.step, s0, s1, s2, s4]]; rw [fin_plain _ _ h10 h13])
  have HC : Hid (c = c) := Lib.hid rfl
  clear s0 s1 s2 s4 h10 h13
  go_enter Tryd.func51, Tryd.ntmps51
  go_wp2
  go_step3
  go_wp2
  go_step3
  go_wp2_with (go_at_call 58; refine (dots_put _ b text all ⟨d.st, d.line, d.size, d.bare, d.long, d.high⟩ wt H.out c v o (HA.out.kept (S := (· = b)) (Chg.refl (· = b) w) (fun k hk e => HNE.out (by rw [hk, e]))) HNE.out (by show d.size ≤ _; omega) (by omega)).mono ?_; rintro r w2 ⟨v2, rfl, hp⟩; have HP := Lib.hid hp; obtain ⟨a2, n2, cap2, rfl, _⟩ := hp.arr.shape; clear hp)
  rw [Exit.noGoto_ret]
  go_ret
  refine ⟨_, rfl, ?_⟩
  rw [HS.out]
  exact HP.out.from (Chg.refl (· = b) w)

set_option maxHeartbeats 1000000 in
set_option maxRecDepth 100000 in
theorem dots_step_fxlf (w : World) (b text all : Nat) (d : DS) (wt : Bool) (h : RdrAt w b text all d wt) (c : UInt8) (v : Value) (o : List UInt8) (ha : Arr w 5 1 v (bvs o)) (hne : v.ownBlock ≠ some b) (hs : d.size ≤ 1099511627775) (ho : o.length ≤ 1099511627775) (s : d.st ≠ 0 ∧ d.st ≠ 1 ∧ d.st ≠ 2 ∧ d.st ≠ 4) (hc : c = 10) :
    Calls Tryd.prog 51 #[.pointer (some ⟨b, 0, none⟩), .int .u8 c.toNat, v] w (StepPost w b text all d wt c v o) := by
  have hb := lt_of_block h.blk
  obtain ⟨c0, c1, c2, c3, c4, c5, c6, c7, c8, c9, f⟩ := h.facts
  have hle := h.le
  have H := Lib.hid h
  have HA := Lib.hid ha
  have HNE := Lib.hid hne
  clear h ha hne
  obtain ⟨s0, s1, s2, s4⟩ := s
  have t0 : ((d.st : Int) == 0) = false := by simp; omega
  have t1 : ((d.st : Int) == 1) = false := by simp; omega
  have t2 : ((d.st : Int) == 2) = false := by simp; omega
  have t4 : ((d.st : Int) == 4) = false := by simp; omega
  have t10 : ((c.toNat : Int) == 10) = true := by rw [hc]; rfl
  have t13 : ((c.toNat : Int) == 13) = false := by rw [hc]; rfl
  have HS : Hid (d.step text c = (DS.put ⟨d.st, d.line, d.size, true, d.long, d.high⟩ c, [c])) := Lib.hid (by rw [show d.step text c = (DS.fin ⟨d.st, d.line, d.size, d.bare, d.long, d.high⟩ c, [c]) from by simp [DS.step, s0, s1, s2, s4]]; rw [hc, fin_lf])
  have HC : Hid (c = c) := Lib.hid rfl
  clear s0 s1 s2 s4 hc
  go_enter Tryd.func51, Tryd.ntmps51
  go_wp2
  go_step3
  go_wp2
  go_step3
  go_wp2_with (go_at_call 58; refine (dots_put _ b text all ⟨d.st, d.line, d.size, true, d.long, d.high⟩ wt (setbare_world H.out true) c v o (HA.out.kept (S := (· = b)) ((Chg.refl (· = b) w).set (fun _ => rfl) _) (fun k hk e => HNE.out (by rw [hk, e]))) HNE.out (by show d.size ≤ _; omega) (by omega)).mono ?_; rintro r w2 ⟨v2, rfl, hp⟩; have HP := Lib.hid hp; obtain ⟨a2, n2, cap2, rfl, _⟩ := hp.arr.shape; clear hp)
  rw [Exit.noGoto_ret]
  go_ret
  refine ⟨_, rfl, ?_⟩
  rw [HS.out]
  exact HP.out.from ((Chg.refl (· = b) w).set (fun _ => rfl) _)

set_option maxHeartbeats 1000000 in
set_option maxRecDepth 100000 in
theorem dots_step_fxcr (w : World) (b text all : Nat) (d : DS) (wt : Bool) (h : RdrAt w b text all d wt) (c : UInt8) (v : Value) (o : List UInt8) (ha : Arr w 5 1 v (bvs o)) (hne : v.ownBlock ≠ some b) (hs : d.size ≤ 1099511627775) (ho : o.length ≤ 1099511627775) (s : d.st ≠ 0 ∧ d.st ≠ 1 ∧ d.st ≠ 2 ∧ d.st ≠ 4) (hc : c = 13) :
    Calls Tryd.prog 51 #[.pointer (some ⟨b, 0, none⟩), .int .u8 c.toNat, v] w (StepPost w b text all d wt c v o) := by
  have hb := lt_of_block h.blk
  obtain ⟨c0, c1, c2, c3, c4, c5, c6, c7, c8, c9, f⟩ := h.facts
  have hle := h.le
  have H := Lib.hid h
  have HA := Lib.hid ha
  have HNE := Lib.hid hne
  clear h ha hne
  obtain ⟨s0, s1, s2, s4⟩ := s
  have t0 : ((d.st : Int) == 0) = false := by simp; omega
  have t1 : ((d.st : Int) == 1) = false := by simp; omega
  have t2 : ((d.st : Int) == 2) = false := by simp; omega
  have t4 : ((d.st : Int) == 4) = false := by simp; omega
  have t10 : ((c.toNat : Int) == 10) = false := by rw [hc]; rfl
  have t13 : ((c.toNat : Int) == 13) = true := by rw [hc]; rfl
  have HS : Hid (d.step text c = (DS.put ⟨4, d.line, d.size, d.bare, d.long, d.high⟩ c, [c])) := Lib.hid (by rw [show d.step text c = (DS.fin ⟨d.st, d.line, d.size, d.bare, d.long, d.high⟩ c, [c]) from by simp [DS.step, s0, s1, s2, s4]]; rw [hc, fin_cr])
  have HC : Hid (c = c) := Lib.hid rfl
  clear s0 s1 s2 s4 hc
  go_enter Tryd.func51, Tryd.ntmps51
  go_wp2
  go_step3
  go_wp2
  go_step3
  go_wp2_with (go_at_call 58; refine (dots_put _ b text all ⟨4, d.line, d.size, d.bare, d.long, d.high⟩ wt (setst_world H.out 4) c v o (HA.out.kept (S := (· = b)) ((Chg.refl (· = b) w).set (fun _ => rfl) _) (fun k hk e => HNE.out (by rw [hk, e]))) HNE.out (by show d.size ≤ _; omega) (by omega)).mono ?_; rintro r w2 ⟨v2, rfl, hp⟩; have HP := Lib.hid hp; obtain ⟨a2, n2, cap2, rfl, _⟩ := hp.arr.shape; clear hp)
  rw [Exit.noGoto_ret]
  go_ret
  refine ⟨_, rfl, ?_⟩
  rw [HS.out]
  exact HP.out.from ((Chg.refl (· = b) w).set (fun _ => rfl) _)

theorem PutPost.andThen {w w1 w2 : World} {b text all : Nat} {d d' : DS} {wt : Bool} {v v' : Value} {o : List UInt8} (p : PutPost w w1 b text all d wt v v' o) (hb : b < w.heap.size) (hne : v.ownBlock ≠ some b) (r : RdrAt w2 b text all d' wt) (c : Chg (· = b) w1 w2) : PutPost w w2 b text all d' wt v v' o :=
  ⟨r, p.arr.kept c (fun k hk e => p.own.ne hb hne (by rw [hk]; exact congrArg some e)), p.own, p.chg.trans c (fun _ _ e => .inl e)⟩
theorem PutPost.more {w w1 w2 : World} {b text all : Nat} {d d' : DS} {wt : Bool} {v v' v2 : Value} {o o2 : List UInt8} (p : PutPost w w1 b text all d wt v v' o) (q : PutPost w1 w2 b text all d' wt v' v2 o2) : PutPost w w2 b text all d' wt v v2 o2 :=
  ⟨q.rdr, q.arr, p.own.trans q.own p.chg.size, p.chg.trans q.chg (fun i hi e => by
    rcases e with e | e
    · exact .inl e
    · rcases p.own with h | ⟨k, h, hk⟩
      · rw [h] at e; exact .inr e
      · rw [h] at e; injection e with e; omega)⟩
theorem take_two (a c : UInt8) (n : Nat) : ([a, c] : List UInt8).take n = ([a] : List UInt8).take n ++ ([c] : List UInt8).take (n - 1) := by
  match n with
  | 0 => rfl
  | 1 => rfl
  | n + 2 => simp
theorem crlf_world {w : World} {b text all : Nat} {d : DS} {wt : Bool} (h : RdrAt w b text all d wt) (x : Bool) : RdrAt (((w.setCell ⟨b, 8, none⟩ (.bool x)).setCell ⟨b, 5, none⟩ (.int .i64 0)).setCell ⟨b, 4, none⟩ (.int .i64 0)) b text all ⟨0, 0, d.size, d.bare, x, d.high⟩ wt := by
  refine ⟨?_, Nat.zero_le _⟩
  have := heap_setCell_at (heap_setCell_at (heap_setCell_at h.blk (.bool x) (i := 8)) (.int .i64 0) (i := 5)) (.int .i64 0) (i := 4)
  simpa [rdrC] using this

set_option maxHeartbeats 1000000 in
set_option maxRecDepth 100000 in
theorem dots_step_crlf (w : World) (b text all : Nat) (d : DS) (wt : Bool) (h : RdrAt w b text all d wt) (c : UInt8) (v : Value) (o : List UInt8) (ha : Arr w 5 1 v (bvs o)) (hne : v.ownBlock ≠ some b) (hs : d.size ≤ 1099511627775) (ho : o.length ≤ 1099511627775) (ht : text ≤ 16777216) (s : d.st = 4) (hc : c = 10) :
    Calls Tryd.prog 51 #[.pointer (some ⟨b, 0, none⟩), .int .u8 c.toNat, v] w (StepPost w b text all d wt c v o) := by
  have hb := lt_of_block h.blk
  obtain ⟨c0, c1, c2, c3, c4, c5, c6, c7, c8, c9, f⟩ := h.facts
  have hle := h.le
  have H := Lib.hid h
  have HA := Lib.hid ha
  have HNE := Lib.hid hne
  clear h ha hne
  have t0 : ((d.st : Int) == 0) = false := by rw [s]; rfl
  have t1 : ((d.st : Int) == 1) = false := by rw [s]; rfl
  have t2 : ((d.st : Int) == 2) = false := by rw [s]; rfl
  have t4 : ((d.st : Int) == 4) = true := by rw [s]; rfl
  have tc : ((c.toNat : Int) == 10) = true := by rw [hc]; rfl
  have HS : Hid (d.step text c = (⟨0, 0, d.size + 1, d.bare, d.long || decide (text + 2 < d.line + 1), d.high⟩, [c])) := Lib.hid (by simp [DS.step, s, hc])
  have HH : Hid ((d.high || decide (127 < c.toNat)) = d.high) := Lib.hid (by rw [hc]; simp)
  clear s hc
  go_enter Tryd.func51, Tryd.ntmps51
  go_wp2
  go_step3
  go_wp2
  go_step3
  go_wp2_with fail
  refine (dots_put _ b text all d wt H.out c v o HA.out HNE.out (by omega) (by omega)).mono ?_
  rintro r w2 ⟨v2, rfl, hp⟩
  obtain ⟨k0, k1, k2, k3, k4, k5, k6, k7, k8, k9, kf⟩ := hp.rdr.facts
  have HP := Lib.hid hp
  obtain ⟨a2, n2, cap2, rfl, _⟩ := hp.arr.shape
  simp only [DS.put] at k5 k8
  rw [show (((d.line + 1 : Nat)) : Int) = (d.line : Int) + 1 from by omega] at k5
  clear hp c0 c1 c2 c3 c4 c5 c6 c7 c8 c9 f k0 k1 k3 k6 k7 k9
  have hbig : d.line ≤ 1099511627775 := by omega
  cases hl : d.long
  · rw [hl] at k8
    have HY : Hid (decide ((text : Int) < (d.line : Int) + 1 - 2) = decide (text + 2 < d.line + 1)) := Lib.hid (by rw [decide_eq_decide]; omega)
    have HL := Lib.hid hl
    clear hl
    go_wp2
    go_region
    all_goals
      go_wp2
      rw [Exit.noGoto_ret]
      go_ret
      refine ⟨_, rfl, ?_⟩
      rw [HS.out, HL.out, ← HY.out, Bool.false_or]
      have r1 := crlf_world HP.out.rdr (decide ((text : Int) < (d.line : Int) + 1 - 2))
      simp only [DS.put, HH.out] at r1
      exact (HP.out.andThen hb HNE.out r1 ((((Chg.refl (· = b) _).set (fun _ => rfl) _).set (fun _ => rfl) _).set (fun _ => rfl) _)).andThen hb HNE.out (r1.kept ((Chg.refl (fun _ => False) _).drew) (fun h => h)) ((Chg.refl (· = b) _).drew)
  · rw [hl] at k8
    have HL := Lib.hid hl
    clear hl
    go_wp2
    go_region
    all_goals
      go_wp2
      rw [Exit.noGoto_ret]
      go_ret
      refine ⟨_, rfl, ?_⟩
      rw [HS.out, HL.out, Bool.true_or]
      have r1 := crlf_world HP.out.rdr true
      simp only [DS.put, HH.out] at r1
      exact (HP.out.andThen hb HNE.out r1 ((((Chg.refl (· = b) _).set (fun _ => rfl) _).set (fun _ => rfl) _).set (fun _ => rfl) _)).andThen hb HNE.out (r1.kept ((Chg.refl (fun _ => False) _).drew) (fun h => h)) ((Chg.refl (· = b) _).drew)

set_option maxHeartbeats 1000000 in
set_option maxRecDepth 100000 in
theorem dots_step_jump (w : World) (b text all : Nat) (d : DS) (wt : Bool) (h : RdrAt w b text all d wt) (c : UInt8) (v : Value) (o : List UInt8) (ha : Arr w 5 1 v (bvs o)) (hne : v.ownBlock ≠ some b) (hs : d.size ≤ 1099511627775) (ho : o.length ≤ 1099511627775) (s : d.st = 2) (hc : c ≠ 10) :
    Calls Tryd.prog 51 #[.pointer (some ⟨b, 0, none⟩), .int .u8 c.toNat, v] w (StepPost w b text all d wt c v o) := by
  have hb := lt_of_block h.blk
  obtain ⟨c0, c1, c2, c3, c4, c5, c6, c7, c8, c9, f⟩ := h.facts
  have hle := h.le
  have H := Lib.hid h
  have HA := Lib.hid ha
  have HNE := Lib.hid hne
  clear h ha hne
  have t0 : ((d.st : Int) == 0) = false := by rw [s]; rfl
  have t1 : ((d.st : Int) == 1) = false := by rw [s]; rfl
  have t2 : ((d.st : Int) == 2) = true := by rw [s]; rfl
  have tc : ((c.toNat : Int) == 10) = false := byte_ne hc
  have HS : Hid (d.step text c = (DS.fin ⟨3, d.line + 1, d.size + 1, true, d.long, d.high⟩ c, [13, c])) := Lib.hid (by simp [DS.step, s, hc])
  have HN := Lib.hid hc
  clear s hc
  go_enter Tryd.func51, Tryd.ntmps51
  go_wp2
  refine wp_scope_once 0 rfl ?_
  go_wp2
  go_step3
  go_wp2_with fail
  refine (dots_put _ b text all d wt H.out 13 v o HA.out HNE.out (by omega) (by omega)).mono ?_
  rintro r w2 ⟨v2, rfl, hp⟩
  have HP := Lib.hid hp
  have fr := free_of_blk hp.rdr.blk
  obtain ⟨k0, k1, k2, k3, k4, k5, k6, k7, k8, k9, kf⟩ := hp.rdr.facts
  obtain ⟨a2, n2, cap2, rfl, _⟩ := hp.arr.shape
  clear hp fr c0 c1 c2 c3 c4 c5 c6 c7 c8 c9 f k0 k1 k2 k3 k5 k6 k8 k9
  go_wp2
  go_step3
  refine ⟨rfl, ?_⟩
  have t10 : ((c.toNat : Int) == 10) = false := tc
  by_cases h13 : c = 13
  · have t13 : ((c.toNat : Int) == 13) = true := by rw [h13]; rfl
    have HF : Hid (DS.fin ⟨3, d.line + 1, d.size + 1, true, d.long, d.high⟩ c = DS.put ⟨4, (d.put 13).line, (d.put 13).size, true, (d.put 13).long, (d.put 13).high⟩ c) := Lib.hid (by rw [h13, fin_cr]; simp [DS.put])
    clear h13
    go_wp2_with fail
    refine (dots_put _ b text all _ wt (setst_world (setst_world (setbare_world (setst_world HP.out.rdr 4) true) 3) 4) c _ _ (HP.out.arr.kept (S := (· = b)) (((((Chg.refl (· = b) w2).set (fun _ => rfl) _).set (fun _ => rfl) _).set (fun _ => rfl) _).set (fun _ => rfl) _) (fun k hk e => HP.out.own.ne hb HNE.out (by rw [hk]; exact congrArg some e))) (HP.out.own.ne hb HNE.out) (by show d.size + 1 ≤ _; omega) (by rw [List.length_append, List.length_take]; have : ([13] : List UInt8).length = 1 := rfl; omega)).mono ?_
    rintro r w5 ⟨v5, rfl, hp5⟩
    have HP5 := Lib.hid hp5
    obtain ⟨a5, n5, cap5, rfl, _⟩ := hp5.arr.shape
    clear hp5
    go_wp2
    simp only [Exit.jump]
    go_ret
    refine ⟨_, rfl, ?_⟩
    rw [HS.out, HF.out, take_two, ← List.append_assoc, Nat.sub_sub]
    exact HP.out.more (HP5.out.from (((((Chg.refl (· = b) w2).set (fun _ => rfl) _).set (fun _ => rfl) _).set (fun _ => rfl) _).set (fun _ => rfl) _))
  · have t13 : ((c.toNat : Int) == 13) = false := byte_ne13 h13
    have HF : Hid (DS.fin ⟨3, d.line + 1, d.size + 1, true, d.long, d.high⟩ c = DS.put ⟨3, (d.put 13).line, (d.put 13).size, true, (d.put 13).long, (d.put 13).high⟩ c) := Lib.hid (by rw [fin_plain _ _ HN.out h13]; simp [DS.put])
    clear h13
    go_wp2_with fail
    refine (dots_put _ b text all _ wt (setst_world (setbare_world (setst_world HP.out.rdr 4) true) 3) c _ _ (HP.out.arr.kept (S := (· = b)) ((((Chg.refl (· = b) w2).set (fun _ => rfl) _).set (fun _ => rfl) _).set (fun _ => rfl) _) (fun k hk e => HP.out.own.ne hb HNE.out (by rw [hk]; exact congrArg some e))) (HP.out.own.ne hb HNE.out) (by show d.size + 1 ≤ _; omega) (by rw [List.length_append, List.length_take]; have : ([13] : List UInt8).length = 1 := rfl; omega)).mono ?_
    rintro r w5 ⟨v5, rfl, hp5⟩
    have HP5 := Lib.hid hp5
    obtain ⟨a5, n5, cap5, rfl, _⟩ := hp5.arr.shape
    clear hp5
    go_wp2
    simp only [Exit.jump]
    go_ret
    refine ⟨_, rfl, ?_⟩
    rw [HS.out, HF.out, take_two, ← List.append_assoc, Nat.sub_sub]
    exact HP.out.more (HP5.out.from ((((Chg.refl (· = b) w2).set (fun _ => rfl) _).set (fun _ => rfl) _).set (fun _ => rfl) _))

theorem dots_step (w : World) (b text all : Nat) (d : DS) (wt : Bool) (h : RdrAt w b text all d wt) (c : UInt8) (v : Value) (o : List UInt8) (ha : Arr w 5 1 v (bvs o)) (hne : v.ownBlock ≠ some b) (hs : d.size ≤ 1099511627775) (ho : o.length ≤ 1099511627775) (ht : text ≤ 16777216) :
    Calls Tryd.prog 51 #[.pointer (some ⟨b, 0, none⟩), .int .u8 c.toNat, v] w (StepPost w b text all d wt c v o) := by
  by_cases s0 : d.st = 0
  · by_cases h : c = 46
    · exact dots_step_e0 w b text all d wt ‹_› c v o ha hne hs ho s0 h
    · by_cases h10 : c = 10
      · exact dots_step_f0lf w b text all d wt ‹_› c v o ha hne hs ho s0 h h10
      · by_cases h13 : c = 13
        · exact dots_step_f0cr w b text all d wt ‹_› c v o ha hne hs ho s0 h h13
        · exact dots_step_f0pl w b text all d wt ‹_› c v o ha hne hs ho s0 h h10 h13
  by_cases s1 : d.st = 1
  · by_cases h13 : c = 13
    · exact dots_step_e1 w b text all d wt h c v o ha hne hs ho s1 h13
    · by_cases h10 : c = 10
      · exact dots_step_f1lf w b text all d wt h c v o ha hne hs ho s1 h13 h10
      · exact dots_step_f1pl w b text all d wt h c v o ha hne hs ho s1 h13 h10
  by_cases s2 : d.st = 2
  · by_cases h10 : c = 10
    · exact dots_step_e2 w b text all d wt h c v o ha hne hs ho s2 h10
    · exact dots_step_jump w b text all d wt h c v o ha hne hs ho s2 h10
  by_cases s4 : d.st = 4
  · by_cases h10 : c = 10
    · exact dots_step_crlf w b text all d wt h c v o ha hne hs ho ht s4 h10
    · by_cases h13 : c = 13
      · exact dots_step_f4cr w b text all d wt h c v o ha hne hs ho s4 h10 h13
      · exact dots_step_f4pl w b text all d wt h c v o ha hne hs ho s4 h10 h13
  · by_cases h10 : c = 10
    · exact dots_step_fxlf w b text all d wt h c v o ha hne hs ho ⟨s0, s1, s2, s4⟩ h10
    · by_cases h13 : c = 13
      · exact dots_step_fxcr w b text all d wt h c v o ha hne hs ho ⟨s0, s1, s2, s4⟩ h13
      · exact dots_step_fxpl w b text all d wt h c v o ha hne hs ho ⟨s0, s1, s2, s4⟩ h10 h13

end Go.Proofs.YtmenphpilckphaaDoor
