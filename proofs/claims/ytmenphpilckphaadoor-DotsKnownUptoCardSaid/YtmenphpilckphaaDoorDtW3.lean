/- The walk of the dotted reader's Take. Conditions as stated. -/
import Derived.Test.YtmenphpilckphaaDoorDtW2
import Derived.Deep.LoopGhost
namespace Go.Proofs.YtmenphpilckphaaDoor
open Go Go.RowKit Dt

theorem setwt_world {w : World} {b text all : Nat} {d : DS} {wt : Bool} (h : RdrAt w b text all d wt) (x : Bool) : RdrAt (w.setCell ⟨b, 1, none⟩ (.bool x)) b text all d x := by
  refine ⟨?_, h.le⟩
  have := heap_setCell_at h.blk (.bool x) (i := 1)
  simpa [rdrC] using this
def itm5 : Array Value := #[.int .i64 0, .string ⟨#[]⟩, .slice none 0 0, .int .i64 0, .bool false]
theorem cells5 {w : World} {b : Nat} {c0 c1 c2 c3 c4 : Value} {t : TypeId} (h : w.heap[b]? = some (.cells #[c0, c1, c2, c3, c4] t (0, 0))) :
    w.cell? ⟨b, 0, none⟩ = some c0 ∧ w.cell? ⟨b, 1, none⟩ = some c1 ∧ w.cell? ⟨b, 2, none⟩ = some c2 ∧ w.cell? ⟨b, 3, none⟩ = some c3 ∧ w.cell? ⟨b, 4, none⟩ = some c4 ∧ ∀ i, w.frozen? ⟨b, i, none⟩ = false :=
  ⟨cell_of_blk h 0, cell_of_blk h 1, cell_of_blk h 2, cell_of_blk h 3, cell_of_blk h 4, fun i => free_of_blk h i⟩
theorem five_sets (w : World) (b : Nat) (x0 x1 x2 x3 x4 : Value) : Chg (· = b) w (((((w.setCell ⟨b, 0, none⟩ x0).setCell ⟨b, 1, none⟩ x1).setCell ⟨b, 2, none⟩ x2).setCell ⟨b, 3, none⟩ x3).setCell ⟨b, 4, none⟩ x4) :=
  (((((Chg.refl (· = b) w).set (fun _ => rfl) _).set (fun _ => rfl) _).set (fun _ => rfl) _).set (fun _ => rfl) _).set (fun _ => rfl) _

/-- What Take leaves. -/
structure TakePost (w w' : World) (b text all : Nat) (r : RS) (v' : Value) (bytes : List UInt8) : Prop where
  rdr : RdrAt w' b text all r.d r.waits
  arr : Arr w' 5 1 v' (bvs bytes)
  new : ∀ k, v'.ownBlock = some k → w.heap.size ≤ k
  chg : Chg (· = b) w w'
def TakeSays (w : World) (b text all : Nat) (q : Nat × It × RS) (r : Ending) (w' : World) : Prop :=
  ∃ v', r = .returned (.tuple #[.int .i64 q.1, itV q.2.1 v']) ∧ TakePost w w' b text all q.2.2 v' q.2.1.bytes

theorem dots_take_waits (w : World) (b text all : Nat) (d : DS) (h : RdrAt w b text all d true) (bv : Value) :
    Calls Tryd.prog 28 #[.pointer (some ⟨b, 0, none⟩), bv] w (TakeSays w b text all (0, d.end all, ⟨d, false⟩)) := by
  have hb := lt_of_block h.blk
  obtain ⟨c0, c1, c2, c3, c4, c5, c6, c7, c8, c9, f⟩ := h.facts
  have H := Lib.hid h
  clear h
  go_enter Tryd.func28, Tryd.ntmps28
  go_wp2_with fail
  have hrd := (setwt_world H.out false).kept ((Chg.refl (fun _ => False) (w.setCell ⟨b, 1, none⟩ (.bool false))).alloc (.cells itm5 30)) (fun h => h)
  have hx : ((w.setCell ⟨b, 1, none⟩ (.bool false)).alloc (.cells itm5 30)).heap[w.heap.size]? = some (.cells itm5 30 (0, 0)) := by
    rw [show w.heap.size = (w.setCell ⟨b, 1, none⟩ (.bool false)).heap.size from by simp]; exact heap_alloc_at _ _
  refine (dots_end _ b text all d false hrd).mono ?_
  rintro r w2 ⟨rfl, cc⟩
  obtain ⟨x0, x1, x2, x3, x4, xf⟩ := cells5 (cc.obj hx (fun h => h))
  have HR := Lib.hid (hrd.kept cc (fun h => h))
  have HC := Lib.hid ((((Chg.refl (· = b) w).set (p := ⟨b, 1, none⟩) (fun _ => rfl) (.bool false)).alloc (.cells itm5 30)).trans cc (fun _ _ h => h.elim))
  unfold itV
  clear hrd hx cc c0 c1 c2 c3 c4 c5 c6 c7 c8 c9 f
  go_wp2
  refine bodyPost_ret (v := .tuple #[.int .i64 0, itV (d.end all) (.slice none 0 0)]) ?_ rfl ⟨.slice none 0 0, rfl, ?_⟩
  · simp [results, Tryd.results28, go_sem, itV, x0, x1, x2, x3, x4]
  · exact ⟨HR.out.kept (five_sets _ _ _ _ _ _ _) (fun e => by omega), Arr.nil _ _ _, fun k hk => by simp [Value.ownBlock] at hk, HC.out.trans (five_sets _ _ _ _ _ _ _) (fun i hi e => by omega)⟩

/-- What holds at the head of Take's loop. -/
def DkRel (w : World) (b text all : Nat) (d : DS) (bs : List UInt8) (g : Nat) (ov iv : Value) (wr : World) : Prop :=
  ∃ (j : Nat) (d' : DS) (p : List UInt8), j + g = bs.length ∧ iv = .int .i64 j ∧ RdrAt wr b text all d' false ∧ Arr wr 5 1 ov (bvs (p.take (all - d.size))) ∧ (∀ k, ov.ownBlock = some k → w.heap.size < k) ∧ Chg (· = b) w wr ∧ Hid (wr.heap[w.heap.size]? = some (.cells itm5 30 (0, 0))) ∧
    Hid (feed text d bs = ((feed text d' (bs.drop j)).1 + j, (feed text d' (bs.drop j)).2.1, p ++ (feed text d' (bs.drop j)).2.2)) ∧ d'.size = d.size + p.length ∧ p.length ≤ 2 * j
theorem step_two (text : Nat) (s : DS) (c : UInt8) : (s.step text c).2.length ≤ 2 := by
  unfold DS.step
  repeat' split
  all_goals simp
theorem feed_more {text : Nat} {d d' : DS} {bs p : List UInt8} {j : Nat} (hj : j < bs.length) (h5 : d'.st ≠ 5) (h : feed text d bs = ((feed text d' (bs.drop j)).1 + j, (feed text d' (bs.drop j)).2.1, p ++ (feed text d' (bs.drop j)).2.2)) :
    feed text d bs = ((feed text (d'.step text bs[j]).1 (bs.drop (j + 1))).1 + (j + 1), (feed text (d'.step text bs[j]).1 (bs.drop (j + 1))).2.1, (p ++ (d'.step text bs[j]).2) ++ (feed text (d'.step text bs[j]).1 (bs.drop (j + 1))).2.2) := by
  rw [h, List.drop_eq_getElem_cons hj, feed, if_neg h5]
  simp only [List.append_assoc, Prod.mk.injEq, and_true]
  omega
theorem feed_stop {text : Nat} {d d' : DS} {bs p : List UInt8} {j : Nat} (hj : j = bs.length ∨ d'.st = 5) (h : feed text d bs = ((feed text d' (bs.drop j)).1 + j, (feed text d' (bs.drop j)).2.1, p ++ (feed text d' (bs.drop j)).2.2)) :
    feed text d bs = (j, d', p) := by
  have e : feed text d' (bs.drop j) = (0, d', []) := by
    rcases hj with e | e
    · rw [e, List.drop_length]; rfl
    · exact feed_ended text _ _ e
  rw [h, e]; simp

theorem take_eq {text all : Nat} {d d' : DS} {bs p : List UInt8} {j : Nat} (h : feed text d bs = (j, d', p)) :
    RS.take text all ⟨d, false⟩ bs = if p.take (all - d.size) ≠ [] then (j, It.body (p.take (all - d.size)), ⟨d', decide (d'.st = 5 ∧ d.st ≠ 5)⟩) else if decide (d'.st = 5 ∧ d.st ≠ 5) then (j, d'.end all, ⟨d', false⟩) else (j, It.none, ⟨d', false⟩) := by
  unfold RS.take
  rw [h]
  simp

set_option maxHeartbeats 2000000 in
set_option maxRecDepth 100000 in
theorem dots_take (w : World) (b text all : Nat) (d : DS) (h : RdrAt w b text all d false) (bv : Value) (bs : List UInt8) (hbs : Rd w bv 1 (bvs bs)) (hsep : bs ≠ [] → ∀ k, bv.ownBlock = some k → k ≠ b) (hs : d.size + 2 * bs.length ≤ 1099511627775) (ht : text ≤ 16777216) :
    Calls Tryd.prog 28 #[.pointer (some ⟨b, 0, none⟩), bv] w (TakeSays w b text all (RS.take text all ⟨d, false⟩ bs)) := by
  have hb := lt_of_block h.blk
  obtain ⟨ao, n, cap, rfl, _⟩ := hbs.shape
  obtain rfl : bs.length = n := hbs.len.symm
  obtain ⟨c0, c1, c2, c3, c4, c5, c6, c7, c8, c9, f⟩ := h.facts
  have H := Lib.hid h
  have HBS := Lib.hid hbs
  have HSEP := Lib.hid hsep
  clear h hbs hsep
  go_enter Tryd.func28, Tryd.ntmps28
  go_wp2_with fail
  clear c0 c1 c2 c3 c4 c5 c6 c7 c8 c9 f
  go_loopg [6, 7] (bs.length) (DkRel w b text all d bs)
  case atStart =>
    have hk1 := (Chg.refl (fun _ => False) w).alloc (.cells itm5 30)
    exact ⟨0, d, [], by omega, rfl, H.out.kept hk1 (fun h => h), by rw [List.take_nil]; exact Arr.nil _ _ _, fun k hk => by simp [Value.ownBlock] at hk, hk1.mono (fun _ _ h => h.elim), Lib.hid (heap_alloc_at _ _), Lib.hid (by simp), by simp, by simp⟩
  case round =>
    obtain ⟨j, d', p, hjk, rfl, hR, hA, hO, hC, hI, hF, hsz, hp2⟩ := hrel
    obtain ⟨k0, k1, k2, k3, k4, k5, k6, k7, k8, k9, kf⟩ := hR.facts
    have HR := Lib.hid hR
    have HA := Lib.hid hA
    have HO := Lib.hid hO
    have HC := Lib.hid hC
    clear hR hA hO hC
    by_cases hgo : 0 < gk ∧ d'.st ≠ 5
    · obtain ⟨hg, h5⟩ := hgo
      have hj : j < bs.length := by omega
      have hlt : (j : Int) < bs.length := by omega
      have t5 : ((d'.st : Int) != 5) = true := by simp; omega
      have HS5 := Lib.hid h5
      have hrd := HBS.out.kept HC.out (fun hx k hk e => HSEP.out (bvs_ne.1 hx) k hk e)
      obtain ⟨bl, o, rfl, hcell⟩ := hrd.byte j hj
      obtain ⟨c, hc⟩ : ∃ c, c = bs[j] := ⟨_, rfl⟩
      rw [← hc] at hcell
      have HCC := Lib.hid hc
      clear hrd hc h5
      go_wp2_with fail
      refine (dots_step wr b text all d' false HR.out c _ _ HA.out (fun e => by have := HO.out b e; omega) (by omega) (by rw [List.length_take]; omega) ht).mono ?_
      rintro r w2 ⟨v2, rfl, hp⟩
      have HP := Lib.hid hp
      clear hp k0 k1 k2 k3 k4 k5 k6 k7 k8 k9 kf hcell
      have hfs := feed_more hj HS5.out hF.out
      rw [← HCC.out] at hfs
      have HFS := Lib.hid hfs
      have hst2 := step_two text d' c
      have hss := DS.step_size text d' c
      clear hfs
      go_wp2
      go_roundg (gk - 1)
      case measure => omega
      case rel =>
        have hp := HP.out
        have hwr := HC.out.size
        refine ⟨j + 1, (d'.step text c).1, p ++ (d'.step text c).2, by omega, by go_num, hp.rdr, ?_, ?_, HC.out.trans hp.chg ?_, Lib.hid ?_, HFS, by rw [List.length_append]; omega, by rw [List.length_append]; omega⟩
        · rw [List.take_append, Nat.sub_sub, ← hsz]; exact hp.arr
        · intro k hk
          rcases hp.own with e | ⟨i, e, hi⟩
          · rw [e] at hk; exact HO.out k hk
          · rw [e] at hk; injection hk with hk; have := lt_of_block hI.out; omega
        · rintro i hi (e | e)
          · exact e
          · have := HO.out i e.symm; omega
        · refine hp.chg.obj hI.out (fun e => ?_)
          rcases e with e | e
          · omega
          · have := HO.out _ e.symm; omega
    · have HF := Lib.hid (feed_stop (text := text) (d := d) (d' := d') (bs := bs) (p := p) (j := j) (by
        rcases Nat.eq_zero_or_pos gk with e | e
        · left; omega
        · right; exact Classical.byContradiction fun h => hgo ⟨e, h⟩) hF.out)
      clear hF
      go_upto_region 9 with (fail)
      go_cut [43] (fun t wx => t = .bool false ∧ wx = wr)
      case first =>
        by_cases hg : gk = 0
        · have hlt : ¬ (j : Int) < bs.length := by omega
          clear hgo
          go_wp2
          go_meet
          exact ⟨rfl, rfl⟩
        · have hlt : (j : Int) < bs.length := by omega
          have t5 : ((d'.st : Int) != 5) = false := by
            have : d'.st = 5 := Classical.byContradiction fun h => hgo ⟨by omega, h⟩
            rw [this]; rfl
          clear hgo
          go_wp2
          go_meet
          exact ⟨rfl, rfl⟩
      case rest =>
        obtain ⟨rfl, rfl⟩ := hcut
        clear hgo
        obtain ⟨x0, x1, x2, x3, x4, xf⟩ := cells5 hI.out
        have hlI := lt_of_block hI.out
        obtain ⟨ov, on, oc, rfl, hol, _⟩ := HA.out.shape
        rw [bvs_length, Nat.mul_one] at hol
        obtain ⟨ovr, hovr⟩ : ∃ x, x = decide (d'.st = 5 ∧ d.st ≠ 5) := ⟨_, rfl⟩
        have HT := Lib.hid (take_eq (all := all) HF.out)
        rw [← hovr] at HT
        have HOL := Lib.hid hol
        clear hol
        go_upto_region 12 with (fail)
        go_cut [9] (fun t wx => t = .bool ovr ∧ wx = wc)
        case first =>
          by_cases e1 : d'.st = 5
          · have t1 : ((d'.st : Int) == 5) = true := by rw [e1]; rfl
            by_cases e2 : d.st = 5
            · have t2 : ((d.st : Int) != 5) = false := by rw [e2]; rfl
              have ho : ovr = false := by rw [hovr]; simp [e2]
              clear e1 e2 hovr
              go_wp2
              go_meet
              exact ⟨by rw [ho], rfl⟩
            · have t2 : ((d.st : Int) != 5) = true := by simp; omega
              have ho : ovr = true := by rw [hovr]; simp [e1, e2]
              clear e1 e2 hovr
              go_wp2
              go_meet
              exact ⟨by rw [ho], rfl⟩
          · have t1 : ((d'.st : Int) == 5) = false := by simp; omega
            have ho : ovr = false := by rw [hovr]; simp [e1]
            clear e1 hovr
            go_wp2
            go_meet
            exact ⟨by rw [ho], rfl⟩
        case rest =>
          obtain ⟨rfl, rfl⟩ := hcut
          clear hovr
          by_cases hov : 0 < on
          · have hov' : (0 : Int) < on := by omega
            have HE := Lib.hid (show RS.take text all ⟨d, false⟩ bs = (j, It.body (p.take (all - d.size)), ⟨d', ovr⟩) by
              rw [HT.out, if_pos]; intro e; have := HOL.out; rw [e] at this; simp at this; omega)
            have RW := Lib.hid (setwt_world HR.out ovr)
            clear hov k0 k2 k3 k4 k5 k6 k7 k8 k9
            go_wp2
            refine bodyPost_ret (v := .tuple #[.int .i64 j, itV (It.body (p.take (all - d.size))) (.slice ov on oc)]) ?_ rfl ?_
            · simp [results, Tryd.results28, go_sem, itV, It.body, x0, x1, x2, x3, x4]
            · rw [HE.out]
              refine ⟨_, rfl, ?_⟩
              have hc2 := ((((((Chg.refl (fun k => k = b ∨ k = w.heap.size) wc).set (p := ⟨b, 1, none⟩) (fun _ => .inl rfl) (.bool ovr)).set (p := ⟨w.heap.size, 0, none⟩) (fun _ => .inr rfl) (.int .i64 3)).set (p := ⟨w.heap.size, 1, none⟩) (fun _ => .inr rfl) (.string ⟨#[]⟩)).set (p := ⟨w.heap.size, 2, none⟩) (fun _ => .inr rfl) (.slice ov on oc)).set (p := ⟨w.heap.size, 3, none⟩) (fun _ => .inr rfl) (.int .i64 0)).set (p := ⟨w.heap.size, 4, none⟩) (fun _ => .inr rfl) (.bool false)
              exact ⟨RW.out.kept (five_sets _ _ _ _ _ _ _) (fun e => by omega), HA.out.kept hc2 (fun k hk e => by have := HO.out k hk; omega), fun k hk => Nat.le_of_lt (HO.out k hk), HC.out.trans hc2 (fun i hi e => by omega)⟩
          · have hov' : ¬ (0 : Int) < on := by omega
            have hnil : p.take (all - d.size) = [] := List.eq_nil_of_length_eq_zero (by have := HOL.out; omega)
            have HT2 := HT.out
            rw [if_neg (by rw [hnil]; simp)] at HT2
            clear hov
            cases ovr
            · have HE : Hid (RS.take text all ⟨d, false⟩ bs = (j, It.none, ⟨d', false⟩)) := Lib.hid HT2
              clear HT2 hnil k0 k2 k3 k4 k5 k6 k7 k8 k9
              go_wp2
              refine bodyPost_ret (v := .tuple #[.int .i64 j, itV It.none (.slice none 0 0)]) ?_ rfl ?_
              · simp [results, Tryd.results28, go_sem, itV, It.none, x0, x1, x2, x3, x4]
              · rw [HE.out]
                refine ⟨_, rfl, ?_⟩
                exact ⟨HR.out.kept (five_sets _ _ _ _ _ _ _) (fun e => by omega), Arr.nil _ _ _, fun k hk => by simp [Value.ownBlock] at hk, HC.out.trans (five_sets _ _ _ _ _ _ _) (fun i hi e => by omega)⟩
            · have HE : Hid (RS.take text all ⟨d, false⟩ bs = (j, d'.end all, ⟨d', false⟩)) := Lib.hid HT2
              clear HT2 hnil
              go_wp2_with fail
              refine (dots_end _ b text all d' false HR.out).mono ?_
              rintro r w2 ⟨rfl, cc⟩
              obtain ⟨y0, y1, y2, y3, y4, yf⟩ := cells5 (cc.obj hI.out (fun h => h))
              have HC2 := Lib.hid cc
              unfold itV
              clear cc k0 k2 k3 k4 k5 k6 k7 k8 k9 x0 x1 x2 x3 x4 xf
              go_wp2
              refine bodyPost_ret (v := .tuple #[.int .i64 j, itV (d'.end all) (.slice none 0 0)]) ?_ rfl ?_
              · simp [results, Tryd.results28, go_sem, itV, y0, y1, y2, y3, y4]
              · rw [HE.out]
                refine ⟨_, rfl, ?_⟩
                exact ⟨(HR.out.kept HC2.out (fun h => h)).kept (five_sets _ _ _ _ _ _ _) (fun e => by omega), Arr.nil _ _ _, fun k hk => by simp [Value.ownBlock] at hk, (HC.out.trans HC2.out (fun _ _ h => h.elim)).trans (five_sets _ _ _ _ _ _ _) (fun i hi e => by omega)⟩

/-- Take, whether the end waits or not. -/
theorem dots_takes (w : World) (b text all : Nat) (r : RS) (h : RdrAt w b text all r.d r.waits) (bv : Value) (bs : List UInt8) (hbs : Rd w bv 1 (bvs bs)) (hsep : ∀ k, bv.ownBlock = some k → k ≠ b) (hs : r.d.size + 2 * bs.length ≤ 1099511627775) (ht : text ≤ 16777216) :
    Calls Tryd.prog 28 #[.pointer (some ⟨b, 0, none⟩), bv] w (TakeSays w b text all (RS.take text all r bs)) := by
  obtain ⟨d, wt⟩ := r
  cases wt
  · exact dots_take w b text all d h bv bs hbs (fun _ => hsep) hs ht
  · exact dots_take_waits w b text all d h bv
/-- .. where a piece of no byte may lie anywhere. -/
theorem dots_takes' (w : World) (b text all : Nat) (r : RS) (h : RdrAt w b text all r.d r.waits) (bv : Value) (bs : List UInt8) (hbs : Rd w bv 1 (bvs bs)) (hsep : bs ≠ [] → ∀ k, bv.ownBlock = some k → k ≠ b) (hs : r.d.size + 2 * bs.length ≤ 1099511627775) (ht : text ≤ 16777216) :
    Calls Tryd.prog 28 #[.pointer (some ⟨b, 0, none⟩), bv] w (TakeSays w b text all (RS.take text all r bs)) := by
  obtain ⟨d, wt⟩ := r
  cases wt
  · exact dots_take w b text all d h bv bs hbs hsep hs ht
  · exact dots_take_waits w b text all d h bv

end Go.Proofs.YtmenphpilckphaaDoor
