/- The definition's Take. No condition but what each states. -/
import Derived.Test.YtccmickmcpfapaaLnR1
import Derived.Deep.RegionLaw
import Derived.IntWalk
import Derived.Deep.DeepCutAuto
import Derived.Deep.RegionHeld3
namespace Go.Proofs.Ytccmickmcpfapaa
open Go Go.RowKit Ln

/-- append into memory of one's own, as one step of a region that draws. -/
theorem step_append_arr {P : Program} {ops : Array Oper} {o : Oper} {a : Act} {w : World} {K : Act → World → Prop} {Q : Exit → Act → World → Prop} {E : Prop}
    (hg : o.guard = none) (s x : Operand) (t tx : TypeId) (hop : o.op = Op.call { callee := Callee.builtin Builtin.append, args := #[s, x], argTypes := #[t, tx] })
    (e : TypeId) (i : TypeInfo) (z : Value) (sz by_ : Nat) (ht : P.underlying t = some (.slice e)) (hi : P.info? e = some i) (hz : i.zero = some z) (hs : i.size = sz) (hb : i.bytes = by_) (hzs : z.cells.size = sz) (hsz : 0 < sz)
    (v : Value) (xs : List Value) (hv : a.eval s = v) (h : Arr w e sz v xs) (y : Value) (hy : a.eval x = y) (m : Nat) (news : List Value) (hsrc : Src P sz tx y m news w)
    (b1 : xs.length / sz + m ≤ maxLen) (b2 : (xs.length / sz + m) * by_ ≤ 140737488355328)
    (hK : ∀ v' w', Arr w' e sz v' (xs ++ news) → Chg (fun k => some k = v.ownBlock) w w' → (v'.ownBlock = v.ownBlock ∨ v'.ownBlock = some w.heap.size) → K (a.put o.dst v') w') :
    if Region.wanted o (yielded ops a.tmps) = true then Oper.wp P o a w K Q else E := by
  have hw : Region.wanted o (yielded ops a.tmps) = true := by simp [Region.wanted, hg]
  rw [if_pos hw]
  obtain ⟨v', w', hrun, r1, r2, r3, r4⟩ := arr_append (P := P) h t tx o.type i z by_ ht hi hz hs hb hzs hsz y m news hsrc b1 b2
  unfold Oper.wp
  simp [execOp, hop, resolve, invoke, builtin, hv, hy, hrun, Result.andThen]
  exact hK _ _ r1 r2 r3

/-- What region 6 reads. -/
abbrev R6 (b : Nat) (v : Value) (bl i : Nat) (c : UInt8) (w : World) : Prop := w.cell? ⟨b, 1, none⟩ = some v ∧ w.cell? ⟨bl, i, none⟩ = some (.int .u8 c.toNat)
theorem R6.kept {S : Nat → Prop} {b : Nat} {v : Value} {bl i : Nat} {c : UInt8} {w w' : World} (ch : Chg S w w') (h : R6 b v bl i c w) (h1 : ¬ S b) (h2 : ¬ S bl) : R6 b v bl i c w' := ⟨ch.cell h.1 h1, ch.cell h.2 h2⟩

/-- What holds at the head of the definition's loop. -/
def RtRel (w : World) (b : Nat) (m : Int) (v : Value) (all bs : List UInt8) (g : Nat) (nv : Value) (wr : World) : Prop :=
  ∃ (j : Nat) (a' : List UInt8) (v' : Value), j + g = bs.length ∧ nv = .int .i64 j ∧ RefAt wr b m v' a' ∧ a'.length ≤ all.length + j ∧ Hid (refTake m all bs = ((refTake m a' (bs.drop j)).1 + j, (refTake m a' (bs.drop j)).2)) ∧
    OwnTo w v v' ∧ Chg (fun k => k = b ∨ some k = v.ownBlock) w wr ∧ Hid (wr.heap[w.heap.size]? = some (.cells itm0 46 (0, 0)))

/-- Behind region 6. -/
theorem r6_done {w wr w1 w2 : World} {b : Nat} {m : Int} {v v' v2 : Value} {a' : List UInt8} {c : UInt8} (hb : b < w.heap.size) (HL : RefAt wr b m v' a') (HO : OwnTo w v v') (HC : Chg (fun k => k = b ∨ some k = v.ownBlock) w wr)
    (HR : wr.heap[w.heap.size]? = some (.cells itm0 46 (0, 0))) (hv : ∀ k, v.ownBlock = some k → k < w.heap.size) (h01 : Chg (fun _ => False) wr w1) (hc2 : Chg (fun k => some k = v'.ownBlock) w1 w2)
    (ha2 : Arr w2 5 1 v2 (bvs a' ++ bvs [c])) (ho2 : v2.ownBlock = v'.ownBlock ∨ v2.ownBlock = some w1.heap.size) :
    RefAt (w2.setCell ⟨b, 1, none⟩ v2) b m v2 (a' ++ [c]) ∧ OwnTo w v v2 ∧ Chg (fun k => k = b ∨ some k = v.ownBlock) w (w2.setCell ⟨b, 1, none⟩ v2) ∧ (w2.setCell ⟨b, 1, none⟩ v2).heap[w.heap.size]? = some (.cells itm0 46 (0, 0)) := by
  have g1 : w.heap.size < wr.heap.size := lt_of_block HR
  have g2 := h01.size
  have hne : v2.ownBlock ≠ some b := by
    rcases ho2 with e | e
    · rw [e]; exact HL.apart
    · rw [e]; intro e'; injection e' with e'; omega
  have blk2 := hc2.obj (h01.obj HL.blk (fun h => h)) (fun e => HL.apart e.symm)
  have own : OwnTo w v v2 := by
    rcases ho2 with e | e
    · rcases HO with h | h | ⟨k, h, hk⟩
      · exact .inl (e.trans h)
      · exact .inr (.inl (e.trans h))
      · exact .inr (.inr ⟨k, e.trans h, hk⟩)
    · exact .inr (.inr ⟨_, e, by omega⟩)
  have hT : ∀ i, i < w.heap.size → some i = v'.ownBlock → i = b ∨ some i = v.ownBlock := fun i hi e => by
    rcases HO with h | h | ⟨k, h, hk⟩
    · rw [h] at e; cases e
    · rw [h] at e; exact .inr e
    · rw [h] at e; injection e with e; omega
  refine ⟨⟨by simpa using heap_setCell_at blk2 v2 (i := 1), ?_, hne⟩, own, ?_, ?_⟩
  · rw [bvs_append]
    exact ha2.of (fun k hk => Below.heap_setCell _ _ _ _ (fun e => hne (by rw [hk]; exact congrArg some e)))
  · exact ((HC.trans h01 (fun _ _ h => h.elim)).trans hc2 hT).set (fun _ => .inl rfl) _
  · refine heap_setCell_ne (hc2.obj (h01.obj HR (fun h => h)) (fun e => ?_)) (by show b ≠ w.heap.size; omega) _
    exact HO.ne hv _ e.symm rfl

theorem refTake_go {m : Int} {all a' bs : List UInt8} {j : Nat} {c : UInt8} (hj : j < bs.length) (hc : c = bs[j]) (hn : ¬ (a'.getLast? = some 13 ∧ c = 10))
    (h : refTake m all bs = ((refTake m a' (bs.drop j)).1 + j, (refTake m a' (bs.drop j)).2)) :
    refTake m all bs = ((refTake m (a' ++ [c]) (bs.drop (j + 1))).1 + (j + 1), (refTake m (a' ++ [c]) (bs.drop (j + 1))).2) := by
  rw [h, List.drop_eq_getElem_cons hj, ← hc, refTake, if_neg hn]
  simp only [Prod.mk.injEq, and_true]
  omega

theorem Rd.pre {w : World} {ao : Option Addr} {n cap : Nat} {l : List UInt8} (h : Rd w (.slice ao n cap) 1 (bvs l)) (k : Nat) (hk : k ≤ l.length) : Rd w (.slice ao k cap) 1 (bvs (l.take k)) := by
  obtain ⟨ao', n', cap', e1, r1, r2, r3, r4, r5⟩ := h
  injection e1 with e1 e2 e3
  subst e1 e2 e3
  rw [bvs_length] at r1
  refine ⟨ao, k, cap, rfl, by rw [bvs_length, List.length_take]; omega, by omega, r3, fun hn => ⟨by have := r4 hn; omega, (r4 hn).2⟩, fun a ha hx => ?_⟩
  have hl : bvs l ≠ [] := by
    rw [bvs_ne] at hx ⊢
    rintro rfl; simp at hx
  refine ⟨(r5 a ha hl).1, fun i hi => ?_⟩
  rw [bvs_length, List.length_take] at hi
  rw [(r5 a ha hl).2 i (by rw [bvs_length]; omega)]
  simp [bvs]
/-- Nothing of the world w0 has changed. -/
def Sam (w0 w : World) : Prop := Chg (fun _ => False) w0 w
theorem Sam.refl (w : World) : Sam w w := Chg.refl _ w
theorem Sam.drew {w0 w : World} (h : Sam w0 w) : Sam w0 w.drew := Chg.drew h
theorem Sam.alloc {w0 w : World} (h : Sam w0 w) (o : Obj) : Sam w0 (w.alloc o) := Chg.alloc h o
theorem Sam.set {w0 w : World} (h : Sam w0 w) {p : Addr} (hb : w0.heap.size ≤ p.block) (v : Value) : Sam w0 (w.setCell p v) := Chg.set h (fun e => by omega) v
theorem Sam.sets {w0 w : World} (h : Sam w0 w) {b : Nat} (hb : w0.heap.size ≤ b) (o : Nat) (vs : List Value) : Sam w0 (w.setCells b o vs) := Chg.sets b (fun e => by omega) vs o w h
theorem Sam.more {w0 w w' : World} (h : Sam w0 w) (c : Chg (fun _ => False) w w') : Sam w0 w' := Chg.trans h c (fun _ _ h => h)
theorem Sam.rd {w0 w : World} (h : Sam w0 w) {v : Value} {sz : Nat} {xs : List Value} (r : Rd w0 v sz xs) : Rd w v sz xs := r.kept h (fun _ _ _ h => h)
theorem Sam.size {w0 w : World} (h : Sam w0 w) : w0.heap.size ≤ w.heap.size := Chg.size h
theorem item_cells {w : World} {b : Nat} {c0 c1 c2 c3 c4 : Value} {t : TypeId} (h : w.heap[b]? = some (.cells #[c0, c1, c2, c3, c4] t (0, 0))) :
    w.cell? ⟨b, 0, none⟩ = some c0 ∧ w.cell? ⟨b, 1, none⟩ = some c1 ∧ w.cell? ⟨b, 2, none⟩ = some c2 ∧ w.cell? ⟨b, 3, none⟩ = some c3 ∧ w.cell? ⟨b, 4, none⟩ = some c4 ∧ ∀ i, w.frozen? ⟨b, i, none⟩ = false :=
  ⟨cell_of_blk h 0, cell_of_blk h 1, cell_of_blk h 2, cell_of_blk h 3, cell_of_blk h 4, fun i => free_of_blk h i⟩
theorem RefAt.kept {S : Nat → Prop} {w w' : World} {b : Nat} {m : Int} {v : Value} {s : List UInt8} (h : RefAt w b m v s) (hc : Chg S w w') (hb : ¬ S b) (hv : ∀ k, v.ownBlock = some k → ¬ S k) : RefAt w' b m v s :=
  ⟨hc.obj h.blk hb, h.arr.kept hc hv, h.apart⟩
theorem rtake_fin {w w1 w2 : World} {b : Nat} {m : Int} {v v1 : Value} {s1 : List UInt8} (h1 : RefAt w1 b m v1 s1) (ho : OwnTo w v v1) (hc : Chg (fun k => k = b ∨ some k = v.ownBlock) w w1) (hc2 : Chg (· = w.heap.size) w1 w2)
    (hb : b < w.heap.size) (hv : ∀ k, v.ownBlock = some k → k < w.heap.size) :
    ∃ v', RefAt w2 b m v' s1 ∧ OwnTo w v v' ∧ Chg (fun k => k = b ∨ some k = v.ownBlock) w w2 :=
  ⟨v1, h1.kept hc2 (fun e => by omega) (fun k hk => ho.ne hv k hk), ho, hc.trans hc2 (fun i hi he => by omega)⟩

set_option maxHeartbeats 2000000 in
set_option maxRecDepth 100000 in
theorem ref_take (w : World) (b : Nat) (v : Value) (m : Int) (all : List UInt8) (h : RefAt w b m v all)
    (bv : Value) (bs : List UInt8) (hbs : Rd w bv 1 (bvs bs)) (hsep : bs ≠ [] → ∀ k, bv.ownBlock = some k → k ≠ b ∧ v.ownBlock ≠ some k) (hlen : all.length + bs.length ≤ 4194304) :
    Calls Try.prog 15 #[.pointer (some ⟨b, 0, none⟩), bv] w fun r w' => r = .returned (.tuple #[.int .i64 (refTake m all bs).1, itmV (refTake m all bs).2.1]) ∧
      ∃ v', RefAt w' b m v' (refTake m all bs).2.2 ∧ OwnTo w v v' ∧ Chg (fun k => k = b ∨ some k = v.ownBlock) w w' := by
  obtain ⟨i0, hi0, hx0, hz0, hb0⟩ := info_parts Try.infoByte
  have hb := lt_of_block h.blk
  obtain ⟨ao, n, cap, rfl, _, r2, _⟩ := hbs.shape
  obtain rfl : bs.length = n := hbs.len.symm
  have HBS := Lib.hid hbs
  have H := Lib.hid h
  have HSEP := Lib.hid hsep
  clear h hsep hbs
  go_enter Try.func15, Try.ntmps15
  go_wp2_with fail
  have harr0 : Arr (w.alloc (.cells itm0 46)) 5 1 v (bvs all) := H.out.arr.of (fun b' hb' => Below.heap_alloc _ _ _ (H.out.arr.lt b' hb'))
  have HRA := Lib.hid (show RefAt (w.alloc (.cells itm0 46)) b m v all from ⟨heap_alloc_lt _ _ H.out.blk, harr0, H.out.apart⟩)
  clear harr0
  go_loopg [6] (bs.length) (RtRel w b m v all bs)
  case atStart => exact ⟨0, all, v, by omega, rfl, HRA.out, by omega, Lib.hid (by simp), .inr (.inl rfl), (Chg.refl _ w).alloc _, Lib.hid (heap_alloc_at _ _)⟩
  case round =>
    obtain ⟨j, a', v', hjk, rfl, hL, hal, htk, hv', hch, hR⟩ := hrel
    by_cases hk0 : gk = 0
    · have hlt : ¬ (j : Int) < bs.length := by omega
      have hb5 := hR.out
      have R0 : ∀ i, wr.frozen? ⟨w.heap.size, i, none⟩ = false := fun i => free_of_blk hb5 i
      have rc := fun i => cell_of_blk hb5 i
      have rc0 : wr.cell? ⟨w.heap.size, 0, none⟩ = some (.int .i64 0) := rc 0
      have rc1 : wr.cell? ⟨w.heap.size, 1, none⟩ = some (.string ⟨#[]⟩) := rc 1
      have rc2 : wr.cell? ⟨w.heap.size, 2, none⟩ = some (.slice none 0 0) := rc 2
      have rc3 : wr.cell? ⟨w.heap.size, 3, none⟩ = some (.int .i64 0) := rc 3
      have rc4 : wr.cell? ⟨w.heap.size, 4, none⟩ = some (.bool false) := rc 4
      have HL := Lib.hid hL
      have HC := Lib.hid hch
      have HO := Lib.hid hv'
      have e := htk.out
      rw [List.drop_eq_nil_of_le (by omega), refTake, Nat.zero_add] at e
      have HE := Lib.hid e
      have HJ := Lib.hid (show j = bs.length by omega)
      clear hL hch hv' e htk rc hb5
      go_wp2
      refine bodyPost_ret (v := .tuple #[.int .i64 bs.length, itmV Itm.none]) ?_ rfl ⟨by rw [HE.out, HJ.out], ?_⟩
      · simp [results, Try.results15, go_sem, itmV, Itm.none, rc0, rc1, rc2, rc3, rc4]
      · rw [HE.out]
        exact rtake_fin HL.out HO.out HC.out ((((((Chg.refl (· = w.heap.size) wr).set (fun _ => rfl) _).set (fun _ => rfl) _).set (fun _ => rfl) _).set (fun _ => rfl) _).set (fun _ => rfl) _) hb H.out.arr.lt
    · have hj : j < bs.length := by omega
      have hlt : (j : Int) < bs.length := by omega
      have hrd : Rd wr (.slice ao bs.length cap) 1 (bvs bs) := HBS.out.kept hch (fun hx k hk e => by
        have := HSEP.out (bvs_ne.1 hx) k hk
        rcases e with e | e
        · exact this.1 e
        · exact this.2 e.symm)
      obtain ⟨bl, o, rfl, hcell⟩ := hrd.byte j hj
      obtain ⟨c, hc⟩ : ∃ c, c = bs[j] := ⟨_, rfl⟩
      rw [← hc] at hcell
      have HCJ := Lib.hid hc
      clear hc
      have hbl : bl < w.heap.size := by
        obtain ⟨bl', o', e, hcell'⟩ := HBS.out.byte j hj
        injection e with e; injection e with e1 e2; subst e1
        exact World.block_lt_of_cell? _ _ hcell'
      have hs6 : R6 b v' bl (o + j) c wr := ⟨by have := cell_of_blk hL.blk 1; simpa using this, hcell⟩
      have f1 : ∀ i, wr.frozen? ⟨b, i, none⟩ = false := fun i => free_of_blk hL.blk i
      have hbl1 : bl ≠ b ∧ v'.ownBlock ≠ some bl := by
        have := HSEP.out (by rintro rfl; simp at hj) bl (by rfl)
        refine ⟨this.1, fun e => ?_⟩
        rcases hv' with h | h | ⟨k, h, hk⟩
        · rw [e] at h; cases h
        · rw [e] at h; exact this.2 h.symm
        · rw [e] at h; injection h with h; omega
      have HL := Lib.hid hL
      have HC := Lib.hid hch
      have HO := Lib.hid hv'
      have HB1 := Lib.hid hbl1
      have HTK := Lib.hid htk
      have hmx : 4194305 ≤ maxLen := by decide
      have HBD1 := Lib.hid (show (bvs a').length / 1 + 1 ≤ maxLen by rw [bvs_length, Nat.div_one]; omega)
      have HBD2 := Lib.hid (show ((bvs a').length / 1 + 1) * 1 ≤ 140737488355328 by rw [bvs_length, Nat.div_one]; omega)
      clear hL hch hv' hrd hcell hbl1 htk
      go_upto_region 6 with (fail)
      go_cut [7] (fun _ wx => ∃ v2 : Value, RefAt wx b m v2 (a' ++ [c]) ∧ OwnTo w v v2 ∧ Chg (fun k => k = b ∨ some k = v.ownBlock) w wx ∧ wx.heap[w.heap.size]? = some (.cells itm0 46 (0, 0)))
      case first =>
        have e1 := hs6.1
        have e2 := hs6.2
        clear hs6
        have blk0 := fun (o1 : Obj) => (((Chg.refl (fun _ => False) wr).drew).alloc o1).obj HL.out.blk (fun h => h)
        have BLK0 := Lib.hid blk0
        clear blk0
        have e1a : ∀ o1 : Obj, (wr.alloc o1).cell? ⟨b, 1, none⟩ = some v' := fun o1 => cell_of_blk (BLK0.out o1) 1
        go_region_law (refine step_append_arr rfl (.tmp 22) (.tmp 27) 22 22 rfl 5 i0 (.int .u8 0) 1 1 Try.underlying22 hi0 hx0 hz0 hb0 rfl (by decide) v' (bvs a') rfl (HL.out.arr.kept (((Chg.refl (fun _ => False) wr).drew).alloc _) (fun _ _ h => h)) _ rfl 1 (bvs [c]) (src_byte (cell_alloc_eq (by simp) rfl)) HBD1.out HBD2.out ?_; intro v2 w2 ha2 hc2 ho2; obtain ⟨ao2, n2, cp2, rfl, hz2⟩ := ha2.shape; have blk2 := hc2.obj (BLK0.out _) (fun e => HL.out.apart e.symm); have gw : w2.cell? ⟨b, 1, none⟩ = some v' := cell_of_blk blk2 1; have fw := free_of_blk blk2 1)
        all_goals
          obtain ⟨z1, z2, z3, z4⟩ := r6_done (c := c) hb HL.out HO.out HC.out hR.out H.out.arr.lt (((Chg.refl (fun _ => False) wr).drew).alloc _) hc2 ha2 ho2
          go_wp2
          go_meet
          exact ⟨_, z1, z2, z3, z4⟩
      case rest =>
        clear hs6 f1
        obtain ⟨W3, hW3⟩ : ∃ W3 : World, W3 = wc := ⟨_, rfl⟩
        subst hW3
        obtain ⟨v2, z1, z2, z3, z4⟩ := hcut
        obtain ⟨ao2, n2, cp2, rfl, hz2⟩ := z1.arr.shape
        have q1 : W3.cell? ⟨b, 1, none⟩ = some (.slice ao2 n2 cp2) := cell_of_blk z1.blk 1
        have q0 : W3.cell? ⟨b, 0, none⟩ = some (.int .i64 m) := cell_of_blk z1.blk 0
        have hn2 : n2 = a'.length + 1 := by have := hz2.1; rw [bvs_length] at this; simp at this; omega
        have hrel : ¬ (a'.getLast? = some 13 ∧ c = 10) → RtRel w b m v all bs (gk - 1) (.int .i64 ((j : Int) + 1)) W3 := fun hn =>
          ⟨j + 1, a' ++ [c], _, by omega, by simp, z1, by simp; omega, Lib.hid (refTake_go hj HCJ.out hn HTK.out), z2, z3, Lib.hid z4⟩
        have HREL := Lib.hid hrel
        have HZ1 := Lib.hid z1
        have HZ2 := Lib.hid z2
        have HZ3 := Lib.hid z3
        have HZ4 := Lib.hid z4
        clear z1 z2 z3 z4 hrel hz2
        by_cases ha0 : a' = []
        · have HN := Lib.hid (HREL.out (by rw [ha0]; simp))
          have hlt2 : ¬ (2 : Int) ≤ n2 := by rw [hn2, ha0]; simp
          have hd2 : decide ((n2 : Int) ≥ 2) = false := decide_eq_false hlt2
          have HA := Lib.hid ha0
          have HNN := Lib.hid hn2
          clear ha0 hn2
          go_wp2
          go_roundg (gk - 1)
          case measure => omega
          case rel => simpa using HN.out
        · obtain ⟨k, hk⟩ : ∃ k, a'.length = k + 1 := ⟨a'.length - 1, by have := List.length_pos_iff.2 ha0; omega⟩
          obtain ⟨bl2, o2, rfl, hq2⟩ := HZ1.out.arr.rd.byte k (by simp; omega)
          obtain ⟨bl3, o3, heq, hq3⟩ := HZ1.out.arr.rd.byte (k + 1) (by simp; omega)
          injection heq with heq
          injection heq with heq1 heq2
          subst heq1 heq2
          obtain ⟨d, hd⟩ : ∃ d, d = (a' ++ [c])[k]'(by simp; omega) := ⟨_, rfl⟩
          have hdl : a'.getLast? = some d := by
            rw [hd, List.getElem_append_left (by omega), List.getLast?_eq_getElem?, List.getElem?_eq_getElem (by omega)]
            simp [hk]
          have hcl : (a' ++ [c])[k + 1]'(by simp; omega) = c := by
            rw [List.getElem_append_right (by omega)]; simp [hk]
          rw [← hd] at hq2
          rw [hcl] at hq3
          obtain rfl : n2 = k + 2 := by omega
          have hge2 : (2 : Int) ≤ ((k + 2 : Nat) : Int) := by omega
          have hkb : (k : Int) ≤ 4194304 := by omega
          have HDL := Lib.hid hdl
          have HK := Lib.hid hk
          clear hd hdl hcl hn2 ha0 hk
          by_cases h13 : d = 13
          · have e13 : ((d.toNat : Int) == 13) = true := by rw [h13]; rfl
            by_cases h10 : c = 10
            · have e10 : ((c.toNat : Int) == 10) = true := by rw [h10]; rfl
              have hend : refTake m all bs = (1 + j, line a'.dropLast m, []) := by
                rw [HTK.out, List.drop_eq_getElem_cons hj, ← HCJ.out, refTake, if_pos ⟨by rw [HDL.out, h13], h10⟩]
              have HEND := Lib.hid hend
              have hpre : Rd W3 (.slice (some ⟨bl2, o2, none⟩) k cp2) 1 (bvs a'.dropLast) := by
                have := HZ1.out.arr.rd.pre k (by simp; have := HK.out; omega)
                rw [List.take_append_of_le_length (by have := HK.out; omega), show k = a'.length - 1 from by have := HK.out; omega, ← List.dropLast_eq_take] at this
                rw [show k = a'.length - 1 from by have := HK.out; omega]; exact this
              have HP := Lib.hid hpre
              have hk2 : (k : Int) ≤ cp2 := by
                obtain ⟨_, n5, _, e5, _, f5, _⟩ := hpre
                injection e5 with _ e6 e7; omega
              clear h13 h10 hend hpre HREL
              go_upto_region 9 with (fail)
              go_cut [8] (fun p wx => ∃ bi : Nat, p = .pointer (some ⟨bi, 0, none⟩) ∧ W3.heap.size ≤ bi ∧ Sam W3 wx ∧ wx.heap[bi]? = some (.cells #[.int .i64 (line a'.dropLast m).kind, .string ⟨(line a'.dropLast m).text.toArray⟩, .slice none 0 0, .int .i64 (line a'.dropLast m).why, .bool false] 46 (0, 0)))
              case first =>
                have sm0 := Sam.refl W3
                have s1 : ∀ w', Sam W3 w' → w'.cell? ⟨b, 1, none⟩ = some (.slice (some ⟨bl2, o2, none⟩) (k + 2) cp2) := fun w' h => Chg.cell h q1 (fun h => h)
                have s0 : ∀ w', Sam W3 w' → w'.cell? ⟨b, 0, none⟩ = some (.int .i64 m) := fun w' h => Chg.cell h q0 (fun h => h)
                have kw0 : (0 : Int) ≤ (k : Int) := Int.natCast_nonneg k
                have kw1 : IntKind.i64.wrap (k : Int) = k := IntWalk.i64_in _ (by omega)
                go_region_held3 (fun w' => Sam W3 w') (first | assumption | exact Sam.drew (by assumption) | exact Sam.alloc (by assumption) _ | exact Sam.set (Sam.set (Sam.set (Sam.set (Sam.set (by assumption) (by simp) _) (by simp) _) (by simp) _) (by simp) _) (by simp) _) (first
                  | (go_at_call 20; refine (ref_line a'.dropLast _ _ _ (Sam.rd (by assumption) HP.out)).mono ?_; rintro e w5 ⟨rfl, c5⟩; have s5 := Sam.more (w0 := W3) (by assumption) c5; (try (have bx := c5.obj (heap_alloc_at _ _) (fun h => h); have lx := lt_of_block bx; obtain ⟨x0, x1, x2, x3, x4, xf⟩ := item_cells bx)); clear c5; unfold itmV))
                · go_wp2
                  go_meet
                  have hz := s5.size
                  exact ⟨_, rfl, hz, by assumption, heap_alloc_at _ _⟩
                · go_wp2
                  go_meet
                  refine ⟨_, rfl, Nat.le_refl _, by assumption, ?_⟩
                  have := heap_setCell_at (heap_setCell_at (heap_setCell_at (heap_setCell_at (heap_setCell_at bx (.int .i64 (line a'.dropLast m).kind) (i := 0)) (.string ⟨(line a'.dropLast m).text.toArray⟩) (i := 1)) (.slice none 0 0) (i := 2)) (.int .i64 (line a'.dropLast m).why) (i := 3)) (.bool false) (i := 4)
                  simpa using this
              case rest =>
                obtain ⟨bi, rfl, hbi, sm, hbx⟩ := hcut
                obtain ⟨x0, x1, x2, x3, x4, xf⟩ := item_cells hbx
                have hblk := Chg.obj sm HZ1.out.blk (fun h => h)
                have hRR := Chg.obj sm HZ4.out (fun h => h)
                obtain ⟨d0, d1, d2, d3, d4, df⟩ := item_cells hRR
                have c1 : wc.cell? ⟨b, 1, none⟩ = some (.slice (some ⟨bl2, o2, none⟩) (k + 2) cp2) := cell_of_blk hblk 1
                have cf := fun i => free_of_blk hblk i
                have hsz := lt_of_block HZ4.out
                have n1 : ¬ b = w.heap.size := by omega
                have n2 : ¬ b = bi := by omega
                have n3 : ¬ w.heap.size = bi := by omega
                have HBLK := Lib.hid hblk
                have HRR := Lib.hid hRR
                have SM := Lib.hid sm
                clear hblk hRR sm hbx
                go_wp2
                go_region
                all_goals go_wp2
                refine bodyPost_ret (v := .tuple #[.int .i64 (j + 1), itmV (line a'.dropLast m)]) ?_ rfl ⟨by rw [HEND.out]; simp only [show ((1 + j : Nat) : Int) = (j : Int) + 1 from by omega], ?_⟩
                · simp [results, Try.results15, go_sem, itmV, d0, d1, d2, d3, d4]
                · rw [HEND.out]
                  have hbl0 := heap_setCell_at HBLK.out (.slice none 0 0) (i := 1)
                  refine rtake_fin (w1 := wc.setCell ⟨b, 1, none⟩ (.slice none 0 0)) (v1 := .slice none 0 0) ⟨by simpa using hbl0, Arr.nil _ _ _, by simp [Value.ownBlock]⟩ (.inl rfl) ((HZ3.out.trans SM.out (fun _ _ h => h.elim)).set (fun _ => .inl rfl) _) ?_ hb H.out.arr.lt
                  exact ((((((Chg.refl (· = w.heap.size) _).set (fun _ => rfl) _).set (fun _ => rfl) _).set (fun _ => rfl) _).set (fun _ => rfl) _).set (fun _ => rfl) _).drew
            · have HN := Lib.hid (HREL.out (fun h => h10 h.2))
              have e10 := byte_ne h10
              clear h13 h10
              go_wp2
              go_roundg (gk - 1)
              case measure => omega
              case rel => simpa using HN.out
          · have HN := Lib.hid (HREL.out (fun h => h13 (by have := HDL.out.symm.trans h.1; injection this)))
            have e13 := byte_ne13 h13
            clear h13
            go_wp2
            go_roundg (gk - 1)
            case measure => omega
            case rel => simpa using HN.out
end Go.Proofs.Ytccmickmcpfapaa
