/- The law LineTakes, walked. The script's pieces hold at most 2^20 bytes. -/
import Derived.Test.YtccmickmcpfapaaLnT3
import Derived.Lib.SlBytesConst
namespace Go.Proofs.Ytccmickmcpfapaa
open Go Go.RowKit Ln

def sumLen (l : List (Int × Value × List UInt8)) : Nat := (l.map fun x => x.2.2.length + 1).sum
theorem sumLen_ge (l : List (Int × Value × List UInt8)) : l.length ≤ sumLen l := by
  induction l with
  | nil => simp
  | cons x r ih => unfold sumLen at ih ⊢; simp only [List.map_cons, List.sum_cons, List.length_cons]; omega
/-- The outer loop's head: j pieces are done. -/
def TOut (W : World) (m m' : Int) (l : List (Int × Value × List UInt8)) (p px q qx : Value) (g : Nat) (iv : Value) (wr : World) : Prop :=
  ∃ (j : Nat) (X : Nat → Prop) (o o' : Option (List UInt8)), j + g = l.length ∧ iv = .int .i64 j ∧ TWO X wr p px m o o q qx m' o' ∧ (∀ k, k < W.heap.size → X k) ∧ Chg (fun k => W.heap.size ≤ k) W wr ∧ olen o + olen o' + sumLen (l.drop j) ≤ 1048576

/-- The inner loop's head. -/
def TIn (W : World) (k kb : Nat) (bs : List UInt8) (bx : Array Value) (p p' q q' : Value) (mm nn : Int) (b : Option (List UInt8)) (top : Nat) (g : Nat) (rv iv : Value) (wr : World) : Prop :=
  ∃ (j : Nat) (X : Nat → Prop) (a : Option (List UInt8)) (lft : List UInt8) (ro : Option Addr) (rc : Nat), j + g = bs.length + 1 ∧ iv = .int .i64 j ∧ rv = .slice ro lft.length rc ∧ TWO X wr p p' mm a a q q' nn b ∧ (∀ i, i < W.heap.size → X i) ∧ X k ∧ X kb ∧ LentAt wr k bs ∧ wr.heap[kb]? = some (.cells bx 43 (0, 0)) ∧
    Chg (fun k => W.heap.size ≤ k) W wr ∧ Rd wr (.slice ro lft.length rc) 1 (bvs lft) ∧ (∀ i, (Value.slice ro lft.length rc).ownBlock = some i → i = k) ∧ lft.length + j ≤ bs.length ∧ olen a + olen b + lft.length ≤ top

/-- The loop that spoils what was lent. -/
def MRel (w0 : World) (k n g : Nat) (iv : Value) (wr : World) : Prop := ∃ (j : Nat) (C : Array Value), j + g = n ∧ iv = .int .i64 j ∧ wr.heap[k]? = some (.cells C 5 (0, 0)) ∧ n ≤ C.size ∧ Chg (· = k) w0 wr

set_option maxHeartbeats 1000000 in
set_option maxRecDepth 100000 in
theorem takes_walk (W : World) (m m' : Int) (ao : Option Addr) (cap : Nat) (l : List (Int × Value × List UInt8)) (hl : Rd W (.slice ao l.length cap) 2 (l.flatMap pcV)) (hb : ∀ x ∈ l, Rd W x.2.1 1 (bvs x.2.2)) (hs : sumLen l ≤ 1048576) :
    Calls Try.prog 6 #[.int .i64 m, .int .i64 m', .slice ao l.length cap] W fun e w' => e = .returned (.bool true) ∧ Below W.heap.size W w' := by
  have kc := fun (w : World) (b : Nat) (hb : b = w.heap.size) (C : Array Value) (n c : Nat) => run_const (P := Try.prog) w b hb 22 5 C n c Try.underlying22 Try.underlying5
  obtain ⟨i0, hi0, hx0, hz0, hb0⟩ := info_parts Try.infoByte
  have hll : l.length ≤ 1048576 := Nat.le_trans (sumLen_ge l) hs
  have HL := Lib.hid hl
  have HB := Lib.hid hb
  have HS := Lib.hid hs
  clear hl hb hs
  go_enter Try.func6, Try.ntmps6
  go_wp2_with fail
  refine (lo_new m W).mono ?_
  rintro e w1 ⟨p, F1, rfl, a1, a2, a3, a4⟩
  have A1 := Lib.hid (And.intro a1 (And.intro a2 (And.intro a3 a4)))
  clear a1 a2 a3 a4
  go_wp2_with fail
  refine (lo_new m' w1).mono ?_
  rintro e w2 ⟨q, F2, rfl, a1, a2, a3, a4⟩
  have A2 := Lib.hid (And.intro a1 (And.intro a2 (And.intro a3 a4)))
  clear a1 a2 a3 a4
  go_wp2_with fail
  refine (ro_new m w2).mono ?_
  rintro e w3 ⟨px, F3, rfl, a1, a2, a3, a4⟩
  have A3 := Lib.hid (And.intro a1 (And.intro a2 (And.intro a3 a4)))
  clear a1 a2 a3 a4
  go_wp2_with fail
  refine (ro_new m' w3).mono ?_
  rintro e w4 ⟨qx, F4, rfl, a1, a2, a3, a4⟩
  have A4 := Lib.hid (And.intro a1 (And.intro a2 (And.intro a3 a4)))
  clear a1 a2 a3 a4
  obtain ⟨po, rfl, ep⟩ := A1.out.1.ptr
  obtain ⟨qo, rfl, eq⟩ := A2.out.1.ptr
  obtain ⟨pxo, rfl, epx⟩ := A3.out.1.ptr
  obtain ⟨qxo, rfl, eqx⟩ := A4.out.1.ptr
  have n1 : po.isNone = pxo.isNone := by
    have := ep.trans epx.symm
    simpa using this
  have n2 : (!qo.isNone == qxo.isNone) = false := by
    have := eq.trans eqx.symm
    have h : qo.isNone = qxo.isNone := by simpa using this
    rw [h]; simp
  clear ep eq epx eqx
  go_wp2_with fail
  clear n1 n2
  have htwo : TWO (fun k => k < W.heap.size) w4 (.pointer po) (.pointer pxo) m (onew m) (onew m) (.pointer qo) (.pointer qxo) m' (onew m') ∧ Chg (fun k => W.heap.size ≤ k) W w4 := by
    obtain ⟨a1, a2, a3, a4⟩ := A1.out
    obtain ⟨b1, b2, b3, b4⟩ := A2.out
    obtain ⟨c1, c2, c3, c4⟩ := A3.out
    obtain ⟨d1, d2, d3, d4⟩ := A4.out
    have s1 := a4.size
    have s2 := b4.size
    have s3 := c4.size
    have no : ∀ G : Nat → Prop, Dis G (fun _ => False) := fun G k _ h => h
    refine ⟨⟨fun k => F1 k ∨ F3 k, fun k => F2 k ∨ F4 k, ⟨F1, F3, ((a1.kept b4 (no _)).kept c4 (no _)).kept d4 (no _), c1.kept d4 (no _), ?_, ((a2.of b4).of c4).of d4, c2.of d4, fun _ => Iff.rfl⟩,
      ⟨F2, F4, (b1.kept c4 (no _)).kept d4 (no _), d1, ?_, (b2.of c4).of d4, d2, fun _ => Iff.rfl⟩, ?_, ?_, ?_, ?_⟩, ?_⟩
    · intro k x y; have := a2 k x; have := c3 k y; omega
    · intro k x y; have := b2 k x; have := d3 k y; omega
    · rintro k (x | x) (y | y)
      · have := a2 k x; have := b3 k y; omega
      · have := a2 k x; have := d3 k y; omega
      · have := c3 k x; have := b2 k y; omega
      · have := c2 k x; have := d3 k y; omega
    · rintro k (x | x) y
      · have := a3 k x; omega
      · have := c3 k x; omega
    · rintro k (x | x) y
      · have := b3 k x; omega
      · have := d3 k x; omega
    · intro k x; have := d4.size; omega
    · exact (((a4.trans b4 (fun _ _ h => h)).trans c4 (fun _ _ h => h)).trans d4 (fun _ _ h => h)).mono (fun _ _ h => h.elim)
  have H4 := Lib.hid htwo
  clear htwo A1 A2 A3 A4
  go_loopg [76] l.length (TOut W m m' l (.pointer po) (.pointer pxo) (.pointer qo) (.pointer qxo))
  case atStart =>
    refine ⟨0, _, _, _, by omega, rfl, H4.out.1, fun k h => h, H4.out.2, ?_⟩
    have h0 : ∀ n, olen (onew n) = 0 := fun n => by unfold onew; split <;> rfl
    rw [h0, h0]
    simpa using HS.out
  case round =>
    obtain ⟨j, X, o, o', hj, rfl, htw, hX, hch, hlen⟩ := hrel
    have HT := Lib.hid htw
    have HX := Lib.hid hX
    have HC := Lib.hid hch
    have HLEN := Lib.hid hlen
    clear htw hX hch hlen
    by_cases hg : gk = 0
    · have hlt : ¬ (j : Int) < l.length := by omega
      go_wp2_with fail
      refine (line_new 2 _ (by omega) (by omega)).mono ?_
      rintro e w5 ⟨rfl, h5, c5⟩
      have e1 : take 2 LS.new [97, 98, 13, 10, 99] = (4, ⟨1, [97, 98], 0⟩, LS.new) := by decide
      have HE1 := Lib.hid e1
      have H5 := Lib.hid h5
      have C5 := Lib.hid c5
      have hl5 := lt_of_block h5.blk
      clear h5 c5 e1
      go_wp2_with fail
      refine (line_take _ _ _ _ _ (H5.out.alloc _) (by omega) (by omega) (LS.ok_new (by omega)) _ _ (Rd.fresh _ _ _ _ _ _ [97, 98, 13, 10, 99] (by rfl) (by rfl) (by decide) (by decide)) (sep_fresh H5.out _ _)).mono ?_
      rw [HE1.out]
      rintro e w6 ⟨rfl, v6, h6, ho6, c6⟩
      unfold itmV
      have C6 := Lib.hid c6
      clear h6 ho6 c6
      go_wp2
      go_ret
      refine ⟨rfl, ?_⟩
      exact (Chg.alloc ((((HC.out.trans C5.out (fun _ _ h => h.elim)).alloc _).trans C6.out (fun b hb e => by
        rcases e with e | e
        · have := HC.out.size; show W.heap.size ≤ b; omega
        · simp [Value.ownBlock] at e))) _).below (Nat.le_refl _) (fun k hk h => by omega)
    · have hjl : j < l.length := by omega
      have hlt : (j : Int) < l.length := by omega
      obtain ⟨x, hx⟩ : ∃ x, x = l[j] := ⟨_, rfl⟩
      obtain ⟨who, sv, bs⟩ := x
      have hcl : wr.cell? ⟨0, 0, none⟩ = wr.cell? ⟨0, 0, none⟩ := rfl
      have hne : l.flatMap pcV ≠ [] := by
        intro e
        have := rows_len 2 pcV (fun _ => rfl) l
        rw [e] at this; simp at this; omega
      obtain ⟨bl, off, rfl, hcell⟩ := HL.out.at hne
      have hbl : bl < W.heap.size := by
        have h0 := hcell 0 (List.length_pos_iff.2 hne)
        exact World.block_lt_of_cell? _ _ h0
      have hcj : ∀ i (hi : i < 2), W.cell? ⟨bl, off + (j * 2 + i), none⟩ = some ((pcV (who, sv, bs))[i]'hi) := fun i hi => by
        have hi' : j * 2 + i < (l.flatMap pcV).length := by rw [rows_len 2 pcV (fun _ => rfl)]; omega
        rw [hcell _ hi']
        have := rows_at 2 pcV (fun _ => rfl) l j i hjl hi
        rw [List.getElem?_eq_getElem hi', ← hx, List.getElem?_eq_getElem hi] at this
        exact this
      have c0 := HC.out.cell (hcj 0 (by omega)) (by show ¬ W.heap.size ≤ bl; omega)
      have c1 := HC.out.cell (hcj 1 (by omega)) (by show ¬ W.heap.size ≤ bl; omega)
      have hrd : Rd W sv 1 (bvs bs) := by have := HB.out l[j] (List.getElem_mem hjl); rw [← hx] at this; exact this
      simp only [pcV, List.getElem_cons_zero, List.getElem_cons_succ, Nat.add_zero, ← Nat.add_assoc] at c0 c1
      have hsum : sumLen (l.drop j) = bs.length + 1 + sumLen (l.drop (j + 1)) := by
        rw [List.drop_eq_getElem_cons hjl, ← hx]; rfl
      have hbs : bs.length ≤ 1048576 := by have := HLEN.out; omega
      obtain ⟨so, sn, sc, rfl, _⟩ := hrd.shape
      obtain rfl : bs.length = sn := hrd.len.symm
      have HRD := Lib.hid hrd
      have HSUM := Lib.hid hsum
      have hbx : wr.heap.size < wr.heap.size + 1 := by omega
      clear hcell hcj hx hcl hrd hne hsum
      go_upto_if 85 with (fail)
      go_cut [17, 18, 19] (fun s t u wx => wx = wr.alloc (.cells #[.int .i64 who, .slice so bs.length sc] 43) ∧ ∃ (p p' q q' : Value) (mm nn : Int) (a b : Option (List UInt8)), s = p ∧ t = p' ∧ u = .int .i64 mm ∧ TWO X wr p p' mm a a q q' nn b ∧ olen a + olen b = olen o + olen o' ∧
        Hid (∀ (Y : Nat → Prop) (w' : World) (a' : Option (List UInt8)), TWO Y w' p p' mm a' a' q q' nn b → ∃ c c', TWO Y w' (.pointer po) (.pointer pxo) m c c (.pointer qo) (.pointer qxo) m' c' ∧ olen c + olen c' = olen a' + olen b))
      case first =>
        by_cases hw : who = 1
        · have hw1 : (who == 1) = true := by simpa using hw
          clear hw
          go_wp2
          go_meet
          exact ⟨rfl, _, _, _, _, _, _, o', o, rfl, rfl, rfl, HT.out.swap, by omega, Lib.hid (fun Y w' a' h => ⟨_, _, h.swap, by omega⟩)⟩
        · have hw1 : (who == 1) = false := by simpa using hw
          clear hw
          go_wp2
          go_meet
          exact ⟨rfl, _, _, _, _, _, _, o, o', rfl, rfl, rfl, HT.out, rfl, Lib.hid (fun Y w' a' h => ⟨_, _, h, rfl⟩)⟩
      case rest =>
        obtain ⟨rfl, p, p', q, q', mm, nn, a, b, e1, e2, rfl, htw, hab, hback⟩ := hcut
        obtain rfl : p = _ := e1.symm
        obtain rfl : p' = _ := e2.symm
        have HTW := Lib.hid htw
        have HAB := Lib.hid hab
        clear htw hab HT c0 c1
        go_wp2_with fail
        have hmm : 4194304 + 70 ≤ maxLen := by decide
        refine (lent_calls _ _ bs (HRD.out.kept (HC.out.alloc _) (fun hx i hi e => by have := HRD.out.lt hx i hi; omega)) (by omega)).mono ?_
        rintro e w5 ⟨k, rfl, g1, g2, g3⟩
        have hkb : w5.heap[wr.heap.size]? = some (.cells #[.int .i64 who, .slice so bs.length sc] 43 (0, 0)) := g3.obj (heap_alloc_at _ _) (fun h => h)
        have c5 := ((Chg.refl (fun _ => False) wr).alloc (.cells #[.int .i64 who, .slice so bs.length sc] 43)).trans g3 (fun _ _ h => h)
        have hk5 : k < w5.heap.size := by obtain ⟨C, e, _⟩ := g1; exact lt_of_block e
        have hkb5 := lt_of_block hkb
        simp only [World.size_alloc] at g2
        have t5 := HTW.out.more c5 (Y := fun i => i = wr.heap.size ∨ i = k) (fun _ h _ => h.elim) (fun i hi => by omega)
        have d1 : w5.cell? ⟨wr.heap.size, 1, none⟩ = some (.slice so bs.length sc) := cell_of_blk hkb 1
        have HT5 := Lib.hid t5
        have HG1 := Lib.hid g1
        have HKB := Lib.hid hkb
        have HC5 := Lib.hid (HC.out.trans c5 (fun _ _ h => h.elim))
        have hwk : W.heap.size ≤ wr.heap.size := HC.out.size
        clear t5 g1 hkb c5 g3
        go_wp2_with fail
        obtain ⟨wo, hwo⟩ : ∃ wo : World, wo = wr := ⟨_, rfl⟩
        subst hwo
        obtain ⟨go, hgo⟩ : ∃ go : Nat, go = gk := ⟨_, rfl⟩
        subst hgo
        go_loopg [21, 97] (bs.length + 1) (TIn W k wo.heap.size bs #[.int .i64 who, .slice so bs.length sc] p p' q q' mm nn b (olen a + olen b + bs.length))
        case atStart =>
          exact ⟨0, _, a, bs, some ⟨k, 0, none⟩, bs.length + 70, by omega, rfl, rfl, HT5.out, fun i hi => .inl (HX.out i hi), .inr (.inr rfl), .inr (.inl rfl), HG1.out, HKB.out, HC5.out, HG1.out.rd _ _ rfl (by omega) (by omega), fun i hi => by simp [Value.ownBlock] at hi; exact hi.symm, by omega, Nat.le_refl _⟩
        case round =>
          obtain ⟨i, X2, a2, lft, ro, rc, r1, rfl, rfl, r2, r3, r4, r5, r6, r7, r8, r9, r10, r11, r12⟩ := hrel
          have R2 := Lib.hid r2
          have R3 := Lib.hid r3
          have R6 := Lib.hid r6
          have R7 := Lib.hid r7
          have R8 := Lib.hid r8
          have R9 := Lib.hid r9
          have R10 := Lib.hid r10
          have hlt2 : (i : Int) < (bs.length : Int) + 1 := by omega
          clear r2 r3 r6 r7 r8 r9 r10 d1 HT5 HG1 HKB HC5
          have hab := HAB.out
          have hlen := HLEN.out
          have hsm := HSUM.out
          go_wp2_with fail
          refine (two_ref R2.out _ lft R9.out (fun b hb => by rw [R10.out b hb]; exact r4) (by omega)).mono ?_
          rintro e w6 ⟨rfl, t6, c6⟩
          have T6 := Lib.hid t6
          have C6 := Lib.hid c6
          clear t6 c6
          unfold itmV
          go_wp2_with fail
          have hp6 := C6.out.size
          have t6' := T6.out.more (w' := w6.alloc (.cells #[.int .i64 (otake mm a2 lft).2.1.kind, .string ⟨(otake mm a2 lft).2.1.text.toArray⟩, .slice none 0 0, .int .i64 (otake mm a2 lft).2.1.why, .bool false] 46)) (Y := fun b => b = w6.heap.size) ((Chg.refl (fun _ => False) w6).alloc _) (fun _ h _ => h.elim) (fun b hb => by subst hb; simp)
          have r9' := (R9.out.kept C6.out (fun _ b hb e => e (by rw [R10.out b hb]; exact r4))).kept ((Chg.refl (fun _ => False) w6).alloc (.cells #[.int .i64 (otake mm a2 lft).2.1.kind, .string ⟨(otake mm a2 lft).2.1.text.toArray⟩, .slice none 0 0, .int .i64 (otake mm a2 lft).2.1.why, .bool false] 46)) (fun _ _ _ h => h)
          refine (two_line t6' _ lft r9' (fun b hb => by rw [R10.out b hb]; exact .inl r4)).mono ?_
          rintro e w7 ⟨rfl, t7, c7⟩
          have b23 := c7.obj (heap_alloc_at _ _) (fun h => h (.inr rfl))
          have hl23 := lt_of_block b23
          obtain ⟨x0, x1, x2, x3, x4, _⟩ := item_cells b23
          have C7 := Lib.hid ((C6.out.alloc (.cells #[.int .i64 (otake mm a2 lft).2.1.kind, .string ⟨(otake mm a2 lft).2.1.text.toArray⟩, .slice none 0 0, .int .i64 (otake mm a2 lft).2.1.why, .bool false] 46)).trans c7 (T := fun b => ¬ (X2 b ∨ b = w6.heap.size)) (fun b hb e hx => e (.inl hx)))
          have T7 := Lib.hid t7
          have hkb7 := C7.out.obj R7.out (fun h => h r5)
          have y1 : w7.cell? ⟨wo.heap.size, 1, none⟩ = some (.slice so bs.length sc) := cell_of_blk hkb7 1
          have hl7 := lt_of_block hkb7
          clear t6' r9' t7 c7 b23 hkb7 T6
          obtain ⟨nt, hnt⟩ : ∃ nt, nt = (otake mm a2 lft).1 := ⟨_, rfl⟩
          obtain ⟨it, hit⟩ : ∃ it, it = (otake mm a2 lft).2.1 := ⟨_, rfl⟩
          obtain ⟨a3, ha3⟩ : ∃ a3, a3 = (otake mm a2 lft).2.2 := ⟨_, rfl⟩
          have hle := otake_le mm a2 lft
          have hol := otake_len mm a2 lft
          rw [← hnt] at hle hol
          rw [← ha3] at hol
          rw [← ha3] at T7
          rw [← hit] at x0 x1 x3
          unfold itmV
          rw [← hnt, ← hit]
          clear hnt hit ha3
          go_wp2_with (go_at_call 17; refine (same_calls _ it).mono ?_; rintro e w8 ⟨rfl, c8⟩; have y8 := c8.cell ((World.cell?_alloc_lt _ _ _ hl7).trans y1) (fun h => h); have C8 := Lib.hid ((C7.out.alloc (.cells #[.int .i64 it.kind, .string ⟨it.text.toArray⟩, .slice none 0 0, .int .i64 it.why, .bool false] 46)).trans c8 (T := fun _ => False) (fun _ _ h => h.elim)); have T8 := Lib.hid ((T7.out.kept ((Chg.refl (fun _ => False) w7).alloc _) (fun _ h _ => h.elim)).kept c8 (fun _ h _ => h.elim)); clear c8)
          have c9 := R8.out.trans C8.out (T := fun b => ¬ X2 b) (fun b hb e => absurd (R3.out b hb) e)
          refine (kept_calls w8 k bs _ (R6.out.kept C8.out (fun h => h r4)) (HRD.out.kept c9 (fun hx b hb e => by have := HRD.out.lt hx b hb; omega)) (by omega)).mono ?_
          rintro e w9 ⟨rfl, rfl⟩
          have C9 := Lib.hid c9
          clear c9 x0 x1 x2 x3 x4 y1 y8
          go_wp2_with fail
          refine (two_held T8.out).mono ?_
          rintro e w9 ⟨rfl, rfl⟩
          have hask := T8.out.asked
          obtain ⟨q0, q1, q2⟩ := hask
          obtain ⟨ro', rn', rc', hsl, hrd', hown'⟩ := (R9.out.kept C8.out (fun _ b hb e => e (by rw [R10.out b hb]; exact r4))).tail' (P := Try.prog) Try.underlying22 Try.elemBytes hi0 hz0 nt hle
          obtain ⟨hh, ehh⟩ : ∃ hh, hh = oheld mm a3 := ⟨_, rfl⟩
          rw [← ehh] at q0 q1 ⊢
          have hbig : (lft.length : Int) ≤ 1048576 := by omega
          have HRD2 := Lib.hid hrd'
          have HOWN2 := Lib.hid hown'
          have rn2 : rn' = lft.length - nt := by have := hrd'.len; rw [List.length_drop] at this; exact this
          have RN2 := Lib.hid rn2
          clear ehh hrd' hown' rn2
          go_upto_region 22 with (fail)
          go_cut [157] (fun s wx => s = .bool false ∧ wx = w9)
          case first =>
            rcases q2 with ⟨e3, e4⟩ | ⟨l3, b3, v3, e3, e4, m1, m2, e5, ao3, cp3, e6⟩
            · have e7 : hh = 0 := by
                rcases q1 with ⟨_, h⟩ | ⟨l4, h, _⟩
                · exact h
                · rw [e3] at h; cases h
              subst e4 e7
              have E3 := Lib.hid e3
              clear q1 q0 e3
              go_wp2_with fail
              go_meet
              exact ⟨rfl, rfl⟩
            · have e7 : hh ≤ l3.length ∧ hh ≤ mm + 1 := by
                rcases q1 with ⟨h, _⟩ | ⟨l4, h, h1, h2⟩
                · rw [e3] at h; cases h
                · rw [e3] at h; injection h with h; subst h; exact ⟨h1, h2⟩
              obtain ⟨e8, e9⟩ := e7
              subst e4 e6
              have g9 : ¬ mm + 8 < hh := by omega
              have E3 := Lib.hid e3
              clear q1 e3
              go_wp2_with fail
              go_meet
              exact ⟨by congr 1; simp; omega, rfl⟩
          case rest =>
            obtain ⟨rfl, rfl⟩ := hcut
            by_cases hn0 : nt = 0
            · have hn0' : ((nt : Int) == 0) = true := by simp [hn0]
              have HN0 := Lib.hid hn0
              clear hn0
              go_wp2_with fail
              have hkk : ∃ C : Array Value, wc.heap[k]? = some (.cells C 5 (0, 0)) ∧ bs.length ≤ C.size := by
                obtain ⟨C, u1, u2⟩ := R6.out.kept C8.out (fun h => h r4)
                refine ⟨C, u1, ?_⟩
                rw [← Array.length_toList, u2, bvs_length, List.length_append]; omega
              have HKK := Lib.hid hkk
              clear hkk hsl hn0'
              obtain ⟨wi, hwi⟩ : ∃ wi : World, wi = wr := ⟨_, rfl⟩
              subst hwi
              obtain ⟨gi, hgi⟩ : ∃ gi : Nat, gi = gk := ⟨_, rfl⟩
              subst hgi
              go_loopg [166] bs.length (MRel wc k bs.length)
              case atStart =>
                obtain ⟨C, u1, u2⟩ := HKK.out
                exact ⟨0, C, by omega, rfl, u1, u2, Chg.refl _ _⟩
              case round =>
                obtain ⟨jj, C, v1, rfl, v2, v3, v4⟩ := hrel
                have V4 := Lib.hid v4
                have V2 := Lib.hid v2
                by_cases hgz : gk = 0
                · have hlt3 : ¬ (jj : Int) < bs.length := by omega
                  clear v4 v2
                  go_wp2
                  go_roundg (go - 1)
                  case measure => omega
                  case rel =>
                    obtain ⟨c, c', z1, z2⟩ := hback.out _ _ _ (T8.out.kept V4.out (fun b hb _ => by subst hb; exact .inl r4))
                    have hn := HN0.out
                    refine ⟨j + 1, _, c, c', by omega, by go_num, z1, fun b hb => .inl (R3.out b hb), C9.out.trans V4.out (fun b hb e => by have e' : b = k := e; show W.heap.size ≤ b; omega), ?_⟩
                    omega
                · have hlt3 : (jj : Int) < bs.length := by omega
                  have hjj : jj < C.size := by omega
                  have vc : wr.cell? ⟨k, jj, none⟩ = some C[jj] := by rw [cell_of_blk v2]; exact Array.getElem?_eq_getElem hjj
                  have vf := free_of_blk v2 jj
                  clear v4 v2
                  go_wp2
                  go_roundg (gk - 1)
                  case measure => omega
                  case rel => exact ⟨jj + 1, _, by omega, by go_num, heap_setCell_at V2.out _, by simpa using v3, V4.out.set (fun _ => rfl) _⟩
            · have hn0' : ((nt : Int) == 0) = false := by simp [hn0]
              have HN0 := Lib.hid hn0
              clear hn0
              go_wp2
              go_roundg (gk - 1)
              case measure => omega
              case rel =>
                have hn := HN0.out
                have hr := HRD2.out
                have ho := HOWN2.out
                have hrn := RN2.out
                obtain rfl : rn' = (lft.drop nt).length := by rw [List.length_drop]; exact hrn
                refine ⟨i + 1, _, a3, lft.drop nt, ro', rc', by omega, by go_num, rfl, T8.out, fun b hb => .inl (R3.out b hb), .inl r4, .inl r5, R6.out.kept C8.out (fun h => h r4), C8.out.obj R7.out (fun h => h r5), C9.out, hr, fun b hb => R10.out b (by rw [← ho]; exact hb), ?_, ?_⟩
                · rw [List.length_drop]; omega
                · rw [List.length_drop]; omega
end Go.Proofs.Ytccmickmcpfapaa
