/- The walk of the liner's Take. Conditions as stated. -/
import Derived.Test.YtnjloldhmjadoaaLnW1
import Derived.Deep.LoopGhost
import Derived.Deep.DeepMust
import Derived.Scope
namespace Go.Proofs.Ytnjloldhmjadoaa
open Go Go.RowKit Ln

theorem LinerAt.setcr {w : World} {b : Nat} {m : Int} {v : Value} {s : LS} (h : LinerAt w b m v s) (x : Bool) : LinerAt (w.setCell ⟨b, 2, none⟩ (.bool x)) b m v { s with cr := x } := by
  obtain ⟨blk, arr, apart⟩ := h
  refine ⟨by simpa using heap_setCell_at blk (.bool x) (i := 2), arr.of (fun k hk => Below.heap_setCell _ _ _ _ (fun e => apart (by rw [hk]; exact congrArg some e))), apart⟩

/-- The facts that a walk over a liner wants. -/
theorem LinerAt.facts {w : World} {b : Nat} {m : Int} {v : Value} {s : LS} (h : LinerAt w b m v s) :
    w.cell? ⟨b, 0, none⟩ = some (.int .i64 m) ∧ w.cell? ⟨b, 1, none⟩ = some v ∧ w.cell? ⟨b, 2, none⟩ = some (.bool s.cr) ∧ w.cell? ⟨b, 3, none⟩ = some (.int .i64 s.why) ∧ ∀ i, w.frozen? ⟨b, i, none⟩ = false := by
  have blk := h.blk
  exact ⟨by simp [World.cell?, blk], by simp [World.cell?, blk], by simp [World.cell?, blk], by simp [World.cell?, blk], by intro i; simp [World.frozen?, blk]⟩

theorem Try.infoByte : (Try.prog.info? 5).map (fun i => (i.zero, i.size, i.bytes)) = some (some (.int .u8 0), 1, 1) := by kernel_rfl
/-- One byte laid for an append. -/
theorem src_byte {w : World} {b : Nat} {c : UInt8} (h : w.cell? ⟨b, 0, none⟩ = some (.int .u8 c.toNat)) : Src Try.prog 1 24 (.slice (some ⟨b, 0, none⟩) 1 1) 1 (bvs [c]) w :=
  Src.ofSlice w Try.underlying24 _ 1 1 (bvs [c]) (by simp [bvs]) (fun j u hu => by
    have hj := (List.getElem?_eq_some_iff.1 hu).1
    have : j = 0 := by simp [bvs] at hj; exact hj
    subst this
    simp [bvs] at hu; subst hu
    rw [Addr.add_none]; exact h) (bvs_one _)
/-- How the text's block of later stands to the one at the beginning. -/
def OwnTo (w : World) (v v' : Value) : Prop := v'.ownBlock = none ∨ v'.ownBlock = v.ownBlock ∨ ∃ k, v'.ownBlock = some k ∧ w.heap.size < k
theorem OwnTo.ne {w : World} {v v' : Value} (h : OwnTo w v v') (hv : ∀ k, v.ownBlock = some k → k < w.heap.size) : ∀ k, v'.ownBlock = some k → k ≠ w.heap.size := by
  intro k hk
  rcases h with h | h | ⟨i, h, hi⟩
  · rw [hk] at h; cases h
  · rw [hk] at h; have := hv k h.symm; omega
  · rw [hk] at h; cases h; omega
theorem take_fin {w w1 w2 : World} {b : Nat} {m : Int} {v v1 : Value} {s1 : LS} (h1 : LinerAt w1 b m v1 s1) (ho : OwnTo w v v1) (hc : Chg (fun k => k = b ∨ some k = v.ownBlock) w w1) (hc2 : Chg (· = w.heap.size) w1 w2)
    (hb : b < w.heap.size) (hv : ∀ k, v.ownBlock = some k → k < w.heap.size) :
    ∃ v', LinerAt w2 b m v' s1 ∧ OwnTo w v v' ∧ Chg (fun k => k = b ∨ some k = v.ownBlock) w w2 :=
  ⟨v1, h1.kept hc2 (fun e => by omega) (fun k hk => ho.ne hv k hk), ho, hc.trans hc2 (fun i hi he => by omega)⟩
theorem LinerAt.more {w w1 : World} {b : Nat} {m : Int} {v v1 : Value} {s : LS} (h : LinerAt w b m v s) {c : UInt8} (ha : Arr w1 5 1 v1 (bvs s.text ++ bvs [c])) (hc : Chg (fun k => some k = v.ownBlock) w w1) (hv : v1.ownBlock = v.ownBlock ∨ v1.ownBlock = some w.heap.size) :
    LinerAt (w1.setCell ⟨b, 1, none⟩ v1) b m v1 { s with text := s.text ++ [c] } := by
  have hne : v1.ownBlock ≠ some b := by
    rcases hv with e | e
    · rw [e]; exact h.apart
    · rw [e]; intro e2; injection e2 with e2; have := lt_of_block h.blk; omega
  have blk := hc.obj h.blk (fun e => h.apart e.symm)
  refine ⟨by simpa using heap_setCell_at blk v1 (i := 1), ?_, hne⟩
  rw [bvs_append]
  exact ha.of (fun k hk => Below.heap_setCell _ _ _ _ (fun e => hne (by rw [hk]; exact congrArg some e)))

theorem byte_ne {c : UInt8} (h : ¬ c = 10) : ((c.toNat : Int) == 10) = false := by
  simp only [beq_eq_false_iff_ne, ne_eq]
  intro e; apply h; apply UInt8.toNat_inj.1; simpa using (by omega : c.toNat = 10)
theorem byte_ne13 {c : UInt8} (h : ¬ c = 13) : ((c.toNat : Int) == 13) = false := by
  simp only [beq_eq_false_iff_ne, ne_eq]
  intro e; apply h; apply UInt8.toNat_inj.1; simpa using (by omega : c.toNat = 13)
theorem byte_eq13 (c : UInt8) : ((c.toNat : Int) == 13) = (c == 13) := by
  by_cases h : c = 13
  · subst h; rfl
  · rw [byte_ne13 h]; simpa using h

/-- The zero item's cells. -/
def itm0 : Array Value := #[.int .i64 0, .string ⟨#[]⟩, .slice none 0 0, .int .i64 0, .bool false]

/-- What holds at the head of Take's loop: j bytes are taken, the state is s'. -/
def TkRel (w : World) (b : Nat) (m : Int) (v : Value) (s : LS) (bs : List UInt8) (k : Nat) (nv : Value) (wr : World) : Prop :=
  ∃ (j : Nat) (s' : LS) (v' : Value), j + k = bs.length ∧ nv = .int .i64 j ∧ LinerAt wr b m v' s' ∧ s'.ok m ∧ Hid (take m s bs = ((take m s' (bs.drop j)).1 + j, (take m s' (bs.drop j)).2)) ∧
    OwnTo w v v' ∧ Chg (fun k => k = b ∨ some k = v.ownBlock) w wr ∧ Hid (wr.heap[w.heap.size]? = some (.cells itm0 35 (0, 0)))
theorem TkRel.on {w wr w2 : World} {b : Nat} {m : Int} {v v2 : Value} {s s' : LS} {bs : List UInt8} {gk j : Nat} {c : UInt8} (hjk : j + gk = bs.length) (hj : j < bs.length) (h2 : LinerAt w2 b m v2 (s'.next m c)) (hok : (s'.next m c).ok m)
    (hE : take m s bs = ((take m (s'.next m c) (bs.drop (j + 1))).1 + (j + 1), (take m (s'.next m c) (bs.drop (j + 1))).2)) (ho : OwnTo w v v2) (hC : Chg (fun k => k = b ∨ some k = v.ownBlock) w wr) {T : Nat → Prop} (hc2 : Chg T wr w2)
    (hT : ∀ i, i < w.heap.size → T i → i = b ∨ some i = v.ownBlock) (hR : w2.heap[w.heap.size]? = some (.cells itm0 35 (0, 0))) : TkRel w b m v s bs (gk - 1) (.int .i64 ((j : Int) + 1)) w2 :=
  ⟨j + 1, _, v2, by omega, by simp, h2, hok, hE, ho, hC.trans hc2 hT, hR⟩

set_option maxHeartbeats 2000000 in
set_option maxRecDepth 100000 in
theorem line_take (w : World) (b : Nat) (v : Value) (m : Int) (s : LS) (h : LinerAt w b m v s) (hm0 : 1 ≤ m) (hm1 : m ≤ 16777216) (hok : s.ok m)
    (bv : Value) (bs : List UInt8) (hbs : Rd w bv 1 (bvs bs)) (hsep : bs ≠ [] → ∀ k, bv.ownBlock = some k → k ≠ b ∧ v.ownBlock ≠ some k) :
    Calls Try.prog 46 #[.pointer (some ⟨b, 0, none⟩), bv] w fun r w' => r = .returned (.tuple #[.int .i64 (take m s bs).1, itmV (take m s bs).2.1]) ∧
      ∃ v', LinerAt w' b m v' (take m s bs).2.2 ∧ OwnTo w v v' ∧ Chg (fun k => k = b ∨ some k = v.ownBlock) w w' := by
  have hb := lt_of_block h.blk
  obtain ⟨c0, c1, c2, c3, f⟩ := h.facts
  have t0 : (m == 0) = false := by simp; omega
  obtain ⟨ao, n, cap, rfl, _, r2, _⟩ := hbs.shape
  obtain rfl : bs.length = n := hbs.len.symm
  have HBS := Lib.hid hbs
  have H := Lib.hid h
  have HSEP := Lib.hid hsep
  unfold maxLen at r2
  clear h hsep hbs
  go_enter Try.func46, Try.ntmps46
  go_wp2
  go_step3
  go_wp2
  go_step3
  go_wp2
  have hok' := Lib.hid hok
  clear hok c0 c1 c2 c3 f t0
  go_loopg [6] (bs.length) (TkRel w b m v s bs)
  case atStart => exact ⟨0, s, v, by omega, rfl, H.out.alloc _, hok'.out, Lib.hid (by simp), .inr (.inl rfl), (Chg.refl _ w).alloc _, Lib.hid (heap_alloc_at _ _)⟩
  case round =>
    obtain ⟨j, s', v', hjk, rfl, hL, hokj, htk, hv', hch, hR⟩ := hrel
    have hRB : w.heap.size ≠ b := by omega
    have R0 : ∀ i, wr.frozen? ⟨w.heap.size, i, none⟩ = false := fun i => free_of_blk hR.out i
    have RC : wr.cell? ⟨w.heap.size, 0, none⟩ = some (.int .i64 0) ∧ wr.cell? ⟨w.heap.size, 1, none⟩ = some (.string ⟨#[]⟩) ∧ wr.cell? ⟨w.heap.size, 2, none⟩ = some (.slice none 0 0) ∧ wr.cell? ⟨w.heap.size, 3, none⟩ = some (.int .i64 0) ∧ wr.cell? ⟨w.heap.size, 4, none⟩ = some (.bool false) := by
      have := fun i => cell_of_blk hR.out i
      exact ⟨this 0, this 1, this 2, this 3, this 4⟩
    obtain ⟨rc0, rc1, rc2, rc3, rc4⟩ := RC
    by_cases hk0 : gk = 0
    · have hlt : ¬ (j : Int) < bs.length := by omega
      have HL := Lib.hid hL
      have HC := Lib.hid hch
      have HO := Lib.hid hv'
      have e := htk.out
      rw [List.drop_eq_nil_of_le (by omega), take, Nat.zero_add] at e
      have HE := Lib.hid e
      clear hL hokj hch hv' e htk
      go_wp2
      refine bodyPost_ret (v := .tuple #[.int .i64 j, itmV Itm.none]) ?_ rfl ⟨by rw [HE.out], ?_⟩
      · simp [results, Try.results46, go_sem, itmV, Itm.none, rc0, rc1, rc2, rc3, rc4]
      · rw [HE.out]
        exact take_fin HL.out HO.out HC.out ((((((Chg.refl (· = w.heap.size) wr).set (fun _ => rfl) _).set (fun _ => rfl) _).set (fun _ => rfl) _).set (fun _ => rfl) _).set (fun _ => rfl) _) hb H.out.arr.lt
    · have hj : j < bs.length := by omega
      have hlt : (j : Int) < bs.length := by omega
      have hrd : Rd wr (.slice ao bs.length cap) 1 (bvs bs) := HBS.out.kept hch (fun hx k hk e => by
        have := HSEP.out (bvs_ne.1 hx) k hk
        rcases e with e | e
        · exact this.1 e
        · exact this.2 e.symm)
      obtain ⟨bl, o, rfl, hcell⟩ := hrd.byte j hj
      obtain ⟨c, hc⟩ : ∃ c, c = bs[j] := ⟨_, rfl⟩
      rw [← hc] at hcell
      have HC := Lib.hid hc
      have HL := Lib.hid hL
      have HCH := Lib.hid hch
      have HO := Lib.hid hv'
      have HOK := Lib.hid hokj
      obtain ⟨c0, c1, c2, c3, f⟩ := hL.facts
      clear hrd hc hL hch hv' hokj
      by_cases hE : s'.cr = true ∧ c = 10
      · -- the line ends
        obtain ⟨hcr, h10⟩ := hE
        have e := take_end hj (by rw [← HC.out]; simp [LS.ends, hcr, h10]) htk.out
        have HE := Lib.hid e
        have b10 : ((c.toNat : Int) == 10) = true := by rw [h10]; rfl
        rw [hcr] at c2
        clear hcr h10 e htk
        go_wp2_with fail
        refine (line_end _ _ _ _ _ HL.out).mono ?_
        rintro e w1 ⟨rfl, ⟨v1, h1, ho1⟩, hc1⟩
        unfold itmV
        have HL1 := Lib.hid h1
        have HC1 := Lib.hid hc1
        have R1 := hc1.obj hR.out (fun e => hRB e)
        have f1 : ∀ i, w1.frozen? ⟨w.heap.size, i, none⟩ = false := fun i => free_of_blk R1 i
        have d := fun i => cell_of_blk R1 i
        have d0 := d 0
        have d1 := d 1
        have d2 := d 2
        have d3 := d 3
        have d4 := d 4
        simp only [itm0] at d0 d1 d2 d3 d4
        have HO1 := Lib.hid ho1
        clear h1 hc1 R1 d c0 c1 c2 c3 f rc0 rc1 rc2 rc3 rc4 R0 ho1
        go_wp2
        rw [Exit.noGoto_ret]
        refine bodyPost_ret (v := .tuple #[.int .i64 (j + 1), itmV s'.item]) ?_ rfl ⟨by rw [HE.out]; simp only [show ((1 + j : Nat) : Int) = (j : Int) + 1 from by omega], ?_⟩
        · simp [results, Try.results46, go_sem, itmV, d0, d1, d2, d3, d4]
        · rw [HE.out]
          exact take_fin HL1.out (by have := HO.out; unfold OwnTo at this ⊢; rw [HO1.out]; exact this) (HCH.out.trans HC1.out (fun i _ e => .inl e)) ((((((Chg.refl (· = w.heap.size) w1).set (fun _ => rfl) _).set (fun _ => rfl) _).set (fun _ => rfl) _).set (fun _ => rfl) _).set (fun _ => rfl) _) hb H.out.arr.lt
      have he : s'.ends c = false := by
        simp only [LS.ends]
        rcases Bool.eq_false_or_eq_true s'.cr with h | h
        · have : ¬ c = 10 := fun e => hE ⟨h, e⟩
          simp [h, this]
        · simp [h]
      have e := take_on hj (by rw [← HC.out]; exact he) htk.out
      rw [← HC.out] at e
      have HE := Lib.hid e
      have HOK1 := Lib.hid (LS.ok_next (by omega) HOK.out c)
      clear e he htk
      by_cases hB : s'.cr = true ∨ c = 10
      · -- a bare CR or LF
        have HN := Lib.hid (next_bare (most := m) hB)
        have hcase : (∃ x, s'.cr = true ∧ ((c.toNat : Int) == 10) = false ∧ ((c.toNat : Int) == 13) = x ∧ (c == 13) = x) ∨ (s'.cr = false ∧ ((c.toNat : Int) == 10) = true ∧ ((c.toNat : Int) == 13) = false ∧ (c == 13) = false) := by
          rcases Bool.eq_false_or_eq_true s'.cr with h | h
          · left
            have h10 : ¬ c = 10 := fun e => hE ⟨h, e⟩
            exact ⟨c == 13, h, byte_ne h10, byte_eq13 c, rfl⟩
          · right
            have h10 : c = 10 := by
              rcases hB with e | e
              · rw [h] at e; cases e
              · exact e
            subst h10
            exact ⟨h, rfl, rfl, rfl⟩
        clear hE hB
        rcases hcase with ⟨x, hcr, b10, b13, hx⟩ | ⟨hcr, b10, b13, hx⟩
        · have HX := Lib.hid hx
          rw [hcr] at c2
          clear hcr hx
          cases x
          all_goals
            go_wp2_with fail
            refine (line_spoil _ _ _ _ _ _ HL.out).mono ?_
            rintro e w1 ⟨rfl, h1, hc1⟩
            have HL1 := Lib.hid h1
            have HC1 := Lib.hid hc1
            have R1 := Lib.hid (hc1.obj hR.out (fun e => hRB e))
            obtain ⟨d0, d1, d2, d3, g⟩ := h1.facts
            have d3' : w1.cell? ⟨b, 3, none⟩ = some (.int .i64 130) := by rw [d3]; simp [LS.spoil]
            clear h1 hc1 c0 c1 c2 c3 f d0 d1 d3 rc0 rc1 rc2 rc3 rc4 R0
            go_wp2
            go_roundg (gk - 1)
            case measure => omega
            case rel => exact TkRel.on hjk hj (by rw [HN.out, HX.out]; exact HL1.out.setcr _) HOK1.out HE.out (.inl rfl) HCH.out (HC1.out.set (fun _ => rfl) _) (fun _ _ e => .inl e) (heap_setCell_ne R1.out (fun e => hRB e.symm) _)
        · have HX := Lib.hid hx
          rw [hcr] at c2
          clear hcr hx
          go_wp2_with fail
          refine (line_spoil _ _ _ _ _ _ HL.out).mono ?_
          rintro e w1 ⟨rfl, h1, hc1⟩
          have HL1 := Lib.hid h1
          have HC1 := Lib.hid hc1
          have R1 := Lib.hid (hc1.obj hR.out (fun e => hRB e))
          obtain ⟨d0, d1, d2, d3, g⟩ := h1.facts
          have d3' : w1.cell? ⟨b, 3, none⟩ = some (.int .i64 130) := by rw [d3]; simp [LS.spoil]
          clear h1 hc1 c0 c1 c2 c3 f d0 d1 d3 rc0 rc1 rc2 rc3 rc4 R0
          go_wp2
          go_roundg (gk - 1)
          case measure => omega
          case rel => exact TkRel.on hjk hj (by rw [HN.out, HX.out]; exact HL1.out.setcr _) HOK1.out HE.out (.inl rfl) HCH.out (HC1.out.set (fun _ => rfl) _) (fun _ _ e => .inl e) (heap_setCell_ne R1.out (fun e => hRB e.symm) _)
      have hcr : s'.cr = false := by
        rcases Bool.eq_false_or_eq_true s'.cr with h | h
        · exact absurd (.inl h) hB
        · exact h
      have h10 : ¬ c = 10 := fun e => hB (.inr e)
      have b10 := byte_ne h10
      rw [hcr] at c2
      clear hE hB
      by_cases h13 : c = 13
      · have HN := Lib.hid (next_cr (most := m) hcr h13)
        have b13 : ((c.toNat : Int) == 13) = true := by rw [h13]; rfl
        clear h13 h10 hcr
        go_wp2
        go_roundg (gk - 1)
        case measure => omega
        case rel => exact TkRel.on hjk hj (by rw [HN.out]; exact HL.out.setcr _) HOK1.out HE.out HO.out HCH.out ((Chg.refl (· = b) wr).set (fun _ => rfl) _) (fun _ _ e => .inl e) (heap_setCell_ne hR.out (fun e => hRB e.symm) _)
      have b13 := byte_ne13 h13
      by_cases hw : s'.why = 0
      · obtain ⟨ao', n', cap', rfl, hl', hm', _, _⟩ := HL.out.arr.shape
        rw [bvs_length, Nat.mul_one] at hl'
        unfold maxLen at hm'
        rw [hw] at c3
        have n0 : ((0 : Int) != 0) = false := rfl
        by_cases hlen : (s'.text.length : Int) = m
        · have HN := Lib.hid (next_long (most := m) hcr h10 h13 hw hlen)
          have e1 : ((n' : Int) == m) = true := by rw [← hl']; simpa using hlen
          clear hlen hl' hw h13 h10 hcr
          go_wp2
          go_quiet (fail)
          go_wp2_with fail
          refine (line_spoil _ _ _ _ _ _ ((HL.out.setcr false).drewN _)).mono ?_
          rintro e w1 ⟨rfl, h1, hc1⟩
          have HL1 := Lib.hid h1
          have HC1 := Lib.hid hc1
          have R1 := Lib.hid (hc1.obj (w := (wr.setCell ⟨b, 2, none⟩ (.bool false)).drewN _) (heap_setCell_ne hR.out (fun e => hRB e.symm) _) (fun e => hRB e))
          clear h1 hc1 c0 c1 c2 c3 f rc0 rc1 rc2 rc3 rc4 R0
          go_wp2
          go_roundg (gk - 1)
          case measure => omega
          case rel => exact TkRel.on hjk hj (by rw [HN.out]; exact HL1.out) HOK1.out HE.out (.inl rfl) HCH.out ((((Chg.refl (· = b) wr).set (fun _ => rfl) _).drewN _).trans HC1.out (fun _ _ e => e)) (fun _ _ e => .inl e) R1.out
        · have HN := Lib.hid (next_more (most := m) hcr h10 h13 hw hlen)
          have e1 : ((n' : Int) == m) = false := by rw [← hl']; simpa using hlen
          have hn' : n' ≤ 16777216 := by
            have := HOK.out; unfold LS.ok at this; omega
          have hxl : (bvs s'.text).length = n' := by rw [bvs_length]; exact hl'
          have HB1 : Hid ((bvs s'.text).length / 1 + 1 ≤ maxLen) := Lib.hid (by rw [hxl]; unfold maxLen; omega)
          have HB2 : Hid (((bvs s'.text).length / 1 + 1) * 1 ≤ 140737488355328) := Lib.hid (by rw [hxl]; omega)
          obtain ⟨i0, hi, hz0, hz1, hz2⟩ := info_parts Try.infoByte
          clear hlen hl' hw h13 h10 hcr hxl
          go_wp2
          go_quiet (fail)
          go_wp2_with (at_builtin; refine wpList_append_arr _ rfl _ _ 24 24 rfl 5 i0 (.int .u8 0) 1 1 Try.underlying24 hi hz0 hz1 hz2 rfl (by decide) _ _ rfl (((HL.out.setcr false).drewN _).alloc _).arr _ rfl 1 (bvs [c]) (src_byte (cell_alloc_eq (by simp) rfl)) HB1.out HB2.out ?s4)
          case s4 =>
            intro v2 w2 ha hc ho
            have hL3 := ((HL.out.setcr false).drewN nq).alloc (.cells #[.int .u8 c.toNat] 5)
            have hL2 := Lib.hid (hL3.more ha hc (ho.imp id fun e => e.trans (by simp)))
            have HO2 := Lib.hid ho
            have HC2 := Lib.hid hc
            have R1 := Lib.hid (hc.obj (heap_alloc_lt _ _ (heap_setCell_ne hR.out (fun e => hRB e.symm) (.bool false) : (wr.setCell ⟨b, 2, none⟩ (.bool false)).heap[w.heap.size]? = _)) (fun e => HO.out.ne H.out.arr.lt _ e.symm rfl))
            have hblk := hc.obj hL3.blk (fun e => hL3.apart e.symm)
            have e1 : w2.cell? ⟨b, 1, none⟩ = some (.slice ao' n' cap') := by simp [World.cell?, hblk]
            have g1 := free_of_blk hblk 1
            obtain ⟨a2, n2, cap2, rfl, _⟩ := ha.shape
            clear hL3 hblk ha hc ho c0 c1 c2 c3 f rc0 rc1 rc2 rc3 rc4 R0
            go_wp2
            go_roundg (gk - 1)
            case measure => omega
            case rel =>
              refine TkRel.on hjk hj (by rw [HN.out]; exact hL2.out) HOK1.out HE.out ?_ HCH.out (T := fun k => k = b ∨ some k = (Value.slice ao' n' cap').ownBlock) (((((Chg.refl _ wr).set (fun _ => .inl rfl) _).drewN _).alloc _).trans HC2.out (fun _ _ e => .inr e) |>.set (fun _ => .inl rfl) _) ?_ (heap_setCell_ne R1.out (fun e => hRB e.symm) _)
              · rcases HO2.out with e | e
                · have := HO.out; unfold OwnTo at this ⊢; rw [e]; exact this
                · exact .inr (.inr ⟨_, e, by have := lt_of_block hR.out; omega⟩)
              · rintro i hi (e | e)
                · exact .inl e
                · rcases HO.out with e2 | e2 | ⟨k, e2, hk⟩
                  · rw [e2] at e; cases e
                  · rw [e2] at e; exact .inr e
                  · rw [e2] at e; injection e with e; omega
      · have HN := Lib.hid (next_bad (most := m) hcr h10 h13 hw)
        have n0 : (s'.why != 0) = true := by simpa using hw
        clear hw h13 h10 hcr
        go_wp2
        go_roundg (gk - 1)
        case measure => omega
        case rel => exact TkRel.on hjk hj (by rw [HN.out]; exact HL.out.setcr _) HOK1.out HE.out HO.out HCH.out ((Chg.refl (· = b) wr).set (fun _ => rfl) _) (fun _ _ e => .inl e) (heap_setCell_ne hR.out (fun e => hRB e.symm) _)

theorem sep_fresh {w : World} {b : Nat} {m : Int} {v : Value} {s : LS} (h : LinerAt w b m v s) (n c : Nat) {bs : List UInt8} : bs ≠ [] → ∀ k, (Value.slice (some ⟨w.heap.size, 0, none⟩) n c).ownBlock = some k → k ≠ b ∧ v.ownBlock ≠ some k := by
  intro _ k hk
  simp only [Value.ownBlock, Option.some.injEq] at hk
  subst hk
  have h1 := lt_of_block h.blk
  exact ⟨by omega, fun e => by have := h.arr.lt _ e; omega⟩
theorem sep_fresh' {w : World} {b bb : Nat} {m : Int} {v : Value} {s : LS} (h : LinerAt w b m v s) (hb : w.heap.size ≤ bb) (n c : Nat) {bs : List UInt8} : bs ≠ [] → ∀ k, (Value.slice (some ⟨bb, 0, none⟩) n c).ownBlock = some k → k ≠ b ∧ v.ownBlock ≠ some k := by
  intro _ k hk
  simp only [Value.ownBlock, Option.some.injEq] at hk
  subst hk
  have h1 := lt_of_block h.blk
  exact ⟨by omega, fun e => by have := h.arr.lt _ e; omega⟩

theorem OwnTo.up {w : World} {v v' : Value} {B : Nat} (h : OwnTo w v v') (hB : B ≤ w.heap.size) (hv : ∀ k, v.ownBlock = some k → B ≤ k) : ∀ k, v'.ownBlock = some k → B ≤ k := by
  intro k hk
  rcases h with h | h | ⟨i, h, hi⟩
  · rw [hk] at h; cases h
  · rw [hk] at h; exact hv k h.symm
  · rw [hk] at h; cases h; omega

end Go.Proofs.Ytnjloldhmjadoaa
