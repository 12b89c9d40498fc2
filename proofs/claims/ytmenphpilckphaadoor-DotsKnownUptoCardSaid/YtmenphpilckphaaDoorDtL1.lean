/- What the laws on hearings have in common; the law DotsCut, walked. No condition but what is stated. -/
import Derived.Test.YtmenphpilckphaaDoorDtC6
import Derived.Test.YtmenphpilckphaaDoorArgs2
namespace Go.Proofs.YtmenphpilckphaaDoor
set_option linter.unusedVariables false
open Go Go.RowKit Go.ChangeShapes Go.WideShapes Go.ChangeAt Dt

theorem same0_calls (w : World) (k why : Int) (t : List UInt8) (hi : Bool) (a b : Option Addr) (c d : Nat) (ha : Rd w (.slice a 0 c) 1 (bvs [])) (hb : Rd w (.slice b 0 d) 1 (bvs [])) :
    Calls Tryd.prog 17 #[.agg #[.int .i64 k, .string ⟨t.toArray⟩, .slice a 0 c, .int .i64 why, .bool hi], .agg #[.int .i64 k, .string ⟨t.toArray⟩, .slice b 0 d, .int .i64 why, .bool hi]] w fun r w' => r = .returned (.bool true) ∧ Chg (fun _ => False) w w' :=
  same_calls w ⟨k, t, [], why, hi⟩ a b c d ha hb
theorem rd0 {w : World} {a : Option Addr} {n c : Nat} (h : Rd w (.slice a n c) 1 (bvs [])) : n = 0 := by
  have := h.len; simpa using this
/-- A slice of one slice. -/
theorem ownv_one {W w : World} (c : Chg (fun _ => False) W w) (x : Value) : OwnV 22 W (w.alloc (.cells #[x] 22)) (.slice (some ⟨w.heap.size, 0, none⟩) [x].length 1) [x] :=
  ⟨.inr ⟨w.heap.size, 0, 1, 1, _, _, rfl, Nat.le_refl _, by unfold maxLen; omega, heap_alloc_at _ _, by simp, fun i _ _ h => by simp at h, by simp, by simp⟩, fun k hk => by simp [Value.ownBlock] at hk; have := c.size; omega, c.alloc _⟩
theorem fin_bytes (text all : Nat) (S : List UInt8) : (hd text all S).fin.text = [] ∧ (hd text all S).fin.bytes = [] := by
  unfold hd; simp only; split
  · exact ⟨rfl, rfl⟩
  · exact ⟨rfl, rfl⟩
/-- The heard struct's cells. -/
theorem nine {w : World} {b : Nat} {c0 c1 c2 c3 c4 c5 c6 c7 c8 : Value} {t : TypeId} {f : Nat × Nat} (h : w.heap[b]? = some (.cells #[c0, c1, c2, c3, c4, c5, c6, c7, c8] t f)) :
    w.cell? ⟨b, 0, none⟩ = some c0 ∧ w.cell? ⟨b, 1, none⟩ = some c1 ∧ w.cell? ⟨b, 2, none⟩ = some c2 ∧ w.cell? ⟨b, 3, none⟩ = some c3 ∧ w.cell? ⟨b, 4, none⟩ = some c4 ∧ w.cell? ⟨b, 5, none⟩ = some c5 ∧ w.cell? ⟨b, 6, none⟩ = some c6 ∧ w.cell? ⟨b, 7, none⟩ = some c7 ∧ w.cell? ⟨b, 8, none⟩ = some c8 := by
  have c := fun i => cell_of_blk h i
  exact ⟨c 0, c 1, c 2, c 3, c 4, c 5, c 6, c 7, c 8⟩
set_option maxHeartbeats 4000000 in
set_option maxRecDepth 100000 in
theorem cut_walk (W : World) (hg : Glb W) (sa ca : Option Addr) (sc cc : Nat) (S : List UInt8) (cs : List Int) (text all : Int) (hs : Rd W (.slice sa S.length sc) 1 (bvs S)) (hc : Rd W (.slice ca cs.length cc) 1 (cs.map (Value.int .i64))) (hl : S.length ≤ 1048576) (hcl : cs.length ≤ 1048576) :
    Calls Tryd.prog 3 #[.slice sa S.length sc, .slice ca cs.length cc, .int .i64 text, .int .i64 all] W fun r w' => r = .returned (.bool true) ∧ Chg (fun _ => False) W w' := by
  have HG := Lib.hid hg
  have HS := Lib.hid hs
  have HCS := Lib.hid hc
  clear hg hs hc
  by_cases hv : 1 ≤ text ∧ text ≤ 16777216 ∧ 1 ≤ all ∧ all ≤ 16777216
  · obtain ⟨v1, v2, v3, v4⟩ := hv
    obtain ⟨tx, rfl⟩ : ∃ tx : Nat, text = tx := ⟨text.toNat, by omega⟩
    obtain ⟨al, rfl⟩ : ∃ al : Nat, all = al := ⟨all.toNat, by omega⟩
    have d1 : decide (1 ≤ tx) = true := by simpa using (by omega : 1 ≤ tx)
    go_enter Tryd.func3, Tryd.ntmps3
    go_wp2_with fail
    refine (dots_new tx al W (by omega) (by omega) (by omega) (by omega)).mono ?_
    rintro e w1 ⟨rfl, hr1, c1⟩
    have R1 := Lib.hid hr1
    have C1 := Lib.hid c1
    have l1 := lt_of_block hr1.blk
    clear hr1 c1
    go_wp2_with fail
    refine (dots_new tx al w1 (by omega) (by omega) (by omega) (by omega)).mono ?_
    rintro e w2 ⟨rfl, hr2, c2⟩
    have R2 := Lib.hid hr2
    have C2 := Lib.hid (C1.out.trans c2 (fun _ _ h => h))
    have R1' := Lib.hid (R1.out.kept c2 (fun h => h))
    have l2 := lt_of_block hr2.blk
    clear hr2 c2
    go_wp2_with fail
    have hs0 := C2.out.size
    have o1 := ownv_one C2.out (.slice sa S.length sc)
    refine (hear_calls W _ W.heap.size tx al (R1'.out.kept ((Chg.refl (fun _ => False) w2).alloc _) (fun h => h)) (by omega) (some ⟨w2.heap.size, 0, none⟩) 1 [.slice sa S.length sc] [S] o1 ((SlsAt.nil W).snoc HS.out) (Nat.le_refl _) (fun k hk e => by simp [Value.ownBlock] at hk; omega) (by simp; omega) (by simp)).mono ?_
    rintro e w3 ⟨ta, tc, ev, rfl, p1⟩
    have hfl : [S].flatten = S := by simp
    rw [hfl] at p1 ⊢
    obtain ⟨ea, en, ec, rfl, _⟩ := p1.ev.shape
    obtain rfl := rd0 p1.ev
    have P1 := Lib.hid p1
    have hs3 := p1.chg.size
    simp only [World.size_alloc] at hs3
    have C3 := Lib.hid ((C2.out.alloc _).trans p1.chg (fun i hi e => by rcases e with e | e; omega; (simp [Value.ownBlock] at e; omega)))
    have R2' := Lib.hid ((R2.out.kept ((Chg.refl (fun _ => False) w2).alloc _) (fun h => h)).kept p1.chg (fun e => by rcases e with e | e; omega; (simp [Value.ownBlock] at e; omega)))
    clear p1 o1 hfl
    obtain ⟨H, hH⟩ : ∃ H, H = hd tx al S := ⟨_, rfl⟩
    have HH := Lib.hid hH
    unfold hdC
    rw [← hH]
    clear hH
    go_wp2_with fail
    have c4 := (Chg.refl (fun _ => False) w3).alloc (.cells #[.slice ta H.told.length tc, .int .i64 H.taken, .bool H.ended, .int .i64 H.fin.kind, .string ⟨H.fin.text.toArray⟩, .slice ea 0 ec, .int .i64 H.fin.why, .bool H.fin.high, .bool true] 32)
    have b4 := heap_alloc_at w3 (.cells #[.slice ta H.told.length tc, .int .i64 H.taken, .bool H.ended, .int .i64 H.fin.kind, .string ⟨H.fin.text.toArray⟩, .slice ea 0 ec, .int .i64 H.fin.why, .bool H.fin.high, .bool true] 32)
    refine (pieces_calls W _ sa ca sc cc S cs HS.out ((HCS.out.kept C3.out (fun _ _ _ h => h)).kept c4 (fun _ _ _ h => h)) (by omega) (by omega)).mono ?_
    rintro e w5 ⟨oa, oc, xs, ls, rfl, o5, s5, f5, n5⟩
    have hs5 := o5.chg.size
    simp only [World.size_alloc] at hs5
    have b5 := o5.chg.obj b4 (fun h => h)
    have C5 := Lib.hid ((C3.out.trans c4 (fun _ _ h => h)).trans o5.chg (fun _ _ h => h))
    have C35 := Lib.hid (c4.trans o5.chg (fun _ _ h => h))
    have B5 := Lib.hid b5
    have O5 := Lib.hid (o5.from (C3.out.trans c4 (fun _ _ h => h)))
    have O5' := Lib.hid o5.own
    have S5 := Lib.hid s5
    have F5 := Lib.hid f5
    have hn5 : xs.length ≤ 1099511627776 := by omega
    have l3 := lt_of_block b5
    have l2' := lt_of_block R2'.out.blk
    clear o5 s5 f5 n5 c4 b4 b5
    go_wp2_with fail
    refine (hear_calls W _ w1.heap.size tx al (R2'.out.kept C35.out (fun h => h)) (by omega) oa oc xs ls O5.out S5.out (by have := C1.out.size; omega) (fun k hk e => by have := O5'.out k hk; simp at this; omega) (by rw [F5.out]; omega) hn5).mono ?_
    rintro e w6 ⟨ta', tc', ev', rfl, p6⟩
    rw [F5.out] at p6 ⊢
    obtain ⟨ea', en', ec', rfl, _⟩ := p6.ev.shape
    obtain rfl := rd0 p6.ev
    have P6 := Lib.hid p6
    have hs6 := p6.chg.size
    rw [← HH.out]
    have ho6 : ∀ k, (Value.slice oa xs.length oc).ownBlock = some k → W.heap.size ≤ k ∧ w3.heap.size < k := fun k hk => ⟨O5.out.own k hk, by have := O5'.out k hk; simp at this; omega⟩
    have C6 := Lib.hid (C5.out.trans p6.chg (fun i hi e => by rcases e with e | e; omega; (have := ho6 i e.symm; omega)))
    have B6 := Lib.hid (p6.chg.obj B5.out (fun e => by rcases e with e | e; omega; (have := ho6 _ e.symm; omega)))
    have C36 : Chg (fun k => w3.heap.size < k ∨ k = w1.heap.size) w3 w6 := (C35.out.mono (fun _ _ h => h.elim)).trans p6.chg (fun i hi e => by rcases e with e | e; exact .inr e; (have := ho6 i e.symm; exact .inl this.2))
    have T6 := Lib.hid (P1.out.arr.kept C36 (fun k hk e => by
      have h1 := P1.out.arr.lt k hk
      have h2 := P1.out.own k hk
      simp at h2
      rcases e with e | e <;> omega))
    rw [← HH.out] at T6
    clear p6 C36 ho6
    obtain ⟨x0, x1, x2, x3, x4, x5, x6, x7, x8⟩ := nine B6.out
    have lx := lt_of_block B6.out
    have c7 := (Chg.refl (fun _ => False) w6).alloc (.cells #[.slice ta' H.told.length tc', .int .i64 H.taken, .bool H.ended, .int .i64 H.fin.kind, .string ⟨H.fin.text.toArray⟩, .slice ea' 0 ec', .int .i64 H.fin.why, .bool H.fin.high, .bool true] 32)
    have T6b := Lib.hid (T6.out.kept c7 (fun _ _ h => h))
    have T7 := Lib.hid (by have := P6.out.arr.kept c7 (fun _ _ h => h); rw [← HH.out] at this; exact this : Arr _ 5 1 (.slice ta' H.told.length tc') (bvs H.told))
    have C7 := Lib.hid (C6.out.trans c7 (fun _ _ h => h))
    have E7 := Lib.hid (And.intro (rd_nil (w' := w6) P1.out.ev) (rd_nil (w' := w6) P6.out.ev))
    clear c7
    unfold hdC
    go_wp2_with fail
    refine (equal_calls _ ta ta' tc tc' H.told H.told T6b.out.rd T7.out.rd).mono ?_
    rintro e w7 ⟨rfl, rfl⟩
    rw [beq_self_eq_true]
    go_wp2_with fail
    refine (same0_calls _ H.fin.kind H.fin.why H.fin.text H.fin.high ea ea' ec ec' (rd_nil E7.out.1) (rd_nil E7.out.2)).mono ?_
    rintro e w8 ⟨rfl, c8⟩
    have C8 := Lib.hid (C7.out.trans c8 (fun _ _ h => h))
    have b8 := (((Chg.refl (fun _ => False) w6).alloc _).trans c8 (fun _ _ h => h)).obj B6.out (fun h => h)
    obtain ⟨y0, y1, y2, y3, y4, y5, y6, y7, y8⟩ := nine b8
    have ly := lt_of_block b8
    have htk := hd_taken tx al S
    rw [← HH.out] at htk
    clear c8 b8 x0 x1 x2 x3 x4 x5 x6 x7 x8 y0 y3 y4 y5 y6 y7 y8
    have W8 := Lib.hid (wakes_calls w8 (HG.out.kept C8.out (fun h => h)))
    have hfin : H.ended = true ∨ (H.ended = false ∧ ((H.taken : Int) == (S.length : Int)) = true) := by
      rcases htk with h | h
      · exact .inl h
      · cases H.ended
        · exact .inr ⟨rfl, by rw [h]; simp⟩
        · exact .inl rfl
    clear htk
    rcases hfin with he | ⟨he, he2⟩
    all_goals
      rw [he] at y2
      have HE := Lib.hid he
      clear he
      go_wp2_with fail
      refine W8.out.mono ?_
      rintro e w9 ⟨rfl, c9⟩
      have C9 := Lib.hid (C8.out.trans c9 (fun _ _ h => h))
      clear c9
      go_wp2
      go_ret
      exact ⟨rfl, C9.out⟩
  · have hno : text < 1 ∨ 16777216 < text ∨ all < 1 ∨ 16777216 < all := by omega
    have HNO := Lib.hid hno
    have W1 := Lib.hid (wakes_calls W HG.out)
    have hcase : (text < 1) ∨ (1 ≤ text ∧ 16777216 < text) ∨ (1 ≤ text ∧ text ≤ 16777216 ∧ all < 1) ∨ (1 ≤ text ∧ text ≤ 16777216 ∧ 1 ≤ all ∧ 16777216 < all) := by omega
    clear hno hv
    rcases hcase with h | ⟨h1, h⟩ | ⟨h1, h2, h⟩ | ⟨h1, h2, h3, h⟩
    all_goals
      go_enter Tryd.func3, Tryd.ntmps3
      go_wp2_with fail
      refine (dots_new_no text all W HNO.out).mono ?_
      rintro e w1 ⟨rfl, rfl⟩
      go_wp2_with fail
      refine (dots_new_no text all W HNO.out).mono ?_
      rintro e w1 ⟨rfl, rfl⟩
      go_wp2_with fail
      refine W1.out.mono ?_
      rintro e w9 ⟨rfl, c9⟩
      have C9 := Lib.hid c9
      clear c9
      go_wp2
      go_ret
      exact ⟨rfl, C9.out⟩
/-- What the library keeps of its own is there when a law is called. -/
theorem glb_of {W : World} (h : W.ShapedOpen Tryd.prog) : Glb W := by
  obtain ⟨m, hm⟩ := Tryd.laysM185.s1_3 W h
  exact ⟨m, hm⟩
section
variable {H : Type} {enc : TypeId × Value → H}
theorem walk_DotsCut (W : World) (v0 v1 v2 v3 : Value) (d0 d1 d2 d3 : DataW H) (p0 p1 p2 p3 : List MemPlace)
    (ok0 : ∃ base, Value.okWide Tryd.prog W .any base 22 v0) (ok1 : ∃ base, Value.okWide Tryd.prog W .any base 23 v1) (ok2 : ∃ base, Value.okWide Tryd.prog W .any base 3 v2) (ok3 : ∃ base, Value.okWide Tryd.prog W .any base 3 v3)
    (h0 : DataW.Trod enc Tryd.prog W 0 (fun _ => true) true 22 v0 d0 p0) (h1 : DataW.Trod enc Tryd.prog W 0 (fun _ => true) true 23 v1 d1 p1) (h2 : DataW.Trod enc Tryd.prog W 0 (fun _ => true) true 3 v2 d2 p2) (h3 : DataW.Trod enc Tryd.prog W 0 (fun _ => true) true 3 v3 d3 p3)
    (hk : Rows.uptoBulkAll [d0, d1, d2, d3] ≤ 1048576) (hsh : W.ShapedOpen Tryd.prog) :
    Calls Tryd.prog 3 #[v0, v1, v2, v3] W fun e w' => e = .returned (.bool true) ∧ Below W.heap.size W w' := by
  simp only [Rows.uptoBulkAll] at hk
  obtain ⟨S, hs, hs2⟩ := arg_bytes Tryd.underlying22 Tryd.underlying5 Tryd.cellsByte ok0 h0
  obtain ⟨cs, hc, hw, hc2⟩ := arg_ints Tryd.underlying23 Tryd.underlying3 Tryd.cellsInt ok1 h1
  obtain ⟨text, rfl, _, _⟩ := arg_i64 Tryd.underlying3 ok2 h2
  obtain ⟨all, rfl, _, _⟩ := arg_i64 Tryd.underlying3 ok3 h3
  obtain ⟨sa, sn, sc, rfl, _⟩ := hs.shape
  obtain rfl : sn = S.length := hs.len
  obtain ⟨ca, cn, cc, rfl, hcn, _⟩ := hc.shape
  obtain rfl : cn = cs.length := by simpa using hcn.symm
  exact (cut_walk W (glb_of hsh) sa ca sc cc S cs text all hs hc (by omega) (by omega)).mono fun e w' ⟨he, c⟩ => ⟨he, c.below (Nat.le_refl _) (fun _ _ h => h)⟩
end
end Go.Proofs.YtmenphpilckphaaDoor
