/- The law DotsEnd, walked. No condition but what is stated. -/
import Derived.Test.YtmenphpilckphaaDoorDtL1
import Derived.Test.YtmenphpilckphaaDoorDtIdx
namespace Go.Proofs.YtmenphpilckphaaDoor
set_option linter.unusedVariables false
open Go Go.RowKit Go.ChangeShapes Go.WideShapes Go.ChangeAt Dt

abbrev hearC (H : Hd) (ta : Option Addr) (tc : Nat) (ea : Option Addr) (ec : Nat) : Array Value := #[.slice ta H.told.length tc, .int .i64 H.taken, .bool H.ended, .int .i64 H.fin.kind, .string ⟨H.fin.text.toArray⟩, .slice ea 0 ec, .int .i64 H.fin.why, .bool H.fin.high, .bool true]
/-- pieces, then hear, of a fresh reader. -/
structure Heard (W w6 : World) (b text all : Nat) (S : List UInt8) (H : Hd) (ta : Option Addr) (tc : Nat) (ea : Option Addr) (ec : Nat) : Prop where
  is : H = hd text all S
  told : Arr w6 5 1 (.slice ta H.told.length tc) (bvs H.told)
  own : ∀ k, (Value.slice ta H.told.length tc).ownBlock = some k → b < k
  ev : Rd w6 (.slice ea 0 ec) 1 (bvs [])
  rdr : RdrAt w6 b text all (rs text S).d false
  chg : Chg (fun _ => False) W w6
theorem heard_calls (W w5 : World) (b text all : Nat) (hr : RdrAt w5 b text all DS.new false) (ht : text ≤ 16777216) (hb : W.heap.size ≤ b) (c : Chg (fun _ => False) W w5) (w4 : World) (hb4 : b < w4.heap.size) (oa : Option Addr) (oc : Nat) (xs : List Value) (ls : List (List UInt8)) (S : List UInt8) (o5 : OwnV 22 w4 w5 (.slice oa xs.length oc) xs) (c4 : Chg (fun _ => False) W w4) (s5 : SlsAt W xs ls) (f5 : ls.flatten = S) (n5 : xs.length ≤ 1099511627776) (hl : S.length ≤ 1048576) :
    Calls Tryd.prog 14 #[.pointer (some ⟨b, 0, none⟩), .slice oa xs.length oc] w5 fun r w' => ∃ H ta tc ea ec, r = .returned (.agg (hearC H ta tc ea ec)) ∧ Heard W w' b text all S H ta tc ea ec := by
  have hs4 := c4.size
  have hs5 := o5.chg.size
  refine (hear_calls W w5 b text all hr ht oa oc xs ls (o5.from c4) s5 hb (fun k hk e => by have := o5.own k hk; omega) (by rw [f5]; omega) n5).mono ?_
  rintro e w6 ⟨ta, tc, ev, rfl, p6⟩
  rw [f5] at p6
  obtain ⟨ea, en, ec, rfl, _⟩ := p6.ev.shape
  obtain rfl := rd0 p6.ev
  refine ⟨hd text all S, ta, tc, ea, ec, by rw [f5]; rfl, rfl, p6.arr, fun k hk => by have := p6.own k hk; omega, p6.ev, p6.rdr, c.trans p6.chg (fun i hi e => by rcases e with e | e; omega; (have := o5.own i e.symm; omega))⟩
set_option maxHeartbeats 4000000 in
set_option maxRecDepth 100000 in
theorem end_walk (W : World) (hg : Glb W) (sa ca : Option Addr) (sc cc : Nat) (S : List UInt8) (cs : List Int) (hs : Rd W (.slice sa S.length sc) 1 (bvs S)) (hc : Rd W (.slice ca cs.length cc) 1 (cs.map (Value.int .i64))) (hl : S.length ≤ 1048576) (hcl : cs.length ≤ 1048576) :
    Calls Tryd.prog 4 #[.slice sa S.length sc, .slice ca cs.length cc] W fun r w' => r = .returned (.bool true) ∧ Chg (fun _ => False) W w' := by
  obtain ⟨i0, hi0, hx0, hz0, hb0⟩ := info_parts Tryd.infoByte
  have kc := fun (w : World) (b : Nat) (hb : b = w.heap.size) (C : Array Value) (n c : Nat) => run_const (P := Tryd.prog) w b hb 22 5 C n c Tryd.underlying22 Tryd.underlying5
  have HG := Lib.hid hg
  have HS := Lib.hid hs
  have HCS := Lib.hid hc
  clear hg hs hc
  have hbig : ¬ (16777216 : Int) < S.length := by omega
  go_enter Tryd.func4, Tryd.ntmps4
  go_wp2_with fail
  refine (dots_new 16777216 16777216 W (by omega) (by omega) (by omega) (by omega)).mono ?_
  rintro e w1 ⟨rfl, hr1, c1⟩
  have R1 := Lib.hid hr1
  have C1 := Lib.hid c1
  have l1 := lt_of_block hr1.blk
  clear hr1 c1
  go_wp2_with fail
  refine (pieces_calls W _ sa ca sc cc S cs HS.out (HCS.out.kept C1.out (fun _ _ _ h => h)) (by omega) (by omega)).mono ?_
  rintro e w5 ⟨oa, oc, xs, ls, rfl, o5, s5, f5, n5⟩
  have HH := Lib.hid (heard_calls W w5 W.heap.size 16777216 16777216 (R1.out.kept o5.chg (fun h => h)) (by omega) (by omega) (C1.out.trans o5.chg (fun _ _ h => h)) w1 l1 oa oc xs ls S o5 C1.out s5 f5 (by omega) hl)
  clear o5 s5 f5 n5
  go_wp2_with fail
  refine HH.out.mono ?_
  rintro e w6 ⟨H, ta, tc, ea, ec, rfl, p6⟩
  have P6 := Lib.hid p6
  have C6 := Lib.hid p6.chg
  clear p6
  unfold hearC
  have c7 := (Chg.refl (fun _ => False) w6).alloc (.cells (hearC H ta tc ea ec) 32)
  have b7 := heap_alloc_at w6 (.cells (hearC H ta tc ea ec) 32)
  unfold hearC at c7 b7
  have C7 := Lib.hid (C6.out.trans c7 (fun _ _ h => h))
  have B7 := Lib.hid b7
  have c8 := ((Chg.refl (fun _ => False) w6).alloc (.cells #[.slice ta H.told.length tc, .int .i64 H.taken, .bool H.ended, .int .i64 H.fin.kind, .string ⟨H.fin.text.toArray⟩, .slice ea 0 ec, .int .i64 H.fin.why, .bool H.fin.high, .bool true] 32)).alloc (.cells #[.int .u8 13, .int .u8 10] 5 (2, 3))
  have C8 := Lib.hid (C6.out.trans c8 (fun _ _ h => h))
  have C8' := Lib.hid c8
  have HBASE := Lib.hid (show Arr ((w6.alloc (.cells #[.slice ta H.told.length tc, .int .i64 H.taken, .bool H.ended, .int .i64 H.fin.kind, .string ⟨H.fin.text.toArray⟩, .slice ea 0 ec, .int .i64 H.fin.why, .bool H.fin.high, .bool true] 32)).alloc (.cells #[.int .u8 13, .int .u8 10] 5 (2, 3))) 5 1 (.slice (some ⟨w6.heap.size + 1, 0, none⟩) 2 2) (bvs [13, 10]) from
    .inr ⟨w6.heap.size + 1, 0, 2, 2, _, _, rfl, by omega, by unfold maxLen; omega, heap_alloc_eq (by simp), by simp, fun i _ h2 h3 => by omega, by simp [bvs], by simp [bvs]⟩)
  clear c7 b7 c8
  go_wp2_with (at_builtin; refine wpList_append_arr _ rfl _ _ 22 22 rfl 5 i0 (.int .u8 0) 1 1 Tryd.underlying22 hi0 hx0 hz0 hb0 rfl (by decide) (.slice (some ⟨w6.heap.size + 1, 0, none⟩) 2 2) (bvs [13, 10]) rfl HBASE.out (.slice sa S.length sc) rfl S.length (bvs S) ((HS.out.kept C8.out (fun _ _ _ h => h)).src (bvs_one _) Tryd.underlying22) (by simp [bvs]; unfold maxLen; omega) (by simp [bvs]; omega) ?d1)
  case d1 =>
    intro v9 w9 ha9 hc9 ho9
    have c9 : Chg (fun _ => False) w6 w9 := C8'.out.trans hc9 (fun k hk e => by simp [Value.ownBlock] at e; omega)
    have B9 := Lib.hid (hc9.obj (heap_alloc_lt _ _ B7.out) (fun e => by simp [Value.ownBlock] at e))
    have ha9' : Arr w9 5 1 v9 (bvs ([13, 10] ++ S)) := by rw [bvs_append]; exact ha9
    obtain ⟨va, vn, vc, rfl, -⟩ := ha9'.shape
    obtain rfl : vn = ([13, 10] ++ S).length := ha9'.rd.len
    have A9 := Lib.hid ha9'.rd
    have C9 := Lib.hid (C6.out.trans c9 (fun _ _ h => h))
    have hs9 := c9.size
    clear ha9 hc9 ho9 c9 ha9'
    go_wp2_with fail
    have c10 := (Chg.refl (fun _ => False) w9).alloc (.cells #[.int .u8 13, .int .u8 10, .int .u8 46, .int .u8 13, .int .u8 10] 5 (5, 6))
    refine (index_calls _ (HG.out.kept (C9.out.trans c10 (fun _ _ h => h)) (fun h => h)) va (some ⟨w9.heap.size, 0, none⟩) vc 5 ([13, 10] ++ S) [13, 10, 46, 13, 10] (A9.out.kept c10 (fun _ _ _ h => h)) (Rd.fresh w9 _ _ _ 5 5 [13, 10, 46, 13, 10] (by rfl) (by rfl) (by decide) (by decide)) (by simp; omega) (by decide)).mono ?_
    rintro e w11 ⟨rfl, c11⟩
    have C11 := Lib.hid ((C9.out.trans c10 (fun _ _ h => h)).trans c11 (fun _ _ h => h))
    have b11 := (c10.trans c11 (fun _ _ h => h)).obj B9.out (fun h => h)
    obtain ⟨x0, x1, x2, x3, x4, x5, x6, x7, x8⟩ := nine b11
    have lx := lt_of_block b11
    have W11 := Lib.hid (wakes_calls w11 (HG.out.kept C11.out (fun h => h)))
    have hx := hd_index 16777216 16777216 S
    rw [← P6.out.is] at hx
    clear c10 c11 b11 x0 x3 x4 x5 x6 x7
    rcases hx with ⟨e1, e2, e3⟩ | ⟨a, e1, e2, e3⟩
    · rw [e1]
      rw [e2] at x2
      have t1 : ((H.taken : Int) == (S.length : Int)) = true := by rw [e3]; simp
      clear e1 e2 e3
      go_wp2_with fail
      refine W11.out.mono ?_
      rintro e w12 ⟨rfl, c12⟩
      have C12 := Lib.hid (C11.out.trans c12 (fun _ _ h => h))
      clear c12
      go_wp2
      go_ret
      exact ⟨rfl, C12.out⟩
    · rw [e1]
      rw [e2] at x2
      have hal : a ≤ 1048576 := by
        have := (hd_told_le 16777216 16777216 S).2
        rw [← P6.out.is] at this; omega
      have t1 : ((H.taken : Int) == (a : Int) + 3) = true := by rw [e3]; simp
      clear e1 e2 e3
      go_wp2_with fail
      refine W11.out.mono ?_
      rintro e w12 ⟨rfl, c12⟩
      have C12 := Lib.hid (C11.out.trans c12 (fun _ _ h => h))
      clear c12
      go_wp2
      go_ret
      exact ⟨rfl, C12.out⟩
section
variable {H : Type} {enc : TypeId × Value → H}
theorem walk_DotsEnd (W : World) (v0 v1 : Value) (d0 d1 : DataW H) (p0 p1 : List MemPlace)
    (ok0 : ∃ base, Value.okWide Tryd.prog W .any base 22 v0) (ok1 : ∃ base, Value.okWide Tryd.prog W .any base 23 v1)
    (h0 : DataW.Trod enc Tryd.prog W 0 (fun _ => true) true 22 v0 d0 p0) (h1 : DataW.Trod enc Tryd.prog W 0 (fun _ => true) true 23 v1 d1 p1)
    (hk : Rows.uptoBulkAll [d0, d1] ≤ 1048576) (hsh : W.ShapedOpen Tryd.prog) :
    Calls Tryd.prog 4 #[v0, v1] W fun e w' => e = .returned (.bool true) ∧ Below W.heap.size W w' := by
  simp only [Rows.uptoBulkAll] at hk
  obtain ⟨S, hs, hs2⟩ := arg_bytes Tryd.underlying22 Tryd.underlying5 Tryd.cellsByte ok0 h0
  obtain ⟨cs, hc, hw, hc2⟩ := arg_ints Tryd.underlying23 Tryd.underlying3 Tryd.cellsInt ok1 h1
  obtain ⟨sa, sn, sc, rfl, _⟩ := hs.shape
  obtain rfl : sn = S.length := hs.len
  obtain ⟨ca, cn, cc, rfl, hcn, _⟩ := hc.shape
  obtain rfl : cn = cs.length := by simpa using hcn.symm
  exact (end_walk W (glb_of hsh) sa ca sc cc S cs hs hc (by omega) (by omega)).mono fun e w' ⟨he, c⟩ => ⟨he, c.below (Nat.le_refl _) (fun _ _ h => h)⟩
end
end Go.Proofs.YtmenphpilckphaaDoor
