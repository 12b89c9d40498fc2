/- hear: a stream in pieces, handed to a reader. Conditions as stated. -/
import Derived.Test.YtmenphpilckphaaDoorDtC5
import Derived.Test.YtmenphpilckphaaDoorDtHst
import Derived.Deep.DeepCutAuto
import Derived.RegionTactic
namespace Go.Proofs.YtmenphpilckphaaDoor
set_option linter.unusedVariables false
open Go Go.RowKit Dt

/-- A hearing as it lies. -/
def hdC (h : Hd) (tv ev : Value) (g : Bool) : Array Value := #[tv, .int .i64 h.taken, .bool h.ended, .int .i64 h.fin.kind, .string ⟨h.fin.text.toArray⟩, ev, .int .i64 h.fin.why, .bool h.fin.high, .bool g]
structure HSt (B hb : Nat) (w : World) (h : Hd) (tv ev : Value) : Prop where
  blk : w.heap[hb]? = some (.cells (hdC h tv ev false) 32 (0, 0))
  arr : Arr w 5 1 tv (bvs h.told)
  own : ∀ k, tv.ownBlock = some k → B ≤ k
  ev : Rd w ev 1 (bvs [])
theorem HSt.facts {B hb : Nat} {w : World} {h : Hd} {tv ev : Value} (s : HSt B hb w h tv ev) :
    w.cell? ⟨hb, 0, none⟩ = some tv ∧ w.cell? ⟨hb, 1, none⟩ = some (.int .i64 h.taken) ∧ w.cell? ⟨hb, 2, none⟩ = some (.bool h.ended) ∧ w.cell? ⟨hb, 3, none⟩ = some (.int .i64 h.fin.kind) ∧ w.cell? ⟨hb, 4, none⟩ = some (.string ⟨h.fin.text.toArray⟩) ∧ w.cell? ⟨hb, 5, none⟩ = some ev ∧ w.cell? ⟨hb, 6, none⟩ = some (.int .i64 h.fin.why) ∧ w.cell? ⟨hb, 7, none⟩ = some (.bool h.fin.high) ∧ w.cell? ⟨hb, 8, none⟩ = some (.bool false) ∧ ∀ i, w.frozen? ⟨hb, i, none⟩ = false := by
  have c := fun i => cell_of_blk s.blk i
  exact ⟨c 0, c 1, c 2, c 3, c 4, c 5, c 6, c 7, c 8, fun i => free_of_blk s.blk i⟩
theorem rd_nil {w w' : World} {v : Value} (h : Rd w v 1 (bvs [])) : Rd w' v 1 (bvs []) := by
  obtain ⟨ao, n, cap, rfl, h1, h2, h3, h4, _⟩ := h
  exact ⟨ao, n, cap, rfl, h1, h2, h3, h4, fun a _ hx => absurd rfl hx⟩
theorem HSt.kept {B hb : Nat} {w w' : World} {h : Hd} {tv ev : Value} {S : Nat → Prop} (s : HSt B hb w h tv ev) (c : Chg S w w') (h1 : ¬ S hb) (h2 : ∀ k, B ≤ k → k < w.heap.size → ¬ S k) : HSt B hb w' h tv ev :=
  ⟨c.obj s.blk h1, s.arr.kept c (fun k hk => h2 k (s.own k hk) (s.arr.lt k hk)), s.own, rd_nil s.ev⟩
theorem heap_alloc_eq {w : World} {o : Obj} {b : Nat} (h : b = w.heap.size) : (w.alloc o).heap[b]? = some o := by subst h; exact heap_alloc_at w o
theorem HSt.tk {B hb : Nat} {w : World} {h : Hd} {tv ev : Value} (s : HSt B hb w h tv ev) (hB : hb < B) (n : Nat) : HSt B hb (w.setCell ⟨hb, 1, none⟩ (.int .i64 ((h.taken : Int) + n))) ⟨h.told, h.taken + n, h.ended, h.fin⟩ tv ev := by
  have c : Chg (· = hb) w (w.setCell ⟨hb, 1, none⟩ (.int .i64 ((h.taken : Int) + n))) := Chg.set (S := (· = hb)) (p := ⟨hb, 1, none⟩) (Chg.refl _ w) (fun _ => rfl) _
  refine ⟨?_, s.arr.kept c (fun k hk e => by have := s.own k hk; omega), s.own, rd_nil s.ev⟩
  have := heap_setCell_at s.blk (.int .i64 ((h.taken : Int) + n)) (i := 1)
  simpa [hdC] using this
theorem HSt.tell {B hb : Nat} {w w6 : World} {h : Hd} {tv ev v6 : Value} {bs : List UInt8} (s : HSt B hb w h tv ev) (hB : hb < B) (ha : Arr w6 5 1 v6 (bvs h.told ++ bvs bs)) (hc : Chg (fun k => some k = tv.ownBlock) w w6) {m : Nat} (ho : v6.ownBlock = tv.ownBlock ∨ v6.ownBlock = some m) (hm : B ≤ m) :
    HSt B hb (w6.setCell ⟨hb, 0, none⟩ v6) ⟨h.told ++ bs, h.taken, h.ended, h.fin⟩ v6 ev := by
  have c : Chg (· = hb) w6 (w6.setCell ⟨hb, 0, none⟩ v6) := Chg.set (S := (· = hb)) (p := ⟨hb, 0, none⟩) (Chg.refl _ w6) (fun _ => rfl) _
  have own : ∀ k, v6.ownBlock = some k → B ≤ k := fun k hk => by
    rcases ho with e | e
    · exact s.own k (by rw [← e]; exact hk)
    · rw [e] at hk; injection hk with hk; omega
  refine ⟨?_, ?_, own, rd_nil s.ev⟩
  · have := heap_setCell_at (hc.obj s.blk (fun e => by have := s.own hb e.symm; omega)) v6 (i := 0)
    simpa [hdC] using this
  · rw [bvs_append]
    exact ha.kept c (fun k hk e => by have := own k hk; omega)
/-- The cells of the end laid in, after which the hearing has ended. -/
theorem HSt.close {B hb : Nat} {w : World} {h : Hd} {tv ev xv : Value} {x : It} (s : HSt B hb w h tv ev) (hB : hb < B) (hx : Rd w xv 1 (bvs [])) :
    HSt B hb ((((((w.setCell ⟨hb, 2, none⟩ (.bool true)).setCell ⟨hb, 3, none⟩ (.int .i64 x.kind)).setCell ⟨hb, 4, none⟩ (.string ⟨x.text.toArray⟩)).setCell ⟨hb, 5, none⟩ xv).setCell ⟨hb, 6, none⟩ (.int .i64 x.why)).setCell ⟨hb, 7, none⟩ (.bool x.high)) ⟨h.told, h.taken, true, x⟩ tv xv := by
  have c : Chg (· = hb) w ((((((w.setCell ⟨hb, 2, none⟩ (.bool true)).setCell ⟨hb, 3, none⟩ (.int .i64 x.kind)).setCell ⟨hb, 4, none⟩ (.string ⟨x.text.toArray⟩)).setCell ⟨hb, 5, none⟩ xv).setCell ⟨hb, 6, none⟩ (.int .i64 x.why)).setCell ⟨hb, 7, none⟩ (.bool x.high)) :=
    ((((((Chg.refl (· = hb) w).set (p := ⟨hb, 2, none⟩) (fun _ => rfl) _).set (p := ⟨hb, 3, none⟩) (fun _ => rfl) _).set (p := ⟨hb, 4, none⟩) (fun _ => rfl) _).set (p := ⟨hb, 5, none⟩) (fun _ => rfl) _).set (p := ⟨hb, 6, none⟩) (fun _ => rfl) _).set (p := ⟨hb, 7, none⟩) (fun _ => rfl) _
  refine ⟨?_, s.arr.kept c (fun k hk e => by have := s.own k hk; omega), s.own, rd_nil hx⟩
  have := heap_setCell_at (heap_setCell_at (heap_setCell_at (heap_setCell_at (heap_setCell_at (heap_setCell_at s.blk (.bool true) (i := 2)) (.int .i64 x.kind) (i := 3)) (.string ⟨x.text.toArray⟩) (i := 4)) xv (i := 5)) (.int .i64 x.why) (i := 6)) (.bool x.high) (i := 7)
  simpa [hdC] using this
/-- The pieces' bytes up to j. -/
def upTo (ls : List (List UInt8)) (j : Nat) : List UInt8 := (ls.take j).flatten
theorem upTo_succ (ls : List (List UInt8)) (j : Nat) (h : j < ls.length) : upTo ls (j + 1) = upTo ls j ++ ls[j] := by
  unfold upTo; rw [List.take_succ_eq_append_getElem h, List.flatten_append]; simp only [List.flatten_cons, List.flatten_nil, List.append_nil]
theorem upTo_le (ls : List (List UInt8)) : ∀ j, (upTo ls j).length ≤ ls.flatten.length := fun j => by
  unfold upTo
  have : ls.flatten = (ls.take j).flatten ++ (ls.drop j).flatten := by rw [← List.flatten_append, List.take_append_drop]
  rw [this, List.length_append]; omega
def HoRel (W1 : World) (b hb text all : Nat) (ls : List (List UInt8)) (g : Nat) (iv : Value) (wr : World) : Prop :=
  ∃ (j : Nat) (tv ev : Value), j + g = ls.length ∧ iv = .int .i64 j ∧ HSt W1.heap.size hb wr (hd text all (upTo ls j)) tv ev ∧ RdrAt wr b text all (rs text (upTo ls j)).d false ∧ Chg (fun k => k = b ∨ k = hb) W1 wr
def HiRel (W0 W1 : World) (b hb text all : Nat) (L0 : Option Nat) (P p : List UInt8) (g : Nat) (pv av : Value) (wr : World) : Prop :=
  ∃ (h : Hd) (r : RS) (q : List UInt8) (a : Bool) (tv ev : Value) (pa : Option Addr) (pc : Nat), PS text all P p g h r q a ∧ pv = .slice pa q.length pc ∧ av = .bool a ∧ Rd W0 (.slice pa q.length pc) 1 (bvs q) ∧ (q ≠ [] → ∀ k, (Value.slice pa q.length pc).ownBlock = some k → k ≠ b ∧ some k ≠ L0) ∧ q.length ≤ p.length ∧
    HSt W1.heap.size hb wr h tv ev ∧ RdrAt wr b text all r.d r.waits ∧ Chg (fun k => k = b ∨ k = hb) W1 wr
structure HearPost (W w' : World) (b text all : Nat) (lv : Value) (S : List UInt8) (ta : Option Addr) (tc : Nat) (ev : Value) : Prop where
  arr : Arr w' 5 1 (.slice ta (hd text all S).told.length tc) (bvs (hd text all S).told)
  own : ∀ k, (Value.slice ta (hd text all S).told.length tc).ownBlock = some k → W.heap.size ≤ k
  ev : Rd w' ev 1 (bvs [])
  rdr : RdrAt w' b text all (rs text S).d false
  chg : Chg (fun k => k = b ∨ some k = lv.ownBlock) W w'
set_option maxHeartbeats 4000000 in
set_option maxRecDepth 100000 in
theorem hear_gen (W : World) (b text all : Nat) (hr : RdrAt W b text all DS.new false) (ht : text ≤ 16777216) (la : Option Addr) (lc : Nat) (xs : List Value) (ls : List (List UInt8)) (ho : Arr W 22 1 (.slice la xs.length lc) xs) (hs : SlsAt W xs ls) (hsp : ∀ i (h : i < xs.length) (h' : i < ls.length), ls[i] ≠ [] → ∀ k, xs[i].ownBlock = some k → k ≠ b ∧ some k ≠ (Value.slice la xs.length lc).ownBlock) (hbl : ∀ k, (Value.slice la xs.length lc).ownBlock = some k → k ≠ b)
    (hlen : ls.flatten.length ≤ 68719476736) (hnum : xs.length ≤ 1099511627776) :
    Calls Tryd.prog 14 #[.pointer (some ⟨b, 0, none⟩), .slice la xs.length lc] W fun r w' => ∃ ta tc ev, r = .returned (.agg (hdC (hd text all ls.flatten) (.slice ta (hd text all ls.flatten).told.length tc) ev true)) ∧ HearPost W w' b text all (.slice la xs.length lc) ls.flatten ta tc ev := by
  obtain ⟨i0, hi0, hx0, hz0, hb0'⟩ := info_parts Tryd.infoByte
  obtain ⟨i1, hi1, hy0, hy1, hy2⟩ := info_parts Tryd.infoBytes
  have HR := Lib.hid hr
  have HO := Lib.hid ho
  have HS := Lib.hid hs
  have HBL := Lib.hid hbl
  have HSP := Lib.hid hsp
  have hbw : b < W.heap.size := lt_of_block hr.blk
  clear hr ho hs hbl hsp
  go_enter Tryd.func14, Tryd.ntmps14
  have c3 := (((Chg.refl (fun _ => False) W).alloc (.cells #[.slice none 0 0, .int .i64 0, .bool false, .int .i64 0, .string ⟨#[]⟩, .slice none 0 0, .int .i64 0, .bool false, .bool false] 32)).alloc (.cells #[.slice none 0 0, .int .i64 0, .bool false, .int .i64 0, .string ⟨#[]⟩, .slice none 0 0, .int .i64 0, .bool false, .bool false] 32)).alloc (.cells #[.slice none 0 0] 22)
  have C3 := Lib.hid c3
  clear c3
  go_wp2_with (at_builtin; refine wpList_append_arr _ rfl _ _ 34 34 rfl 22 i1 _ 1 24 Tryd.underlying34 hi1 hy0 hy1 hy2 rfl (by decide) (.slice la xs.length lc) xs rfl (HO.out.kept C3.out (fun _ _ h => h)) (.slice (some ⟨W.heap.size + 1 + 1, 0, none⟩) 1 1) rfl 1 [.slice none 0 0] (src_val Tryd.underlying34 rfl (cell_alloc_eq (by simp) rfl)) (by rw [Nat.div_one]; unfold maxLen; omega) (by rw [Nat.div_one]; omega) ?d1)
  case d1 =>
    intro v4 w4 ha4 hc4 ho4
    have hown := ha4
    obtain ⟨va, vn, vc, rfl, hvn, _⟩ := hown.shape
    rw [Nat.mul_one, List.length_append, List.length_singleton] at hvn
    subst hvn
    have hnn : (xs ++ [Value.slice none 0 0]).length = ls.length + 1 := by have := HS.out.1; simp; omega
    have hvb : ∀ k, (Value.slice va (xs.length + 1) vc).ownBlock = some k → k ≠ b ∧ k ≠ W.heap.size + 1 := fun k hk => by
      rcases ho4 with e | e
      · rw [hk] at e
        have h1 := HBL.out k e.symm
        have h2 := HO.out.lt k e.symm
        exact ⟨h1, by omega⟩
      · rw [hk] at e; injection e with e
        exact ⟨by omega, by omega⟩
    have hch : Chg (fun k => k = b ∨ some k = (Value.slice la xs.length lc).ownBlock) W w4 := (C3.out.mono (fun _ _ h => h.elim)).trans hc4 (fun _ _ h => .inr h)
    have hhb : w4.heap[W.heap.size + 1]? = some (.cells (hdC (hd text all []) (.slice none 0 0) (.slice none 0 0) false) 32 (0, 0)) := by
      have e1 : hdC (hd text all []) (.slice none 0 0) (.slice none 0 0) false = #[.slice none 0 0, .int .i64 0, .bool false, .int .i64 0, .string ⟨#[]⟩, .slice none 0 0, .int .i64 0, .bool false, .bool false] := by rw [hd_nil]; rfl
      rw [e1]
      refine hc4.obj (heap_alloc_lt _ _ (heap_alloc_eq (by simp))) (fun e => ?_)
      have := HO.out.lt _ e.symm
      omega
    have hrb : w4.heap[W.heap.size]? = some (.cells #[.slice none 0 0, .int .i64 0, .bool false, .int .i64 0, .string ⟨#[]⟩, .slice none 0 0, .int .i64 0, .bool false, .bool false] 32 (0, 0)) := by
      refine hc4.obj (heap_alloc_lt _ _ (heap_alloc_lt _ _ (heap_alloc_at W _))) (fun e => ?_)
      have := HO.out.lt _ e.symm
      omega
    have hrd4 : RdrAt w4 b text all (rs text []).d false := by
      rw [rs_nil]
      exact (HR.out.kept C3.out (fun h => h)).kept hc4 (fun e => HBL.out b e.symm rfl)
    have HOW := Lib.hid hown
    have HNN := Lib.hid hnn
    have HVB := Lib.hid hvb
    have HCH := Lib.hid hch
    have HHB := Lib.hid hhb
    have HRB := Lib.hid hrb
    have HR4 := Lib.hid hrd4
    have hsz4 : W.heap.size + 3 ≤ w4.heap.size := by have := hc4.size; simp at this; omega
    clear ha4 hc4 ho4 hown hnn hvb hch hhb hrb hrd4
    go_wp2_with fail
    obtain ⟨L, hL⟩ : ∃ L, L = ls ++ [[]] := ⟨_, rfl⟩
    have hLl : L.length = ls.length + 1 := by rw [hL]; simp
    have hLf : L.flatten = ls.flatten := by rw [hL]; simp
    have hLs : SlsAt W (xs ++ [.slice none 0 0]) L := by rw [hL]; exact HS.out.snoc (Own.nil _).rd
    have hLsp : ∀ i (h : i < (xs ++ [Value.slice none 0 0]).length) (h' : i < L.length), L[i] ≠ [] → ∀ k, (xs ++ [Value.slice none 0 0])[i].ownBlock = some k → k ≠ b ∧ some k ≠ (Value.slice la xs.length lc).ownBlock := fun i h h' hne k hk => by
      by_cases e : i < xs.length
      · have e' : i < ls.length := by rw [← HS.out.1]; exact e
        rw [List.getElem_append_left e] at hk
        subst hL
        rw [List.getElem_append_left e'] at hne
        exact HSP.out i e e' hne k hk
      · have e2 : i = xs.length := by simp at h; omega
        subst e2
        simp [Value.ownBlock] at hk
    have HLSP := Lib.hid hLsp
    have hxl : xs.length = ls.length := HS.out.1
    have HLF := Lib.hid hLf
    have HLS := Lib.hid hLs
    have HLL := Lib.hid hLl
    have HL := Lib.hid hL
    have HLEN := Lib.hid hlen
    have hN1 : xs.length + 1 ≤ L.length := by omega
    have hN2 : L.length ≤ xs.length + 1 := by omega
    clear hLf hLs hLl hL hlen hxl hLsp
    go_loopg [15] L.length (HoRel w4 b (W.heap.size + 1) text all L)
    case atStart =>
      exact ⟨0, .slice none 0 0, .slice none 0 0, by omega, rfl, ⟨HHB.out, by rw [show upTo L 0 = [] from rfl, hd_nil]; exact Arr.nil _ _ _, fun k hk => by simp [Value.ownBlock] at hk, (Own.nil w4).rd⟩, HR4.out, Chg.refl _ _⟩
    case round =>
      obtain ⟨j, tv, ev, hj, rfl, hst, hrd, hch⟩ := hrel
      have HST := Lib.hid hst
      have HRD := Lib.hid hrd
      have HC := Lib.hid hch
      have hsz := hch.size
      clear hst hrd hch
      by_cases hg : gk = 0
      · have hlt : ¬ (j : Int) < (xs.length : Int) + 1 := by omega
        have hj2 : j = L.length := by omega
        have HE := Lib.hid (show upTo L j = ls.flatten by unfold upTo; rw [hj2, List.take_length, HLF.out])
        clear hj2
        have hst2 := HST.out
        have hrd2 := HRD.out
        rw [HE.out] at hst2 hrd2
        have HST2 := Lib.hid hst2
        have HRD2 := Lib.hid hrd2
        clear hst2 hrd2 HST HRD
        obtain ⟨k0, k1, k2, k3, k4, k5, k6, k7, k8, kf⟩ := HST2.out.facts
        obtain ⟨ta, tn, tc, rfl, htn, _⟩ := HST2.out.arr.shape
        rw [bvs_length, Nat.mul_one] at htn
        subst htn
        obtain ⟨ea, en, ec, rfl, _⟩ := HST2.out.ev.shape
        have hrb := HRB.out
        have hrb4 := HC.out.obj HRB.out (fun e => by rcases e with e | e <;> omega)
        have rf := fun i => free_of_blk hrb4 i
        have r0 := cell_of_blk hrb4 0
        have r1 := cell_of_blk hrb4 1
        have r2 := cell_of_blk hrb4 2
        have r3 := cell_of_blk hrb4 3
        have r4 := cell_of_blk hrb4 4
        have r5 := cell_of_blk hrb4 5
        have r6 := cell_of_blk hrb4 6
        have r7 := cell_of_blk hrb4 7
        have r8 := cell_of_blk hrb4 8
        simp at r0 r1 r2 r3 r4 r5 r6 r7 r8
        clear hrb hrb4
        go_wp2
        refine bodyPost_ret (v := .agg (hdC (hd text all ls.flatten) (.slice ta (hd text all ls.flatten).told.length tc) (.slice ea en ec) true)) ?_ rfl ?_
        · simp [results, Tryd.results14, go_sem, hdC, r0, r1, r2, r3, r4, r5, r6, r7, r8]
        · refine ⟨ta, tc, .slice ea en ec, rfl, ?_⟩
          have key : ∀ w', Chg (fun k => k = W.heap.size + 1 ∨ k = W.heap.size) wr w' → HearPost W w' b text all (.slice la xs.length lc) ls.flatten ta tc (.slice ea en ec) := fun w' c =>
            ⟨HST2.out.arr.kept c (fun k hk e => by have := HST2.out.own k hk; omega), fun k hk => by have := HST2.out.own k hk; omega, rd_nil HST2.out.ev, HRD2.out.kept c (fun e => by omega),
              (HCH.out.trans (HC.out) (fun i hi e => by rcases e with e | e <;> omega)).trans c (fun i hi e => by omega)⟩
          refine key _ ?_
          repeat' (with_reducible first | exact Chg.refl _ _ | refine Chg.set ?_ ?_ _)
          all_goals (intro _; simp)
      · have hlt : (j : Int) < (xs.length : Int) + 1 := by omega
        have hjl : j < L.length := by omega
        have hjx : j < (xs ++ [Value.slice none 0 0]).length := by rw [HLS.out.1]; exact hjl
        have hvr := (HOW.out.kept HC.out (fun k hk e => by have := HVB.out k hk; rcases e with e | e; exact this.1 e; exact this.2 e)).rd
        obtain ⟨bl, o, rfl, hcell⟩ := hvr.at (by intro e; rw [e] at hjx; simp at hjx)
        have hcj := hcell j hjx
        have hpj := HLS.out.2 j hjx hjl
        have hps := HLSP.out j hjx hjl
        generalize (xs ++ [Value.slice none 0 0])[j] = pv at hcj hpj hps
        obtain ⟨p, hp⟩ : ∃ p, p = L[j] := ⟨_, rfl⟩
        rw [← hp] at hpj hps
        have HPSEP := Lib.hid hps
        clear hps
        have HSUC := Lib.hid (show upTo L (j + 1) = upTo L j ++ p by rw [hp]; exact upTo_succ L j hjl)
        have hPl := upTo_le L (j + 1)
        rw [HSUC.out, HLF.out] at hPl
        have HPL := Lib.hid hPl
        obtain ⟨P, hP⟩ : ∃ P, P = upTo L j := ⟨_, rfl⟩
        rw [← hP] at HSUC HPL HST HRD
        clear hp hP hPl hcell hvr
        obtain ⟨pa, pn, pc, rfl, hpn, _⟩ := hpj.shape
        rw [bvs_length, Nat.mul_one] at hpn
        subst hpn
        have HPJ := Lib.hid hpj
        clear hpj
        obtain ⟨g0, hg0⟩ : ∃ g0, g0 = (if (hd text all P).ended then 0 else 2) := ⟨_, rfl⟩
        have HPS := Lib.hid (show PS text all P p g0 (hd text all P) (rs text P) p true by rw [hg0]; exact PS.start text all P p)
        clear hg0
        obtain ⟨wo, rfl⟩ : ∃ wo : World, wo = wr := ⟨_, rfl⟩
        obtain ⟨go, rfl⟩ : ∃ go : Nat, go = gk := ⟨_, rfl⟩
        have HRDS := Lib.hid (show ∀ wx, Chg (fun k => k = b ∨ k = W.heap.size + 1) w4 wx → ∀ v q, Rd W v 1 (bvs q) → (q ≠ [] → ∀ k, v.ownBlock = some k → k ≠ b ∧ some k ≠ (Value.slice la xs.length lc).ownBlock) → Rd wx v 1 (bvs q) from fun wx c v q hq hsq => by
          refine (hq.kept HCH.out (fun hx k hk e => ?_)).kept c (fun hx k hk e => ?_)
          · have h1 := hsq (bvs_ne.1 hx) k hk
            rcases e with e | e
            · exact h1.1 e
            · exact h1.2 e
          · have h1 := hsq (bvs_ne.1 hx) k hk
            have h2 := hq.lt hx k hk
            rcases e with e | e
            · exact h1.1 e
            · omega)
        go_wp2_with fail
        go_loopg [7, 8] g0 (HiRel W w4 b (W.heap.size + 1) text all (Value.slice la xs.length lc).ownBlock P p)
        case atStart => exact ⟨_, _, p, true, tv, ev, pa, pc, HPS.out, rfl, rfl, HPJ.out, HPSEP.out, Nat.le_refl _, HST.out, HRD.out, HC.out⟩
        case round =>
          obtain ⟨h, r, q, a, tv', ev', qa, qc, hps, rfl, rfl, hq, hqs, hql, hst, hrd, hch⟩ := hrel
          have HQ := Lib.hid hq
          have HQS := Lib.hid hqs
          have HST' := Lib.hid hst
          have HRD' := Lib.hid hrd
          have HC' := Lib.hid hch
          have hsz' := hch.size
          clear hq hqs hst hrd hch
          by_cases hg2 : gk = 0
          · subst hg2
            obtain ⟨rfl, rfl, hae⟩ := hps.done
            have HF := Lib.hid (And.intro HST'.out (And.intro HRD'.out HC'.out))
            obtain ⟨k0, k1, k2, k3, k4, k5, k6, k7, k8, kf⟩ := HST'.out.facts
            clear hps HST HRD HST' HRD' HC' k0 k1 k3 k4 k5 k6 k7 k8
            cases a
            · clear hae
              go_wp2
              go_roundg (go - 1)
              case measure => omega
              case rel => exact ⟨j + 1, tv', ev', by omega, by go_num, by rw [HSUC.out]; exact HF.out.1, by rw [HSUC.out]; exact HF.out.2.1, HF.out.2.2⟩
            · have he : (hd text all (P ++ p)).ended = true := by rcases hae with h | h; cases h; exact h
              rw [he] at k2
              clear hae he
              go_wp2
              go_roundg (go - 1)
              case measure => omega
              case rel => exact ⟨j + 1, tv', ev', by omega, by go_num, by rw [HSUC.out]; exact HF.out.1, by rw [HSUC.out]; exact HF.out.2.1, HF.out.2.2⟩
          · obtain ⟨ua, un, uc, rfl, hun, _⟩ := HST'.out.arr.shape
            rw [bvs_length, Nat.mul_one] at hun
            subst hun
            obtain ⟨rfl, he, hsz2⟩ := hps.open hg2
            have hle := hps.le
            obtain ⟨k0, k1, k2, k3, k4, k5, k6, k7, k8, kf⟩ := HST'.out.facts
            rw [he] at k2
            have HPS' := Lib.hid hps
            have HE := Lib.hid he
            have HSZ2 := Lib.hid hsz2
            have HLE := Lib.hid hle
            clear hps he hsz2 hle k0 k1 k3 k4 k5 k6 k7 k8
            go_wp2_with fail
            refine (dots_takes' wr b text all r HRD'.out (.slice qa q.length qc) q (HRDS.out wr HC'.out _ q HQ.out HQS.out) (fun hne k hk => (HQS.out hne k hk).1) (by have := HSZ2.out; have := HPL.out; have := HLEN.out; rw [List.length_append] at *; omega) ht).mono ?_
            intro e w5 h5
            obtain ⟨n, x, r', hx⟩ : ∃ n x r', RS.take text all r q = (n, x, r') := ⟨_, _, _, rfl⟩
            rw [hx] at h5
            obtain ⟨v5, rfl, t1, t2, t3, t4⟩ := h5
            obtain ⟨hn, g', hg', hps', hcase⟩ := HPS'.out.next hg2 hx
            obtain ⟨xa, xn, xc, rfl, hxn5, _⟩ := t2.shape
            rw [bvs_length, Nat.mul_one] at hxn5
            subst hxn5
            have T1 := Lib.hid t1
            have T2 := Lib.hid t2
            have T3 := Lib.hid t3
            have T4 := Lib.hid t4
            have hw45 := t4.size
            have S5 := Lib.hid (HST'.out.kept t4 (fun e => by omega) (fun k hk _ e => by omega))
            have S7 := Lib.hid (S5.out.tk (by omega) n)
            have hnq : ¬ (q.length : Int) < n := by omega
            have htk : (h.taken : Int) + n ≤ 1099511627776 := by have := HLE.out; have := HPL.out; have := HLEN.out; have := @List.length_append _ P p; omega
            obtain ⟨ta', tn', tc', htl, hrt, hob⟩ := HQ.out.tail' Tryd.underlying22 (by kernel_rfl : Tryd.prog.elem 22 = 5) hi0 hz0 n hn
            obtain ⟨qd, hqd⟩ : ∃ qd, qd = q.drop n := ⟨_, rfl⟩
            rw [← hqd] at hrt hps'
            obtain rfl : tn' = qd.length := hrt.len
            have HRT := Lib.hid hrt
            have HPN := Lib.hid hps'
            have HQS2 := Lib.hid (show qd ≠ [] → ∀ k, (Value.slice ta' qd.length tc').ownBlock = some k → k ≠ b ∧ some k ≠ (Value.slice la xs.length lc).ownBlock from fun hne k hk => HQS.out (by rintro rfl; rw [hqd] at hne; simp at hne) k (by rw [← hob]; exact hk))
            have hql2 : qd.length ≤ p.length := by rw [hqd, List.length_drop]; omega
            have hql3 : qd.length = q.length - n := by rw [hqd, List.length_drop]
            have HQL3 := Lib.hid hql3
            clear hql3 hqd hob
            obtain ⟨k0, k1, k2, k3, k4, k5, k6, k7, k8, kf⟩ := S5.out.facts
            have hhb5 := lt_of_block S5.out.blk
            rw [HE.out] at k2
            clear hx hps' t1 t2 t3 t4 hrt
            have CC := Lib.hid (show ∀ wx, Chg (· = W.heap.size + 1) w5 wx → Chg (fun k => k = b ∨ k = W.heap.size + 1) w4 wx ∧ RdrAt wx b text all r'.d r'.waits from fun wx c =>
              ⟨(HC'.out.trans T4.out (fun _ _ h => .inl h)).trans c (fun _ _ h => .inr h), T1.out.kept c (fun e => by omega)⟩)
            rcases hcase with ⟨hk, hxb, hxn⟩ | ⟨hk, hxb⟩ | ⟨rfl, hnl⟩
            ·
              obtain ⟨bs, hbs⟩ : ∃ bs, bs = x.bytes := ⟨_, rfl⟩
              rw [← hbs] at hxb hxn
              obtain rfl := hxb
              have hbl0 : ((bs.length : Int) == 0) = false := by
                have := List.length_pos_iff.2 hxn
                simp; omega
              have HPL2 := Lib.hid HPN.out.le
              have HTL := Lib.hid (show h.told.length + bs.length ≤ 1099511627776 by
                have h1 := HPL2.out.1
                rw [Hd.step_body _ _ _ HE.out] at h1
                rw [List.length_append] at h1
                have := HPL.out; have := HLEN.out; omega)
              clear hk hbs hxn k0 k3 k4 k5 k6 k7 k8
              unfold itV It.body
              have hk0 := S5.out.facts.1
              go_wp2_with (at_builtin; refine wpList_append_arr _ rfl _ _ 22 22 rfl 5 i0 (.int .u8 0) 1 1 Tryd.underlying22 hi0 hx0 hz0 hb0' rfl (by decide) (.slice ua h.told.length uc) (bvs h.told) rfl (S7.out.kept ((Chg.refl (fun _ => False) _).alloc _) (fun h => h) (fun _ _ _ h => h)).arr (.slice xa bs.length xc) rfl bs.length (bvs bs) ?c1 (by rw [bvs_length]; have := HTL.out; unfold maxLen; omega) (by rw [bvs_length]; have := HTL.out; omega) ?d2)
              case c1 =>
                refine (T2.out.rd.kept (S := (· = W.heap.size + 1)) (((Chg.refl (· = W.heap.size + 1) w5).set (p := ⟨W.heap.size + 1, 1, none⟩) (fun _ => rfl) (.int .i64 ((h.taken : Int) + n))).alloc _) (fun _ k hk e => by have := T3.out k hk; omega)).src (bvs_one _) Tryd.underlying22
              case d2 =>
                intro v6 w6 ha6 hc6 ho6 _
                have c6 : Chg (fun k => k = W.heap.size + 1 ∨ w4.heap.size ≤ k) w5 w6 := ((((Chg.refl (· = W.heap.size + 1) w5).set (p := ⟨W.heap.size + 1, 1, none⟩) (fun _ => rfl) (.int .i64 ((h.taken : Int) + n))).alloc _).mono (fun _ _ h => .inl h)).trans hc6 (fun k hk e => .inr (HST'.out.own k e.symm))
                have S8 := (S7.out.kept ((Chg.refl (fun _ => False) _).alloc _) (fun h => h) (fun _ _ _ h => h)).tell (by omega) ha6 hc6 ho6 (by omega)
                rw [show (⟨h.told ++ bs, h.taken + n, h.ended, h.fin⟩ : Hd) = h.step n (It.body bs) from (Hd.step_body _ _ _ HE.out).symm] at S8
                obtain ⟨va6, vn6, vc6, rfl, _⟩ := ha6.shape
                have HS8 := Lib.hid S8
                have HC6 := Lib.hid c6
                have hob := hc6.obj (heap_alloc_lt _ _ (S7.out.blk)) (fun e => by have := HST'.out.own _ e.symm; omega)
                have kx := free_of_blk hob
                have ky := cell_of_blk hob 0
                simp [hdC] at ky
                have hsz6 := lt_of_block hob
                clear ha6 hc6 ho6 S8 c6 hob
                go_wp2
                go_roundg g'
                case measure => omega
                case rel =>
                  have cT : Chg (fun k => k = b ∨ k = W.heap.size + 1) w4 (w6.setCell ⟨W.heap.size + 1, 0, none⟩ (.slice va6 vn6 vc6)) := by
                    refine (HC'.out.trans T4.out (fun _ _ h => .inl h)).trans (Chg.set (S := fun k => k = W.heap.size + 1 ∨ w4.heap.size ≤ k) (p := ⟨W.heap.size + 1, 0, none⟩) HC6.out (fun _ => .inl rfl) _) (fun k hk e => ?_)
                    rcases e with e | e
                    · exact .inr e
                    · omega
                  have cR : RdrAt (w6.setCell ⟨W.heap.size + 1, 0, none⟩ (.slice va6 vn6 vc6)) b text all r'.d r'.waits :=
                    T1.out.kept (Chg.set (S := fun k => k = W.heap.size + 1 ∨ w4.heap.size ≤ k) (p := ⟨W.heap.size + 1, 0, none⟩) HC6.out (fun _ => .inl rfl) _) (fun e => by omega)
                  exact ⟨_, r', qd, true, _, _, ta', tc', HPN.out, rfl, rfl, HRT.out, HQS2.out, hql2, HS8.out, cR, cT⟩
            ·
              obtain ⟨xk, xt, xb, xw, xh⟩ := x
              obtain rfl : xk = 4 := hk
              obtain rfl : xb = [] := hxb
              clear k0 k8
              unfold itV
              go_wp2
              go_region
              all_goals
                go_wp2
                go_roundg g'
                case measure => omega
                case rel =>
                  have hx7 : Rd (w5.setCell ⟨W.heap.size + 1, 1, none⟩ (.int .i64 ((h.taken : Int) + n))) (.slice xa 0 xc) 1 (bvs []) := rd_nil T2.out.rd
                  have S8 := S7.out.close (x := ⟨4, xt, [], xw, xh⟩) (by omega) hx7
                  rw [← Hd.step_end h n ⟨4, xt, [], xw, xh⟩ rfl] at S8
                  obtain ⟨c1, c2⟩ := CC.out _ ((((((((((Chg.refl (· = W.heap.size + 1) w5).set (p := ⟨W.heap.size + 1, 1, none⟩) (fun _ => rfl) (.int .i64 ((h.taken : Int) + n))).set (p := ⟨W.heap.size + 1, 2, none⟩) (fun _ => rfl) (.bool true)).set (p := ⟨W.heap.size + 1, 3, none⟩) (fun _ => rfl) (.int .i64 4)).set (p := ⟨W.heap.size + 1, 4, none⟩) (fun _ => rfl) (.string ⟨xt.toArray⟩)).set (p := ⟨W.heap.size + 1, 5, none⟩) (fun _ => rfl) (.slice xa 0 xc)).set (p := ⟨W.heap.size + 1, 6, none⟩) (fun _ => rfl) (.int .i64 xw)).set (p := ⟨W.heap.size + 1, 7, none⟩) (fun _ => rfl) (.bool xh)).alloc _).drew)
                  exact ⟨_, r', qd, false, _, _, ta', tc', HPN.out, rfl, rfl, HRT.out, HQS2.out, hql2, S8.kept (((Chg.refl (fun _ => False) _).alloc _).drew) (fun h => h) (fun _ _ _ h => h), c2, c1⟩
            ·
              have S8 := Lib.hid (show HSt w4.heap.size (W.heap.size + 1) (w5.setCell ⟨W.heap.size + 1, 1, none⟩ (.int .i64 ((h.taken : Int) + n))) (h.step n It.none) (.slice ua h.told.length uc) ev' by
                rw [Hd.step_none _ _ HE.out]; exact S7.out)
              have hq0 : ¬ 0 < qd.length := by have := HQL3.out; omega
              clear hnl k0 k3 k4 k5 k6 k7 k8
              unfold itV It.none
              go_wp2
              go_roundg g'
              case measure => omega
              case rel =>
                obtain ⟨c1, c2⟩ := CC.out _ (((Chg.refl (· = W.heap.size + 1) w5).set (p := ⟨W.heap.size + 1, 1, none⟩) (fun _ => rfl) (.int .i64 ((h.taken : Int) + n))).alloc _)
                exact ⟨_, r', qd, false, _, ev', ta', tc', HPN.out, rfl, rfl, HRT.out, HQS2.out, hql2, S8.out.kept ((Chg.refl (fun _ => False) _).alloc _) (fun h => h) (fun _ _ _ h => h), c2, c1⟩
theorem hear_calls (W0 W : World) (b text all : Nat) (hr : RdrAt W b text all DS.new false) (ht : text ≤ 16777216) (la : Option Addr) (lc : Nat) (xs : List Value) (ls : List (List UInt8)) (ho : OwnV 22 W0 W (.slice la xs.length lc) xs) (hs : SlsAt W0 xs ls) (hb0 : W0.heap.size ≤ b) (hbl : ∀ k, (Value.slice la xs.length lc).ownBlock = some k → k ≠ b)
    (hlen : ls.flatten.length ≤ 68719476736) (hnum : xs.length ≤ 1099511627776) :
    Calls Tryd.prog 14 #[.pointer (some ⟨b, 0, none⟩), .slice la xs.length lc] W fun r w' => ∃ ta tc ev, r = .returned (.agg (hdC (hd text all ls.flatten) (.slice ta (hd text all ls.flatten).told.length tc) ev true)) ∧ HearPost W w' b text all (.slice la xs.length lc) ls.flatten ta tc ev :=
  hear_gen W b text all hr ht la lc xs ls ho.arr (hs.kept ho.chg (fun _ _ h => h)) (fun i h h' hne k hk => by
    have h1 := (hs.2 i h h').lt (bvs_ne.2 hne) k hk
    exact ⟨by omega, fun e => by have := ho.own k e.symm; omega⟩) hbl hlen hnum
end Go.Proofs.YtmenphpilckphaaDoor
