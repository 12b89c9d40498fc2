/- pieces: however bytes are cut, the pieces are these bytes. Conditions as stated. -/
import Derived.Test.YtmenphpilckphaaDoorDtC4
namespace Go.Proofs.YtmenphpilckphaaDoor
set_option linter.unusedVariables false
open Go Go.RowKit Dt

theorem Tryd.infoBytes : (Tryd.prog.info? 22).map (fun i => (i.zero, i.size, i.bytes)) = some (some (.slice none 0 0), 1, 24) := by kernel_rfl
/-- One value of one cell laid for an append. -/
theorem src_val {t e : TypeId} (ht : Tryd.prog.underlying t = some (.slice e)) {w : World} {b : Nat} {x : Value} (hx : x.oneCell' = true) (h : w.cell? ⟨b, 0, none⟩ = some x) : Src Tryd.prog 1 t (.slice (some ⟨b, 0, none⟩) 1 1) 1 [x] w :=
  Src.ofSlice w ht _ 1 1 [x] (by simp) (fun j u hu => by
    have hj := (List.getElem?_eq_some_iff.1 hu).1
    have : j = 0 := by simp at hj; exact hj
    subst this
    simp at hu; subst hu
    rw [Addr.add_none]; exact h) (fun u hu => by simp at hu; subst hu; exact hx)
/-- Values of one cell each in memory made since W; nothing that was there at W has changed. -/
structure OwnV (e : TypeId) (W w : World) (v : Value) (xs : List Value) : Prop where
  arr : Arr w e 1 v xs
  own : ∀ k, v.ownBlock = some k → W.heap.size ≤ k
  chg : Chg (fun _ => False) W w
theorem OwnV.nil (e : TypeId) (w : World) : OwnV e w w (.slice none 0 0) [] := ⟨Arr.nil _ _ _, fun k hk => by simp [Value.ownBlock] at hk, Chg.refl _ _⟩
theorem OwnV.step {e : TypeId} {W w w1 w4 : World} {v v4 : Value} {l m : List Value} (h : OwnV e W w v l) (c : Chg (fun _ => False) w w1) (ha : Arr w4 e 1 v4 (l ++ m)) (hc : Chg (fun k => some k = v.ownBlock) w1 w4) {n : Nat} (ho : v4.ownBlock = v.ownBlock ∨ v4.ownBlock = some n) (hn : w.heap.size ≤ n) : OwnV e W w4 v4 (l ++ m) := by
  refine ⟨ha, fun k hk => ?_, (h.chg.trans c (fun _ _ h => h)).trans hc (fun i hi e => by have := h.own i e.symm; omega)⟩
  rcases ho with e | e
  · exact h.own k (by rw [← e]; exact hk)
  · rw [e] at hk; injection hk with hk; have := c.size; have := h.chg.size; omega
theorem OwnV.more {e : TypeId} {W w w1 : World} {v : Value} {l : List Value} (h : OwnV e W w v l) (c : Chg (fun _ => False) w w1) : OwnV e W w1 v l :=
  ⟨h.arr.kept c (fun _ _ h => h), h.own, h.chg.trans c (fun _ _ h => h)⟩
theorem OwnV.from {e : TypeId} {W w w1 : World} {v : Value} {l : List Value} (h : OwnV e w w1 v l) (c : Chg (fun _ => False) W w) : OwnV e W w1 v l :=
  ⟨h.arr, fun k hk => by have := h.own k hk; have := c.size; omega, c.trans h.chg (fun _ _ h => h)⟩
theorem OwnV.shape {e : TypeId} {W w : World} {v : Value} {l : List Value} (h : OwnV e W w v l) : ∃ ao cap, v = .slice ao l.length cap := by
  obtain ⟨ao, n, cap, rfl, h1, _⟩ := h.arr.shape
  rw [Nat.mul_one] at h1
  exact ⟨ao, cap, by rw [h1]⟩
/-- Slices of bytes that were there at W. -/
def SlsAt (W : World) (xs : List Value) (ls : List (List UInt8)) : Prop := xs.length = ls.length ∧ ∀ i (h : i < xs.length) (h' : i < ls.length), Rd W xs[i] 1 (bvs ls[i])
theorem SlsAt.nil (W : World) : SlsAt W [] [] := ⟨rfl, fun i h => by simp at h⟩
theorem SlsAt.snoc {W : World} {xs : List Value} {ls : List (List UInt8)} (h : SlsAt W xs ls) {x : Value} {l : List UInt8} (hx : Rd W x 1 (bvs l)) : SlsAt W (xs ++ [x]) (ls ++ [l]) := by
  refine ⟨by simp [h.1], fun i hi hi' => ?_⟩
  by_cases e : i < xs.length
  · have e' : i < ls.length := by rw [← h.1]; exact e
    rw [List.getElem_append_left e, List.getElem_append_left e']
    exact h.2 i e e'
  · have e2 : i = xs.length := by simp at hi; omega
    subst e2
    have e3 := h.1
    simp only [List.getElem_append_right (Nat.le_refl _), Nat.sub_self, List.getElem_cons_zero]
    have : (ls ++ [l])[xs.length] = l := by
      rw [List.getElem_append_right (by omega)]; simp [e3]
    rw [this]; exact hx
theorem SlsAt.kept {S : Nat → Prop} {w w' : World} {xs : List Value} {ls : List (List UInt8)} (h : SlsAt w xs ls) (c : Chg S w w') (hs : ∀ k, k < w.heap.size → ¬ S k) : SlsAt w' xs ls :=
  ⟨h.1, fun i hi hi' => (h.2 i hi hi').kept c (fun hx k hk => hs k ((h.2 i hi hi').lt hx k hk))⟩
theorem Rd.mid' {P : Program} {w : World} {ao : Option Addr} {n cap : Nat} {l : List UInt8} (h : Rd w (.slice ao n cap) 1 (bvs l)) {T e : TypeId} (hT : P.underlying T = some (.slice e)) (hE : P.elem T = e) {i : TypeInfo} (hi : P.info? e = some i) (hs : i.size = 1) (lo k : Nat) (h1 : lo ≤ k) (hk : k ≤ l.length) :
    ∃ ao' n' cap', (∀ w', (Instr.slice T (.slice ao n cap) (some (.int .i64 lo)) (some (.int .i64 k)) none).run P w' = .ok (.slice ao' n' cap') w') ∧ Rd w (.slice ao' n' cap') 1 (bvs ((l.take k).drop lo)) ∧ (Value.slice ao' n' cap').ownBlock = (Value.slice ao n cap).ownBlock := by
  have hn := h.len
  obtain ⟨_, _, _, e0, _, _, hcap, _⟩ := h.shape
  injection e0 with e0 e1 e2
  have hc := h.cut lo k h1 (by omega)
  refine ⟨if cap = lo then ao else ao.map (·.add (lo * 1)), k - lo, cap - lo, fun w' => ?_, ?_, ?_⟩
  · subst hE
    rw [run_slice_lh w' T ao n cap hT .i64 .i64 lo k (by omega) (by omega) (by omega)]
    simp [sizeOf, typeInfo, hi, hs, Result.andThen, sliced]
  · have e1 : ((bvs l).take (k * 1)).drop (lo * 1) = bvs ((l.take k).drop lo) := by
      rw [Nat.mul_one, Nat.mul_one]; simp [bvs]
    rw [e1] at hc; exact hc
  · split
    · cases ao <;> rfl
    · cases ao with
      | none => rfl
      | some a => simp only [Option.map_some, Value.ownBlock]; unfold Addr.add; split <;> rfl
def PcRel (W0 W : World) (B : Option Nat) (b : List UInt8) (n : Nat) (g : Nat) (ov fv iv : Value) (wr : World) : Prop :=
  ∃ (j f : Nat) (oa : Option Addr) (oc : Nat) (xs : List Value) (ls : List (List UInt8)), j + g = n ∧ iv = .int .i64 j ∧ fv = .int .i64 f ∧ f ≤ b.length ∧ ov = .slice oa xs.length oc ∧ OwnV 22 W wr (.slice oa xs.length oc) xs ∧ SlsAt W0 xs ls ∧ ls.flatten = b.take f ∧ xs.length = j ∧ (∀ x ∈ xs, x.ownBlock = B)
set_option maxHeartbeats 1000000 in
set_option maxRecDepth 100000 in
theorem pieces_gen (W0 W : World) (ba ca : Option Addr) (bc cc : Nat) (b : List UInt8) (cs : List Int) (hb : Rd W0 (.slice ba b.length bc) 1 (bvs b)) (hc : Rd W (.slice ca cs.length cc) 1 (cs.map (Value.int .i64))) (hbl : b.length ≤ 1099511627776) (hcl : cs.length ≤ 1099511627776) :
    Calls Tryd.prog 15 #[.slice ba b.length bc, .slice ca cs.length cc] W fun r w' => ∃ (oa : Option Addr) (oc : Nat) (xs : List Value) (ls : List (List UInt8)), r = .returned (.slice oa xs.length oc) ∧ OwnV 22 W w' (.slice oa xs.length oc) xs ∧ SlsAt W0 xs ls ∧ ls.flatten = b ∧ xs.length = cs.length + 1 ∧ (∀ x ∈ xs, x.ownBlock = (Value.slice ba b.length bc).ownBlock) := by
  obtain ⟨i0, hi0, hx0, hz0, hb0⟩ := info_parts Tryd.infoByte
  obtain ⟨i1, hi1, hy0, hy1, hy2⟩ := info_parts Tryd.infoBytes
  have HB := Lib.hid hb
  have HCS := Lib.hid hc
  clear hb hc
  go_enter Tryd.func15, Tryd.ntmps15
  go_wp2_with fail
  go_loopg [5, 6, 12] cs.length (PcRel W0 W (Value.slice ba b.length bc).ownBlock b cs.length)
  case atStart => exact ⟨0, 0, none, 0, [], [], by omega, rfl, rfl, Nat.zero_le _, rfl, OwnV.nil _ _, SlsAt.nil _, rfl, rfl, fun x hx => by simp at hx⟩
  case round =>
    obtain ⟨j, f, oa, oc, xs, ls, hj, rfl, rfl, hf, rfl, hown, hsl, hfl, hxj, hob⟩ := hrel
    have HO := Lib.hid hown
    have HS := Lib.hid hsl
    have HF := Lib.hid hfl
    have HX := Lib.hid hxj
    have hxl : xs.length ≤ 1099511627776 := by omega
    have HOB := Lib.hid hob
    clear hown hsl hfl hxj hob
    by_cases hg : gk = 0
    · have hlt : ¬ (j : Int) < cs.length := by omega
      obtain ⟨ta, tn, tc, htl, hrt, hto⟩ := HB.out.tail' Tryd.underlying22 (by kernel_rfl : Tryd.prog.elem 22 = 5) hi0 hz0 f hf
      have HRT := Lib.hid hrt
      have HTO := Lib.hid (show ∀ x ∈ xs ++ [Value.slice ta tn tc], x.ownBlock = (Value.slice ba b.length bc).ownBlock from fun x hx => by
        rcases List.mem_append.1 hx with h | h
        · exact HOB.out x h
        · simp at h; subst h; exact hto)
      clear hrt hto
      go_wp2_with (at_builtin; refine wpList_append_arr _ rfl _ _ 34 34 rfl 22 i1 _ 1 24 Tryd.underlying34 hi1 hy0 hy1 hy2 rfl (by decide) (.slice oa xs.length oc) xs rfl (HO.out.more ((Chg.refl _ wr).alloc _)).arr (.slice (some ⟨wr.heap.size, 0, none⟩) 1 1) rfl 1 [.slice ta tn tc] (src_val Tryd.underlying34 rfl (cell_alloc_eq (by simp) rfl)) (by rw [Nat.div_one]; unfold maxLen; omega) (by rw [Nat.div_one]; omega) ?d1)
      case d1 =>
        intro v4 w4 ha4 hc4 ho4
        have ho := HO.out.step ((Chg.refl _ wr).alloc _) ha4 hc4 ho4 (by omega)
        obtain ⟨va, vc, rfl⟩ := ho.shape
        have HO2 := Lib.hid ho
        have HLEN := Lib.hid (show (xs ++ [Value.slice ta tn tc]).length = cs.length + 1 by have := HX.out; simp; omega)
        clear ha4 hc4 ho4 ho
        go_wp2
        go_ret
        refine ⟨va, vc, _, ls ++ [b.drop f], rfl, HO2.out, HS.out.snoc HRT.out, ?_, HLEN.out, HTO.out⟩
        rw [List.flatten_append, HF.out]; simp
    · have hlt : (j : Int) < cs.length := by omega
      have hjl : j < cs.length := by omega
      have hne : cs.map (Value.int .i64) ≠ [] := by intro e; have := congrArg List.length e; simp at this; subst this; simp at hjl
      obtain ⟨bl, o, rfl, hcell⟩ := HCS.out.at hne
      have hcj := hcell j (by simpa using hjl)
      rw [List.getElem_map] at hcj
      have hck := HO.out.chg.cell hcj (fun h => h)
      generalize cs[j] = c at hck
      clear hcj hcell hne
      have key : ∃ t : Nat, f ≤ t ∧ t ≤ b.length ∧ min (max c (f : Int)) (b.length : Int) = (t : Int) := ⟨(min (max c (f : Int)) (b.length : Int)).toNat, by omega, by omega, by omega⟩
      obtain ⟨t, ht1, ht2, hkey⟩ := key
      obtain ⟨ta, tn, tc, hmid, hrt, hto⟩ := HB.out.mid' Tryd.underlying22 (by kernel_rfl : Tryd.prog.elem 22 = 5) hi0 hz0 f t ht1 ht2
      have HRT := Lib.hid hrt
      have HFL := Lib.hid (show (ls ++ [(b.take t).drop f]).flatten = b.take t by
        rw [List.flatten_append, HF.out]
        have e : b.take f = (b.take t).take f := by rw [List.take_take, Nat.min_eq_left ht1]
        rw [e]; simp)
      have HTO := Lib.hid (show ∀ x ∈ xs ++ [Value.slice ta tn tc], x.ownBlock = (Value.slice ba b.length bc).ownBlock from fun x hx => by
        rcases List.mem_append.1 hx with h | h
        · exact HOB.out x h
        · simp at h; subst h; exact hto)
      clear hrt hto
      go_wp2_with (at_builtin; refine wpList_append_arr _ rfl _ _ 34 34 rfl 22 i1 _ 1 24 Tryd.underlying34 hi1 hy0 hy1 hy2 rfl (by decide) (.slice oa xs.length oc) xs rfl (HO.out.more ((Chg.refl _ wr).alloc _)).arr (.slice (some ⟨wr.heap.size, 0, none⟩) 1 1) rfl 1 [.slice ta tn tc] (src_val Tryd.underlying34 rfl (cell_alloc_eq (by simp) rfl)) (by rw [Nat.div_one]; unfold maxLen; omega) (by rw [Nat.div_one]; omega) ?d2)
      case d2 =>
        intro v4 w4 ha4 hc4 ho4
        have ho := HO.out.step ((Chg.refl _ wr).alloc _) ha4 hc4 ho4 (by omega)
        obtain ⟨va, vc, rfl⟩ := ho.shape
        have HO2 := Lib.hid ho
        have HLEN := Lib.hid (show (xs ++ [Value.slice ta tn tc]).length = j + 1 by have := HX.out; simp; omega)
        clear ha4 hc4 ho4 ho
        go_wp2
        go_roundg (gk - 1)
        case measure => omega
        case rel => exact ⟨j + 1, t, va, vc, _, _, by omega, by go_num, rfl, ht2, rfl, HO2.out, HS.out.snoc HRT.out, HFL.out, HLEN.out, HTO.out⟩
theorem pieces_calls (W0 W : World) (ba ca : Option Addr) (bc cc : Nat) (b : List UInt8) (cs : List Int) (hb : Rd W0 (.slice ba b.length bc) 1 (bvs b)) (hc : Rd W (.slice ca cs.length cc) 1 (cs.map (Value.int .i64))) (hbl : b.length ≤ 1099511627776) (hcl : cs.length ≤ 1099511627776) :
    Calls Tryd.prog 15 #[.slice ba b.length bc, .slice ca cs.length cc] W fun r w' => ∃ (oa : Option Addr) (oc : Nat) (xs : List Value) (ls : List (List UInt8)), r = .returned (.slice oa xs.length oc) ∧ OwnV 22 W w' (.slice oa xs.length oc) xs ∧ SlsAt W0 xs ls ∧ ls.flatten = b ∧ xs.length = cs.length + 1 :=
  (pieces_gen W0 W ba ca bc cc b cs hb hc hbl hcl).mono fun e w' ⟨oa, oc, xs, ls, h1, h2, h3, h4, h5, _⟩ => ⟨oa, oc, xs, ls, h1, h2, h3, h4, h5⟩
end Go.Proofs.YtmenphpilckphaaDoor
