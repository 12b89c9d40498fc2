/- The library's functions on bytes (Equal, Index, HasSuffix, Split), in this seat's words on memory. Conditions as stated. -/
import Derived.Test.YtmenphpilckphaaDoorShelf
import Derived.Test.YtmenphpilckphaaDoorDtC2
namespace Go.Proofs.YtmenphpilckphaaDoor
set_option linter.unusedVariables false
open Go Go.RowKit Dt

/-- The numbers of bytes. -/
def nums (l : List UInt8) : List Int := l.map fun x => (x.toNat : Int)
theorem nums_length (l : List UInt8) : (nums l).length = l.length := by simp [nums]
theorem bytesOf_nums (l : List UInt8) : Lib.bytesOf (nums l) = l := by
  unfold Lib.bytesOf nums
  rw [List.map_map]
  conv => rhs; rw [← List.map_id l]
  apply List.map_congr_left
  intro x _
  simp
theorem nums_range (l : List UInt8) : ∀ x ∈ nums l, 0 ≤ x ∧ x < 256 := by
  intro x hx
  obtain ⟨y, _, rfl⟩ := List.mem_map.1 hx
  have := y.toNat_lt
  omega
theorem nums_get (l : List UInt8) (i : Nat) (h : i < l.length) : Value.int .u8 ((nums l).getD i 0) = .int .u8 (l[i].toNat : Int) := by
  congr 1
  unfold nums
  rw [List.getD_eq_getElem?_getD, List.getElem?_map, List.getElem?_eq_getElem h]; rfl
theorem Rd.bytesIn {w : World} {ao : Option Addr} {cap : Nat} {l : List UInt8} (h : Rd w (.slice ao l.length cap) 1 (bvs l)) : Lib.BytesIn w ao l.length (nums l) := by
  intro hn
  obtain ⟨bl, o, rfl, hc⟩ := h.at (bvs_ne.2 (by rintro rfl; simp at hn))
  refine ⟨bl, o, rfl, fun i hi => ?_⟩
  rw [hc i (by rw [bvs_length]; exact hi), bvs_get, nums_get l i hi]
theorem Rd.cellsIn {w : World} {a : Addr} {cap : Nat} {l : List UInt8} (h : Rd w (.slice (some a) l.length cap) 1 (bvs l)) : ∀ i, i < l.length → w.cell? (a.add i) = some (.int .u8 ((nums l).getD i 0)) := by
  intro i hi
  obtain ⟨bl, o, he, hc⟩ := h.at (bvs_ne.2 (by rintro rfl; simp at hi))
  injection he with he; subst he
  rw [Addr.add_none, hc i (by rw [bvs_length]; exact hi), bvs_get, nums_get l i hi]
theorem equal_calls (w : World) (a b : Option Addr) (c d : Nat) (l m : List UInt8) (h : Rd w (.slice a l.length c) 1 (bvs l)) (g : Rd w (.slice b m.length d) 1 (bvs m)) :
    Calls Tryd.prog 16 #[.slice a l.length c, .slice b m.length d] w fun r w' => r = .returned (.bool (l == m)) ∧ w = w' := by
  refine (Tryd.bytes_Equal_all a b l.length c m.length d (nums l) (nums m) w (nums_length l) (nums_length m) h.bytesIn g.bytesIn).mono ?_
  rintro e w' ⟨rfl, rfl⟩
  rw [bytesOf_nums, bytesOf_nums]
  exact ⟨rfl, rfl⟩
/-- What the library keeps of its own: a number lies there. -/
def Glb (w : World) : Prop := ∃ m : Int, w.cell? ⟨0, 0, none⟩ = some (.int .i64 m)
theorem Glb.kept {S : Nat → Prop} {w w' : World} (h : Glb w) (c : Chg S w w') (hs : ¬ S 0) : Glb w' := by
  obtain ⟨m, hm⟩ := h; exact ⟨m, c.cell hm hs⟩
theorem Rd.capLe {w : World} {a : Option Addr} {n c : Nat} {xs : List Value} (h : Rd w (.slice a n c) 1 xs) : n ≤ c ∧ c ≤ 9223372036854775807 := by
  obtain ⟨_, _, _, he, _, _, h2, h3, _⟩ := h.shape
  injection he with e1 e2 e3
  subst e1 e2 e3
  unfold maxLen at h3
  exact ⟨h2, h3⟩
theorem Chg.ofDrewN (S : Nat → Prop) (w : World) (n : Nat) : Chg S w (w.drewN n) := (Chg.refl S w).drewN n
/-- A slice of slices of bytes, to be read. -/
def RdLs (w : World) (v : Value) (ls : List (List UInt8)) : Prop := ∃ xs : List Value, xs.length = ls.length ∧ Rd w v 1 xs ∧ ∀ i (h : i < xs.length) (h' : i < ls.length), Rd w xs[i] 1 (bvs ls[i])
theorem RdLs.kept {S : Nat → Prop} {w w' : World} {v : Value} {ls : List (List UInt8)} (h : RdLs w v ls) (c : Chg S w w') (hs : ∀ k, k < w.heap.size → ¬ S k) : RdLs w' v ls := by
  obtain ⟨xs, h1, h2, h3⟩ := h
  refine ⟨xs, h1, ?_, fun i hi hi' => ?_⟩
  · exact h2.kept c (fun hx k hk => hs k (h2.lt hx k hk))
  · exact (h3 i hi hi').kept c (fun hx k hk => hs k ((h3 i hi hi').lt hx k hk))
theorem index_calls (w : World) (hg : Glb w) (a b : Option Addr) (c d : Nat) (l m : List UInt8) (h : Rd w (.slice a l.length c) 1 (bvs l)) (g : Rd w (.slice b m.length d) 1 (bvs m)) (hl : l.length < 4294967281) (hm : 2 ≤ m.length) :
    Calls Tryd.prog 18 #[.slice a l.length c, .slice b m.length d] w fun r w' => r = .returned (.int .i64 (Lib.index l m)) ∧ Chg (fun _ => False) w w' := by
  obtain ⟨z, hz⟩ := hg
  obtain ⟨b2, o2, rfl, hb2⟩ := g.at (bvs_ne.2 (by rintro rfl; simp at hm))
  have hgc := g.capLe
  cases a with
  | none =>
    obtain ⟨_, _, _, he, h1, _, _, _, h0⟩ := h.shape
    injection he with e1 e2 e3
    subst e1 e2 e3
    obtain ⟨hl0, rfl⟩ := h0 rfl
    have : l = [] := List.eq_nil_of_length_eq_zero hl0
    subst this
    refine (Tryd.bytes_Index_nil (some ⟨b2, o2, none⟩) m.length d w (by omega) (fun e => by omega)).mono ?_
    rintro e w' ⟨rfl, rfl⟩
    rw [if_neg (by omega)]
    refine ⟨?_, Chg.refl _ _⟩
    have : Lib.index [] m = -1 := by
      unfold Lib.index
      cases m with
      | nil => simp at hm
      | cons a t => rfl
    rw [this]
  | some a =>
    have hc := h.capLe
    refine (Tryd.bytes_Index_at a ⟨b2, o2, none⟩ l.length c m.length d (nums l) (nums m) z w (nums_length l) (nums_length m) (nums_range l) (nums_range m) h.cellsIn g.cellsIn hc.1 hl (by omega) hz).mono ?_
    rintro e w' ⟨rfl, q, rfl⟩
    rw [bytesOf_nums, bytesOf_nums]
    exact ⟨rfl, Chg.ofDrewN _ _ _⟩
theorem suffix_calls (w : World) (a b : Option Addr) (c d : Nat) (l m : List UInt8) (h : Rd w (.slice a l.length c) 1 (bvs l)) (g : Rd w (.slice b m.length d) 1 (bvs m)) :
    Calls Tryd.prog 31 #[.slice a l.length c, .slice b m.length d] w fun r w' => r = .returned (.bool (Lib.hasSuffix l m)) ∧ w = w' := by
  have hc := h.capLe
  refine (Tryd.bytes_HasSuffix_all a b l.length c m.length d (nums l) (nums m) w (nums_length l) (nums_length m) hc.1 (by omega) h.bytesIn g.bytesIn).mono ?_
  rintro e w' ⟨rfl, rfl⟩
  rw [bytesOf_nums, bytesOf_nums]
  exact ⟨rfl, rfl⟩
theorem splitV_cap (sep : List UInt8) : ∀ (k : Nat) (a : Addr) (cap : Nat) (l : List UInt8), l.length ≤ cap → ∀ v ∈ Lib.splitV sep 0 k a cap l, ∃ a' n c', v = .slice a' n c' ∧ c' ≤ cap
  | 0, a, cap, l, h, v, hv => by simp [Lib.splitV] at hv; exact ⟨_, _, _, hv, Nat.le_refl _⟩
  | k + 1, a, cap, l, h, v, hv => by
    unfold Lib.splitV at hv
    split at hv
    · simp at hv; exact ⟨_, _, _, hv, Nat.le_refl _⟩
    · rename_i hm
      have hge := Lib.index_ge l sep
      have h0 : 0 ≤ Lib.index l sep := by
        have : ¬ Lib.index l sep = -1 := fun e => hm (by rw [e]; rfl)
        omega
      have hr := Lib.index_room l sep h0
      rcases List.mem_cons.1 hv with rfl | hv
      · exact ⟨_, _, _, rfl, by omega⟩
      · obtain ⟨a', n, c', e, h2⟩ := splitV_cap sep k _ _ _ (by rw [List.length_drop]; omega) v hv
        exact ⟨a', n, c', e, by omega⟩
theorem splitV_len (sep l : List UInt8) (k : Nat) (a : Addr) (c : Nat) : (Lib.splitV sep 0 k a c l).length = (Lib.splitK sep 0 k l).length := Lib.splitV_length sep 0 k a c l
theorem split_calls (w : World) (hg : Glb w) (a b : Option Addr) (c d : Nat) (l : List UInt8) (h : Rd w (.slice a l.length c) 1 (bvs l)) (g : Rd w (.slice b 2 d) 1 (bvs [13, 10])) (hl : l.length < 4294967281) :
    Calls Tryd.prog 42 #[.slice a l.length c, .slice b 2 d] w fun r w' => ∃ v, r = .returned v ∧ RdLs w' v ((lines l).1 ++ [(lines l).2]) ∧ Chg (fun _ => False) w w' := by
  obtain ⟨z, hz⟩ := hg
  have g' : Rd w (.slice b ([13, 10] : List UInt8).length d) 1 (bvs [13, 10]) := g
  obtain ⟨b2, o2, rfl, hb2⟩ := g.at (by simp [bvs])
  have hgc := g.capLe
  cases a with
  | none =>
    obtain ⟨_, _, _, he, h1, _, _, _, h0⟩ := h.shape
    injection he with e1 e2 e3
    subst e1 e2 e3
    obtain ⟨hl0, rfl⟩ := h0 rfl
    have : l = [] := List.eq_nil_of_length_eq_zero hl0
    subst this
    refine (Tryd.bytes_Split_nil (some ⟨b2, o2, none⟩) 2 d w (by omega) (by omega) (fun e => by omega)).mono ?_
    rintro e w' ⟨rfl, rfl⟩
    refine ⟨_, rfl, ⟨[.slice none 0 0], rfl, ⟨_, 1, 1, rfl, rfl, Nat.le_refl _, by unfold maxLen; omega, fun h => by simp at h, fun a ha _ => ?_⟩, fun i hi hi' => ?_⟩, (Chg.refl _ w).alloc _⟩
    · injection ha with ha; subst ha
      refine ⟨rfl, fun i hi => ?_⟩
      simp at hi; subst hi
      exact cell_alloc_eq rfl rfl
    · simp at hi; subst hi
      exact ⟨none, 0, 0, rfl, by simp [lines, bvs], by simp, by simp [maxLen], fun _ => ⟨rfl, rfl⟩, fun a h => by cases h⟩
  | some a =>
    have hc := h.capLe
    refine (Tryd.bytes_Split a ⟨b2, o2, none⟩ l.length c 2 d (nums l) (nums [13, 10]) z w (nums_length l) rfl (nums_range l) (nums_range _) h.cellsIn g'.cellsIn hc.1 hl (by omega) (by omega) (by omega) hz).mono ?_
    rintro e w' ⟨rfl, q, rfl⟩
    rw [bytesOf_nums, bytesOf_nums]
    have hsl := split_lines l
    unfold Lib.split at hsl
    have hlen := splitV_len [13, 10] l (Lib.count l [13, 10]) a c
    rw [hsl] at hlen
    have hcl : Lib.count l [13, 10] + 1 = ((lines l).1 ++ [(lines l).2]).length := by rw [count_lines]; simp
    have hcu : Lib.count l [13, 10] + 1 ≤ l.length + 1 := by
      have := lines_le l
      rw [count_lines]; omega
    have hch : Chg (fun _ => False) w ((w.alloc (.cells (Lib.splitV [13, 10] 0 (Lib.count l [13, 10]) a c l).toArray 22)).drewN q) := ((Chg.refl _ w).alloc _).drewN q
    refine ⟨_, rfl, ⟨Lib.splitV [13, 10] 0 (Lib.count l [13, 10]) a c l, hlen, ⟨_, _, _, rfl, by rw [hlen, hcl, Nat.mul_one], Nat.le_refl _, by unfold maxLen; omega, fun h => by simp at h, fun a' ha _ => ?_⟩, fun i hi hi' => ?_⟩, hch⟩
    · injection ha with ha; subst ha
      refine ⟨rfl, fun i hi => ?_⟩
      rw [World.cell?_drewN]
      simp only [Nat.zero_add]
      exact cell_alloc_eq rfl (by rw [List.getElem?_toArray]; exact List.getElem?_eq_getElem hi)
    · obtain ⟨a', off, len, cp, hv, h1, h2, h3, h4⟩ := Lib.splitV_spec [13, 10] 0 (by simp) (by simp) (Lib.count l [13, 10]) a c l hc.1 i _ (List.getElem?_eq_getElem hi)
      rw [hsl, List.getElem?_eq_getElem hi'] at h3
      injection h3 with h3
      rw [hv, h3]
      have hll : ((l.drop off).take len).length = len := by rw [List.length_take, List.length_drop]; omega
      refine ⟨_, len, cp, rfl, by rw [bvs_length, hll, Nat.mul_one], h1, ?_, fun h => by simp at h, fun a2 ha hx => ?_⟩
      · obtain ⟨_, _, _, e1, e2⟩ := splitV_cap [13, 10] (Lib.count l [13, 10]) a c l hc.1 _ (List.getElem_mem hi)
        rw [hv] at e1
        injection e1 with e1 e3 e4
        subst e4
        unfold maxLen; omega
      · injection ha with ha; subst ha
        have hlp : 0 < len := by
          rcases Nat.eq_zero_or_pos len with e | e
          · subst e; simp [bvs] at hx
          · exact e
        obtain ⟨bl, o, he, hcell⟩ := h.at (bvs_ne.2 (by rintro rfl; simp at h2; omega))
        injection he with he; subst he
        have e0 := h4 0 hlp
        rw [Addr.add_none] at e0
        have ea : a' = ⟨bl, o + (off + 0), none⟩ := by rw [← e0]; unfold Addr.add; rfl
        subst ea
        refine ⟨rfl, fun i hi => ?_⟩
        rw [bvs_length, hll] at hi
        have hin : off + i < l.length := by omega
        have hcc := hch.cell (hcell (off + i) (by rw [bvs_length]; exact hin)) (fun h => h)
        rw [bvs_get] at hcc
        rw [bvs_get]
        simp only [Nat.add_zero, Nat.add_assoc]
        rw [hcc]
        simp
end Go.Proofs.YtmenphpilckphaaDoor
