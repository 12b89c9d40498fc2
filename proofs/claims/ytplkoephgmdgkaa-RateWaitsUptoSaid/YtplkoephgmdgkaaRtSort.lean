/- The library's sort of strings at memory of one's own, out of its contract. -/
import Derived.Test.YtplkoephgmdgkaaRtKeys
import Derived.Test.YtplkoephgmdgkaaShelf
namespace Go.Proofs.Ytplkoephgmdgkaa
open Go Go.RowKit Rt Go.Maps Go.Sort
set_option linter.unusedVariables false
def bsOf (l : List UInt8) : ByteArray := ⟨l.toArray⟩
theorem bsOf_data (k : ByteArray) : bsOf k.data.toList = k := by cases k; simp [bsOf]
theorem bsOf_list (l : List UInt8) : (bsOf l).data.toList = l := by simp [bsOf]
theorem sort_pair (ss : List (List UInt8)) : (ss.mergeSort fun x y => decide (x ≤ y)).Pairwise (fun a b => a ≤ b) := by
  have h := List.pairwise_mergeSort (le := fun (x y : List UInt8) => decide (x ≤ y)) (fun a b c h1 h2 => by
    simp only [decide_eq_true_eq] at *
    exact List.le_trans h1 h2) (fun a b => by
    simp only [Bool.or_eq_true, decide_eq_true_eq]
    exact List.le_total a b) ss
  exact h.imp fun h => by simpa using h
theorem sort_perm (ss : List (List UInt8)) : (ss.mergeSort fun x y => decide (x ≤ y)).Perm ss := List.mergeSort_perm _ _
theorem holds_arr {w : World} {b o n cap : Nat} {cur : Array Value} {e : TypeId} {f : Nat × Nat} {ks : List ByteArray} (hb : w.heap[b]? = some (.cells cur e f)) (hfr : ∀ i, o ≤ i → i < o + cap * 1 → ¬ (f.1 ≤ i ∧ i < f.2)) (hn : n ≤ cap) (hl : (strs ks).length = n * 1) (hx : (cur.toList.drop o).take (n * 1) = strs ks) :
    Holds encStr w b o (ks.map fun k => k.data.toList).toArray := by
  intro j hj
  have hj' : j < ks.length := by simpa using hj
  have hln : ks.length = n := by rw [strs_len] at hl; omega
  constructor
  · rw [cell_of_blk hb]
    have h1 : (strs ks)[j]? = some (.string ks[j]) := by simp [strs, List.getElem?_eq_getElem hj']
    rw [← hx, List.getElem?_take, if_pos (by omega), List.getElem?_drop, Array.getElem?_toList] at h1
    rw [h1]
    rw [getElem!_pos _ j (by simpa using hj')]
    simp [encStr]
  · have h1 := hfr (o + j) (by omega) (by omega)
    simp [World.frozen?, hb]
    omega
theorem arr_sorted {w : World} {b o n cap : Nat} {cur : Array Value} {e : TypeId} {f : Nat × Nat} {ss : List (List UInt8)} {k : Nat} {os : Array Obj} (hb : w.heap[b]? = some (.cells cur e f)) (hbl : b < w.heap.size) (hc : cap ≤ maxLen) (hn : n ≤ cap) (hs : o + cap * 1 ≤ cur.size)
    (hfr : ∀ i, o ≤ i → i < o + cap * 1 → ¬ (f.1 ≤ i ∧ i < f.2)) (hl : ss.length = n) :
    Arr (grow (putRow encStr (Go.Sort.ahead w k) b o ss.toArray) os) e 1 (.slice (some ⟨b, o, none⟩) n cap) (strs (ss.map bsOf)) ∧ Chg (fun i => some i = (Value.slice (some ⟨b, o, none⟩) n cap).ownBlock) w (grow (putRow encStr (Go.Sort.ahead w k) b o ss.toArray) os) := by
  have hheap : (putRow encStr (Go.Sort.ahead w k) b o ss.toArray).heap = w.heap.modify b (onCells (putCells encStr o ss.toArray)) := rfl
  have hsz : (putRow encStr (Go.Sort.ahead w k) b o ss.toArray).heap.size = w.heap.size := by rw [hheap]; simp
  have hgr : ∀ i, i < w.heap.size → (grow (putRow encStr (Go.Sort.ahead w k) b o ss.toArray) os).heap[i]? = (w.heap.modify b (onCells (putCells encStr o ss.toArray)))[i]? := by
    intro i hi
    show ((putRow encStr (Go.Sort.ahead w k) b o ss.toArray).heap ++ os)[i]? = _
    rw [Array.getElem?_append_left (by rw [hsz]; exact hi), hheap]
  have hnew : (grow (putRow encStr (Go.Sort.ahead w k) b o ss.toArray) os).heap[b]? = some (.cells (putCells encStr o ss.toArray cur) e f) := by
    rw [hgr b hbl, Array.getElem?_modify, if_pos rfl, hb]
    rfl
  refine ⟨.inr ⟨b, o, n, cap, putCells encStr o ss.toArray cur, f, rfl, hn, hc, hnew, by simpa [putCells] using hs, hfr, by rw [strs_len]; simp [hl], ?_⟩, ⟨rfl, rfl, rfl, by show _ ≤ ((putRow encStr (Go.Sort.ahead w k) b o ss.toArray).heap ++ os).size; rw [Array.size_append, hsz]; omega, fun i hi hne => ?_⟩⟩
  · apply List.ext_getElem?
    intro j
    rw [List.getElem?_take]
    by_cases hj : j < n * 1
    · rw [if_pos hj, List.getElem?_drop, Array.getElem?_toList]
      have h1 : o + j < cur.size := by omega
      have h2 : j < ss.length := by omega
      have h3 : (putCells encStr o ss.toArray cur)[o + j]? = some (encStr ss[j]) := by
        unfold putCells
        rw [Array.getElem?_mapIdx, Array.getElem?_eq_getElem h1]
        simp only [Option.map_some]
        rw [if_pos ⟨by omega, by simp; omega⟩, Nat.add_sub_cancel_left, getElem!_pos _ j (by simpa using h2)]
        simp
      rw [h3]
      simp [strs, List.getElem?_eq_getElem h2, encStr, bsOf]
    · rw [if_neg hj]
      symm
      rw [List.getElem?_eq_none]
      rw [strs_len]; simp; omega
  · rw [hgr i hi, Array.getElem?_modify, if_neg (fun e => hne (by simp [Value.ownBlock, e]))]
theorem sortC_of (h1 : ∀ (blk off cap : Nat) (ss : List (List UInt8)) (w : World), Holds encStr w blk off ss.toArray → blk < w.heap.size → ss.length < 4611686018427387904 →
      Calls Try.prog 59 #[.slice (some ⟨blk, off, none⟩) ss.length cap] w fun e w' => e = .returned (.tuple #[]) ∧ ∃ n os, w' = grow (putRow encStr (Go.Sort.ahead w n) blk off (ss.mergeSort fun x y => decide (x ≤ y)).toArray) os)
    (h2 : ∀ w, Calls Try.prog 59 #[.slice none 0 0] w fun e w' => e = .returned (.tuple #[]) ∧ w' = w) : SortC := by
  intro w v ks ha hk
  rcases ha with ⟨rfl, hx⟩ | ⟨b, o, n, cap, cur, f, rfl, r1, r2, r3, r4, r5, r6, r7⟩
  · refine (h2 w).mono ?_
    rintro e w' ⟨rfl, rfl⟩
    have hk0 : ks = [] := by cases ks with
      | nil => rfl
      | cons a l => simp [strs] at hx
    subst hk0
    exact ⟨rfl, [], List.Perm.refl _, List.Pairwise.nil, Arr.nil _ _ _, Chg.refl _ _⟩
  · have hln : ks.length = n := by rw [strs_len] at r6; omega
    have hH := holds_arr r3 r5 r1 r6 r7
    have hbl : b < w.heap.size := lt_of_block r3
    have hc := h1 b o cap (ks.map fun k => k.data.toList) w hH hbl (by rw [List.length_map]; omega)
    rw [List.length_map, hln] at hc
    refine hc.mono ?_
    rintro e w' ⟨rfl, k, os, rfl⟩
    have hp := sort_perm (ks.map fun k => k.data.toList)
    have hs := sort_pair (ks.map fun k => k.data.toList)
    have hlen : ((ks.map fun k => k.data.toList).mergeSort fun x y => decide (x ≤ y)).length = n := by rw [hp.length_eq, List.length_map, hln]
    generalize ((ks.map fun k => k.data.toList).mergeSort fun x y => decide (x ≤ y)) = ss at *
    obtain ⟨a1, a2⟩ := arr_sorted (k := k) (os := os) r3 hbl r2 r1 r4 r5 hlen
    refine ⟨rfl, ss.map bsOf, ?_, ?_, a1, a2⟩
    · have := hp.map bsOf
      rw [List.map_map] at this
      have e1 : ks.map (bsOf ∘ fun k => k.data.toList) = ks := by
        rw [show (bsOf ∘ fun k => k.data.toList) = id from funext bsOf_data, List.map_id]
      rw [e1] at this
      exact this
    · refine List.pairwise_map.2 (hs.imp fun {a b} h => ?_)
      rw [ByteArray.toList_eq, ByteArray.toList_eq, bsOf_list, bsOf_list]
      exact h
theorem rt_SC : SortC := sortC_of (fun blk off cap ss w => Try.slices_Sort_string blk off cap ss w) (fun w => Try.slices_Sort_string_none none 0 w)
theorem rd_strs {w : World} {v : Value} {ks : List ByteArray} (h : Rd w v 1 (strs ks)) : ∃ ao cap, v = .slice ao ks.length cap ∧ (ks ≠ [] → ∃ b o, ao = some ⟨b, o, none⟩ ∧ ∀ j, j < ks.length → w.cell? ⟨b, o + j, none⟩ = some (.string (ks.getD j ByteArray.empty))) := by
  obtain ⟨ao, n, cap, rfl, h1, h2, h3, h4, h5⟩ := h
  rw [strs_len, Nat.mul_one] at h1
  subst h1
  refine ⟨ao, cap, rfl, fun hne => ?_⟩
  cases ao with
  | none => exact absurd (List.eq_nil_of_length_eq_zero (h4 rfl).1) hne
  | some a =>
    obtain ⟨h6, h7⟩ := h5 a rfl (by intro e; apply hne; cases ks with
      | nil => rfl
      | cons a l => simp [strs] at e)
    obtain ⟨b, o, s⟩ := a
    simp only at h6; subst h6
    refine ⟨b, o, rfl, fun j hj => ?_⟩
    rw [h7 j (by rw [strs_len]; exact hj)]
    simp [strs, List.getD_eq_getElem?_getD, List.getElem?_eq_getElem hj]
/-- Two lists of strings compared. -/
theorem rt_equal (w : World) (v1 v2 : Value) (a b : List ByteArray) (h1 : Rd w v1 1 (strs a)) (h2 : Rd w v2 1 (strs b)) (ha : a.length ≤ 1048576) (hb : b.length ≤ 1048576) :
    Calls Try.prog 28 #[v1, v2] w fun r w' => r = .returned (.bool (decide (a = b))) ∧ Chg (fun _ => False) w w' := by
  obtain ⟨a1, c1, rfl, k1⟩ := rd_strs h1
  obtain ⟨a2, c2, rfl, k2⟩ := rd_strs h2
  by_cases hl : a.length = b.length
  · by_cases h0 : a.length = 0
    · have ea : a = [] := List.eq_nil_of_length_eq_zero h0
      have eb : b = [] := List.eq_nil_of_length_eq_zero (by omega)
      subst ea eb
      refine (Try.slices_Equal_string_empty a1 a2 c1 0 c2 w (by omega)).mono ?_
      rintro r w' ⟨rfl, rfl⟩
      exact ⟨rfl, Chg.refl _ _⟩
    · obtain ⟨b1, o1, rfl, g1⟩ := k1 (by rintro rfl; exact h0 rfl)
      obtain ⟨b2, o2, rfl, g2⟩ := k2 (by rintro rfl; exact h0 hl)
      refine (Try.slices_Equal_string b1 o1 a.length c1 b2 o2 b.length c2 a b w (Nat.le_refl _) (Nat.le_refl _) (by omega) (by omega) g1 g2).mono ?_
      rintro r w' ⟨rfl, q, rfl⟩
      rw [List.take_length, List.take_length]
      exact ⟨rfl, (Chg.refl _ _).drewN q⟩
  · refine (Try.slices_Equal_string_lens a1 a2 a.length c1 b.length c2 w hl).mono ?_
    rintro r w' ⟨rfl, rfl⟩
    exact ⟨by rw [decide_eq_false (fun e => hl (by rw [e]))], Chg.refl _ _⟩
end Go.Proofs.Ytplkoephgmdgkaa
