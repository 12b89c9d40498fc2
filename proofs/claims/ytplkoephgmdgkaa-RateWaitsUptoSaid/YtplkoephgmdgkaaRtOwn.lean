/- Lists of strings in memory of one's own; the library's sort of them. No condition but what each states. -/
import Derived.Test.YtplkoephgmdgkaaRtW9
import Derived.Sort.Row
import Derived.Sort.Grow
import Derived.Sort.EncStr
namespace Go.Proofs.Ytplkoephgmdgkaa
open Go Go.RowKit Rt Go.Maps
set_option linter.unusedVariables false

def strs (ks : List ByteArray) : List Value := ks.map Value.string
theorem strs_len (ks : List ByteArray) : (strs ks).length = ks.length := by simp [strs]
theorem strs_app (a b : List ByteArray) : strs (a ++ b) = strs a ++ strs b := by simp [strs]
/-- Values of one cell each in memory made since W; nothing that was there at W has changed. -/
structure OwV (e : TypeId) (W w : World) (v : Value) (xs : List Value) : Prop where
  arr : Arr w e 1 v xs
  own : ∀ k, v.ownBlock = some k → W.heap.size ≤ k
  chg : Chg (fun _ => False) W w
theorem OwV.nil (e : TypeId) (w : World) : OwV e w w (.slice none 0 0) [] := ⟨Arr.nil _ _ _, fun k hk => by simp [Value.ownBlock] at hk, Chg.refl _ _⟩
theorem OwV.more {e : TypeId} {W w w1 : World} {v : Value} {l : List Value} (h : OwV e W w v l) (c : Chg (fun _ => False) w w1) : OwV e W w1 v l :=
  ⟨h.arr.kept c (fun _ _ h => h), h.own, h.chg.trans c (fun _ _ h => h)⟩
theorem OwV.from {e : TypeId} {W w w1 : World} {v : Value} {l : List Value} (h : OwV e w w1 v l) (c : Chg (fun _ => False) W w) : OwV e W w1 v l :=
  ⟨h.arr, fun k hk => by have := h.own k hk; have := c.size; omega, c.trans h.chg (fun _ _ h => h)⟩
theorem arr_shape {e : TypeId} {w : World} {v : Value} {l : List Value} (h : Arr w e 1 v l) : ∃ ao cap, v = .slice ao l.length cap := by
  obtain ⟨ao, n, cap, rfl, h1, _⟩ := h.shape
  rw [Nat.mul_one] at h1
  exact ⟨ao, cap, by rw [h1]⟩
theorem OwV.shape {e : TypeId} {W w : World} {v : Value} {l : List Value} (h : OwV e W w v l) : ∃ ao cap, v = .slice ao l.length cap := arr_shape h.arr
/-- One value of one cell laid for an append. -/
theorem src_one {t e : TypeId} (ht : Try.prog.underlying t = some (.slice e)) {w : World} {b : Nat} {x : Value} (hx : x.oneCell' = true) (h : w.cell? ⟨b, 0, none⟩ = some x) : Src Try.prog 1 t (.slice (some ⟨b, 0, none⟩) 1 1) 1 [x] w :=
  Src.ofSlice w ht _ 1 1 [x] (by simp) (fun j u hu => by
    have hj := (List.getElem?_eq_some_iff.1 hu).1
    have : j = 0 := by simp at hj; exact hj
    subst this
    simp at hu; subst hu
    rw [Addr.add_none]; exact h) (fun u hu => by simp at hu; subst hu; exact hx)
theorem Try.infoStr : (Try.prog.info? 9).map (fun i => (i.zero, i.size, i.bytes)) = some (some (.string ⟨#[]⟩), 1, 16) := by kernel_rfl
/-- What the library's sort leaves of strings of one's own. -/
def SortC : Prop := ∀ (w : World) (v : Value) (ks : List ByteArray), Arr w 9 1 v (strs ks) → ks.length ≤ 1048576 →
  Calls Try.prog 59 #[v] w fun r w' => r = .returned (.tuple #[]) ∧ ∃ ss : List ByteArray, ss.Perm ks ∧ ss.Pairwise (fun a b => a.toList ≤ b.toList) ∧ Arr w' 9 1 v (strs ss) ∧ Chg (fun k => some k = v.ownBlock) w w'
/-- Strictly rising. -/
def Rises (ks : List ByteArray) : Prop := ks.Pairwise (fun a b => a.toList < b.toList)
theorem rises_of {ks : List ByteArray} (h : ks.Pairwise (fun a b => a.toList ≤ b.toList)) (hn : ks.Nodup) : Rises ks := by
  refine (h.and hn).imp fun {a b} hab => ?_
  obtain ⟨h1, h2⟩ := hab
  rcases Decidable.em (a.toList < b.toList) with h3 | h3
  · exact h3
  · exact absurd (ba_inj (List.le_antisymm h1 (List.not_lt.1 h3))) h2
theorem rises_one : ∀ {a b : List ByteArray}, Rises a → Rises b → (∀ k, k ∈ a ↔ k ∈ b) → a = b
  | [], [], _, _, _ => rfl
  | [], y :: s, _, _, h => absurd ((h y).2 (List.mem_cons_self ..)) (List.not_mem_nil)
  | x :: r, [], _, _, h => absurd ((h x).1 (List.mem_cons_self ..)) (List.not_mem_nil)
  | x :: r, y :: s, ha, hb, h => by
    have ha' := List.pairwise_cons.1 ha
    have hb' := List.pairwise_cons.1 hb
    have hxy : x = y := by
      rcases List.mem_cons.1 ((h x).1 (List.mem_cons_self ..)) with e | e
      · exact e
      · rcases List.mem_cons.1 ((h y).2 (List.mem_cons_self ..)) with e' | e'
        · exact e'.symm
        · exact absurd (List.lt_trans (ha'.1 y e') (hb'.1 x e)) (List.lt_irrefl _)
    subst hxy
    have hr : r = s := rises_one ha'.2 hb'.2 fun k => by
      constructor
      · intro hk
        rcases List.mem_cons.1 ((h k).1 (List.mem_cons_of_mem _ hk)) with e | e
        · subst e; exact absurd (ha'.1 k hk) (List.lt_irrefl _)
        · exact e
      · intro hk
        rcases List.mem_cons.1 ((h k).2 (List.mem_cons_of_mem _ hk)) with e | e
        · subst e; exact absurd (hb'.1 k hk) (List.lt_irrefl _)
        · exact e
    rw [hr]
/-- What Keys tells. -/
def KeysSays (t : Tb) (w : World) (r : Ending) (w' : World) : Prop := ∃ ks v, r = .returned v ∧ OwV 9 w w' v (strs ks) ∧ Rises ks ∧ (∀ k, k ∈ ks ↔ ∃ e ∈ t.L, e.key = k) ∧ ks.length ≤ 1024
def KyRel (w0 : World) (m : Nat) (t : Tb) (bk : ByteArray → Option Nat) (g : Nat) (ov : Value) (wr : World) : Prop :=
  ∃ left cnt ks, cnt ≤ g ∧ KR wr m w0.heap.size bk t.L.length left cnt ∧ Arr wr 9 1 ov (strs ks) ∧ (∀ k, ov.ownBlock = some k → w0.heap.size + 1 ≤ k) ∧ ks.Nodup ∧ (∀ k, k ∈ ks ↔ ((bk k).isSome = true ∧ left k = false)) ∧ ks.length + cnt ≤ t.L.length ∧ Chg (fun _ => False) w0 wr ∧ w0.heap.size + 1 ≤ wr.heap.size
end Go.Proofs.Ytplkoephgmdgkaa
