/- Words on memory that all texts of this seat use: what has changed (Chg), a slice with all its capacity (Arr), a slice that is read (Rd), append. No condition. -/
import Derived.WalkKit
import Derived.WalkLawsBesides
import Derived.WalkSpells
import Derived.Deep.AppendSrc
import Derived.Laws.IdiomCopy
import Derived.Deep.Draws
import Derived.Laws.NewBlocks
import Derived.Laws.BytesArg
import Derived.Lib.Hide
namespace Go.Proofs.Ytplkoephgmdgkaa
open Go Go.RowKit

theorem ret_i {k : IntKind} {a b : Int} (h : a = b) : Ending.returned (.int k a) = .returned (.int k b) := by rw [h]
/-- From w to w' nothing has changed but in blocks of S and in new blocks. -/
structure Chg (S : Nat → Prop) (w w' : World) : Prop where
  os : w'.os = w.os
  tape : w'.tape = w.tape
  output : w'.output = w.output
  size : w.heap.size ≤ w'.heap.size
  block : ∀ k, k < w.heap.size → ¬ S k → w'.heap[k]? = w.heap[k]?

namespace Chg
theorem refl (S : Nat → Prop) (w : World) : Chg S w w := ⟨rfl, rfl, rfl, Nat.le_refl _, fun _ _ _ => rfl⟩
theorem trans {S T : Nat → Prop} {a b c : World} (h : Chg S a b) (k : Chg T b c) (hT : ∀ i, i < a.heap.size → T i → S i) : Chg S a c :=
  ⟨k.os.trans h.os, k.tape.trans h.tape, k.output.trans h.output, Nat.le_trans h.size k.size,
    fun i hi hs => (k.block i (Nat.lt_of_lt_of_le hi h.size) (fun ht => hs (hT i hi ht))).trans (h.block i hi hs)⟩
theorem mono {S T : Nat → Prop} {a b : World} (h : Chg S a b) (hT : ∀ i, i < a.heap.size → S i → T i) : Chg T a b :=
  ⟨h.os, h.tape, h.output, h.size, fun i hi ht => h.block i hi (fun hs => ht (hT i hi hs))⟩
theorem drew {S : Nat → Prop} {a w : World} (h : Chg S a w) : Chg S a w.drew := ⟨h.os, h.tape, h.output, h.size, h.block⟩
theorem drewN {S : Nat → Prop} {a w : World} (h : Chg S a w) (n : Nat) : Chg S a (w.drewN n) := ⟨h.os, h.tape, h.output, h.size, h.block⟩
theorem alloc {S : Nat → Prop} {a w : World} (h : Chg S a w) (o : Obj) : Chg S a (w.alloc o) :=
  ⟨h.os, h.tape, h.output, by have := h.size; simp; omega, fun i hi hs => by
    rw [Below.heap_alloc _ _ _ (Nat.lt_of_lt_of_le hi h.size)]; exact h.block i hi hs⟩
theorem set {S : Nat → Prop} {a w : World} (h : Chg S a w) {p : Addr} (hp : p.block < a.heap.size → S p.block) (u : Value) : Chg S a (w.setCell p u) :=
  ⟨h.os, h.tape, h.output, by have := h.size; simp [World.setCell]; omega, fun i hi hs => by
    rw [Below.heap_setCell _ _ _ _ (fun e => by subst e; exact hs (hp hi))]; exact h.block _ hi hs⟩
theorem ofBelow {B : Nat} {w w' : World} (h : Below B w w') : Chg (fun k => B ≤ k) w w' :=
  ⟨h.os, h.tape, h.output, h.size, fun k _ hs => h.block k (by omega)⟩
theorem below {S : Nat → Prop} {w w' : World} (h : Chg S w w') {B : Nat} (hB : B ≤ w.heap.size) (hS : ∀ k, k < B → ¬ S k) : Below B w w' :=
  ⟨h.os, h.tape, h.output, h.size, fun k hk => h.block k (by omega) (hS k hk)⟩
theorem ofGrown {w w' : World} {row : Option Nat} (h : w.grownBy w' row) : Chg (fun k => some k = row) w w' :=
  ⟨h.os, h.tape, h.output, h.size, fun k hk hs => h.block k hk hs⟩
theorem cell {S : Nat → Prop} {w w' : World} (h : Chg S w w') {p : Addr} {v : Value} (hp : w.cell? p = some v) (hs : ¬ S p.block) : w'.cell? p = some v :=
  (World.cell?_of_block (h.block _ (World.block_lt_of_cell? w p hp) hs)).trans hp
theorem obj {S : Nat → Prop} {w w' : World} (h : Chg S w w') {b : Nat} {o : Obj} (hb : w.heap[b]? = some o) (hs : ¬ S b) : w'.heap[b]? = some o :=
  (h.block b (lt_of_block hb) hs).trans hb
theorem lt {S : Nat → Prop} {w w' : World} (h : Chg S w w') {b : Nat} (hb : b < w.heap.size) : b < w'.heap.size := Nat.lt_of_lt_of_le hb h.size
end Chg

/-- A block of cells none of which is frozen. -/
theorem heap_alloc_at (w : World) (o : Obj) : (w.alloc o).heap[w.heap.size]? = some o := heap_alloc_new w o
theorem heap_alloc_lt (w : World) (o : Obj) {b : Nat} {x : Obj} (h : w.heap[b]? = some x) : (w.alloc o).heap[b]? = some x :=
  (Below.heap_alloc w o b (lt_of_block h)).trans h
theorem heap_setCell_at {w : World} {b i : Nat} {c : Array Value} {t : TypeId} {f : Nat × Nat} (h : w.heap[b]? = some (.cells c t f)) (u : Value) :
    (w.setCell ⟨b, i, none⟩ u).heap[b]? = some (.cells (c.setIfInBounds i u) t f) := by
  simp [World.setCell, Array.getElem?_modify, h]
theorem heap_setCell_ne {w : World} {b : Nat} {a : Addr} {x : Obj} (h : w.heap[b]? = some x) (hne : a.block ≠ b) (u : Value) :
    (w.setCell a u).heap[b]? = some x := (Below.heap_setCell w a u b (fun e => hne e.symm)).trans h
theorem cell_of_blk {w : World} {b : Nat} {c : Array Value} {t : TypeId} {f : Nat × Nat} (h : w.heap[b]? = some (.cells c t f)) (i : Nat) :
    w.cell? ⟨b, i, none⟩ = c[i]? := by simp [World.cell?, h]
theorem free_of_blk {w : World} {b : Nat} {c : Array Value} {t : TypeId} (h : w.heap[b]? = some (.cells c t (0, 0))) (i : Nat) :
    w.frozen? ⟨b, i, none⟩ = false := by simp [World.frozen?, h]

theorem cell_alloc_eq {w : World} {b i : Nat} {c : Array Value} {t : TypeId} {v : Value} (h : b = w.heap.size) (hv : c[i]? = some v) : (w.alloc (.cells c t)).cell? ⟨b, i, none⟩ = some v := by
  subst h; rw [World.cell?_alloc_new]; exact hv

/-- An array with values laid over it from a place on. -/
def spl (c : Array Value) : Nat → List Value → Array Value
  | _, [] => c
  | o, v :: r => spl (c.setIfInBounds o v) (o + 1) r
theorem spl_size : ∀ (vs : List Value) (c : Array Value) (o : Nat), (spl c o vs).size = c.size
  | [], _, _ => rfl
  | v :: r, c, o => by rw [spl, spl_size r]; simp
theorem spl_toList : ∀ (vs : List Value) (c : Array Value) (o : Nat), o + vs.length ≤ c.size → (spl c o vs).toList = c.toList.take o ++ vs ++ c.toList.drop (o + vs.length)
  | [], c, o, _ => by simp [spl]
  | v :: r, c, o, h => by
    simp only [List.length_cons] at h
    rw [spl, spl_toList r _ _ (by simpa using (by omega : o + 1 + r.length ≤ c.size))]
    have ho : o < c.toList.length := by simp; omega
    rw [Array.toList_setIfInBounds]
    have e1 : (c.toList.set o v).take (o + 1) = c.toList.take o ++ [v] := by
      rw [List.take_set, List.take_succ_eq_append_getElem ho, List.set_append_right _ _ (by rw [List.length_take]; omega)]
      rw [List.length_take, Nat.min_eq_left (Nat.le_of_lt ho), Nat.sub_self]; rfl
    rw [e1, List.drop_set_of_lt (by omega), List.length_cons, show o + 1 + r.length = o + (r.length + 1) from by omega]
    simp
theorem heap_setCells_at (b : Nat) (t : TypeId) (f : Nat × Nat) : ∀ (vs : List Value) (o : Nat) (w : World) (c : Array Value), w.heap[b]? = some (.cells c t f) →
    (w.setCells b o vs).heap[b]? = some (.cells (spl c o vs) t f)
  | [], _, _, _, h => h
  | v :: r, o, w, c, h => by rw [World.setCells, spl]; exact heap_setCells_at b t f r (o + 1) _ _ (heap_setCell_at h v)
theorem Chg.sets {S : Nat → Prop} {a : World} (b : Nat) (hb : b < a.heap.size → S b) : ∀ (vs : List Value) (o : Nat) (w : World), Chg S a w → Chg S a (w.setCells b o vs)
  | [], _, _, h => h
  | v :: r, o, w, h => by rw [World.setCells]; exact Chg.sets b hb r (o + 1) _ (h.set hb v)

/-- v is a slice whose elements' cells are xs, and all its capacity is there and may be written. -/
def Arr (w : World) (e : TypeId) (sz : Nat) (v : Value) (xs : List Value) : Prop :=
  (v = .slice none 0 0 ∧ xs = []) ∨
  ∃ b o n cap cur f, v = .slice (some ⟨b, o, none⟩) n cap ∧ n ≤ cap ∧ cap ≤ maxLen ∧ w.heap[b]? = some (.cells cur e f) ∧ o + cap * sz ≤ cur.size ∧
    (∀ i, o ≤ i → i < o + cap * sz → ¬ (f.1 ≤ i ∧ i < f.2)) ∧ xs.length = n * sz ∧ (cur.toList.drop o).take (n * sz) = xs

theorem Arr.nil (w : World) (e : TypeId) (sz : Nat) : Arr w e sz (.slice none 0 0) [] := .inl ⟨rfl, rfl⟩
theorem Arr.of {w w' : World} {e : TypeId} {sz : Nat} {v : Value} {xs : List Value} (h : Arr w e sz v xs) (hb : ∀ b, v.ownBlock = some b → w'.heap[b]? = w.heap[b]?) : Arr w' e sz v xs := by
  rcases h with h | ⟨b, o, n, cap, cur, f, rfl, r1, r2, r3, r⟩
  · exact .inl h
  · exact .inr ⟨b, o, n, cap, cur, f, rfl, r1, r2, (hb b rfl).trans r3, r⟩
theorem Arr.kept {S : Nat → Prop} {w w' : World} {e : TypeId} {sz : Nat} {v : Value} {xs : List Value} (h : Arr w e sz v xs) (hc : Chg S w w') (hs : ∀ b, v.ownBlock = some b → ¬ S b) : Arr w' e sz v xs := by
  rcases h with h | ⟨b, o, n, cap, cur, f, rfl, r1, r2, r3, r⟩
  · exact .inl h
  · exact .inr ⟨b, o, n, cap, cur, f, rfl, r1, r2, hc.obj r3 (hs b rfl), r⟩
theorem Arr.lt {w : World} {e : TypeId} {sz : Nat} {v : Value} {xs : List Value} (h : Arr w e sz v xs) : ∀ b, v.ownBlock = some b → b < w.heap.size := by
  rintro b hb
  rcases h with ⟨rfl, rfl⟩ | ⟨b', o, n, cap, cur, f, rfl, r1, r2, r3, r⟩
  · simp [Value.ownBlock] at hb
  · simp [Value.ownBlock] at hb; subst hb; exact lt_of_block r3
/-- The slice cut to nothing: its block stays its own. -/
theorem Arr.empty {w : World} {e : TypeId} {sz : Nat} {ao : Option Addr} {n cap : Nat} {xs : List Value} (h : Arr w e sz (.slice ao n cap) xs) : Arr w e sz (.slice ao 0 cap) [] := by
  rcases h with ⟨h1, _⟩ | ⟨b, o, n', cap', cur, f, h1, r1, r2, r3, r4, r5, r6, r7⟩
  · injection h1 with h1 h2 h3; subst h1 h2 h3; exact .inl ⟨rfl, rfl⟩
  · injection h1 with h1 h2 h3; subst h1 h2 h3
    exact .inr ⟨b, o, 0, _, cur, f, rfl, Nat.zero_le _, r2, r3, r4, r5, by simp, by simp⟩
theorem Arr.shape {w : World} {e : TypeId} {sz : Nat} {v : Value} {xs : List Value} (h : Arr w e sz v xs) : ∃ ao n cap, v = .slice ao n cap ∧ xs.length = n * sz ∧ n ≤ maxLen ∧ n ≤ cap ∧ (ao = none → n = 0 ∧ cap = 0) := by
  rcases h with ⟨rfl, rfl⟩ | ⟨b, o, n, cap, cur, f, rfl, r1, r2, r3, r4, r5, r6, r7⟩
  · exact ⟨none, 0, 0, rfl, by simp, by simp [maxLen], by simp, fun _ => ⟨rfl, rfl⟩⟩
  · exact ⟨_, n, cap, rfl, r6, Nat.le_trans r1 r2, r1, fun h => by simp at h⟩
theorem Addr.add_none (b o j : Nat) : (⟨b, o, none⟩ : Addr).add j = ⟨b, o + j, none⟩ := by unfold Addr.add; split <;> simp_all
theorem Arr.cellAt {w : World} {e : TypeId} {sz : Nat} {b o n cap : Nat} {xs : List Value} (h : Arr w e sz (.slice (some ⟨b, o, none⟩) n cap) xs) (i : Nat) (hi : i < xs.length) : w.cell? ⟨b, o + i, none⟩ = some xs[i] := by
  rcases h with ⟨h1, _⟩ | ⟨b', o', n', cap', cur, f, h1, r1, r2, r3, r4, r5, r6, r7⟩
  · injection h1 with h1; cases h1
  · injection h1 with h1 h2 h3; injection h1 with h1; injection h1 with h1 h1'; subst h1 h1' h2 h3
    rw [cell_of_blk r3]
    have : xs[i]? = some xs[i] := List.getElem?_eq_getElem hi
    have h2 : ((cur.toList.drop o).take (n * sz))[i]? = some xs[i] := by simp only [r7]; exact this
    rw [List.getElem?_take_of_lt (by omega), List.getElem?_drop] at h2
    simpa using h2
theorem Arr.cells {w : World} {e : TypeId} {sz : Nat} {b o n cap : Nat} {xs : List Value} (h : Arr w e sz (.slice (some ⟨b, o, none⟩) n cap) xs) : ∀ j u, xs[j]? = some u → w.cell? ((⟨b, o, none⟩ : Addr).add j) = some u := by
  intro j u hu
  obtain ⟨hj, rfl⟩ := List.getElem?_eq_some_iff.1 hu
  rw [Addr.add_none]; exact h.cellAt j hj
theorem Arr.freeAt {w : World} {e : TypeId} {sz : Nat} {b o n cap : Nat} {xs : List Value} (h : Arr w e sz (.slice (some ⟨b, o, none⟩) n cap) xs) (i : Nat) (hi : i < cap * sz) : w.frozen? ⟨b, o + i, none⟩ = false ∧ (w.cell? ⟨b, o + i, none⟩).isSome = true := by
  rcases h with ⟨h1, _⟩ | ⟨b', o', n', cap', cur, f, h1, r1, r2, r3, r4, r5, r6, r7⟩
  · injection h1 with h1; cases h1
  · injection h1 with h1 h2 h3; injection h1 with h1; injection h1 with h1 h1'; subst h1 h1' h2 h3
    refine ⟨?_, ?_⟩
    · have h5 := r5 (o + i) (by omega) (by omega)
      simp only [World.frozen?, r3]
      simp only [Bool.and_eq_false_iff, decide_eq_false_iff_not]
      omega
    · rw [cell_of_blk r3]; simp; omega

/-- What is known of a slice behind an append. -/
theorem arr_append {P : Program} {w : World} {e : TypeId} {sz : Nat} {v : Value} {xs : List Value} (h : Arr w e sz v xs) (t tx ty : TypeId) (i : TypeInfo) (z : Value) (by_ : Nat)
    (ht : P.underlying t = some (.slice e)) (hi : P.info? e = some i) (hz : i.zero = some z) (hs : i.size = sz) (hb : i.bytes = by_) (hzs : z.cells.size = sz) (hsz : 0 < sz)
    (x : Value) (m : Nat) (news : List Value) (hsrc : Src P sz tx x m news w) (b1 : xs.length / sz + m ≤ maxLen) (b2 : (xs.length / sz + m) * by_ ≤ 140737488355328) :
    ∃ v' w', (Builtin.append_ #[t, tx] ty #[v, x]).run P w = .ok v' w' ∧ Arr w' e sz v' (xs ++ news) ∧ Chg (fun k => some k = v.ownBlock) w w' ∧
      (v'.ownBlock = v.ownBlock ∨ v'.ownBlock = some w.heap.size) ∧ (m = 0 → v = .slice none 0 0 → v' = .slice none 0 0) := by
  subst hs hb
  have key : ∀ (ao : Option Addr) (n cap : Nat) (hold : (Builtin.firstCells i.size n (.slice ao n cap)).run P w.drew = .ok xs.toArray w.drew) (_ : xs.length = n * i.size) (_ : cap < n + m), v = .slice ao n cap →
      ∃ v' w', (Builtin.append_ #[t, tx] ty #[v, x]).run P w = .ok v' w' ∧ Arr w' e i.size v' (xs ++ news) ∧ Chg (fun k => some k = v.ownBlock) w w' ∧
      (v'.ownBlock = v.ownBlock ∨ v'.ownBlock = some w.heap.size) ∧ (m = 0 → v = .slice none 0 0 → v' = .slice none 0 0) := by
    rintro ao n cap hold hl hlt rfl
    have hn : xs.length / i.size = n := by rw [hl]; exact Nat.mul_div_cancel _ hsz
    rw [hn] at b1 b2
    have hr := run_append_grow_src (P := P) w t tx ty e i z ht hi hz ao n cap xs hold x m news hsrc hlt (by unfold maxLen at b1; omega) (growslice_fits (by omega) b2)
    refine ⟨_, _, hr, .inr ⟨_, 0, _, _, _, (0, 0), rfl, grownCap_ge _ _ _ _, grownCap_le_maxLen _ _ _ _ b1, heap_alloc_at _ _, ?_, fun i _ _ h => by simp at h, ?_, ?_⟩, ((Chg.refl _ w).drew).alloc _, .inr rfl, fun h0 hv => ?_⟩
    · have := grownCap_ge w (n + m) cap e
      simp only [Array.size_append, size_zeroCells, List.size_toArray, List.length_append, hl, hsrc.newsLen, hzs, Nat.sub_mul, Nat.zero_add, Nat.add_mul]
      have h2 : n * i.size + m * i.size ≤ grownCap w (n + m) cap e * i.size := by rw [← Nat.add_mul]; exact Nat.mul_le_mul_right _ this
      omega
    · simp [hl, hsrc.newsLen, Nat.add_mul]
    · simp only [Array.toList_append, List.drop_zero]
      rw [List.take_append_of_le_length (by simp [hl, hsrc.newsLen, Nat.add_mul]), List.take_of_length_le (by simp [hl, hsrc.newsLen, Nat.add_mul])]
    · injection hv with h1 h2 h3; subst h1 h2 h3 h0; omega
  rcases h with ⟨rfl, rfl⟩ | ⟨b, o, n, cap, cur, f, rfl, r1, r2, r3, r4, r5, r6, r7⟩
  · by_cases hm : m = 0
    · subst hm
      have hnews : news = [] := List.eq_nil_of_length_eq_zero (by simpa using hsrc.newsLen)
      subst hnews
      refine ⟨.slice none 0 0, w, ?_, .inl ⟨rfl, rfl⟩, Chg.refl _ _, .inl rfl, fun _ _ => rfl⟩
      rcases hsrc.kind with ⟨e', hk⟩ | hk <;> simp [Builtin.append_, run_underlying ht, run_underlying hk, sizeOf, typeInfo, hi, hsrc.len, hsrc.cells]
    · exact key none 0 0 (run_firstCells_none w.drew i.size 0 0 0) (by simp) (by omega) rfl
  · by_cases hroom : n + m ≤ cap
    · have hcap : (n + m) * i.size ≤ cap * i.size := Nat.mul_le_mul_right _ hroom
      rw [Nat.add_mul] at hcap
      have harr : Arr w e i.size (.slice (some ⟨b, o, none⟩) n cap) xs := .inr ⟨b, o, n, cap, cur, f, rfl, r1, r2, r3, r4, r5, r6, r7⟩
      have hr := run_append_room_src (P := P) w t tx ty e i ht hi b o n cap x m news hsrc hroom
        (fun j hj => by have := (harr.freeAt (n * i.size + j) (by have := hsrc.newsLen; omega)).2; rwa [← Nat.add_assoc] at this)
        (fun j hj => by have := (harr.freeAt (n * i.size + j) (by have := hsrc.newsLen; omega)).1; rwa [← Nat.add_assoc] at this)
      have hlen := hsrc.newsLen
      refine ⟨_, _, hr, .inr ⟨b, o, n + m, cap, _, f, rfl, hroom, r2, heap_setCells_at b e f news _ w cur r3, by rw [spl_size]; exact r4, r5, by simp [r6, hlen, Nat.add_mul], ?_⟩, Chg.sets (S := fun k => some k = (Value.slice (some ⟨b, o, none⟩) n cap).ownBlock) b (fun _ => rfl) _ _ _ (Chg.refl _ w), .inl rfl, fun _ h => by injection h with h; cases h⟩
      rw [spl_toList _ _ _ (by omega), List.append_assoc, List.drop_append]
      have e1 : (List.take (o + n * i.size) cur.toList).length = o + n * i.size := by rw [List.length_take]; simp; omega
      rw [e1, show o - (o + n * i.size) = 0 from by omega, List.drop_zero, Nat.add_mul]
      have e2 : List.drop o (List.take (o + n * i.size) cur.toList) = xs := by rw [← r7, List.drop_take]; congr 1; omega
      rw [e2, ← r6, ← hlen, ← List.length_append, ← List.append_assoc, List.take_left]
    · have harr : Arr w e i.size (.slice (some ⟨b, o, none⟩) n cap) xs := .inr ⟨b, o, n, cap, cur, f, rfl, r1, r2, r3, r4, r5, r6, r7⟩
      exact key _ n cap (run_firstCells_some (P := P) w.drew i.size n _ n cap xs r6 (by simpa using harr.cells)) r6 (by omega) rfl

/-- append, as the walk takes it. -/
theorem wpList_append_arr {P : Program} (w : World) {ops : Array Oper} {rest : List Oper} {o : Oper} {a : Act} {Q : Exit → Act → World → Prop}
    (hg : o.guard = none) (s x : Operand) (t tx : TypeId) (hop : o.op = Op.call { callee := Callee.builtin Builtin.append, args := #[s, x], argTypes := #[t, tx] })
    (e : TypeId) (i : TypeInfo) (z : Value) (sz by_ : Nat) (ht : P.underlying t = some (.slice e)) (hi : P.info? e = some i) (hz : i.zero = some z) (hs : i.size = sz) (hb : i.bytes = by_) (hzs : z.cells.size = sz) (hsz : 0 < sz)
    (v : Value) (xs : List Value) (hv : a.eval s = v) (h : Arr w e sz v xs) (y : Value) (hy : a.eval x = y) (m : Nat) (news : List Value) (hsrc : Src P sz tx y m news w)
    (b1 : xs.length / sz + m ≤ maxLen) (b2 : (xs.length / sz + m) * by_ ≤ 140737488355328)
    (hK : ∀ v' w', Arr w' e sz v' (xs ++ news) → Chg (fun k => some k = v.ownBlock) w w' → (v'.ownBlock = v.ownBlock ∨ v'.ownBlock = some w.heap.size) → (m = 0 → v = .slice none 0 0 → v' = .slice none 0 0) →
      wpList P ops Q rest (a.put o.dst v') w') :
    wpList P ops Q (o :: rest) a w := by
  refine wpList_plain hg fun K hK' => ?_
  obtain ⟨v', w', hrun, r1, r2, r3, r4⟩ := arr_append (P := P) h t tx o.type i z by_ ht hi hz hs hb hzs hsz y m news hsrc b1 b2
  unfold Oper.wp
  simp [execOp, hop, resolve, invoke, builtin, hv, hy, hrun, Result.andThen]
  exact hK' _ _ (hK v' w' r1 r2 r3 r4)

/-- Bytes as cells. -/
def bvs (l : List UInt8) : List Value := l.map fun b => .int .u8 b.toNat
theorem bvs_length (l : List UInt8) : (bvs l).length = l.length := by simp [bvs]
theorem bvs_append (a b : List UInt8) : bvs (a ++ b) = bvs a ++ bvs b := by simp [bvs]
theorem bvs_get (l : List UInt8) (i : Nat) (h : i < (bvs l).length) : (bvs l)[i] = .int .u8 (l[i]'(by simpa [bvs] using h)).toNat := by simp [bvs]

/-- v is a slice that reads as these cells (it may be cut out of anything). -/
def Rd (w : World) (v : Value) (sz : Nat) (xs : List Value) : Prop :=
  ∃ ao n cap, v = .slice ao n cap ∧ xs.length = n * sz ∧ n ≤ cap ∧ cap ≤ maxLen ∧ (ao = none → n = 0 ∧ cap = 0) ∧ ∀ a, ao = some a → xs ≠ [] → a.spot = none ∧ ∀ i (h : i < xs.length), w.cell? ⟨a.block, a.off + i, none⟩ = some xs[i]
theorem Arr.rd {w : World} {e : TypeId} {sz : Nat} {v : Value} {xs : List Value} (h : Arr w e sz v xs) : Rd w v sz xs := by
  rcases h with ⟨rfl, rfl⟩ | ⟨b, o, n, cap, cur, f, rfl, r1, r2, r3, r4, r5, r6, r7⟩
  · exact ⟨none, 0, 0, rfl, by simp, by simp, by simp [maxLen], fun _ => ⟨rfl, rfl⟩, fun a h => by cases h⟩
  · refine ⟨_, n, cap, rfl, r6, r1, r2, (fun h => by simp at h), ?_⟩
    intro a h _; injection h with h; subst h
    exact ⟨rfl, fun i hi => Arr.cellAt (e := e) (sz := sz) (n := n) (cap := cap) (.inr ⟨b, o, n, cap, cur, f, rfl, r1, r2, r3, r4, r5, r6, r7⟩) i hi⟩
theorem Rd.kept {S : Nat → Prop} {w w' : World} {v : Value} {sz : Nat} {xs : List Value} (h : Rd w v sz xs) (hc : Chg S w w') (hs : xs ≠ [] → ∀ b, v.ownBlock = some b → ¬ S b) : Rd w' v sz xs := by
  obtain ⟨ao, n, cap, rfl, h1, h2', h2'', h3, h4⟩ := h
  refine ⟨ao, n, cap, rfl, h1, h2', h2'', h3, fun a ha hx => ⟨(h4 a ha hx).1, fun i hi => hc.cell ((h4 a ha hx).2 i hi) (hs hx _ (by subst ha; rfl))⟩⟩
theorem Rd.lt {w : World} {v : Value} {sz : Nat} {xs : List Value} (h : Rd w v sz xs) (hx : xs ≠ []) : ∀ b, v.ownBlock = some b → b < w.heap.size := by
  obtain ⟨ao, n, cap, rfl, h1, h2', h2'', h3, h4⟩ := h
  intro b hb
  cases ao with
  | none => simp [Value.ownBlock] at hb
  | some a =>
    simp only [Value.ownBlock, Option.some.injEq] at hb; subst hb
    exact World.block_lt_of_cell? w ⟨a.block, a.off + 0, none⟩ ((h4 a rfl hx).2 0 (List.length_pos_iff.2 hx))
theorem Rd.shape {w : World} {v : Value} {sz : Nat} {xs : List Value} (h : Rd w v sz xs) : ∃ ao n cap, v = .slice ao n cap ∧ xs.length = n * sz ∧ n ≤ maxLen ∧ n ≤ cap ∧ cap ≤ maxLen ∧ (ao = none → n = 0 ∧ cap = 0) := by
  obtain ⟨ao, n, cap, rfl, h1, h2', h2'', h3, h4⟩ := h
  exact ⟨ao, n, cap, rfl, h1, Nat.le_trans h2' h2'', h2', h2'', h3⟩
/-- Where it lies. -/
theorem Rd.at {w : World} {ao : Option Addr} {n cap sz : Nat} {xs : List Value} (h : Rd w (.slice ao n cap) sz xs) (hx : xs ≠ []) : ∃ bl o, ao = some ⟨bl, o, none⟩ ∧ ∀ i (h : i < xs.length), w.cell? ⟨bl, o + i, none⟩ = some xs[i] := by
  obtain ⟨ao', n', cap', e1, r1, _, _, r3, r4⟩ := h
  injection e1 with e1 e2 e3
  subst e1 e2 e3
  cases ao with
  | none => exact absurd (List.eq_nil_of_length_eq_zero (by rw [r1, (r3 rfl).1, Nat.zero_mul])) hx
  | some a =>
    obtain ⟨hsp, hc⟩ := r4 a rfl hx
    obtain ⟨bl, o, sp⟩ := a
    simp only at hsp; subst hsp
    exact ⟨bl, o, rfl, hc⟩
theorem Rd.num {w : World} {ao : Option Addr} {n cap sz : Nat} {xs : List Value} (h : Rd w (.slice ao n cap) sz xs) : xs.length = n * sz := by
  obtain ⟨ao', n', cap', e1, r1, _⟩ := h
  injection e1 with e1 e2 e3
  subst e2; exact r1
theorem Rd.src {P : Program} {w : World} {ao : Option Addr} {n cap : Nat} {sz : Nat} {xs : List Value} (h : Rd w (.slice ao n cap) sz xs) (h1 : ∀ u ∈ xs, u.oneCell' = true) {tx e' : TypeId} (hk : P.underlying tx = some (.slice e')) : Src P sz tx (.slice ao n cap) n xs w := by
  have hn := h.num
  by_cases hx : xs = []
  · subst hx
    cases ao with
    | none =>
      obtain ⟨ao', n', cap', e1, r1, _, _, r3, r4⟩ := h
      injection e1 with e1 e2 e3
      subst e1 e2 e3
      obtain ⟨rfl, rfl⟩ := r3 rfl
      exact Src.ofNil w hk 0
    | some a => exact Src.ofSlice w hk a n cap [] hn (fun j u hu => by simp at hu) h1
  · obtain ⟨bl, o, rfl, hc⟩ := h.at hx
    refine Src.ofSlice w hk _ n cap xs hn (fun j u hu => ?_) h1
    obtain ⟨hj, rfl⟩ := List.getElem?_eq_some_iff.1 hu
    rw [Addr.add_none]; exact hc j hj
theorem Rd.fresh (w : World) (C : Array Value) (e : TypeId) (f : Nat × Nat) (n c : Nat) (l : List UInt8) (hC : C.toList = bvs l) (hn : n = l.length) (hc : n ≤ c) (hm : c ≤ maxLen) : Rd (w.alloc (.cells C e f)) (.slice (some ⟨w.heap.size, 0, none⟩) n c) 1 (bvs l) := by
  refine ⟨_, n, c, rfl, by rw [bvs_length, hn, Nat.mul_one], hc, hm, fun h => by simp at h, ?_⟩
  intro a ha _; injection ha with ha; subst ha
  refine ⟨rfl, fun i hi => ?_⟩
  rw [cell_of_blk (heap_alloc_at _ _), ← Array.getElem?_toList, hC]
  simp only [Nat.zero_add]
  exact List.getElem?_eq_getElem hi
theorem Rd.fresh' (w : World) (b : Nat) (hb : b = w.heap.size) (C : Array Value) (e : TypeId) (f : Nat × Nat) (n c : Nat) (l : List UInt8) (hC : C.toList = bvs l) (hn : n = l.length) (hc : n ≤ c) (hm : c ≤ maxLen) : Rd (w.alloc (.cells C e f)) (.slice (some ⟨b, 0, none⟩) n c) 1 (bvs l) := by
  subst hb; exact Rd.fresh w C e f n c l hC hn hc hm
theorem Rd.len {w : World} {ao : Option Addr} {n cap : Nat} {l : List UInt8} (h : Rd w (.slice ao n cap) 1 (bvs l)) : n = l.length := by
  have := h.num
  rw [bvs_length, Nat.mul_one] at this; exact this.symm
/-- A cut of it, from lo to hi: what the operation answers, and how it reads. -/
theorem Rd.cut {w : World} {ao : Option Addr} {n cap sz : Nat} {xs : List Value} (h : Rd w (.slice ao n cap) sz xs) (lo hi' : Nat) (h1 : lo ≤ hi') (h2 : hi' ≤ n) :
    Rd w (.slice (if cap = lo then ao else ao.map (·.add (lo * sz))) (hi' - lo) (cap - lo)) sz ((xs.take (hi' * sz)).drop (lo * sz)) := by
  have hn := h.num
  obtain ⟨ao', n', cap', e1, r1, r2, r3, r4, r5⟩ := h
  injection e1 with e1 e2 e3
  subst e1 e2 e3
  have hle : hi' * sz ≤ n * sz := Nat.mul_le_mul_right _ h2
  have hlo : lo * sz ≤ hi' * sz := Nat.mul_le_mul_right _ h1
  refine ⟨_, _, _, rfl, ?_, by omega, by omega, ?_, ?_⟩
  · rw [List.length_drop, List.length_take, Nat.sub_mul]; omega
  · intro hnone
    split at hnone
    · have := r4 hnone; omega
    · cases ao with
      | none => have := r4 rfl; omega
      | some a => simp at hnone
  · intro a ha hx
    have hlt : lo * sz < hi' * sz := by
      rcases Nat.lt_or_ge (lo * sz) (hi' * sz) with h | h
      · exact h
      · exact absurd (List.drop_eq_nil_of_le (by rw [List.length_take]; omega)) hx
    have hlt' : lo < hi' := Nat.lt_of_mul_lt_mul_right hlt
    rw [if_neg (by omega)] at ha
    cases ao with
    | none => simp at ha
    | some a0 =>
      simp only [Option.map_some, Option.some.injEq] at ha
      obtain ⟨hsp, hc⟩ := r5 a0 rfl (by rintro rfl; simp at hx)
      obtain ⟨b, o, s⟩ := a0
      simp only at hsp; subst hsp
      rw [Addr.add_none] at ha; subst ha
      refine ⟨rfl, fun i hi2 => ?_⟩
      rw [List.length_drop, List.length_take] at hi2
      have := hc (lo * sz + i) (by omega)
      simp only at this ⊢
      rw [Nat.add_assoc, this, List.getElem_drop, List.getElem_take]
/-- b[k:], as the operation runs. -/
theorem Rd.tail {P : Program} {w : World} {ao : Option Addr} {n cap : Nat} {l : List UInt8} (h : Rd w (.slice ao n cap) 1 (bvs l)) {T e : TypeId} (hT : P.underlying T = some (.slice e)) (hE : P.elem T = e) {i : TypeInfo} (hi : P.info? e = some i) (hs : i.size = 1) (k : Nat) (hk : k ≤ l.length) :
    ∃ ao' n' cap', (∀ w', (Instr.slice T (.slice ao n cap) (some (.int .i64 k)) none none).run P w' = .ok (.slice ao' n' cap') w') ∧ Rd w (.slice ao' n' cap') 1 (bvs (l.drop k)) := by
  have hn := h.len
  have hc := h.cut k n (by omega) (Nat.le_refl _)
  refine ⟨if cap = k then ao else ao.map (·.add (k * 1)), n - k, cap - k, fun w' => ?_, ?_⟩
  rotate_left
  · have e1 : ((bvs l).take (n * 1)).drop (k * 1) = bvs (l.drop k) := by
      rw [Nat.mul_one, Nat.mul_one, List.take_of_length_le (by rw [bvs_length]; omega)]; simp [bvs]
    rw [e1] at hc; exact hc
  · subst hE
    rw [run_slice_l w' T ao n cap hT .i64 k (by omega) (by omega)]
    simp [sizeOf, typeInfo, hi, hs, Result.andThen, sliced]
/-- b[lo:hi]. -/
theorem Rd.mid {P : Program} {w : World} {ao : Option Addr} {n cap : Nat} {l : List UInt8} (h : Rd w (.slice ao n cap) 1 (bvs l)) {T e : TypeId} (hT : P.underlying T = some (.slice e)) (hE : P.elem T = e) {i : TypeInfo} (hi : P.info? e = some i) (hs : i.size = 1) (lo k : Nat) (h1 : lo ≤ k) (hk : k ≤ l.length) :
    ∃ ao' n' cap', (∀ w', (Instr.slice T (.slice ao n cap) (some (.int .i64 lo)) (some (.int .i64 k)) none).run P w' = .ok (.slice ao' n' cap') w') ∧ Rd w (.slice ao' n' cap') 1 (bvs ((l.take k).drop lo)) := by
  have hn := h.len
  obtain ⟨_, _, _, e0, _, _, hcap, _⟩ := h.shape
  injection e0 with e0 e1 e2
  have hc := h.cut lo k h1 (by omega)
  refine ⟨if cap = lo then ao else ao.map (·.add (lo * 1)), k - lo, cap - lo, fun w' => ?_, ?_⟩
  rotate_left
  · have e1 : ((bvs l).take (k * 1)).drop (lo * 1) = bvs ((l.take k).drop lo) := by
      rw [Nat.mul_one, Nat.mul_one]; simp [bvs]
    rw [e1] at hc; exact hc
  · subst hE
    rw [run_slice_lh w' T ao n cap hT .i64 .i64 lo k (by omega) (by omega) (by omega)]
    simp [sizeOf, typeInfo, hi, hs, Result.andThen, sliced]
theorem bvs_ne {l : List UInt8} : bvs l ≠ [] ↔ l ≠ [] := by simp [bvs]
/-- A byte of it. -/
theorem Rd.byte {w : World} {ao : Option Addr} {n cap : Nat} {l : List UInt8} (h : Rd w (.slice ao n cap) 1 (bvs l)) (j : Nat) (hj : j < l.length) : ∃ bl o, ao = some ⟨bl, o, none⟩ ∧ w.cell? ⟨bl, o + j, none⟩ = some (.int .u8 l[j].toNat) := by
  obtain ⟨bl, o, rfl, hc⟩ := h.at (bvs_ne.2 (by rintro rfl; simp at hj))
  refine ⟨bl, o, rfl, ?_⟩
  have := hc j (by rw [bvs_length]; exact hj)
  rwa [bvs_get] at this
theorem bvs_one (l : List UInt8) : ∀ u ∈ bvs l, u.oneCell' = true := by
  intro u hu; obtain ⟨_, _, rfl⟩ := List.mem_map.1 hu; rfl

theorem nums_back (l : List UInt8) : strOfNums (l.map fun b => (b.toNat : Int)) = ⟨l.toArray⟩ := by
  unfold strOfNums; rw [List.map_map]
  congr 2
  conv => rhs; rw [← List.map_id l]
  apply List.map_congr_left
  intro b _; simp
/-- string(b). -/
theorem run_conv_txt {P : Program} {w : World} {v : Value} {l : List UInt8} (h : Rd w v 1 (bvs l)) (src dst e : TypeId) (hs : P.underlying src = some (.slice e)) (he : P.underlying e = some (.int .u8)) (hd : P.underlying dst = some .string) :
    (convert src dst v).run P w = .ok (.string ⟨l.toArray⟩) w := by
  obtain ⟨ao, n, cap, rfl, _⟩ := h.shape
  have hn := h.len
  by_cases hx : l = []
  · subst hx
    cases ao with
    | none => exact run_convert_bytes_nil w src e hs he n cap dst hd
    | some a =>
      simp only [List.length_nil] at hn; subst hn
      rw [run_convert_bytes_string w src dst e _ 0 cap hs he hd, run_bytesToString w a 0 cap [] (by
        have := run_loadCells_list (P := P) w a [] (fun j v hj => by simp at hj)
        simpa using this)]
      rfl
  · obtain ⟨bl, o, rfl, hc⟩ := h.at (bvs_ne.2 hx)
    have := run_convert_bytes_arg (P := P) w src e hs he bl o n cap (l.map fun b => (b.toNat : Int)) (by simpa using hn.symm) (fun i hi => by
      have hi' : i < (bvs l).length := by rw [bvs_length]; omega
      rw [hc i hi', bvs_get]
      simp [List.getD, List.getElem?_eq_getElem (show i < l.length by omega)]) dst hd
    rw [this, nums_back]

end Go.Proofs.Ytplkoephgmdgkaa
