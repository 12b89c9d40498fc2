/- Footprints: sets of blocks that an object of one's own takes up; append in place; a row cut. No condition but what each states. -/
import Derived.Test.YtplkoephgmdgkaaMem
namespace Go.Proofs.Ytplkoephgmdgkaa
open Go Go.RowKit

def Dis (F G : Nat → Prop) : Prop := ∀ k, F k → ¬ G k
/-- What an object takes up behind a call: what it took up, and new blocks. -/
def Grow (w : World) (F F' : Nat → Prop) : Prop := ∀ k, F' k → F k ∨ w.heap.size ≤ k
def Ins (w : World) (F : Nat → Prop) : Prop := ∀ k, F k → k < w.heap.size
theorem Dis.symm {F G : Nat → Prop} (h : Dis F G) : Dis G F := fun k a b => h k b a
theorem Dis.grow {w : World} {F F' G : Nat → Prop} (h : Dis F G) (g : Grow w F F') (i : Ins w G) : Dis F' G := fun k a b => by
  rcases g k a with e | e
  · exact h k e b
  · have := i k b; omega
theorem Dis.or {F G H : Nat → Prop} (h : Dis F H) (g : Dis G H) : Dis (fun k => F k ∨ G k) H := fun k a b => a.elim (fun a => h k a b) (fun a => g k a b)
theorem Dis.orR {F G H : Nat → Prop} (h : Dis F G) (g : Dis F H) : Dis F (fun k => G k ∨ H k) := fun k a b => b.elim (fun b => h k a b) (fun b => g k a b)
theorem Dis.left {F G H : Nat → Prop} (h : Dis (fun k => F k ∨ G k) H) : Dis F H := fun k a b => h k (.inl a) b
theorem Dis.right {F G H : Nat → Prop} (h : Dis (fun k => F k ∨ G k) H) : Dis G H := fun k a b => h k (.inr a) b
theorem Grow.refl (w : World) (F : Nat → Prop) : Grow w F F := fun _ h => .inl h
theorem Grow.trans {w w' : World} {F G H : Nat → Prop} (h : Grow w F G) (g : Grow w' G H) (hs : w.heap.size ≤ w'.heap.size) : Grow w F H := fun k a => by
  rcases g k a with e | e
  · exact h k e
  · right; omega
theorem Ins.of {S : Nat → Prop} {w w' : World} {F : Nat → Prop} (h : Ins w F) (c : Chg S w w') : Ins w' F := fun k a => c.lt (h k a)
theorem Dis.new {w : World} {F : Nat → Prop} (i : Ins w F) {b : Nat} (hb : w.heap.size ≤ b) : Dis F (· = b) := fun k a e => by have := i k a; omega

/-- append where there is room: in place. -/
theorem wpList_append_in {P : Program} (w : World) {ops : Array Oper} {rest : List Oper} {o : Oper} {a : Act} {Q : Exit → Act → World → Prop}
    (hg : o.guard = none) (s x : Operand) (t tx : TypeId) (hop : o.op = Op.call { callee := Callee.builtin Builtin.append, args := #[s, x], argTypes := #[t, tx] })
    (e : TypeId) (i : TypeInfo) (ht : P.underlying t = some (.slice e)) (hi : P.info? e = some i) (hs : i.size = 1)
    (b n cap : Nat) (cur : Array Value) (hv : a.eval s = .slice (some ⟨b, 0, none⟩) n cap) (hb : w.heap[b]? = some (.cells cur e (0, 0))) (hcs : cap ≤ cur.size) (y : Value) (hy : a.eval x = y) (m : Nat) (news : List Value) (hsrc : Src P 1 tx y m news w)
    (hroom : n + m ≤ cap)
    (hK : ∀ w', w'.heap[b]? = some (.cells (spl cur n news) e (0, 0)) → Chg (· = b) w w' → wpList P ops Q rest (a.put o.dst (.slice (some ⟨b, 0, none⟩) (n + m) cap)) w') :
    wpList P ops Q (o :: rest) a w := by
  refine wpList_plain hg fun K hK' => ?_
  rw [← hs] at hsrc
  have hr := run_append_room_src (P := P) w t tx o.type e i ht hi b 0 n cap y m news hsrc hroom
    (fun j hj => by rw [cell_of_blk hb]; have := hsrc.newsLen; rw [hs] at this ⊢; simp; omega)
    (fun j hj => free_of_blk hb _)
  have e0 : 0 + n * i.size = n := by rw [hs]; omega
  rw [e0] at hr
  unfold Oper.wp
  simp [execOp, hop, resolve, invoke, builtin, hv, hy, hr, Result.andThen]
  exact hK' _ _ (hK _ (heap_setCells_at b e (0, 0) news n w cur hb) (Chg.sets (S := (· = b)) b (fun _ => rfl) _ _ _ (Chg.refl _ w)))

theorem Rd.tail' {P : Program} {w : World} {ao : Option Addr} {n cap : Nat} {l : List UInt8} (h : Rd w (.slice ao n cap) 1 (bvs l)) {T e : TypeId} (hT : P.underlying T = some (.slice e)) (hE : P.elem T = e) {i : TypeInfo} (hi : P.info? e = some i) (hs : i.size = 1) (k : Nat) (hk : k ≤ l.length) :
    ∃ ao' n' cap', (∀ w', (Instr.slice T (.slice ao n cap) (some (.int .i64 k)) none none).run P w' = .ok (.slice ao' n' cap') w') ∧ Rd w (.slice ao' n' cap') 1 (bvs (l.drop k)) ∧ (Value.slice ao' n' cap').ownBlock = (Value.slice ao n cap).ownBlock := by
  have hn := h.len
  have hc := h.cut k n (by omega) (Nat.le_refl _)
  refine ⟨if cap = k then ao else ao.map (·.add (k * 1)), n - k, cap - k, fun w' => ?_, ?_, ?_⟩
  · subst hE
    rw [run_slice_l w' T ao n cap hT .i64 k (by omega) (by omega)]
    simp [sizeOf, typeInfo, hi, hs, Result.andThen, sliced]
  · have e1 : ((bvs l).take (n * 1)).drop (k * 1) = bvs (l.drop k) := by
      rw [Nat.mul_one, Nat.mul_one, List.take_of_length_le (by rw [bvs_length]; omega)]; simp [bvs]
    rw [e1] at hc; exact hc
  · split
    · cases ao <;> rfl
    · cases ao with
      | none => rfl
      | some a => simp only [Option.map_some, Value.ownBlock]; unfold Addr.add; split <;> rfl
end Go.Proofs.Ytplkoephgmdgkaa
