/- append behind a guard that is open. No condition but what is stated. -/
import Derived.Test.YtmenphpilckphaaDoorMem
namespace Go.Proofs.YtmenphpilckphaaDoor
open Go Go.RowKit

theorem wpList_append_arr_g {P : Program} (w : World) {ops : Array Oper} {rest : List Oper} {o : Oper} {a : Act} {Q : Exit → Act → World → Prop}
    (hw : Region.wanted o (yielded ops a.tmps) = true) (s x : Operand) (t tx : TypeId) (hop : o.op = Op.call { callee := Callee.builtin Builtin.append, args := #[s, x], argTypes := #[t, tx] })
    (e : TypeId) (i : TypeInfo) (z : Value) (sz by_ : Nat) (ht : P.underlying t = some (.slice e)) (hi : P.info? e = some i) (hz : i.zero = some z) (hs : i.size = sz) (hb : i.bytes = by_) (hzs : z.cells.size = sz) (hsz : 0 < sz)
    (v : Value) (xs : List Value) (hv : a.eval s = v) (h : Arr w e sz v xs) (y : Value) (hy : a.eval x = y) (m : Nat) (news : List Value) (hsrc : Src P sz tx y m news w)
    (b1 : xs.length / sz + m ≤ maxLen) (b2 : (xs.length / sz + m) * by_ ≤ 140737488355328)
    (hK : ∀ v' w', Arr w' e sz v' (xs ++ news) → Chg (fun k => some k = v.ownBlock) w w' → (v'.ownBlock = v.ownBlock ∨ v'.ownBlock = some w.heap.size) → (m = 0 → v = .slice none 0 0 → v' = .slice none 0 0) →
      wpList P ops Q rest (a.put o.dst v') w') :
    wpList P ops Q (o :: rest) a w := by
  refine wpList_step fun K hK' => ?_
  rw [if_pos hw]
  obtain ⟨v', w', hrun, r1, r2, r3, r4⟩ := arr_append (P := P) h t tx o.type i z by_ ht hi hz hs hb hzs hsz y m news hsrc b1 b2
  unfold Oper.wp
  simp [execOp, hop, resolve, invoke, builtin, hv, hy, hrun, Result.andThen]
  exact hK' _ _ (hK v' w' r1 r2 r3 r4)
end Go.Proofs.YtmenphpilckphaaDoor
