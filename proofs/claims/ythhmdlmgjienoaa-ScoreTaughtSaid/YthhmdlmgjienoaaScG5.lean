/- A lesson's cells; ScoreLearns, ready for its frame. -/
import Derived.Test.YthhmdlmgjienoaaScL4
import Derived.Test.YthhmdlmgjienoaaFltA
namespace Go.Proofs.Ythhmdlmgjienoaa
open Go Go.RowKit

theorem trod_bool' {P : Program} {H : Type} {enc : TypeId × Value → H} {W : World} {base : Nat} {sp : Nat → Bool} {held : Bool} {t : TypeId} {fuel : Nat} {cs : List Value} {x : DataW H × List MemPlace} (ht : P.underlying t = some .bool) (h : DataW.trod enc P W base sp held fuel t cs = some x) :
    ∃ b, cs = [.bool b] := by
  cases fuel with
  | zero => simp [DataW.trod] at h
  | succ n =>
    match cs, h with
    | [], h => simp [DataW.trod, ht] at h
    | [v], h =>
      cases v <;> simp [DataW.trod, ht] at h
      exact ⟨_, rfl⟩
    | _ :: _ :: _, h => simp [DataW.trod, ht] at h
theorem les_of {P : Program} {H : Type} {enc : TypeId × Value → H} {W : World} {T R F B : TypeId} {sp : Nat → Bool} {held : Bool} {f0 f1 f2 f3 : Field} {v : Value} {d : DataW H} {p : List MemPlace} (ht : P.underlying T = some (.struct #[f0, f1, f2, f3])) (hc : P.cellsOf T = 18)
    (t0 : f0.type = R) (t1 : f1.type = R) (t2 : f2.type = B) (t3 : f3.type = F) (o0 : f0.offset = 0) (o1 : f1.offset = 8) (o2 : f2.offset = 16) (o3 : f3.offset = 17)
    (hr : P.underlying R = some (.array 8 F)) (hf : P.underlying F = some (.float .f64)) (hb : P.underlying B = some .bool) (c1 : P.cellsOf F = 1) (c8 : P.cellsOf R = 8) (cb : P.cellsOf B = 1)
    (ok : ∃ base, Value.okWide P W .any base T v) (h : DataW.Trod enc P W 0 sp held T v d p) :
    ∃ (a0 a1 a2 a3 a4 a5 a6 a7 x0 x1 x2 x3 x4 x5 x6 x7 : Nat) (bad : Bool) (step : Nat), v = .agg (lesV [a0, a1, a2, a3, a4, a5, a6, a7] [x0, x1, x2, x3, x4, x5, x6, x7] bad step) ∧ (∀ v ∈ [a0, a1, a2, a3, a4, a5, a6, a7], v < 2 ^ 64) ∧ (∀ v ∈ [x0, x1, x2, x3, x4, x5, x6, x7], v < 2 ^ 64) ∧ step < 2 ^ 64 := by
  obtain ⟨_, ok⟩ := ok
  simp only [Value.okWide, ht] at ok
  obtain ⟨cs, rfl, _, _⟩ := ok
  obtain ⟨fuel, hx⟩ := h
  cases fuel with
  | zero => simp [DataW.trod] at hx
  | succ m =>
    rw [DataW.trod_step] at hx
    unfold DataW.trodStep at hx
    simp only [ht] at hx
    split at hx
    · rename_i hl
      rw [hc] at hl
      simp only [Option.map_eq_some_iff] at hx
      obtain ⟨ys, hy, _⟩ := hx
      have ha := mapM_all _ _ hy
      obtain ⟨y0, g0⟩ := ha f0 (by simp)
      obtain ⟨y1, g1⟩ := ha f1 (by simp)
      obtain ⟨y2, g2⟩ := ha f2 (by simp)
      obtain ⟨y3, g3⟩ := ha f3 (by simp)
      rw [t0, o0, c8] at g0
      rw [t1, o1, c8] at g1
      rw [t2, o2, cb] at g2
      rw [t3, o3, c1] at g3
      obtain ⟨l, e0, hn, hv⟩ := trod_row hr hf c1 c8 g0
      obtain ⟨l', e1, hn', hv'⟩ := trod_row hr hf c1 c8 g1
      obtain ⟨bad, e2⟩ := trod_bool' hb g2
      obtain ⟨step, e3, hst⟩ := trod_float hf g3
      obtain ⟨a0, a1, a2, a3, a4, a5, a6, a7, rfl⟩ := eight hn
      obtain ⟨x0, x1, x2, x3, x4, x5, x6, x7, rfl⟩ := eight hn'
      refine ⟨a0, a1, a2, a3, a4, a5, a6, a7, x0, x1, x2, x3, x4, x5, x6, x7, bad, step, ?_, hv, hv', hst⟩
      have hcs : cs.toList.length = 18 := hl
      have eq : cs.toList = (cs.toList.drop 0).take 8 ++ ((cs.toList.drop 8).take 8 ++ ((cs.toList.drop 16).take 1 ++ (cs.toList.drop 17).take 1)) := by
        have e3 : (cs.toList.drop 17).take 1 = cs.toList.drop 17 := List.take_of_length_le (by rw [List.length_drop, hcs]; decide)
        rw [e3, show cs.toList.drop 17 = (cs.toList.drop 16).drop 1 by rw [List.drop_drop], List.take_append_drop, show cs.toList.drop 16 = (cs.toList.drop 8).drop 8 by rw [List.drop_drop], List.take_append_drop, List.drop_zero, List.take_append_drop]
      have hcc : (Value.agg cs).cells.toList = cs.toList := rfl
      rw [hcc] at e0 e1 e2 e3
      rw [e0, e1, e2, e3] at eq
      congr 1
      apply Array.toList_inj.1
      rw [eq]
      simp [lesV]
    · cases hx

theorem walk_ScoreLearns {H : Type} {enc : TypeId × Value → H} (W : World) (v0 : Value) (d0 : DataW H) (p0 : List MemPlace) (ok0 : ∃ base, Value.okWide Try.prog W .any base 43 v0)
    (h0 : DataW.Trod enc Try.prog W 0 (fun _ => true) true 43 v0 d0 p0) :
    Calls Try.prog 10 #[v0] W fun r w' => r = .returned (.bool true) ∧ Below W.heap.size W w' := by
  obtain ⟨a0, a1, a2, a3, a4, a5, a6, a7, x0, x1, x2, x3, x4, x5, x6, x7, bad, step, rfl, hv, hv', hst⟩ := les_of Try.underlying43 (by kernel_rfl) rfl rfl rfl rfl rfl rfl rfl rfl Try.underlying23 Try.underlying22 Try.underlying4 (by kernel_rfl) (by kernel_rfl) (by kernel_rfl) ok0 h0
  exact learns_walk a0 a1 a2 a3 a4 a5 a6 a7 x0 x1 x2 x3 x4 x5 x6 x7 bad step hv hv' hst W
end Go.Proofs.Ythhmdlmgjienoaa
