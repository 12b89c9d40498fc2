/- ScoreJudges, ready for its frame. -/
import Derived.Test.YthhmdlmgjienoaaScW6
import Derived.Test.YthhmdlmgjienoaaFltA
namespace Go.Proofs.Ythhmdlmgjienoaa
open Go Go.RowKit

theorem bar_of {P : Program} {H : Type} {enc : TypeId × Value → H} {W : World} {T R F : TypeId} {sp : Nat → Bool} {held : Bool} {f0 f1 f2 : Field} {v : Value} {d : DataW H} {p : List MemPlace} (ht : P.underlying T = some (.struct #[f0, f1, f2])) (hc : P.cellsOf T = 10)
    (t0 : f0.type = R) (t1 : f1.type = F) (t2 : f2.type = F) (o0 : f0.offset = 0) (o1 : f1.offset = 8) (o2 : f2.offset = 9)
    (hr : P.underlying R = some (.array 8 F)) (hf : P.underlying F = some (.float .f64)) (c1 : P.cellsOf F = 1) (c8 : P.cellsOf R = 8)
    (ok : ∃ base, Value.okWide P W .any base T v) (h : DataW.Trod enc P W 0 sp held T v d p) :
    ∃ (a0 a1 a2 a3 a4 a5 a6 a7 mark refuse : Nat), v = .agg (barV [a0, a1, a2, a3, a4, a5, a6, a7] mark refuse) ∧ (∀ v ∈ [a0, a1, a2, a3, a4, a5, a6, a7], v < 2 ^ 64) ∧ mark < 2 ^ 64 ∧ refuse < 2 ^ 64 := by
  obtain ⟨_, ok⟩ := ok
  simp only [Value.okWide, ht] at ok
  obtain ⟨cs, rfl, _, _⟩ := ok
  obtain ⟨fuel, hx⟩ := h
  cases fuel with
  | zero => simp [DataW.trod] at hx
  | succ m =>
    rw [DataW.trod_step] at hx
    unfold DataW.trodStep at hx
    simp only [ht] at hx
    split at hx
    · rename_i hl
      rw [hc] at hl
      simp only [Option.map_eq_some_iff] at hx
      obtain ⟨ys, hy, _⟩ := hx
      have ha := mapM_all _ _ hy
      obtain ⟨y0, g0⟩ := ha f0 (by simp)
      obtain ⟨y1, g1⟩ := ha f1 (by simp)
      obtain ⟨y2, g2⟩ := ha f2 (by simp)
      rw [t0, o0, c8] at g0
      rw [t1, o1, c1] at g1
      rw [t2, o2, c1] at g2
      obtain ⟨l, e0, hn, hv⟩ := trod_row hr hf c1 c8 g0
      obtain ⟨mark, e1, hm⟩ := trod_float hf g1
      obtain ⟨refuse, e2, hre⟩ := trod_float hf g2
      obtain ⟨a0, a1, a2, a3, a4, a5, a6, a7, rfl⟩ := eight hn
      refine ⟨a0, a1, a2, a3, a4, a5, a6, a7, mark, refuse, ?_, hv, hm, hre⟩
      have hcs : cs.toList.length = 10 := hl
      have eq : cs.toList = (cs.toList.drop 0).take 8 ++ ((cs.toList.drop 8).take 1 ++ (cs.toList.drop 9).take 1) := by
        have e3 : (cs.toList.drop 9).take 1 = cs.toList.drop 9 := List.take_of_length_le (by rw [List.length_drop, hcs]; decide)
        rw [e3, show cs.toList.drop 9 = (cs.toList.drop 8).drop 1 by rw [List.drop_drop], List.take_append_drop, List.drop_zero, List.take_append_drop]
      have hcc : (Value.agg cs).cells.toList = cs.toList := rfl
      rw [hcc] at e0 e1 e2
      rw [e0, e1, e2] at eq
      congr 1
      apply Array.toList_inj.1
      rw [eq]
      simp [barV, fvs]
    · cases hx

theorem walk_ScoreJudges {H : Type} {enc : TypeId × Value → H} (W : World) (v0 v1 : Value) (d0 d1 : DataW H) (p0 p1 : List MemPlace) (ok0 : ∃ base, Value.okWide Try.prog W .any base 32 v0) (ok1 : ∃ base, Value.okWide Try.prog W .any base 22 v1)
    (h0 : DataW.Trod enc Try.prog W 0 (fun _ => true) true 32 v0 d0 p0) (h1 : DataW.Trod enc Try.prog W 0 (fun _ => true) true 22 v1 d1 p1) :
    Calls Try.prog 6 #[v0, v1] W fun r w' => r = .returned (.bool true) ∧ Below W.heap.size W w' := by
  obtain ⟨a0, a1, a2, a3, a4, a5, a6, a7, mark, refuse, rfl, hv, hm, hr⟩ := bar_of Try.underlying32 (by kernel_rfl) rfl rfl rfl rfl rfl rfl Try.underlying23 Try.underlying22 (by kernel_rfl) (by kernel_rfl) ok0 h0
  obtain ⟨x, rfl, hx⟩ := arg_f64 Try.underlying22 ok1 h1
  exact judges_walk a0 a1 a2 a3 a4 a5 a6 a7 mark refuse x W
end Go.Proofs.Ythhmdlmgjienoaa
