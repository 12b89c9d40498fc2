/- Arguments that are floats, rows of floats, structs with such: opened. No condition. -/
import Derived.Test.YtplkoephgmdgkaaFltP
import Derived.ProofKit
import Derived.OpenShut
namespace Go.Proofs.Ytplkoephgmdgkaa
open Go Go.RowKit Go.ChangeShapes Go.WideShapes Go.ChangeAt

theorem float_lt {b : Nat} (h : (Lit.float .f64 b).wf = true) : b < 2 ^ 64 := by simpa [Lit.wf] using h
theorem mapM_all {α β : Type} {f : α → Option β} : ∀ (L : List α) (ys : List β), L.mapM f = some ys → ∀ i ∈ L, ∃ y, f i = some y
  | [], _, _, i, hi => by simp at hi
  | a :: L, ys, h, i, hi => by
    rw [List.mapM_cons] at h
    simp only [bind, Option.bind_eq_some_iff, pure, Option.some.injEq] at h
    obtain ⟨y, hy, zs, hz, rfl⟩ := h
    rcases List.mem_cons.1 hi with rfl | hi
    · exact ⟨y, hy⟩
    · exact mapM_all L zs hz i hi
theorem floats_of : ∀ (cs : List Value), (∀ c ∈ cs, ∃ b, c = .float .f64 b ∧ b < 2 ^ 64) → ∃ l : List Nat, cs = l.map (Value.float .f64) ∧ ∀ v ∈ l, v < 2 ^ 64
  | [], _ => ⟨[], rfl, by simp⟩
  | c :: cs, h => by
    obtain ⟨b, rfl, hb⟩ := h c (by simp)
    obtain ⟨l, rfl, hl⟩ := floats_of cs (fun c hc => h c (by simp [hc]))
    refine ⟨b :: l, rfl, fun v hv => ?_⟩
    rcases List.mem_cons.1 hv with rfl | hv
    · exact hb
    · exact hl v hv
theorem eight {l : List Nat} (h : l.length = 8) : ∃ a0 a1 a2 a3 a4 a5 a6 a7, l = [a0, a1, a2, a3, a4, a5, a6, a7] := by
  match l, h with
  | [a0, a1, a2, a3, a4, a5, a6, a7], _ => exact ⟨a0, a1, a2, a3, a4, a5, a6, a7, rfl⟩

section
variable {H : Type} {enc : TypeId × Value → H} {P : Program} {W : World} {base : Nat} {sp : Nat → Bool} {held : Bool}

theorem trod_float {t : TypeId} {fuel : Nat} {cs : List Value} {x : DataW H × List MemPlace} (ht : P.underlying t = some (.float .f64)) (h : DataW.trod enc P W base sp held fuel t cs = some x) :
    ∃ b, cs = [.float .f64 b] ∧ b < 2 ^ 64 := by
  cases fuel with
  | zero => simp [DataW.trod] at h
  | succ n =>
    match cs, h with
    | [], h => simp [DataW.trod, ht] at h
    | [v], h =>
      cases v <;> simp [DataW.trod, ht] at h
      obtain ⟨⟨rfl, h1⟩, _⟩ := h
      exact ⟨_, rfl, float_lt h1⟩
    | _ :: _ :: _, h => simp [DataW.trod, ht] at h
theorem trod_row {t e : TypeId} {n fuel : Nat} {cs : List Value} {x : DataW H × List MemPlace} (ht : P.underlying t = some (.array n e)) (he : P.underlying e = some (.float .f64)) (h1 : P.cellsOf e = 1) (hn : P.cellsOf t = n)
    (h : DataW.trod enc P W base sp held fuel t cs = some x) : ∃ l : List Nat, cs = l.map (Value.float .f64) ∧ l.length = n ∧ ∀ v ∈ l, v < 2 ^ 64 := by
  cases fuel with
  | zero => simp [DataW.trod] at h
  | succ m =>
    rw [DataW.trod_step] at h
    unfold DataW.trodStep at h
    simp only [ht, h1, hn, Nat.mul_one] at h
    split at h
    · rename_i hl
      simp only [Option.map_eq_some_iff] at h
      obtain ⟨ys, hy, _⟩ := h
      have ha := mapM_all _ _ hy
      obtain ⟨l, rfl, hv⟩ := floats_of cs (by
        intro c hc
        obtain ⟨i, hi, rfl⟩ := List.getElem_of_mem hc
        obtain ⟨y, hy⟩ := ha i (by simp; omega)
        obtain ⟨b, hb, hb2⟩ := trod_float he hy
        refine ⟨b, ?_, hb2⟩
        rw [List.drop_eq_getElem_cons hi, List.take_succ_cons] at hb
        injection hb)
      exact ⟨l, rfl, by simpa using hl, hv⟩
    · cases h
theorem arg_f64 {T : TypeId} {v : Value} {d : DataW H} {p : List MemPlace} (ht : P.underlying T = some (.float .f64)) (ok : ∃ base, Value.okWide P W .any base T v) (h : DataW.Trod enc P W base sp held T v d p) :
    ∃ b : Nat, v = .float .f64 b ∧ b < 2 ^ 64 := by
  obtain ⟨_, ok⟩ := ok
  obtain ⟨b, rfl, _, _, hw⟩ := open_float ht ok h
  exact ⟨b, rfl, float_lt hw⟩
theorem arg_row {T e : TypeId} {n : Nat} {v : Value} {d : DataW H} {p : List MemPlace} (ht : P.underlying T = some (.array n e)) (he : P.underlying e = some (.float .f64)) (h1 : P.cellsOf e = 1) (hn : P.cellsOf T = n)
    (ok : ∃ base, Value.okWide P W .any base T v) (h : DataW.Trod enc P W base sp held T v d p) :
    ∃ l : List Nat, v = .agg (fvs l) ∧ l.length = n ∧ ∀ v ∈ l, v < 2 ^ 64 := by
  obtain ⟨_, ok⟩ := ok
  simp only [Value.okWide, ht] at ok
  obtain ⟨cs, rfl, _, _⟩ := ok
  obtain ⟨fuel, hf⟩ := h
  obtain ⟨l, hl, hn, hv⟩ := trod_row ht he h1 hn hf
  refine ⟨l, ?_, hn, hv⟩
  have : cs.toList = l.map (Value.float .f64) := hl
  rw [fvs, ← this]
end
end Go.Proofs.Ytplkoephgmdgkaa
