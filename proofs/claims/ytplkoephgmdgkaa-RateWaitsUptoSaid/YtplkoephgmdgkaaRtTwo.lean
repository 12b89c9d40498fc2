/- Two rate tables side by side; an append to a list that is full. No condition but what each states. -/
import Derived.Test.YtplkoephgmdgkaaRtRc
import Derived.Test.YtplkoephgmdgkaaRtKn
namespace Go.Proofs.Ytplkoephgmdgkaa
open Go Go.RowKit Rt Go.Maps
set_option linter.unusedVariables false
/-- Two tables in memory of their own, all of it from block B on. -/
def Two (B tb1 m1 tb2 m2 : Nat) (T1 T2 : Tb) (w : World) : Prop := ∃ bk1 F1 bk2 F2, TAx tb1 m1 T1 bk1 F1 w ∧ TAx tb2 m2 T2 bk2 F2 w ∧ (∀ i, F1 i → ¬ F2 i) ∧ (∀ i, F1 i → B ≤ i) ∧ (∀ i, F2 i → B ≤ i)
theorem Two.swap {B tb1 m1 tb2 m2 : Nat} {T1 T2 : Tb} {w : World} (h : Two B tb1 m1 tb2 m2 T1 T2 w) : Two B tb2 m2 tb1 m1 T2 T1 w := by
  obtain ⟨bk1, F1, bk2, F2, h1, h2, h3, h4, h5⟩ := h
  exact ⟨bk2, F2, bk1, F1, h2, h1, fun i a b => h3 i b a, h5, h4⟩
theorem Two.same {B tb1 m1 tb2 m2 : Nat} {T1 T2 : Tb} {w w' : World} (h : Two B tb1 m1 tb2 m2 T1 T2 w) (c : Chg (fun _ => False) w w') : Two B tb1 m1 tb2 m2 T1 T2 w' := by
  obtain ⟨bk1, F1, bk2, F2, h1, h2, h3, h4, h5⟩ := h
  exact ⟨bk1, F1, bk2, F2, h1.same c, h2.same c, h3, h4, h5⟩
/-- Beside them block X, which is none of theirs. -/
def TwoX (B X tb1 m1 tb2 m2 : Nat) (T1 T2 : Tb) (w : World) : Prop := X < w.heap.size ∧ ∃ bk1 F1 bk2 F2, TAx tb1 m1 T1 bk1 F1 w ∧ TAx tb2 m2 T2 bk2 F2 w ∧ (∀ i, F1 i → ¬ F2 i) ∧ (∀ i, F1 i → B ≤ i) ∧ (∀ i, F2 i → B ≤ i) ∧ ¬ F1 X ∧ ¬ F2 X
theorem TwoX.swap {B X tb1 m1 tb2 m2 : Nat} {T1 T2 : Tb} {w : World} (h : TwoX B X tb1 m1 tb2 m2 T1 T2 w) : TwoX B X tb2 m2 tb1 m1 T2 T1 w := by
  obtain ⟨hx, bk1, F1, bk2, F2, h1, h2, h3, h4, h5, h6, h7⟩ := h
  exact ⟨hx, bk2, F2, bk1, F1, h2, h1, fun i a b => h3 i b a, h5, h4, h7, h6⟩
theorem TwoX.two {B X tb1 m1 tb2 m2 : Nat} {T1 T2 : Tb} {w : World} (h : TwoX B X tb1 m1 tb2 m2 T1 T2 w) : Two B tb1 m1 tb2 m2 T1 T2 w := by
  obtain ⟨hx, bk1, F1, bk2, F2, h1, h2, h3, h4, h5, h6, h7⟩ := h
  exact ⟨bk1, F1, bk2, F2, h1, h2, h3, h4, h5⟩
theorem Two.put {B tb1 m1 tb2 m2 : Nat} {T1 T2 : Tb} {w : World} (h : Two B tb1 m1 tb2 m2 T1 T2 w) (o : Obj) : TwoX B w.heap.size tb1 m1 tb2 m2 T1 T2 (w.alloc o) := by
  obtain ⟨bk1, F1, bk2, F2, h1, h2, h3, h4, h5⟩ := h
  have c := (Chg.refl (fun _ => False) w).alloc o
  exact ⟨by simp, bk1, F1, bk2, F2, h1.same c, h2.same c, h3, h4, h5, fun h => Nat.lt_irrefl _ (h1.flt _ h), fun h => Nat.lt_irrefl _ (h2.flt _ h)⟩
theorem TwoX.step {B X tb1 m1 tb2 m2 : Nat} {T1 T2 T1' : Tb} {w w' : World} {bk1 bk1' : ByteArray → Option Nat} {F1 F1' : Nat → Prop} {bk2 : ByteArray → Option Nat} {F2 : Nat → Prop} (hx : X < w.heap.size) (h1 : TAx tb1 m1 T1 bk1 F1 w) (h2 : TAx tb2 m2 T2 bk2 F2 w) (h3 : ∀ i, F1 i → ¬ F2 i) (h4 : ∀ i, F1 i → B ≤ i) (h5 : ∀ i, F2 i → B ≤ i) (h6 : ¬ F1 X) (h7 : ¬ F2 X)
    (hB : B ≤ w.heap.size) (h' : TAx tb1 m1 T1' bk1' F1' w') (c : Chg F1 w w') (hF : ∀ i, F1' i → F1 i ∨ w.heap.size ≤ i) : TwoX B X tb1 m1 tb2 m2 T1' T2 w' ∧ Chg (fun i => B ≤ i ∧ i ≠ X) w w' := by
  refine ⟨⟨Nat.lt_of_lt_of_le hx c.size, bk1', F1', bk2, F2, h', h2.kept c (fun i hi e => h3 i e hi), fun i hi hi2 => ?_, fun i hi => ?_, h5, fun hi => ?_, h7⟩, c.mono (fun i _ e => ⟨h4 i e, fun e2 => h6 (e2 ▸ e)⟩)⟩
  · rcases hF i hi with h | h
    · exact h3 i h hi2
    · have := h2.flt i hi2; omega
  · rcases hF i hi with h | h
    · exact h4 i h
    · omega
  · rcases hF X hi with h | h
    · exact h6 h
    · omega
theorem two_ask {B X tb1 m1 tb2 m2 : Nat} {T1 T2 : Tb} {w : World} (h : TwoX B X tb1 m1 tb2 m2 T1 T2 w) (hB : B ≤ w.heap.size) (k : ByteArray) (hk : k.size ≤ maxLen) (now : Int) (c : Nat) (hc : c < 2 ^ 64) :
    Calls Try.prog 16 #[.pointer (some ⟨tb1, 0, none⟩), .string k, .int .i64 now, .float .f64 c] w fun r w' => r = .returned (.bool (T1.ask k now c).1) ∧ TwoX B X tb1 m1 tb2 m2 (T1.ask k now c).2 T2 w' ∧ Chg (fun i => B ≤ i ∧ i ≠ X) w w' := by
  obtain ⟨hx, bk1, F1, bk2, F2, h1, h2, h3, h4, h5, h6, h7⟩ := h
  refine (rt_Ask w tb1 m1 T1 bk1 F1 h1 k hk now c hc).mono ?_
  rintro r w' ⟨bk', F', rfl, h', c', hF⟩
  exact ⟨rfl, TwoX.step hx h1 h2 h3 h4 h5 h6 h7 hB h' c' hF⟩
theorem two_note {B X tb1 m1 tb2 m2 : Nat} {T1 T2 : Tb} {w : World} (h : TwoX B X tb1 m1 tb2 m2 T1 T2 w) (hB : B ≤ w.heap.size) (k : ByteArray) (hk : k.size ≤ maxLen) (now : Int) (c : Nat) (hc : c < 2 ^ 64) :
    Calls Try.prog 18 #[.pointer (some ⟨tb1, 0, none⟩), .string k, .int .i64 now, .float .f64 c] w fun r w' => r = .returned (.int .i64 (T1.note k now c).1) ∧ TwoX B X tb1 m1 tb2 m2 (T1.note k now c).2 T2 w' ∧ Chg (fun i => B ≤ i ∧ i ≠ X) w w' := by
  obtain ⟨hx, bk1, F1, bk2, F2, h1, h2, h3, h4, h5, h6, h7⟩ := h
  refine (rt_Note w tb1 m1 T1 bk1 F1 h1 k hk now c hc).mono ?_
  rintro r w' ⟨bk', F', rfl, h', c', hF⟩
  exact ⟨rfl, TwoX.step hx h1 h2 h3 h4 h5 h6 h7 hB h' c' hF⟩
theorem two_level {B tb1 m1 tb2 m2 : Nat} {T1 T2 : Tb} {w : World} (h : Two B tb1 m1 tb2 m2 T1 T2 w) (k : ByteArray) (hk : k.size ≤ maxLen) (now : Int) :
    Calls Try.prog 19 #[.pointer (some ⟨tb1, 0, none⟩), .string k, .int .i64 now] w fun r w' => r = .returned (.float .f64 (T1.level k now)) ∧ Chg (fun _ => False) w w' := by
  obtain ⟨bk1, F1, bk2, F2, h1, h2, h3, h4, h5⟩ := h
  exact rt_Level w tb1 m1 T1 bk1 F1 h1 k hk now
theorem two_standing {B tb1 m1 tb2 m2 : Nat} {T1 T2 : Tb} {w : World} (h : Two B tb1 m1 tb2 m2 T1 T2 w) (k : ByteArray) (hk : k.size ≤ maxLen) (now : Int) :
    Calls Try.prog 26 #[.pointer (some ⟨tb1, 0, none⟩), .string k, .int .i64 now] w fun r w' => ∃ y, r = .returned (.float .f64 y) ∧ FS (T1.standing k now) y ∧ Chg (fun _ => False) w w' := by
  obtain ⟨bk1, F1, bk2, F2, h1, h2, h3, h4, h5⟩ := h
  exact rt_Standing w tb1 m1 T1 bk1 F1 h1 k hk now
theorem two_keys {B tb1 m1 tb2 m2 : Nat} {T1 T2 : Tb} {w : World} (h : Two B tb1 m1 tb2 m2 T1 T2 w) :
    Calls Try.prog 29 #[.pointer (some ⟨tb1, 0, none⟩)] w (KeysSays T1 w) := by
  obtain ⟨bk1, F1, bk2, F2, h1, h2, h3, h4, h5⟩ := h
  exact rt_Keys rt_SC w tb1 m1 T1 bk1 F1 h1
/-- A value behind a list whose room is its length: a new list. -/
theorem append_full {w : World} {ao : Option Addr} {n : Nat} {ks : List ByteArray} (h : Rd w (.slice ao n n) 1 (strs ks)) {x : Value} (k : ByteArray) (hsrc : Src Try.prog 1 56 x 1 [.string k] w) (hl : ks.length ≤ 4194304) (ty : TypeId) :
    ∃ v' w', (Builtin.append_ #[56, 56] ty #[.slice ao n n, x]).run Try.prog w = .ok v' w' ∧ Arr w' 9 1 v' (strs (ks ++ [k])) ∧ Chg (fun _ => False) w w' ∧ v'.ownBlock = some w.heap.size := by
  obtain ⟨i0, hi0, hx0, hz0, hb0⟩ := info_parts Try.infoStr
  have hnum := h.num
  rw [strs_len, Nat.mul_one] at hnum
  have hold : (Builtin.firstCells i0.size n (.slice ao n n)).run Try.prog w.drew = .ok (strs ks).toArray w.drew := by
    rw [hz0]
    cases ks with
    | nil =>
      obtain rfl : n = 0 := by simpa using hnum.symm
      cases ao with
      | none => exact run_firstCells_none w.drew 1 0 0 0
      | some a => exact run_firstCells_some (P := Try.prog) w.drew 1 0 a 0 0 [] rfl (fun j u hu => by simp at hu)
    | cons y r =>
      obtain ⟨bl, o, rfl, hc⟩ := h.at (by simp [strs])
      refine run_firstCells_some (P := Try.prog) w.drew 1 n _ n n (strs (y :: r)) (by rw [strs_len, Nat.mul_one]; exact hnum) (fun j u hu => ?_)
      obtain ⟨hj, rfl⟩ := List.getElem?_eq_some_iff.1 hu
      rw [Addr.add_none]; exact hc j hj
  have hr := run_append_grow_src (P := Try.prog) w 56 56 ty 9 i0 (.string ⟨#[]⟩) Try.underlying56 hi0 hx0 ao n n (strs ks) hold x 1 [.string k] (by rw [hz0]; exact hsrc) (by omega) (by omega) (growslice_fits (by omega) (by rw [hb0]; omega))
  have hg := grownCap_ge w (n + 1) n 9
  refine ⟨_, _, hr, .inr ⟨_, 0, _, _, _, (0, 0), rfl, hg, grownCap_le_maxLen _ _ _ _ (by unfold maxLen; omega), heap_alloc_at _ _, ?_, fun i _ _ h => by simp at h, ?_, ?_⟩, ((Chg.refl _ w).drew).alloc _, rfl⟩
  · have hzs : (Value.string ⟨#[]⟩).cells.size = 1 := rfl
    simp only [Array.size_append, size_zeroCells, List.size_toArray, List.length_append, strs_len, hzs, List.length_cons, List.length_nil, Nat.mul_one, Nat.zero_add]
    omega
  · rw [strs_len]; simp; omega
  · simp only [Array.toList_append, List.drop_zero]
    rw [List.take_append_of_le_length (by simp [strs_len]; omega), List.take_of_length_le (by simp [strs_len]; omega), strs_app]
    rfl
theorem strs_nil {ks : List ByteArray} (h : strs ks = []) : ks = [] := by cases ks with
  | nil => rfl
  | cons a r => simp [strs] at h
/-- A list cut to its own length and room. -/
theorem cut_full {w : World} {ao : Option Addr} {n cap : Nat} {ks : List ByteArray} (h : Rd w (.slice ao n cap) 1 (strs ks)) :
    ∃ ao', (∀ w', (Instr.slice 56 (.slice ao n cap) none (some (.int .i64 n)) (some (.int .i64 n))).run Try.prog w' = .ok (.slice ao' n n) w') ∧ Rd w (.slice ao' n n) 1 (strs ks) := by
  obtain ⟨i0, hi0, hx0, hz0, hb0⟩ := info_parts Try.infoStr
  have hT := Try.underlying56
  have hE : Try.prog.elem 56 = 9 := by unfold Program.elem; rw [hT]
  have hnum := h.num
  rw [strs_len, Nat.mul_one] at hnum
  obtain ⟨_, _, _, e0, _, _, hcap, hcm, _⟩ := h.shape
  injection e0 with e0 e1 e2
  subst e1 e2
  refine ⟨if n = 0 then ao else ao.map (·.add (0 * 1)), fun w' => ?_, ?_⟩
  · rw [run_slice_hm w' 56 ao n cap (by rw [hE]; exact hT) .i64 .i64 n n (by omega) (by omega) (by omega)]
    rw [hE]
    simp [sizeOf, typeInfo, hi0, hz0, Result.andThen, sliced]
  · by_cases hn : n = 0
    · rw [if_pos hn]
      have hk : ks = [] := List.eq_nil_of_length_eq_zero (by omega)
      subst hk hn
      exact ⟨ao, 0, 0, rfl, by simp [strs], Nat.le_refl _, by unfold maxLen; omega, fun _ => ⟨rfl, rfl⟩, fun a _ h => absurd rfl h⟩
    · rw [if_neg hn]
      obtain ⟨bl, o, rfl, hc⟩ := h.at (fun e => by have := strs_nil e; subst this; simp at hnum; omega)
      have ha : (⟨bl, o, none⟩ : Addr).add (0 * 1) = ⟨bl, o, none⟩ := by rw [Nat.zero_mul, Addr.add_none]; rfl
      refine ⟨some ⟨bl, o, none⟩, n, n, by simp only [Option.map_some, ha], by rw [strs_len]; omega, Nat.le_refl _, by omega, (fun h => by cases h), fun a h _ => ?_⟩
      injection h with h
      subst h
      exact ⟨rfl, hc⟩
end Go.Proofs.Ytplkoephgmdgkaa
