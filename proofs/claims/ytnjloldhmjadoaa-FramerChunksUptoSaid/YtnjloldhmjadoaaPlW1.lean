/- The items that a stream has come to, as they lie; one framer apart from what is not its own; zeros. No condition but what each states. -/
import Derived.Test.YtnjloldhmjadoaaFrA1
import Derived.Test.YtnjloldhmjadoaaPlSpec
import Derived.Test.YtnjloldhmjadoaaArgs2
namespace Go.Proofs.Ytnjloldhmjadoaa
set_option linter.unusedVariables false
open Go Go.RowKit Ln Dt Fr Pl

theorem Try.infoItem : (Try.prog.info? 35).map (fun i => (i.zero, i.size, i.bytes)) = some (some (.agg #[.int .i64 0, .string ⟨#[]⟩, .slice none 0 0, .int .i64 0, .bool false]), 5, 64) := by kernel_rfl
/-- A framer apart from X. -/
structure FOne (w : World) (X : Nat → Prop) (p : Nat) (L : Lim) (m : FM) : Prop where
  is : ∃ F, FR w F p L m ∧ Ins w F ∧ Dis F X
  ins : Ins w X
theorem FOne.kept {w w' : World} {X : Nat → Prop} {p : Nat} {L : Lim} {m : FM} (h : FOne w X p L m) (c : Chg X w w') : FOne w' X p L m := by
  obtain ⟨⟨F, h1, h3, h6⟩, h8⟩ := h
  exact ⟨⟨F, h1.kept c h6, h3.of c, h6⟩, h8.of c⟩
theorem FOne.more {w w' : World} {X Y : Nat → Prop} {p : Nat} {L : Lim} {m : FM} (h : FOne w X p L m) (c : Chg X w w') (hy : ∀ k, Y k → X k ∨ w.heap.size ≤ k ∧ k < w'.heap.size) : FOne w' Y p L m := by
  obtain ⟨⟨F, h1, h3, h6⟩, h8⟩ := h
  refine ⟨⟨F, h1.kept c h6, h3.of c, fun k a b => ?_⟩, fun k b => ?_⟩
  · rcases hy k b with e | e
    · exact h6 k a e
    · have := h3 k a; omega
  · rcases hy k b with e | e
    · exact h8.of c k e
    · exact e.2
theorem FOne.step {w : World} {X : Nat → Prop} {p : Nat} {L : Lim} {m : FM} (h : FOne w X p L m) : ∃ F, FR w F p L m ∧ Ins w F ∧ Dis F X ∧
    ∀ (w' : World) (m2 : FM) (F' : Nat → Prop), FR w' F' p L m2 → Ins w' F' → Grow w F F' → Chg F w w' → FOne w' X p L m2 ∧ Chg (fun k => ¬ X k) w w' := by
  obtain ⟨⟨F, h1, h3, h6⟩, h8⟩ := h
  exact ⟨F, h1, h3, h6, fun w' m2 F' g1 g2 g3 g4 => ⟨⟨⟨F', g1, g2, h6.grow g3 h8⟩, h8.of g4⟩, g4.mono (fun i _ e x => h6 i e x)⟩⟩
theorem one_mode {w : World} {X : Nat → Prop} {p : Nat} {L : Lim} {m : FM} (h : FOne w X p L m) :
    Calls Try.prog 17 #[.pointer (some ⟨p, 0, none⟩)] w fun r w' => r = .returned (.int .i64 m.mode) ∧ w = w' := by
  obtain ⟨F, h1, _⟩ := h.step; exact fr_Mode h1
theorem held_line {w : World} {F : Nat → Prop} {p : Nat} {L : Lim} {m : FM} (h : FR w F p L m) : 0 ≤ m.held ∧ m.held ≤ (L.line : Int) + 1 ∧ (L.line : Int) ≤ 16777216 ∧ 1 ≤ (L.line : Int) := by
  obtain ⟨ok, x, lb, v, ls, h1, h2, h3, h4, h5, h6, h7, h8, h9, h10, h11, h12⟩ := h
  have l1 := ok.l1
  have l2 := ok.l2
  cases m with
  | lines ls' bg =>
    obtain ⟨m1, m2, m3, m4, rfl, m5⟩ := h12
    have h6' : (ls'.text.length : Int) ≤ L.line := h6
    simp only [FM.held, heldL]
    split <;> omega
  | data r => simp only [FM.held, RS.held]; repeat' split
              all_goals omega
  | chunk a b => simp only [FM.held]; omega
theorem one_held {w : World} {X : Nat → Prop} {p : Nat} {L : Lim} {m : FM} (h : FOne w X p L m) :
    Calls Try.prog 28 #[.pointer (some ⟨p, 0, none⟩)] w fun r w' => r = .returned (.int .i64 m.held) ∧ w = w' := by
  obtain ⟨F, h1, _⟩ := h.step; exact fr_Held h1
theorem one_data {w : World} {X : Nat → Prop} {p : Nat} {L : Lim} {m : FM} (h : FOne w X p L m) :
    Calls Try.prog 12 #[.pointer (some ⟨p, 0, none⟩)] w fun r w' => r = .returned (.int .i64 m.data?.1) ∧ FOne w' X p L m.data?.2 ∧ Chg (fun k => ¬ X k) w w' := by
  obtain ⟨F, h1, h2, h3, h4⟩ := h.step
  refine (fr_Data h1 h2).mono ?_
  rintro e w' ⟨rfl, F', g1, g2, g3, g4⟩
  exact ⟨rfl, h4 w' _ F' g1 g2 g3 g4⟩
theorem one_chunk {w : World} {X : Nat → Prop} {p : Nat} {L : Lim} {m : FM} (h : FOne w X p L m) (n r : Int) (hn : n ≤ 9223372036854775807) (hr : r ≤ 9223372036854775807) :
    Calls Try.prog 27 #[.pointer (some ⟨p, 0, none⟩), .int .i64 n, .int .i64 r] w fun e w' => e = .returned (.int .i64 (m.chunk? n r).1) ∧ FOne w' X p L (m.chunk? n r).2 ∧ Chg (fun k => ¬ X k) w w' := by
  obtain ⟨F, h1, h2, h3, h4⟩ := h.step
  refine (fr_Chunk h1 h2 n r hn hr).mono ?_
  rintro e w' ⟨rfl, F', g1, g2, g3, g4⟩
  exact ⟨rfl, h4 w' _ F' g1 g2 g3 g4⟩
theorem one_take {w : World} {X : Nat → Prop} {p : Nat} {L : Lim} {m : FM} (h : FOne w X p L m) (bv : Value) (bs : List UInt8) (hbs : Rd w bv 1 (bvs bs)) (hsep : ∀ k, bv.ownBlock = some k → X k) (hs : msize m + 2 * bs.length ≤ 1099511627775) :
    Calls Try.prog 15 #[.pointer (some ⟨p, 0, none⟩), bv] w fun e w' => ∃ v', e = .returned (.tuple #[.int .i64 (FM.take L m bs).1, itV (FM.take L m bs).2.1 v']) ∧ FOne w' (fun k => X k ∨ some k = v'.ownBlock) p L (FM.take L m bs).2.2 ∧ Arr w' 5 1 v' (bvs (FM.take L m bs).2.1.bytes) ∧ (∀ k, v'.ownBlock = some k → w.heap.size ≤ k) ∧ Chg (fun k => ¬ X k) w w' := by
  obtain ⟨⟨F, h1, h3, h6⟩, h8⟩ := h
  refine (fr_Take h1 h3 bv bs hbs (fun k hk e => h6 k e (hsep k hk)) hs).mono ?_
  rintro e w' ⟨v', rfl, g1, g2, ⟨F', g3, g4, g5, g6⟩, g7⟩
  refine ⟨v', rfl, ⟨⟨F', g3, g4, ?_⟩, ?_⟩, g1, g2, g7.mono (fun i _ e x => h6 i e x)⟩
  · rintro k a (b | b)
    · exact (h6.grow g5 h8) k a b
    · exact g6 k b.symm a
  · rintro k (b | b)
    · exact h8.of g7 k b
    · exact g1.lt k b.symm

def itCs (x : It × Value) : List Value := [.int .i64 x.1.kind, .string ⟨x.1.text.toArray⟩, x.2, .int .i64 x.1.why, .bool x.1.high]
def itsC (xs : List (It × Value)) : List Value := xs.flatMap itCs
theorem itsC_length (xs : List (It × Value)) : (itsC xs).length = xs.length * 5 := rows_len 5 itCs (fun _ => rfl) xs
theorem itsC_append (xs ys : List (It × Value)) : itsC (xs ++ ys) = itsC xs ++ itsC ys := by simp [itsC]
/-- The slice ov holds the items; its block and theirs are apart, and in X. -/
structure Its (W0 : Nat) (w : World) (X : Nat → Prop) (ov : Value) (out : List It) : Prop where
  is : ∃ xs : List (It × Value), xs.map (·.1) = out ∧ Arr w 35 5 ov (itsC xs) ∧ ∀ x ∈ xs, Arr w 5 1 x.2 (bvs x.1.bytes) ∧ ∀ k, x.2.ownBlock = some k → X k ∧ ov.ownBlock ≠ some k
  own : ∀ k, ov.ownBlock = some k → X k ∧ W0 ≤ k
theorem Its.nil (W0 : Nat) (w : World) (X : Nat → Prop) : Its W0 w X (.slice none 0 0) [] := ⟨⟨[], rfl, Arr.nil _ _ _, by simp⟩, fun k hk => by simp [Value.ownBlock] at hk⟩
theorem Its.more {W0 : Nat} {w w' : World} {X Y S : Nat → Prop} {ov : Value} {out : List It} (h : Its W0 w X ov out) (c : Chg S w w') (d : Dis X S) (hy : ∀ k, X k → Y k) : Its W0 w' Y ov out := by
  obtain ⟨⟨xs, h1, h2, h3⟩, h4⟩ := h
  exact ⟨⟨xs, h1, h2.kept c (fun b hb => d b (h4 b hb).1), fun x hx => ⟨(h3 x hx).1.kept c (fun b hb => d b ((h3 x hx).2 b hb).1), fun k hk => ⟨hy k ((h3 x hx).2 k hk).1, ((h3 x hx).2 k hk).2⟩⟩⟩, fun k hk => ⟨hy k (h4 k hk).1, (h4 k hk).2⟩⟩
theorem Its.push {W0 : Nat} {w w2 : World} {X Y : Nat → Prop} {ov v2 vx : Value} {out : List It} {x : It} {xs : List (It × Value)} {n0 : Nat} (h1 : xs.map (·.1) = out)
    (h3 : ∀ x ∈ xs, Arr w 5 1 x.2 (bvs x.1.bytes) ∧ ∀ k, x.2.ownBlock = some k → X k ∧ ov.ownBlock ≠ some k) (h4 : ∀ k, ov.ownBlock = some k → X k ∧ W0 ≤ k) (hX : Ins w X)
    (ha : Arr w2 35 5 v2 (itsC xs ++ itCs (x, vx))) (c : Chg (fun k => some k = ov.ownBlock) w w2) (ho : v2.ownBlock = ov.ownBlock ∨ v2.ownBlock = some n0) (hn : w.heap.size ≤ n0) (hW : W0 ≤ w.heap.size)
    (hx : Arr w 5 1 vx (bvs x.bytes)) (hx2 : ∀ k, vx.ownBlock = some k → X k ∧ ov.ownBlock ≠ some k) (hy : ∀ k, X k → Y k) (hy2 : ∀ k, w.heap.size ≤ k → k < w2.heap.size → Y k) : Its W0 w2 Y v2 (out ++ [x]) := by
  have key : ∀ k, X k → ov.ownBlock ≠ some k → v2.ownBlock ≠ some k := by
    intro k hk hne e
    rcases ho with h | h
    · rw [h] at e; exact hne e
    · rw [h] at e; injection e with e; have := hX k hk; omega
  refine ⟨⟨xs ++ [(x, vx)], by simp [h1], ?_, ?_⟩, ?_⟩
  · rw [itsC_append]; simpa [itsC] using ha
  · intro y hy'
    rcases List.mem_append.1 hy' with h | h
    · exact ⟨(h3 y h).1.kept c (fun b hb e => ((h3 y h).2 b hb).2 e.symm), fun k hk => ⟨hy k ((h3 y h).2 k hk).1, key k ((h3 y h).2 k hk).1 ((h3 y h).2 k hk).2⟩⟩
    · simp at h; subst h
      exact ⟨hx.kept c (fun b hb e => (hx2 b hb).2 e.symm), fun k hk => ⟨hy k (hx2 k hk).1, key k (hx2 k hk).1 (hx2 k hk).2⟩⟩
  · intro k hk
    have hlt := ha.lt k hk
    rcases ho with h | h
    · rw [h] at hk; exact ⟨hy k (h4 k hk).1, (h4 k hk).2⟩
    · rw [h] at hk; injection hk with hk; subst hk; exact ⟨hy2 _ hn hlt, by omega⟩
theorem Arr.set {w : World} {e : TypeId} {sz b o n cap : Nat} {xs : List Value} (h : Arr w e sz (.slice (some ⟨b, o, none⟩) n cap) xs) (i : Nat) (hi : i < xs.length) (u : Value) : Arr (w.setCell ⟨b, o + i, none⟩ u) e sz (.slice (some ⟨b, o, none⟩) n cap) (xs.set i u) := by
  rcases h with ⟨h1, _⟩ | ⟨b', o', n', cap', cur, f, h1, r1, r2, r3, r4, r5, r6, r7⟩
  · injection h1 with h1; cases h1
  · injection h1 with h1 h2 h3; injection h1 with h1; injection h1 with h1 h1'; subst h1 h1' h2 h3
    refine .inr ⟨b, o, _, _, cur.setIfInBounds (o + i) u, f, rfl, r1, r2, heap_setCell_at r3 u, by simpa using r4, r5, by simpa using r6, ?_⟩
    rw [← r7, Array.toList_setIfInBounds, List.drop_set, if_neg (by omega), Nat.add_sub_cancel_left, List.take_set]
theorem Its.merge {W0 : Nat} {w w2 : World} {X Y : Nat → Prop} {ob oo n cap : Nat} {v3 vy : Value} {l : List It} {y : It} {b : List UInt8} {ys : List (It × Value)} (h1 : ys.map (·.1) = l)
    (h2 : Arr w 35 5 (.slice (some ⟨ob, oo, none⟩) n cap) (itsC (ys ++ [(y, vy)])))
    (h3 : ∀ x ∈ ys ++ [(y, vy)], Arr w 5 1 x.2 (bvs x.1.bytes) ∧ ∀ k, x.2.ownBlock = some k → X k ∧ (Value.slice (some ⟨ob, oo, none⟩) n cap).ownBlock ≠ some k) (h4 : ∀ k, (Value.slice (some ⟨ob, oo, none⟩) n cap).ownBlock = some k → X k ∧ W0 ≤ k)
    (hX : Ins w X) (c : Chg (fun _ => False) w w2) (ha : Arr w2 5 1 v3 (bvs (y.bytes ++ b))) (hv : ∀ k, v3.ownBlock = some k → w.heap.size ≤ k) (hy : ∀ k, X k → Y k) (hy2 : ∀ k, w.heap.size ≤ k → k < w2.heap.size → Y k) :
    Its W0 (w2.setCell ⟨ob, oo + (ys.length * 5 + 2), none⟩ v3) Y (.slice (some ⟨ob, oo, none⟩) n cap) (l ++ [{ y with bytes := y.bytes ++ b }]) := by
  have hob : X ob := (h4 ob rfl).1
  have hobs := hX ob hob
  have c2 : Chg (· = ob) w (w2.setCell ⟨ob, oo + (ys.length * 5 + 2), none⟩ v3) := Chg.set (S := (· = ob)) (p := ⟨ob, oo + (ys.length * 5 + 2), none⟩) (c.mono (fun _ _ h => h.elim)) (fun _ => rfl) v3
  have c3 : Chg (· = ob) w2 (w2.setCell ⟨ob, oo + (ys.length * 5 + 2), none⟩ v3) := Chg.set (S := (· = ob)) (p := ⟨ob, oo + (ys.length * 5 + 2), none⟩) (Chg.refl _ w2) (fun _ => rfl) v3
  have hnx : ∀ x ∈ ys ++ [(y, vy)], ∀ k, x.2.ownBlock = some k → k ≠ ob := fun x hx k hk e => ((h3 x hx).2 k hk).2 (by rw [e]; rfl)
  have hv3 : ∀ k, v3.ownBlock = some k → k ≠ ob := fun k hk e => by have := hv k hk; omega
  refine ⟨⟨ys ++ [({ y with bytes := y.bytes ++ b }, v3)], by simp [h1], ?_, ?_⟩, fun k hk => ⟨hy k (h4 k hk).1, (h4 k hk).2⟩⟩
  · have hl : ys.length * 5 + 2 < (itsC (ys ++ [(y, vy)])).length := by rw [itsC_length]; simp; omega
    have := (h2.kept c (fun _ _ h => h)).set (ys.length * 5 + 2) hl v3
    rw [itsC_append, List.set_append_right _ _ (by rw [itsC_length]; omega), itsC_length, Nat.add_sub_cancel_left] at this
    rw [itsC_append]
    exact this
  · intro x hx
    rcases List.mem_append.1 hx with h | h
    · have hm : x ∈ ys ++ [(y, vy)] := List.mem_append_left _ h
      exact ⟨(h3 x hm).1.kept c2 (fun k hk e => hnx x hm k hk e), fun k hk => ⟨hy k ((h3 x hm).2 k hk).1, ((h3 x hm).2 k hk).2⟩⟩
    · simp at h; subst h
      refine ⟨ha.kept c3 (fun k hk e => hv3 k hk e), fun k hk => ⟨hy2 k (hv k hk) (ha.lt k hk), fun e => ?_⟩⟩
      simp [Value.ownBlock] at e
      exact hv3 k hk e.symm

def ZeRel (w0 : World) (cs : List UInt8) (g : Nat) (iv : Value) (wr : World) : Prop := ∃ j : Nat, j + g = cs.length ∧ iv = .int .i64 j ∧ (∀ i (h : i < cs.length), i < j → cs[i] = 0) ∧ wr = w0
def allZero (cs : List UInt8) : Bool := cs.all (· == 0)
theorem zeros_calls (w : World) (ao : Option Addr) (cap : Nat) (cs : List UInt8) (h : Rd w (.slice ao cs.length cap) 1 (bvs cs)) (hl : cs.length ≤ 1099511627776) :
    Calls Try.prog 22 #[.slice ao cs.length cap] w fun r w' => r = .returned (.bool (allZero cs)) ∧ w = w' := by
  have H := Lib.hid h
  clear h
  go_enter Try.func22, Try.ntmps22
  go_wp2_with fail
  go_loopg [7] cs.length (ZeRel w cs)
  case atStart => exact ⟨0, by omega, rfl, fun i h hi => by omega, rfl⟩
  case round =>
    obtain ⟨j, hj, rfl, hz, rfl⟩ := hrel
    by_cases hg : gk = 0
    · have hlt : ¬ (j : Int) < cs.length := by omega
      have ha : allZero cs = true := by
        unfold allZero; rw [List.all_eq_true]
        intro c hc
        obtain ⟨i, hi, rfl⟩ := List.getElem_of_mem hc
        simp [hz i hi (by omega)]
      have HA := Lib.hid ha
      clear hz ha
      go_wp2
      go_ret
      exact ⟨congrArg (fun b => Ending.returned (.bool b)) HA.out.symm, rfl⟩
    · have hlt : (j : Int) < cs.length := by omega
      have hjl : j < cs.length := by omega
      obtain ⟨bl, o, rfl, hc⟩ := H.out.byte j hjl
      have hnext : cs[j] = 0 → ∀ i (h : i < cs.length), i < j + 1 → cs[i] = 0 := fun e i h hi => by
        by_cases e2 : i = j
        · subst e2; exact e
        · exact hz i h (by omega)
      have hno : cs[j] ≠ 0 → allZero cs = false := fun e => by
        unfold allZero; rw [List.all_eq_false]; exact ⟨cs[j], List.getElem_mem hjl, by simpa using e⟩
      have HN := Lib.hid hnext
      have HO := Lib.hid hno
      generalize cs[j] = c at *
      clear hz hnext hno
      by_cases h0 : c = 0
      · subst h0
        have hlt2 : ¬ (0 : Int) < ((0 : UInt8).toNat : Int) := by decide
        go_wp2
        go_roundg (gk - 1)
        case measure => omega
        case rel => exact ⟨j + 1, by omega, by go_num, HN.out (by first | trivial | rfl), rfl⟩
      · have hlt2 : (0 : Int) < (c.toNat : Int) := by
          have : c.toNat ≠ 0 := fun e => h0 (UInt8.toNat_inj.1 (by simpa using e))
          omega
        have HA := Lib.hid (HO.out h0)
        clear h0
        go_wp2
        go_ret
        exact ⟨congrArg (fun b => Ending.returned (.bool b)) HA.out.symm, rfl⟩

def withinN (n : Int) : Nat := (n.tmod 16777216).natAbs + 1
theorem withinN_le (n : Int) : 1 ≤ withinN n ∧ withinN n ≤ 16777216 := by
  unfold withinN
  have h1 := Int.tmod_lt_of_pos n (show (0 : Int) < 16777216 by decide)
  have h2 := Int.lt_tmod_of_pos n (show (0 : Int) < 16777216 by decide)
  omega
theorem within_calls (w : World) (n : Int) : Calls Try.prog 43 #[.int .i64 n] w fun r w' => r = .returned (.int .i64 (withinN n)) ∧ w = w' := by
  have h1 := Int.tmod_lt_of_pos n (show (0 : Int) < 16777216 by decide)
  have h2 := Int.lt_tmod_of_pos n (show (0 : Int) < 16777216 by decide)
  have HE : Hid (((withinN n : Nat) : Int) = (if n.tmod 16777216 < 0 then - n.tmod 16777216 else n.tmod 16777216) + 1) := Lib.hid (by unfold withinN; split <;> omega)
  go_enter Try.func43, Try.ntmps43
  by_cases h : n.tmod 16777216 < 0
  · have e := HE.out
    rw [if_pos h] at e
    have HE2 := Lib.hid e
    clear e HE
    go_wp2
    go_ret
    exact ⟨congrArg (fun b => Ending.returned (.int .i64 b)) HE2.out.symm, rfl⟩
  · have e := HE.out
    rw [if_neg h] at e
    have HE2 := Lib.hid e
    clear e HE
    go_wp2
    go_ret
    exact ⟨congrArg (fun b => Ending.returned (.int .i64 b)) HE2.out.symm, rfl⟩
end Go.Proofs.Ytnjloldhmjadoaa
