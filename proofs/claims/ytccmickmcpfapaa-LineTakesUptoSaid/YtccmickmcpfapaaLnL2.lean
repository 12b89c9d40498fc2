/- The law LineHeld. Its argument is of any size. -/
import Derived.Test.YtccmickmcpfapaaLnL1
import Derived.Test.YtccmickmcpfapaaArgs
import Derived.Deep.LoopGhost
namespace Go.Proofs.Ytccmickmcpfapaa
open Go Go.RowKit Ln

/-- A liner among the call's own blocks, from B on. -/
def Own (W wr : World) (b : Nat) (m : Int) (s : LS) : Prop := ∃ v, LinerAt wr b m v s ∧ (∀ k, v.ownBlock = some k → W.heap.size ≤ k) ∧ W.heap.size ≤ b ∧ Chg (fun k => W.heap.size ≤ k) W wr ∧ s.ok m

theorem Own.alloc {W wr : World} {b : Nat} {m : Int} {s : LS} (h : Own W wr b m s) (o : Obj) : Own W (wr.alloc o) b m s := by
  obtain ⟨v, h1, h2, h3, h4, h5⟩ := h
  exact ⟨v, h1.alloc o, h2, h3, h4.alloc o, h5⟩
theorem Own.size {W wr : World} {b : Nat} {m : Int} {s : LS} (h : Own W wr b m s) : W.heap.size ≤ wr.heap.size := by
  obtain ⟨v, h1, h2, h3, h4, h5⟩ := h
  exact h4.size

/-- Blocks whose elements are neither liners nor bytes stay. -/
def Others (w w' : World) : Prop := ∀ (k : Nat) (c : Array Value) (e : TypeId) (f : Nat × Nat), w.heap[k]? = some (Obj.cells c e f) → e ≠ 57 → e ≠ 5 → w'.heap[k]? = some (Obj.cells c e f)
theorem Others.arr {w w' : World} (h : Others w w') {e : TypeId} (h1 : e ≠ 57) (h2 : e ≠ 5) {sz : Nat} {v : Value} {xs : List Value} (ha : Arr w e sz v xs) : Arr w' e sz v xs := by
  rcases ha with h0 | ⟨b, o, n, cap, cur, f, rfl, r1, r2, r3, r⟩
  · exact .inl h0
  · exact .inr ⟨b, o, n, cap, cur, f, rfl, r1, r2, h _ _ _ _ r3 h1 h2, r⟩
/-- Appending to other memory of the call's own leaves the liner. -/
theorem Own.other {W wr w' : World} {b : Nat} {m : Int} {s : LS} (h : Own W wr b m s) {e : TypeId} (h1 : e ≠ 57) (h2 : e ≠ 5) {sz : Nat} {v : Value} {xs : List Value} (ha : Arr wr e sz v xs) (hv : ∀ k, v.ownBlock = some k → W.heap.size ≤ k) (hc : Chg (fun k => some k = v.ownBlock) wr w') : Own W w' b m s := by
  obtain ⟨vt, g1, g2, g3, g4, g5⟩ := h
  have hob : ∀ k, v.ownBlock = some k → ∃ (c : Array Value) (f : Nat × Nat), wr.heap[k]? = some (Obj.cells c e f) := by
    intro k hk
    rcases ha with ⟨rfl, _⟩ | ⟨b', o, n, cap, cur, f, rfl, r1, r2, r3, r⟩
    · simp [Value.ownBlock] at hk
    · simp [Value.ownBlock] at hk; subst hk; exact ⟨_, _, r3⟩
  refine ⟨vt, g1.kept hc (fun hk => ?_) (fun k hk hk2 => ?_), g2, g3, g4.trans hc (fun i _ hT => hv i hT.symm), g5⟩
  · obtain ⟨c, f, hx⟩ := hob _ hk.symm
    rw [g1.blk] at hx; simp at hx; exact h1 hx.2.1.symm
  · obtain ⟨c, f, hx⟩ := hob _ hk2.symm
    rcases g1.arr with ⟨rfl, _⟩ | ⟨b', o, n, cap, cur, f', rfl, r1, r2, r3, r⟩
    · simp [Value.ownBlock] at hk
    · simp [Value.ownBlock] at hk; subst hk
      rw [r3] at hx; simp at hx; exact h2 hx.2.1.symm

/-- Take of an argument's bytes. -/
theorem own_take {W wr : World} {b : Nat} {m : Int} {s : LS} (h : Own W wr b m s) (hm0 : 1 ≤ m) (hm1 : m ≤ 16777216) (bv : Value) (bs : List UInt8) (hbs : Rd W bv 1 (bvs bs)) :
    Calls Try.prog 16 #[.pointer (some ⟨b, 0, none⟩), bv] wr fun r w' => r = .returned (.tuple #[.int .i64 (take m s bs).1, itmV (take m s bs).2.1]) ∧ Own W w' b m (take m s bs).2.2 ∧ Others wr w' := by
  obtain ⟨v, h1, h2, h3, h4, h5⟩ := h
  refine (line_take wr b v m s h1 hm0 hm1 h5 bv bs (hbs.kept h4 (fun hx k hk => ?_)) (fun hx k hk => ?_)).mono ?_
  · have := hbs.lt hx k hk; omega
  · have := hbs.lt (bvs_ne.2 hx) k hk
    exact ⟨by omega, fun e => by have := h2 k e; omega⟩
  · rintro e w' ⟨rfl, v', g1, g2, g3⟩
    refine ⟨rfl, ⟨v', g1, g2.up h4.size h2, h3, h4.trans g3 (fun i hi hT => ?_), take_ok (by omega) bs s h5⟩, fun k c e f hk he1 he2 => g3.obj hk (fun hT => ?_)⟩
    · rcases hT with e | e
      · omega
      · exact h2 i e.symm
    · rcases hT with e | e
      · subst e; rw [h1.blk] at hk; simp at hk; exact he1 hk.2.1.symm
      · rcases h1.arr with ⟨rfl, _⟩ | ⟨b', o, n, cap, cur, f', rfl, r1, r2, r3, r⟩
        · simp [Value.ownBlock] at e
        · simp [Value.ownBlock] at e; subst e; rw [r3] at hk; simp at hk; exact he2 hk.2.1.symm

theorem Try.elemBytes : Try.prog.elem 22 = 5 := by kernel_rfl
def heldN (s : LS) : Int := s.text.length + if s.cr then 1 else 0
theorem heldN_range {m : Int} {s : LS} (h : s.ok m) : 0 ≤ heldN s ∧ heldN s ≤ m + 1 := by
  unfold heldN; unfold LS.ok at h; split <;> omega
theorem heldN_new : heldN LS.new = 0 := by simp [heldN, LS.new]
theorem own_held {W wr : World} {b : Nat} {m : Int} {s : LS} (h : Own W wr b m s) (hm1 : m ≤ 16777216) :
    Calls Try.prog 19 #[.pointer (some ⟨b, 0, none⟩)] wr fun r w' => r = .returned (.int .i64 (heldN s)) ∧ wr = w' := by
  obtain ⟨v, h1, h2, h3, h4, h5⟩ := h
  exact line_held wr b v m s h1 hm1 h5

/-- The outer loop's head: j rounds are done. -/
def HOut (W : World) (b : Nat) (m L : Int) (k : Nat) (i : Value) (wr : World) : Prop := ∃ (j : Int) (s : LS), i = .int .i64 j ∧ 0 ≤ j ∧ j ≤ L ∧ (L - j).toNat ≤ k ∧ Own W wr b m s
/-- The inner loop's head: l is what is left. -/
def HIn (W : World) (b : Nat) (m : Int) (k : Nat) (r : Value) (wr : World) : Prop := ∃ (l : List UInt8) (ao : Option Addr) (n cap : Nat) (s : LS), r = .slice ao n cap ∧ Rd W (.slice ao n cap) 1 (bvs l) ∧ l.length ≤ k ∧ Own W wr b m s

set_option maxHeartbeats 1000000 in
set_option maxRecDepth 100000 in
theorem held_walk (W : World) (most times : Int) (hmo : -9223372036854775808 ≤ most ∧ most ≤ 9223372036854775807) (bv : Value) (l0 : List UInt8) (hrd : Rd W bv 1 (bvs l0)) :
    Calls Try.prog 7 #[.int .i64 most, bv, .int .i64 times] W fun e w' => e = .returned (.bool true) ∧ Below W.heap.size W w' := by
  have hbr := bnd_range most hmo.1 hmo.2
  obtain ⟨m, hm⟩ : ∃ m, m = bnd most := ⟨_, rfl⟩
  rw [← hm] at hbr
  obtain ⟨hm1, hm2⟩ := hbr
  have HM := Lib.hid hm
  obtain ⟨i0, hi0, _, hz0, _⟩ := info_parts Try.infoByte
  have HRD := Lib.hid hrd
  clear hm hrd hmo
  have h50 : times.tmod 50 ≤ 49 := by have := Int.tmod_lt_of_pos times (show (0 : Int) < 50 by decide); omega
  go_enter Try.func7, Try.ntmps7
  go_wp2_with fail
  refine (line_wakes _).mono ?_
  rintro e w1 ⟨rfl, hc1⟩
  have HC1 := Lib.hid hc1
  clear hc1
  go_wp2_with fail
  refine (line_bound _ _).mono ?_
  rintro e w1 ⟨rfl, rfl⟩
  rw [← HM.out]
  go_wp2_with fail
  refine (line_new _ _ hm1 (by omega)).mono ?_
  rintro e w2 ⟨rfl, h2, hc2⟩
  have hown : Own W w2 w1.heap.size m LS.new := ⟨_, h2, fun k hk => by simp [Value.ownBlock] at hk, HC1.out.size, (HC1.out.mono (fun _ _ h => h.elim)).trans hc2 (fun _ _ h => h.elim), LS.ok_new (by omega)⟩
  have HO := Lib.hid hown
  clear h2 hc2 hown
  go_wp2_with fail
  · have hgt : (1 : Int) ≤ 1 := Int.le_refl _
    go_loopg [26] ((1 : Int).toNat) (HOut W w1.heap.size m (1 : Int))
    case atStart => exact ⟨0, LS.new, rfl, by omega, by omega, by omega, HO.out⟩
    case round =>
      obtain ⟨j, s, rfl, hj0, hj1, hjk, hown⟩ := hrel
      have HO2 := Lib.hid hown
      clear hown
      by_cases hjl : j < (1 : Int)
      · go_wp2_with fail
        obtain ⟨wo, hwo⟩ : ∃ wo : World, wo = wr := ⟨_, rfl⟩
        subst hwo
        obtain ⟨go, hgo⟩ : ∃ go : Nat, go = gk := ⟨_, rfl⟩
        subst hgo
        go_loopg [9] (l0.length) (HIn W w1.heap.size m)
        case atStart =>
          obtain ⟨ao, n, cap, hbv, _⟩ := HRD.out.shape
          exact ⟨l0, ao, n, cap, s, hbv, by rw [← hbv]; exact HRD.out, Nat.le_refl _, HO2.out⟩
        case round =>
          obtain ⟨l, ao, n, cap, s1, rfl, hrd, hlk, hown⟩ := hrel
          obtain rfl : l.length = n := hrd.len.symm
          have HR := Lib.hid hrd
          have HO3 := Lib.hid hown
          clear hown hrd
          by_cases hl0 : l.length = 0
          · have hgt : ¬ (0 : Int) < l.length := by omega
            clear hl0
            go_wp2
            go_roundg (go - 1)
            case measure => omega
            case rel => exact ⟨j + 1, s1, rfl, by omega, by omega, by omega, HO3.out⟩
          · have hgt : (0 : Int) < l.length := by omega
            have HT := Lib.hid hl0
            clear hl0
            go_wp2_with fail
            refine (own_take HO3.out hm1 (by omega) _ l HR.out).mono ?_
            rintro e w3 ⟨rfl, ho, _⟩
            have hn1 := take_pos m l s1 (by rintro rfl; simp at hgt)
            have hn2 := take_le m l s1
            have hnew := take_item_new m l s1
            obtain ⟨ao', n', cap', hsl, hrd'⟩ := HR.out.tail (P := Try.prog) Try.underlying22 Try.elemBytes hi0 hz0 (take m s1 l).1 hn2
            unfold itmV
            generalize (take m s1 l).2.1 = it at *
            generalize (take m s1 l).2.2 = s2 at *
            generalize (take m s1 l).1 = n at *
            have HO4 := Lib.hid ho
            have HR' := Lib.hid hrd'
            obtain ⟨v4, q1, q2, q3, q4, q5⟩ := ho
            have hh := heldN_range q5
            have hsz : w1.heap.size < w3.heap.size := lt_of_block q1.blk
            have HN := Lib.hid hnew
            clear q1 q2 q3 q4 q5 hrd' hnew
            by_cases hk : it.kind = 0
            · have hk' : (it.kind != 0) = false := by simp [hk]
              clear hk
              go_wp2_with (go_at_call 19; refine (own_held (HO4.out.alloc _) (by omega)).mono ?_; rintro e w5 ⟨rfl, rfl⟩)
              go_roundg (gk - 1)
              case measure => omega
              case rel => exact ⟨_, _, _, _, s2, rfl, HR'.out, by rw [List.length_drop]; omega, HO4.out.alloc _⟩
            · have hk' : (it.kind != 0) = true := by simp [hk]
              have h0 : heldN s2 = 0 := by rw [HN.out hk, heldN_new]
              clear hk
              go_wp2_with (go_at_call 19; refine (own_held (HO4.out.alloc _) (by omega)).mono ?_; rintro e w5 ⟨rfl, rfl⟩)
              go_roundg (gk - 1)
              case measure => omega
              case rel => exact ⟨_, _, _, _, s2, rfl, HR'.out, by rw [List.length_drop]; omega, HO4.out.alloc _⟩
      · have hge : (1 : Int) ≤ j := by omega
        clear hjl
        go_wp2
        go_ret
        obtain ⟨v, g1, g2, g3, g4, g5⟩ := HO2.out
        exact ⟨rfl, g4.below (Nat.le_refl _) (fun k hk => by omega)⟩
  · have hgt : 1 ≤ times.tmod 50 := by assumption
    generalize times.tmod 50 = L at *
    go_loopg [26] (L.toNat) (HOut W w1.heap.size m L)
    case atStart => exact ⟨0, LS.new, rfl, by omega, by omega, by omega, HO.out⟩
    case round =>
      obtain ⟨j, s, rfl, hj0, hj1, hjk, hown⟩ := hrel
      have HO2 := Lib.hid hown
      clear hown
      by_cases hjl : j < L
      · go_wp2_with fail
        obtain ⟨wo, hwo⟩ : ∃ wo : World, wo = wr := ⟨_, rfl⟩
        subst hwo
        obtain ⟨go, hgo⟩ : ∃ go : Nat, go = gk := ⟨_, rfl⟩
        subst hgo
        go_loopg [9] (l0.length) (HIn W w1.heap.size m)
        case atStart =>
          obtain ⟨ao, n, cap, hbv, _⟩ := HRD.out.shape
          exact ⟨l0, ao, n, cap, s, hbv, by rw [← hbv]; exact HRD.out, Nat.le_refl _, HO2.out⟩
        case round =>
          obtain ⟨l, ao, n, cap, s1, rfl, hrd, hlk, hown⟩ := hrel
          obtain rfl : l.length = n := hrd.len.symm
          have HR := Lib.hid hrd
          have HO3 := Lib.hid hown
          clear hown hrd
          by_cases hl0 : l.length = 0
          · have hgt : ¬ (0 : Int) < l.length := by omega
            clear hl0
            go_wp2
            go_roundg (go - 1)
            case measure => omega
            case rel => exact ⟨j + 1, s1, rfl, by omega, by omega, by omega, HO3.out⟩
          · have hgt : (0 : Int) < l.length := by omega
            have HT := Lib.hid hl0
            clear hl0
            go_wp2_with fail
            refine (own_take HO3.out hm1 (by omega) _ l HR.out).mono ?_
            rintro e w3 ⟨rfl, ho, _⟩
            have hn1 := take_pos m l s1 (by rintro rfl; simp at hgt)
            have hn2 := take_le m l s1
            have hnew := take_item_new m l s1
            obtain ⟨ao', n', cap', hsl, hrd'⟩ := HR.out.tail (P := Try.prog) Try.underlying22 Try.elemBytes hi0 hz0 (take m s1 l).1 hn2
            unfold itmV
            generalize (take m s1 l).2.1 = it at *
            generalize (take m s1 l).2.2 = s2 at *
            generalize (take m s1 l).1 = n at *
            have HO4 := Lib.hid ho
            have HR' := Lib.hid hrd'
            obtain ⟨v4, q1, q2, q3, q4, q5⟩ := ho
            have hh := heldN_range q5
            have hsz : w1.heap.size < w3.heap.size := lt_of_block q1.blk
            have HN := Lib.hid hnew
            clear q1 q2 q3 q4 q5 hrd' hnew
            by_cases hk : it.kind = 0
            · have hk' : (it.kind != 0) = false := by simp [hk]
              clear hk
              go_wp2_with (go_at_call 19; refine (own_held (HO4.out.alloc _) (by omega)).mono ?_; rintro e w5 ⟨rfl, rfl⟩)
              go_roundg (gk - 1)
              case measure => omega
              case rel => exact ⟨_, _, _, _, s2, rfl, HR'.out, by rw [List.length_drop]; omega, HO4.out.alloc _⟩
            · have hk' : (it.kind != 0) = true := by simp [hk]
              have h0 : heldN s2 = 0 := by rw [HN.out hk, heldN_new]
              clear hk
              go_wp2_with (go_at_call 19; refine (own_held (HO4.out.alloc _) (by omega)).mono ?_; rintro e w5 ⟨rfl, rfl⟩)
              go_roundg (gk - 1)
              case measure => omega
              case rel => exact ⟨_, _, _, _, s2, rfl, HR'.out, by rw [List.length_drop]; omega, HO4.out.alloc _⟩
      · have hge : L ≤ j := by omega
        clear hjl
        go_wp2
        go_ret
        obtain ⟨v, g1, g2, g3, g4, g5⟩ := HO2.out
        exact ⟨rfl, g4.below (Nat.le_refl _) (fun k hk => by omega)⟩

end Go.Proofs.Ytccmickmcpfapaa
