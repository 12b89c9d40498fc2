/- The law LineAlone, its bytes at most 2^20 together. -/
import Derived.Test.YtccmickmcpfapaaLnL4
namespace Go.Proofs.Ytccmickmcpfapaa
open Go Go.RowKit Ln

theorem Arr.fresh {w : World} {b : Nat} (hb : b = w.heap.size) (C : Array Value) (e : TypeId) (sz n : Nat) (xs : List Value) (hC : C.toList = xs) (hn : xs.length = n * sz) (hm : n ≤ maxLen) :
    Arr (w.alloc (.cells C e)) e sz (.slice (some ⟨b, 0, none⟩) n n) xs := by
  subst hb hC
  refine .inr ⟨_, 0, n, n, C, (0, 0), rfl, Nat.le_refl _, hm, heap_alloc_at _ _, by rw [Array.length_toList] at hn; omega, fun i _ _ h => by simp at h, hn, ?_⟩
  rw [List.drop_zero, List.take_of_length_le (by omega)]
theorem Rd.none (w : World) : Rd w (.slice none 0 0) 1 (([] : List Int).map (Value.int .i64)) := (Arr.nil w 0 1).rd
theorem Chg.app {W w w' : World} {v : Value} (h : Chg (fun k => W.heap.size ≤ k) W w) (hv : ∀ k, v.ownBlock = some k → W.heap.size ≤ k) (hc : Chg (fun k => some k = v.ownBlock) w w') : Chg (fun k => W.heap.size ≤ k) W w' :=
  h.trans hc (fun i _ e => hv i e.symm)

/-- Behind a line's end a run begins anew. -/
theorem run_xcrlf (most : Int) : ∀ (l : List UInt8) (s : LS) (k : Nat), (run most s k (l ++ [120, 13, 10])).2 = (LS.new, 0) ∧ 1 ≤ (run most s k (l ++ [120, 13, 10])).1.length
  | [], s, k => by
    have h1 : s.ends 120 = false := by simp [LS.ends]
    have hc : (s.next most 120).cr = false := by
      unfold LS.next
      simp only
      have key : ∀ s1 : LS, (if (120 : UInt8) = 13 ∨ ({ s1 with cr := (120 : UInt8) == 13 } : LS).why ≠ 0 then ({ s1 with cr := (120 : UInt8) == 13 } : LS) else if (({ s1 with cr := (120 : UInt8) == 13 } : LS).text.length : Int) = most then ({ s1 with cr := (120 : UInt8) == 13 } : LS).spoil 131 else { ({ s1 with cr := (120 : UInt8) == 13 } : LS) with text := ({ s1 with cr := (120 : UInt8) == 13 } : LS).text ++ [120] }).cr = false := by
        intro s1
        split
        · rfl
        · split <;> rfl
      exact key _
    have h2 : (s.next most 120).ends 13 = false := by simp [LS.ends]
    have h3 : ((s.next most 120).next most 13).ends 10 = true := by
      rw [next_cr hc rfl]; rfl
    simp [run, h1, h2, h3]
  | c :: r, s, k => by
    simp only [List.cons_append, run]
    split
    · have := run_xcrlf most r LS.new 0
      exact ⟨this.1, by simp⟩
    · exact run_xcrlf most r _ _
theorem run_alone (most : Int) (bad b : List UInt8) : run most LS.new 0 ((bad ++ [120, 13, 10]) ++ b) = ((run most LS.new 0 (bad ++ [120, 13, 10])).1 ++ (run most LS.new 0 b).1, (run most LS.new 0 b).2) := by
  rw [run_append]
  obtain ⟨h, _⟩ := run_xcrlf most bad LS.new 0
  rw [h]

set_option maxHeartbeats 1000000 in
set_option maxRecDepth 100000 in
theorem alone_walk (W : World) (most : Int) (hmo : -9223372036854775808 ≤ most ∧ most ≤ 9223372036854775807) (bv cv : Value) (bad bs : List UInt8) (hbad : Rd W bv 1 (bvs bad)) (hbs : Rd W cv 1 (bvs bs))
    (hlen : bad.length + bs.length + 3 ≤ 1048576) :
    Calls Try.prog 5 #[.int .i64 most, bv, cv] W fun e w' => e = .returned (.bool true) ∧ Below W.heap.size W w' := by
  obtain ⟨i0, hi0, hx0, hz0, hb0⟩ := info_parts Try.infoByte
  have hbr := bnd_range most hmo.1 hmo.2
  obtain ⟨m, hm⟩ : ∃ m, m = bnd most := ⟨_, rfl⟩
  rw [← hm] at hbr
  obtain ⟨hm0, hm1⟩ := hbr
  have HM := Lib.hid hm
  obtain ⟨ah, hah⟩ : ∃ ah, ah = bad ++ [120, 13, 10] := ⟨_, rfl⟩
  obtain ⟨al, hal⟩ : ∃ al, al = ah ++ bs := ⟨_, rfl⟩
  have HAH := Lib.hid hah
  have HAL := Lib.hid hal
  have hahl := Lib.hid (show ah.length = bad.length + 3 by rw [hah]; simp)
  have hall := Lib.hid (show al.length = bad.length + 3 + bs.length by rw [hal, hah]; simp; omega)
  clear hah hal
  obtain ⟨ba, bn, bc, rfl, _⟩ := hbad.shape
  obtain rfl : bad.length = bn := hbad.len.symm
  obtain ⟨ca, cn, cc, rfl, _⟩ := hbs.shape
  obtain rfl : bs.length = cn := hbs.len.symm
  have HB := Lib.hid hbad
  have HS := Lib.hid hbs
  clear hm hbad hbs hmo
  go_enter Try.func5, Try.ntmps5
  go_wp2_with fail
  refine (line_wakes _).mono ?_
  rintro e w1 ⟨rfl, hc1⟩
  have U1 := Lib.hid (hc1.mono (T := fun k => W.heap.size ≤ k) (fun _ _ h => h.elim))
  have z1 := hc1.size
  clear hc1
  go_wp2_with fail
  refine (line_bound _ _).mono ?_
  rintro e w1 ⟨rfl, rfl⟩
  rw [← HM.out]
  have HR1 := Lib.hid (HB.out.kept U1.out (fun hx k hk h => by have := HB.out.lt hx k hk; omega))
  go_wp2_with (at_builtin; refine wpList_append_arr _ rfl (.tmp 22) (.tmp 23) 22 22 rfl 5 i0 (.int .u8 0) 1 1 Try.underlying22 hi0 hx0 hz0 hb0 rfl (by decide) _ [] rfl (Arr.fresh (by simp) _ _ 1 0 [] rfl (by simp) (by simp)) _ rfl bad.length (bvs bad) ((HR1.out.kept ((Chg.refl (fun _ => False) _).alloc _) (fun _ _ _ h => h)).src (bvs_one _) Try.underlying22) (by simp; unfold maxLen; omega) (by simp; omega) ?s4)
  case s4 =>
  intro v1 w2 ha1 hc1 ho1
  have V1 : Hid (∀ k, v1.ownBlock = some k → W.heap.size ≤ k) := Lib.hid (fun k hk => by
    rcases ho1 with e | e
    · rw [e] at hk; simp [Value.ownBlock] at hk; omega
    · rw [e] at hk; injection hk with hk; omega)
  have U2 := Lib.hid ((U1.out.alloc _).app (fun k hk => by simp [Value.ownBlock] at hk; omega) hc1)
  have A1 := Lib.hid ha1
  clear ha1 hc1 ho1
  go_wp2_with (at_builtin; refine wpList_append_arr _ rfl (.tmp 24) (.tmp 25) 22 22 rfl 5 i0 (.int .u8 0) 1 1 Try.underlying22 hi0 hx0 hz0 hb0 rfl (by decide) _ _ rfl (A1.out.alloc _) _ rfl 3 (bvs [120, 13, 10]) ((Rd.fresh' _ _ (by simp) _ _ _ _ _ [120, 13, 10] (by rfl) (by rfl) (by decide) (by decide)).src (bvs_one _) Try.underlying22) (by simp [bvs_length]; unfold maxLen; omega) (by simp [bvs_length]; omega) ?s5)
  case s5 =>
  intro v2 w3 ha2 hc2 ho2
  have V2 : Hid (∀ k, v2.ownBlock = some k → W.heap.size ≤ k) := Lib.hid (fun k hk => by
    rcases ho2 with e | e
    · rw [e] at hk; exact V1.out k hk
    · rw [e] at hk; injection hk with hk; have := U2.out.size; omega)
  have U3 := Lib.hid ((U2.out.alloc _).app V1.out hc2)
  rw [← bvs_append, ← HAH.out] at ha2
  have A2 := Lib.hid ha2
  obtain ⟨a2, n2, p2, rfl, hn2, _⟩ := ha2.shape
  clear ha2 hc2 ho2
  go_wp2_with fail
  refine (line_all _ m hm0 hm1 _ _ ah [] A2.out.rd (Rd.none _) (by have := hahl.out; omega) (by simp)).mono ?_
  rintro e w4 ⟨x1, rfl, hx1, hxo1, hc4⟩
  have X1 := Lib.hid hx1
  have U4 := Lib.hid (U3.out.trans hc4 (fun i _ h => by have := U3.out.size; omega))
  have A4 := Lib.hid (A2.out.kept hc4 (fun k hk h => by have := A2.out.lt k hk; omega))
  obtain ⟨xa, xn, xp, rfl, hxn, _⟩ := hx1.shape
  clear hx1 hxo1 hc4
  go_wp2_with (at_builtin; refine wpList_append_arr _ rfl (.tmp 36) (.tmp 37) 22 22 rfl 5 i0 (.int .u8 0) 1 1 Try.underlying22 hi0 hx0 hz0 hb0 rfl (by decide) _ [] rfl (Arr.fresh (by simp) _ _ 1 0 [] rfl (by simp) (by simp)) _ rfl n2 (bvs ah) ((A4.out.alloc _).rd.src (bvs_one _) Try.underlying22) (by have := hn2; have h3 := hahl.out; simp [bvs_length] at this ⊢; unfold maxLen; omega) (by have := hn2; have h3 := hahl.out; simp [bvs_length] at this ⊢; omega) ?s6)
  case s6 =>
  intro v3 w5 ha3 hc5 ho3
  have V3 : Hid (∀ k, v3.ownBlock = some k → w4.heap.size ≤ k) := Lib.hid (fun k hk => by
    rcases ho3 with e | e
    · rw [e] at hk; simp [Value.ownBlock] at hk; omega
    · rw [e] at hk; injection hk with hk; omega)
  have U5 := Lib.hid ((U4.out.alloc _).app (fun k hk => by simp [Value.ownBlock] at hk; have := U4.out.size; omega) hc5)
  have A3 := Lib.hid ha3
  have X1' := Lib.hid ((X1.out.alloc (.cells #[] 5)).kept hc5 (fun k hk h => by
    simp [Value.ownBlock] at h
    have := X1.out.lt k hk; omega))
  have HS5 := Lib.hid (HS.out.kept U5.out (fun hx k hk h => by have := HS.out.lt hx k hk; omega))
  clear ha3 hc5 ho3
  go_wp2_with (at_builtin; refine wpList_append_arr _ rfl (.tmp 38) (.tmp 39) 22 22 rfl 5 i0 (.int .u8 0) 1 1 Try.underlying22 hi0 hx0 hz0 hb0 rfl (by decide) _ _ rfl A3.out _ rfl bs.length (bvs bs) (HS5.out.src (bvs_one _) Try.underlying22) (by have h3 := hahl.out; simp [bvs_length]; unfold maxLen; omega) (by have h3 := hahl.out; simp [bvs_length]; omega) ?s7)
  case s7 =>
  intro v4 w6 ha4 hc6 ho4 _
  have U6 := Lib.hid (U5.out.app (fun k hk => Nat.le_trans U4.out.size (V3.out k hk)) hc6)
  rw [← bvs_append, ← HAL.out] at ha4
  have A5 := Lib.hid ha4
  have X1s := Lib.hid (X1'.out.kept hc6 (fun k hk h => by have := V3.out k h.symm; have := X1.out.lt k hk; omega))
  obtain ⟨a4, n4, p4, rfl, hn4, _⟩ := ha4.shape
  clear ha4 hc6 ho4
  go_wp2_with fail
  refine (line_all _ m hm0 hm1 _ _ al [] A5.out.rd (Rd.none _) (by have := hall.out; omega) (by simp)).mono ?_
  rintro e w7 ⟨y1, rfl, hy1, hyo1, hc7⟩
  have Y1 := Lib.hid hy1
  have U7 := Lib.hid (U6.out.trans hc7 (fun i _ h => by have := U6.out.size; omega))
  have X17 := Lib.hid (X1s.out.kept hc7 (fun k hk h => by have := X1s.out.lt k hk; omega))
  have HS7 := Lib.hid (HS.out.kept U7.out (fun hx k hk h => by have := HS.out.lt hx k hk; omega))
  obtain ⟨ya, yn, yp, rfl, hyn, _⟩ := hy1.shape
  clear hy1 hyo1 hc7
  go_wp2_with fail
  refine (line_all _ m hm0 hm1 _ _ bs [] HS7.out (Rd.none _) (by omega) (by simp)).mono ?_
  rintro e w8 ⟨z1, rfl, hz1, hzo1, hc8⟩
  have Z1 := Lib.hid hz1
  have U8 := Lib.hid (U7.out.trans hc8 (fun i _ h => by have := U7.out.size; omega))
  have X18 := Lib.hid (X17.out.kept hc8 (fun k hk h => by have := X17.out.lt k hk; omega))
  have Y18 := Lib.hid (Y1.out.kept hc8 (fun k hk h => by have := Y1.out.lt k hk; omega))
  obtain ⟨za, zn, zp, rfl, hzn, _⟩ := hz1.shape
  have e1 := run_alone m bad bs
  have e2 := run_xcrlf m bad LS.new 0
  rw [← HAH.out] at e1 e2
  rw [← HAL.out] at e1
  rw [e1] at hyn
  have e1' := Lib.hid e1
  clear hz1 hzo1 hc8 e1
  have hxl := (run_since m ah LS.new 0).2
  have hzl := (run_since m bs LS.new 0).2
  obtain ⟨X, hX⟩ : ∃ X, X = (run m LS.new 0 ah).1 := ⟨_, rfl⟩
  obtain ⟨Z, hZ⟩ : ∃ Z, Z = (run m LS.new 0 bs).1 := ⟨_, rfl⟩
  have hX1 := e2.2
  have Y2 : Hid (Arr w8 31 4 (.slice ya yn yp) (toldsV (X ++ Z))) := Lib.hid (by rw [hX, hZ]; have := Y18.out; rw [e1'.out] at this; exact this)
  have X2 : Hid (Arr w8 31 4 (.slice xa xn xp) (toldsV X)) := Lib.hid (by rw [hX]; exact X18.out)
  have Z2 : Hid (Arr w8 31 4 (.slice za zn zp) (toldsV Z)) := Lib.hid (by rw [hZ]; exact Z1.out)
  rw [← hX] at hxn hyn hX1 hxl
  rw [← hZ] at hzn hyn hzl
  rw [e1'.out]
  generalize (run m LS.new 0 bs).2.2 = since at *
  rw [toldsV_length] at hxn hyn hzn
  obtain rfl : xn = X.length := by omega
  obtain rfl : zn = Z.length := by omega
  obtain rfl : yn = X.length + Z.length := by rw [List.length_append] at hyn; omega
  have hxl' : X.length ≤ 1048576 := by have := hahl.out; omega
  have hzl' : Z.length ≤ 1048576 := by omega
  clear hxn hyn hzn e2 hX hZ hxl hzl X18 Y18 Z1 hn2 hn4
  go_wp2_with fail
  go_loopg [84] (X.length + Z.length) (LIdx w8 (X.length + Z.length))
  case atStart => exact ⟨0, by omega, rfl, Chg.refl _ _⟩
  case round =>
    obtain ⟨j, hj, rfl, hch⟩ := hrel
    have HC := Lib.hid hch
    clear hch
    by_cases hg : gk = 0
    · have hge : ¬ (j : Int) < (X.length : Int) + Z.length := by omega
      go_wp2
      go_ret
      exact ⟨rfl, (U8.out.trans HC.out (fun _ _ h => h.elim)).below (Nat.le_refl _) (fun k hk => by omega)⟩
    · have hlt : (j : Int) < (X.length : Int) + Z.length := by omega
      have hjl : j < (X ++ Z).length := by rw [List.length_append]; omega
      obtain ⟨b1, o1, rfl, x0, x1, x2, x3⟩ := told_at (Y2.out.rd.kept HC.out (fun _ _ _ h => h)) j hjl
      by_cases hjx : j < X.length
      · obtain ⟨b2, o2, rfl, y0, y1, y2, y3⟩ := told_at (X2.out.rd.kept HC.out (fun _ _ _ h => h)) j hjx
        have hjx' : (j : Int) < X.length := by omega
        have hjd : decide ((j : Int) < X.length) = true := by simpa using hjx
        have hje : decide ((X.length : Int) ≤ j) = false := by simp; omega
        have hjz : ¬ (X.length : Int) ≤ j := by omega
        have hjy : decide ((j : Int) ≥ X.length) = false := hje
        have hjw : decide (X.length ≤ j) = false := by simp; omega
        have hjv : decide (j < X.length) = true := by simp; omega
        rw [List.getElem_append_left hjx] at x0 x1 x2 x3
        generalize X[j] = it at *
        go_wp2
        go_quiet (fail)
        go_wp2
        go_roundg (gk - 1)
        case measure => omega
        case rel => exact ⟨j + 1, by omega, by go_num, HC.out.drewN _⟩
      · obtain ⟨b2, o2, rfl, y0, y1, y2, y3⟩ := told_at (Z2.out.rd.kept HC.out (fun _ _ _ h => h)) (j - X.length) (by omega)
        have hjx' : ¬ (j : Int) < X.length := by omega
        have hjd : decide ((j : Int) < X.length) = false := by simpa using hjx
        have hje : decide ((X.length : Int) ≤ j) = true := by simp; omega
        have hjz : (X.length : Int) ≤ j := by omega
        have hjy : decide ((j : Int) ≥ X.length) = true := hje
        have hjw : decide (X.length ≤ j) = true := by simp; omega
        have hjv : decide (j < X.length) = false := by simp; omega
        rw [List.getElem_append_right (by omega)] at x0 x1 x2 x3
        generalize Z[j - X.length] = it at *
        go_wp2
        go_quiet (fail)
        go_wp2
        go_roundg (gk - 1)
        case measure => omega
        case rel => exact ⟨j + 1, by omega, by go_num, HC.out.drewN _⟩

end Go.Proofs.Ytccmickmcpfapaa
