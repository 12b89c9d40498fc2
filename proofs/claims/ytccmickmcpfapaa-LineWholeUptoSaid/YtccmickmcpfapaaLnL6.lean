/- The law LineWhole, its bytes and cuts at most 2^20 each. -/
import Derived.Test.YtccmickmcpfapaaLnL4
import Derived.Test.YtccmickmcpfapaaLnP2
namespace Go.Proofs.Ytccmickmcpfapaa
open Go Go.RowKit Ln

/-- The outer loop's head. -/
def WOut (w2 : World) (m : Int) (bs : List UInt8) (g : Nat) (kv fv iv : Value) (wr : World) : Prop :=
  ∃ k from_ i : Nat, kv = .int .i64 k ∧ fv = .int .i64 from_ ∧ iv = .int .i64 i ∧ k ≤ bs.length ∧ from_ ≤ bs.length + 1 ∧ bs.length + 2 ≤ i + g + 1 ∧ i ≤ bs.length + 1 ∧ WInv m bs k from_ i ∧ Chg (fun _ => False) w2 wr
/-- The inner loop's head. -/
def WBare (sl : List UInt8) (w0 : World) (g : Nat) (bv jv : Value) (wr : World) : Prop :=
  ∃ j : Nat, j + g = sl.length ∧ jv = .int .i64 j ∧ bv = .bool ((sl.take j).any (fun c => c == 13 || c == 10)) ∧ w0 = wr

theorem Ln.WInv.kle {m : Int} {bs : List UInt8} {k from_ i : Nat} (h : WInv m bs k from_ i) : k ≤ bs.length := by
  obtain ⟨d, hd, hl⟩ := h.ran
  have := (run_since m (bs.take from_) LS.new 0).2
  rw [hd, List.length_take] at this
  simp only at this
  omega

theorem bare_step {sl : List UInt8} {S : ByteArray} (hS : S = ⟨sl.toArray⟩) (j : Nat) (hj : j < S.size) (bb : Bool) (hbb : bb = (sl.take j).any (fun c => c == 13 || c == 10)) :
    (bb || ((S[j].toNat : Int) == 13 || (S[j].toNat : Int) == 10)) = (sl.take (j + 1)).any (fun c => c == 13 || c == 10) := by
  subst hS hbb
  have hj' : j < sl.length := by simpa [ByteArray.size] using hj
  rw [List.take_succ_eq_append_getElem hj', List.any_append]
  have e : (⟨sl.toArray⟩ : ByteArray)[j] = sl[j] := rfl
  rw [e, byte_eq13]
  have e10 : ((sl[j].toNat : Int) == 10) = (sl[j] == 10) := by
    by_cases h : sl[j] = 10
    · rw [h]; rfl
    · rw [byte_ne h]; simpa using h
  rw [e10]
  simp

set_option maxHeartbeats 2000000 in
set_option maxRecDepth 100000 in
theorem whole_walk (W : World) (most : Int) (hmo : -9223372036854775808 ≤ most ∧ most ≤ 9223372036854775807) (bv cv : Value) (bs : List UInt8) (cuts : List Int) (hbs : Rd W bv 1 (bvs bs)) (hcs : Rd W cv 1 (cuts.map (Value.int .i64)))
    (hlen : bs.length ≤ 1048576) (hcl : cuts.length ≤ 1048576) :
    Calls Try.prog 4 #[.int .i64 most, bv, cv] W fun e w' => e = .returned (.bool true) ∧ Below W.heap.size W w' := by
  obtain ⟨i0, hi0, hx0, hz0, hb0⟩ := info_parts Try.infoByte
  have hbr := bnd_range most hmo.1 hmo.2
  obtain ⟨m, hm⟩ : ∃ m, m = bnd most := ⟨_, rfl⟩
  rw [← hm] at hbr
  obtain ⟨hm0, hm1⟩ := hbr
  have HM := Lib.hid hm
  obtain ⟨ba, bn, bc, rfl, _⟩ := hbs.shape
  obtain rfl : bs.length = bn := hbs.len.symm
  have HB := Lib.hid hbs
  have HCU := Lib.hid hcs
  clear hm hbs hcs hmo
  go_enter Try.func4, Try.ntmps4
  go_wp2_with fail
  refine (line_wakes _).mono ?_
  rintro e w1 ⟨rfl, hc1⟩
  have HC1 := Lib.hid hc1
  clear hc1
  go_wp2_with fail
  refine (line_bound _ _).mono ?_
  rintro e w1 ⟨rfl, rfl⟩
  rw [← HM.out]
  go_wp2_with fail
  refine (line_all _ m hm0 hm1 _ _ bs cuts (HB.out.kept HC1.out (fun _ _ _ h => h)) (HCU.out.kept HC1.out (fun _ _ _ h => h)) hlen hcl).mono ?_
  rintro e w2 ⟨v1, rfl, ha1, _, hc2⟩
  have HA1 := Lib.hid ha1
  have h1 := HC1.out.mono (T := fun k => W.heap.size ≤ k) (fun _ _ h => h.elim)
  have U2 := Lib.hid (h1.trans hc2 (fun i _ h => by have := HC1.out.size; omega))
  obtain ⟨a1, n1, p1, rfl, hn1, _⟩ := ha1.shape
  obtain ⟨items, hit⟩ : ∃ items, items = (run m LS.new 0 bs).1 := ⟨_, rfl⟩
  obtain ⟨since, hsi⟩ : ∃ since, since = (run m LS.new 0 bs).2.2 := ⟨_, rfl⟩
  rw [← hit] at hn1
  rw [← hsi]
  have hil : items.length ≤ bs.length := by rw [hit]; exact (run_since m bs LS.new 0).2
  have hsl0 : since ≤ bs.length := by rw [hsi]; have := (run_since m bs LS.new 0).1; omega
  have HIT := Lib.hid hit
  have HSI := Lib.hid hsi
  rw [toldsV_length] at hn1
  obtain rfl : n1 = items.length := by omega
  clear ha1 hc2 h1 hit hsi hn1
  go_wp2_with fail
  go_loopg [10, 11, 12] (bs.length + 1) (WOut w2 m bs)
  case atStart => exact ⟨0, 0, 0, rfl, rfl, rfl, by omega, by omega, by omega, by omega, WInv.start m bs, Chg.refl _ _⟩
  case round =>
    obtain ⟨k, from_, i, rfl, rfl, rfl, hkl, hfl, hig, hil2, hinv, hch⟩ := hrel
    have HI := Lib.hid hinv
    have HC := Lib.hid hch
    have HR := Lib.hid ((HB.out.kept U2.out (fun hx k hk h => by have := HB.out.lt hx k hk; omega)).kept hch (fun _ _ _ h => h))
    have HA := Lib.hid (HA1.out.rd.kept hch (fun _ _ _ h => h))
    rw [← HIT.out] at HA
    clear hinv hch
    by_cases hend : i + 1 < bs.length
    · have hend' : (i : Int) + 1 < bs.length := by omega
      have hi' : i < bs.length := by omega
      obtain ⟨bl, o, rfl, x0⟩ := HR.out.byte i hi'
      obtain ⟨bl', o', hab, x1⟩ := HR.out.byte (i + 1) hend
      injection hab with hab; injection hab with hab1 hab2; subst hab1 hab2
      obtain ⟨c0, hc0⟩ : ∃ c, c = bs[i] := ⟨_, rfl⟩
      obtain ⟨c1, hc1⟩ : ∃ c, c = bs[i + 1] := ⟨_, rfl⟩
      rw [← hc0] at x0
      rw [← hc1] at x1
      have HC0 := Lib.hid hc0
      have HC1' := Lib.hid hc1
      clear hc0 hc1
      by_cases h13 : c0 = 13
      · by_cases h10 : c1 = 10
        · by_cases hf : from_ ≤ i
          · have b13 : ((c0.toNat : Int) != 13) = false := by rw [h13]; rfl
            have b10 : ((c1.toNat : Int) != 10) = false := by rw [h10]; rfl
            have hlf : ¬ (i : Int) < from_ := by omega
            have hlf' : decide (i < from_) = false := by simp; omega
            obtain ⟨hw, hk, hitem⟩ := HI.out.hit (by omega) hend hf (by rw [← HC0.out]; exact h13) (by rw [← HC1'.out]; exact h10)
            rw [← HIT.out] at hk
            simp only [← HIT.out] at hitem
            obtain ⟨sl, hsl⟩ : ∃ sl, sl = (bs.take i).drop from_ := ⟨_, rfl⟩
            have hsll : sl.length = i - from_ := by rw [hsl, List.length_drop, List.length_take]; omega
            rw [← hsl, ← hsll] at hitem
            obtain ⟨pa, pn, pc, hcut, hprd⟩ := HR.out.mid (P := Try.prog) Try.underlying22 Try.elemBytes hi0 hz0 from_ i hf (by omega)
            rw [← hsl] at hprd
            have hcv : (convert 22 9 (.slice pa pn pc)).run Try.prog wr = .ok (.string ⟨sl.toArray⟩) wr := run_conv_txt hprd _ _ _ Try.underlying22 Try.underlying5 Try.underlying9
            obtain ⟨S, hS⟩ : ∃ S : ByteArray, S = ⟨sl.toArray⟩ := ⟨_, rfl⟩
            rw [← hS] at hcv
            have hSs : S.size = sl.length := by rw [hS]; simp [ByteArray.size]
            have HW := Lib.hid hw
            have HIM := Lib.hid hitem
            have HSL := Lib.hid hsl
            have HSS := Lib.hid hS
            have HSZ := Lib.hid hSs
            have HLL := Lib.hid hsll
            have hfi : from_ ≤ i := hf
            have hlim : sl.length ≤ 1048576 := by omega
            have hlim2 : S.size ≤ 1048576 := by omega
            clear hw hitem hsl hsll hprd h13 h10 hS hSs hf
            go_wp2_with fail
            clear hcut hcv b13 b10
            obtain ⟨wo, hwo⟩ : ∃ wo : World, wo = wr := ⟨_, rfl⟩
            subst hwo
            obtain ⟨go, hgo⟩ : ∃ go : Nat, go = gk := ⟨_, rfl⟩
            subst hgo
            go_loopg [14, 15] (sl.length) (WBare sl wo)
            case atStart => exact ⟨0, by omega, rfl, rfl, rfl⟩
            case round =>
              obtain ⟨j, hj, rfl, hbv, hwe⟩ := hrel
              subst hwe
              obtain ⟨bb, hbb⟩ : ∃ bb, bb = (sl.take j).any (fun c => c == 13 || c == 10) := ⟨_, rfl⟩
              rw [← hbb] at hbv
              subst hbv
              have HBB := Lib.hid hbb
              clear hbb
              by_cases hg : gk = 0
              · have hge : ¬ (j : Int) < S.size := by have := HSZ.out; omega
                have hbf : bb = sl.any (fun c => c == 13 || c == 10) := by rw [HBB.out, List.take_of_length_le (by omega)]
                obtain ⟨b2, o2, rfl, y0, y1, y2, y3⟩ := told_at HA.out k hk
                have hk1 : ¬ (k : Int) ≥ items.length := by omega
                have hk2 : decide (items.length ≤ k) = false := by simp; omega
                have hk3 : (k : Int) < items.length := by omega
                rw [HIM.out] at y0 y1 y2 y3
                have y3' : wo.cell? ⟨b2, o2 + k * 4 + 3, none⟩ = some (.int .i64 ((S.size : Int) + 2)) := by rw [y3, HSZ.out]; rfl
                simp only at y0 y1 y2
                have hw0 := World.block_lt_of_cell? _ _ y0
                have hline : (line sl m) = if bb = true then ⟨2, [], 130⟩ else if (S.size : Int) > m then ⟨2, [], 131⟩ else ⟨1, sl, 0⟩ := by rw [hbf, HSZ.out]; rfl
                rw [hline] at y0 y1 y2
                have hkl2 := HW.out.kle
                clear hline y3 hbf
                cases bb
                · by_cases hgt : (S.size : Int) > m
                  · simp only [Bool.false_eq_true, if_false, if_pos hgt] at y0 y1 y2
                    have hgd : decide (m < (S.size : Int)) = true := by simpa using hgt
                    go_wp2
                    go_roundg (go - 1)
                    case measure => omega
                    case rel => exact ⟨k + 1, i + 2, i + 1, by go_num, by go_num, by go_num, HW.out.kle, by omega, by omega, by omega, HW.out, HC.out.alloc _⟩
                  · simp only [Bool.false_eq_true, if_false, if_neg hgt] at y0 y1 y2
                    have hgd : decide (m < (S.size : Int)) = false := by simpa using hgt
                    rw [← HSS.out] at y1
                    go_wp2
                    go_roundg (go - 1)
                    case measure => omega
                    case rel => exact ⟨k + 1, i + 2, i + 1, by go_num, by go_num, by go_num, HW.out.kle, by omega, by omega, by omega, HW.out, HC.out.alloc _⟩
                · simp only [if_true] at y0 y1 y2
                  go_wp2
                  go_roundg (go - 1)
                  case measure => omega
                  case rel => exact ⟨k + 1, i + 2, i + 1, by go_num, by go_num, by go_num, HW.out.kle, by omega, by omega, by omega, HW.out, HC.out.alloc _⟩
              · have hjl : j < S.size := by have := HSZ.out; omega
                have hjl' : (j : Int) < S.size := by omega
                cases bb
                · have hst := bare_step HSS.out j hjl false HBB.out
                  have HST := Lib.hid hst
                  clear hst
                  go_wp2
                  all_goals
                    go_roundg (gk - 1)
                    case measure => omega
                    case rel => exact ⟨j + 1, by omega, by go_num, by rw [← HST.out]; first | rfl | simp [*], rfl⟩
                · have HST := Lib.hid (bare_step HSS.out j hjl true HBB.out)
                  go_wp2
                  go_roundg (gk - 1)
                  case measure => omega
                  case rel => exact ⟨j + 1, by omega, by go_num, by rw [← HST.out]; rfl, rfl⟩
          · have b13 : ((c0.toNat : Int) != 13) = false := by rw [h13]; rfl
            have b10 : ((c1.toNat : Int) != 10) = false := by rw [h10]; rfl
            have hlf : (i : Int) < from_ := by omega
            have hlf' : decide (i < from_) = true := by simp; omega
            have HS := Lib.hid (HI.out.skip hend (fun h => hf h.1))
            clear h13 h10 hf
            go_wp2
            go_roundg (gk - 1)
            case measure => omega
            case rel => exact ⟨k, from_, i + 1, rfl, rfl, by go_num, hkl, hfl, by omega, by omega, HS.out, HC.out⟩
        · have b13 : ((c0.toNat : Int) != 13) = false := by rw [h13]; rfl
          have b10 : ((c1.toNat : Int) != 10) = true := by rw [bne, byte_ne h10]; rfl
          have HS := Lib.hid (HI.out.skip hend (fun h => h10 (by rw [HC1'.out]; exact h.2.2)))
          clear h13 h10
          go_wp2
          go_roundg (gk - 1)
          case measure => omega
          case rel => exact ⟨k, from_, i + 1, rfl, rfl, by go_num, hkl, hfl, by omega, by omega, HS.out, HC.out⟩
      · have b13 : ((c0.toNat : Int) != 13) = true := by rw [bne, byte_ne13 h13]; rfl
        have HS := Lib.hid (HI.out.skip hend (fun h => h13 (by rw [HC0.out]; exact h.2.1)))
        clear h13
        go_wp2
        go_roundg (gk - 1)
        case measure => omega
        case rel => exact ⟨k, from_, i + 1, rfl, rfl, by go_num, hkl, hfl, by omega, by omega, HS.out, HC.out⟩
    · have hend' : ¬ (i : Int) + 1 < bs.length := by omega
      obtain ⟨hd1, hd2⟩ := HI.out.done (by omega) (by omega)
      rw [← HIT.out] at hd1
      rw [← HSI.out] at hd2
      have hfl2 := HI.out.le
      have e1 : ((k : Int) == items.length) = true := by simp; omega
      have e2 : ((since : Int) == (bs.length : Int) - from_) = true := by simp; omega
      have e1' : (k == items.length) = true := by simp; omega
      clear hd1 hd2 hend
      go_wp2
      go_ret
      exact ⟨rfl, (U2.out.trans HC.out (fun _ _ h => h.elim)).below (Nat.le_refl _) (fun k hk => by omega)⟩

end Go.Proofs.Ytccmickmcpfapaa
