/- Check; same. Conditions as stated. -/
import Derived.Test.YtmenphpilckphaaDoorDtShl
import Derived.Test.YtmenphpilckphaaDoorDtW3
import Derived.Lib.SlBytesConst
namespace Go.Proofs.YtmenphpilckphaaDoor
set_option linter.unusedVariables false
open Go Go.RowKit Dt

theorem run_const {P : Program} (w : World) (b : Nat) (hb : b = w.heap.size) (t e : TypeId) (C : Array Value) (n c : Nat) (ht : P.underlying t = some (.slice e)) (he : P.underlying e = some (.int .u8)) :
    (convert t t (.slice (some ⟨b, 0, none⟩) n c)).run P (w.alloc (.cells C e)) = .ok (.slice (some ⟨b, 0, none⟩) n c) (w.alloc (.cells C e (C.size, C.size + 1))) := by
  subst hb; exact Lib.run_convert_bytes_const w t e C n c ht he
def CkRel (W : World) (ls : List (List UInt8)) (text : Nat) (g : Nat) (iv : Value) (wr : World) : Prop := ∃ j : Nat, j + g = ls.length ∧ iv = .int .i64 j ∧ (∀ i (h : i < ls.length), i < j → ls[i].length ≤ text) ∧ wr = W
set_option maxHeartbeats 1000000 in
theorem check_calls (w : World) (hg : Glb w) (ao : Option Addr) (cap : Nat) (b : List UInt8) (text : Int) (h : Rd w (.slice ao b.length cap) 1 (bvs b)) (hl : b.length < 4294967281) :
    Calls Tryd.prog 23 #[.slice ao b.length cap, .int .i64 text] w fun r w' => r = .returned (.int .i64 (checkP b text)) ∧ Chg (fun _ => False) w w' := by
  have kc := fun (w : World) (b : Nat) (hb : b = w.heap.size) (C : Array Value) (n c : Nat) => run_const (P := Tryd.prog) w b hb 22 5 C n c Tryd.underlying22 Tryd.underlying5
  have H := Lib.hid h
  have HG := Lib.hid hg
  clear h hg
  by_cases c1 : text < 1
  · have HE := Lib.hid (show checkP b text = 2 by unfold checkP; rw [if_pos (.inl c1)])
    go_enter Tryd.func23, Tryd.ntmps23
    go_wp2
    go_ret
    exact ⟨ret_i HE.out.symm, Chg.refl _ _⟩
  by_cases c2 : 16777216 < text
  · have HE := Lib.hid (show checkP b text = 2 by unfold checkP; rw [if_pos (.inr c2)])
    go_enter Tryd.func23, Tryd.ntmps23
    go_wp2
    go_ret
    exact ⟨ret_i HE.out.symm, Chg.refl _ _⟩
  obtain ⟨tx, rfl⟩ : ∃ tx : Nat, text = tx := ⟨text.toNat, by omega⟩
  by_cases h0 : lookP b = 0
  · have HL := Lib.hid h0
    have HE := Lib.hid (show checkP b tx = if longD tx b then 140 else 0 by unfold checkP; rw [if_neg (by omega), if_neg (by rw [h0]; simp)]; simp)
    clear h0
    go_enter Tryd.func23, Tryd.ntmps23
    go_wp2_with fail
    refine (look_calls _ ao cap b H.out (by omega)).mono ?_
    rintro e w' ⟨rfl, rfl⟩
    rw [HL.out]
    go_wp2_with fail
    have ca := (Chg.refl (fun _ => False) w).alloc (.cells #[.int .u8 13, .int .u8 10] 5 (2, 3))
    refine (split_calls _ (HG.out.kept ca (fun h => h)) ao (some ⟨w.heap.size, 0, none⟩) cap 2 b (H.out.kept ca (fun _ _ _ h => h)) (Rd.fresh w _ _ _ 2 2 [13, 10] (by rfl) (by rfl) (by decide) (by decide)) hl).mono ?_
    rintro e w2 ⟨v, rfl, hls, hch⟩
    have HC := Lib.hid (ca.trans hch (fun _ _ h => h))
    clear ca hch
    obtain ⟨xs, x1, x2, x3⟩ := hls
    obtain ⟨va, vn, vc, rfl, hvn, _⟩ := x2.shape
    rw [Nat.mul_one] at hvn
    obtain ⟨ls, hls⟩ : ∃ ls, ls = (lines b).1 ++ [(lines b).2] := ⟨_, rfl⟩
    have hlen := lines_le b
    have hll : ls.length ≤ b.length + 1 := by rw [hls]; simp; omega
    rw [← hls] at x1 x3
    have hlong : longD tx b = ls.any fun x => decide (tx < x.length) := by rw [hls]; rfl
    have HLG := Lib.hid hlong
    have X2 := Lib.hid x2
    have X3 := Lib.hid x3
    have X1 := Lib.hid x1
    obtain rfl : vn = ls.length := by omega
    clear hls hlong x1 x2 x3 hvn hlen kc
    go_wp2_with fail
    go_loopg [24] ls.length (CkRel w2 ls tx)
    case atStart => exact ⟨0, by omega, rfl, fun i h hi => by omega, rfl⟩
    case round =>
      obtain ⟨j, hj, rfl, hz, rfl⟩ := hrel
      by_cases hgk : gk = 0
      · have hlt : ¬ (j : Int) < ls.length := by omega
        have HA := Lib.hid (show checkP b tx = 0 by
          rw [HE.out, HLG.out, if_neg]
          rw [Bool.not_eq_true, List.any_eq_false]
          intro x hx
          obtain ⟨i, hi, rfl⟩ := List.getElem_of_mem hx
          have := hz i hi (by omega)
          simpa using this)
        clear hz
        go_wp2
        go_ret
        exact ⟨ret_i HA.out.symm, HC.out⟩
      · have hlt : (j : Int) < ls.length := by omega
        have hjl : j < ls.length := by omega
        have hjx : j < xs.length := by rw [X1.out]; exact hjl
        have hcell := X2.out.at (by intro e; rw [e] at hjx; simp at hjx)
        obtain ⟨bl, o, rfl, hcell⟩ := hcell
        have hc := hcell j hjx
        have hp := X3.out j hjx hjl
        obtain ⟨pa, pn, pc, hpv, hpn, _⟩ := hp.shape
        rw [bvs_length, Nat.mul_one] at hpn
        subst hpn
        rw [hpv] at hc
        clear hp hpv hcell
        by_cases hlg : tx < ls[j].length
        · have hlg' : (tx : Int) < ls[j].length := by omega
          have HA := Lib.hid (show checkP b tx = 140 by
            rw [HE.out, HLG.out, if_pos]
            rw [List.any_eq_true]
            exact ⟨ls[j], List.getElem_mem hjl, by simpa using hlg⟩)
          clear hz hlg
          go_wp2
          go_ret
          exact ⟨ret_i HA.out.symm, HC.out⟩
        · have hlg' : ¬ (tx : Int) < ls[j].length := by omega
          have HZ := Lib.hid (show ∀ i (h : i < ls.length), i < j + 1 → ls[i].length ≤ tx from fun i h hi => by
            by_cases e : i = j
            · subst e; omega
            · exact hz i h (by omega))
          clear hz hlg
          go_wp2
          go_roundg (gk - 1)
          case measure => omega
          case rel => exact ⟨j + 1, by omega, by go_num, HZ.out, rfl⟩
  · have t1 : (lookP b != 0) = true := by simpa using h0
    have HE := Lib.hid (show checkP b tx = lookP b by unfold checkP; rw [if_neg (by omega), if_pos h0])
    clear h0
    go_enter Tryd.func23, Tryd.ntmps23
    go_wp2_with fail
    refine (look_calls _ ao cap b H.out (by omega)).mono ?_
    rintro e w' ⟨rfl, rfl⟩
    go_wp2
    go_ret
    exact ⟨ret_i HE.out.symm, Chg.refl _ _⟩

theorem same_calls (w : World) (it : It) (a b : Option Addr) (c d : Nat) (ha : Rd w (.slice a it.bytes.length c) 1 (bvs it.bytes)) (hb : Rd w (.slice b it.bytes.length d) 1 (bvs it.bytes)) :
    Calls Tryd.prog 17 #[itV it (.slice a it.bytes.length c), itV it (.slice b it.bytes.length d)] w fun r w' => r = .returned (.bool true) ∧ Chg (fun _ => False) w w' := by
  unfold itV
  have HA := Lib.hid ha
  have HB := Lib.hid hb
  have hq : ∀ (o o' : Obj), Calls Tryd.prog 16 #[.slice a it.bytes.length c, .slice b it.bytes.length d] ((w.alloc o).alloc o') fun r w' => r = .returned (.bool true) ∧ (w.alloc o).alloc o' = w' := fun o o' => by
    have cc := ((Chg.refl (fun _ => False) w).alloc o).alloc o'
    refine (equal_calls _ a b c d it.bytes it.bytes (ha.kept cc (fun _ _ _ h => h)) (hb.kept cc (fun _ _ _ h => h))).mono ?_
    rintro e w' ⟨rfl, rfl⟩
    exact ⟨by rw [beq_self_eq_true], rfl⟩
  have HQ := Lib.hid hq
  clear ha hb hq
  go_enter Tryd.func17, Tryd.ntmps17
  go_wp2_with fail
  refine (HQ.out _ _).mono ?_
  rintro e w' ⟨rfl, rfl⟩
  go_wp2
  go_ret
  exact ⟨rfl, ((Chg.refl _ w).alloc _).alloc _⟩
end Go.Proofs.YtmenphpilckphaaDoor
