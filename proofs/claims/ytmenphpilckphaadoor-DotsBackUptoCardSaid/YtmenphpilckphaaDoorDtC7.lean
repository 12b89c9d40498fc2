/- begins: the places at which lines begin. Conditions as stated. -/
import Derived.Test.YtmenphpilckphaaDoorDtL1
import Derived.Test.YtmenphpilckphaaDoorDtHld
namespace Go.Proofs.YtmenphpilckphaaDoor
set_option linter.unusedVariables false
open Go Go.RowKit Dt

theorem Tryd.infoInt : (Tryd.prog.info? 3).map (fun i => (i.zero, i.size, i.bytes)) = some (some (.int .i64 0), 1, 8) := by kernel_rfl
def iv (l : List Nat) : List Value := l.map fun (n : Nat) => Value.int .i64 (n : Int)
theorem iv_append (a b : List Nat) : iv (a ++ b) = iv a ++ iv b := by simp [iv]
theorem iv_len (a : List Nat) : (iv a).length = a.length := by simp [iv]
theorem ownv_new (e : TypeId) {W w : World} (c : Chg (fun _ => False) W w) (x : Value) : OwnV e W (w.alloc (.cells #[x] e)) (.slice (some ⟨w.heap.size, 0, none⟩) 1 1) [x] :=
  ⟨.inr ⟨w.heap.size, 0, 1, 1, _, _, rfl, Nat.le_refl _, by unfold maxLen; omega, heap_alloc_at _ _, by simp, fun i _ _ h => by simp at h, by simp, by simp⟩, fun k hk => by simp [Value.ownBlock] at hk; have := c.size; omega, c.alloc _⟩
def bgN (b : List UInt8) (k : Nat) : List Nat := 0 :: (List.range' 2 k).filter (begF b)
theorem bgN_succ (b : List UInt8) (k : Nat) : bgN b (k + 1) = bgN b k ++ (if begF b (k + 2) = true then [k + 2] else []) := by
  unfold bgN
  rw [List.range'_concat, List.filter_append, List.cons_append]
  congr 2
  rw [show 2 + 1 * k = k + 2 from by omega]
  by_cases h : begF b (k + 2) = true
  · rw [if_pos h]; simp [h]
  · rw [if_neg h]; simp [h]
theorem bgN_len (b : List UInt8) (k : Nat) : (bgN b k).length ≤ k + 1 := by
  unfold bgN
  have := List.length_filter_le (begF b) (List.range' 2 k)
  simp only [List.length_cons, List.length_range'] at this ⊢
  omega
def BgRel (W : World) (b : List UInt8) (g : Nat) (ov wv : Value) (wr : World) : Prop :=
  ∃ (k : Nat) (oa : Option Addr) (oc : Nat), k + g = b.length - 1 ∧ wv = .int .i64 ((k : Int) + 2) ∧ ov = .slice oa (bgN b k).length oc ∧ OwnV 3 W wr (.slice oa (bgN b k).length oc) (iv (bgN b k))
set_option maxHeartbeats 1000000 in
set_option maxRecDepth 100000 in
theorem begins_calls (w : World) (ao : Option Addr) (cap : Nat) (b : List UInt8) (h : Rd w (.slice ao b.length cap) 1 (bvs b)) (hl : b.length ≤ 1099511627776) :
    Calls Tryd.prog 19 #[.slice ao b.length cap] w fun r w' => ∃ oa oc, r = .returned (.slice oa (beginsN b).length oc) ∧ OwnV 3 w w' (.slice oa (beginsN b).length oc) (iv (beginsN b)) := by
  obtain ⟨i1, hi1, hy0, hy1, hy2⟩ := info_parts Tryd.infoInt
  have H := Lib.hid h
  clear h
  go_enter Tryd.func19, Tryd.ntmps19
  go_wp2_with fail
  go_loopg [3, 4] (b.length - 1) (BgRel w b)
  case atStart => exact ⟨0, _, _, by omega, rfl, rfl, ownv_new 3 (Chg.refl _ w) (.int .i64 0)⟩
  case round =>
    obtain ⟨k, oa, oc, hk, rfl, rfl, hown⟩ := hrel
    have HO := Lib.hid hown
    have hbl := bgN_len b k
    have hsu := bgN_succ b k
    clear hown
    by_cases hg : gk = 0
    · have hlt : ¬ ((k : Int) + 2 ≤ b.length) := by omega
      have hkk : k = b.length - 1 := by omega
      have HB := Lib.hid (show beginsN b = bgN b k by rw [hkk]; rfl)
      clear hsu hkk
      go_wp2
      go_ret
      rw [HB.out]
      exact ⟨oa, oc, rfl, HO.out⟩
    · have hle : (k : Int) + 2 ≤ b.length := by omega
      have hk0 : k < b.length := by omega
      have hk1 : k + 1 < b.length := by omega
      have hrd : Rd wr (.slice ao b.length cap) 1 (bvs b) := H.out.kept HO.out.chg (fun _ _ _ h => h)
      obtain ⟨bl, o, rfl, hc0⟩ := hrd.byte k hk0
      obtain ⟨bl', o', he, hc1⟩ := hrd.byte (k + 1) hk1
      injection he with he; injection he with he1 he2; subst he1 he2
      have hbf : begF b (k + 2) = (b[k] == 13 && b[k + 1] == 10) := by
        unfold begF
        rw [Nat.add_sub_cancel, show k + 2 - 1 = k + 1 from by omega, List.getElem?_eq_getElem hk0, List.getElem?_eq_getElem hk1]; rfl
      rw [hbf] at hsu
      have hs1 : (k : Int) + 2 - 2 = k := by omega
      have hs2 : (k : Int) + 2 - 1 = k + 1 := by omega
      have hb40 : b.length ≤ 1099511627776 := hl
      by_cases h13 : b[k] = 13
      · have t1 : ((b[k].toNat : Int) == 13) = true := by rw [h13]; rfl
        by_cases h10 : b[k + 1] = 10
        · have t2 : ((b[k + 1].toNat : Int) == 10) = true := by rw [h10]; rfl
          have HSU := Lib.hid (show bgN b (k + 1) = bgN b k ++ [k + 2] by rw [hsu, h13, h10]; simp)
          clear hsu hbf h13 h10 hrd
          go_wp2_with (at_builtin; refine wpList_append_arr _ rfl _ _ 23 23 rfl 3 i1 _ 1 8 Tryd.underlying23 hi1 hy0 hy1 hy2 rfl (by decide) (.slice oa (bgN b k).length oc) (iv (bgN b k)) rfl (HO.out.more ((Chg.refl _ wr).alloc _)).arr (.slice (some ⟨wr.heap.size, 0, none⟩) 1 1) rfl 1 [.int .i64 ((k : Int) + 2)] (src_val Tryd.underlying23 rfl (cell_alloc_eq (by simp) rfl)) (by rw [Nat.div_one, iv_len]; unfold maxLen; omega) (by rw [Nat.div_one, iv_len]; omega) ?d2)
          case d2 =>
            intro v4 w4 ha4 hc4 ho4
            have ho := HO.out.step ((Chg.refl _ wr).alloc _) ha4 hc4 ho4 (by omega)
            have e : iv (bgN b k) ++ [Value.int .i64 ((k : Int) + 2)] = iv (bgN b (k + 1)) := by rw [HSU.out, iv_append]; simp [iv]
            rw [e] at ho
            obtain ⟨va, vc, rfl⟩ := ho.shape
            rw [iv_len] at ho ⊢
            have HO2 := Lib.hid ho
            clear ha4 hc4 ho4 ho e
            go_wp2
            go_roundg (gk - 1)
            case measure => omega
            case rel => exact ⟨k + 1, va, vc, by omega, by go_num, rfl, HO2.out⟩
        · have t2 : ((b[k + 1].toNat : Int) == 10) = false := byte_ne h10
          have HSU := Lib.hid (show bgN b (k + 1) = bgN b k by rw [hsu]; simp [h10])
          clear hsu hbf h13 h10 hrd
          go_wp2
          go_roundg (gk - 1)
          case measure => omega
          case rel => exact ⟨k + 1, oa, oc, by omega, by go_num, by rw [HSU.out], by rw [HSU.out]; exact HO.out⟩
      · have t1 : ((b[k].toNat : Int) == 13) = false := byte_ne13 h13
        have HSU := Lib.hid (show bgN b (k + 1) = bgN b k by rw [hsu]; simp [h13])
        clear hsu hbf h13 hrd
        go_wp2
        go_roundg (gk - 1)
        case measure => omega
        case rel => exact ⟨k + 1, oa, oc, by omega, by go_num, by rw [HSU.out], by rw [HSU.out]; exact HO.out⟩
end Go.Proofs.YtmenphpilckphaaDoor
