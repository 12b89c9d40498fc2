/- Whether a CR or an LF stands alone: the program's walk and the definition's. Conditions as stated. -/
import Derived.Test.YtmenphpilckphaaDoorDtB
import Derived.Test.YtmenphpilckphaaDoorDtStf
namespace Go.Proofs.YtmenphpilckphaaDoor
set_option linter.unusedVariables false
open Go Go.RowKit Dt

def BrRel (w0 : World) (b : List UInt8) (g : Nat) (iv : Value) (wr : World) : Prop := ∃ j : Nat, j + g = b.length ∧ iv = .int .i64 j ∧ (∀ i, i < j → bareAt b i = false) ∧ wr = w0
theorem bareI_no {b : List UInt8} (h : ∀ i, i < b.length → bareAt b i = false) : bareI b = false := by
  unfold bareI; rw [List.any_eq_false]; intro i hi; rw [List.mem_range] at hi; rw [h i hi]; simp
theorem bareI_yes {b : List UInt8} {j : Nat} (hj : j < b.length) (h : bareAt b j = true) : bareI b = true := by
  unfold bareI; rw [List.any_eq_true]; exact ⟨j, List.mem_range.2 hj, h⟩
theorem nat_eqb {a b : Nat} (h : a = b) : ((a : Int) == (b : Int)) = true := by subst h; simp
theorem nat_neb {a b : Nat} (h : a ≠ b) : ((a : Int) == (b : Int)) = false := by simp only [beq_eq_false_iff_ne, ne_eq]; omega
theorem byte_eqt {c : UInt8} {n : Nat} (h : c.toNat = n) : ((c.toNat : Int) == (n : Int)) = true := nat_eqb h

set_option maxHeartbeats 1000000 in
theorem bare_calls (w : World) (ao : Option Addr) (cap : Nat) (b : List UInt8) (h : Rd w (.slice ao b.length cap) 1 (bvs b)) (hl : b.length ≤ 1099511627776) :
    Calls Tryd.prog 55 #[.slice ao b.length cap] w fun r w' => r = .returned (.bool (bareI b)) ∧ w = w' := by
  have H := Lib.hid h
  clear h
  go_enter Tryd.func55, Tryd.ntmps55
  go_wp2_with fail
  go_loopg [7] b.length (BrRel w b)
  case atStart => exact ⟨0, by omega, rfl, fun i hi => by omega, rfl⟩
  case round =>
    obtain ⟨j, hj, rfl, hz, rfl⟩ := hrel
    by_cases hg : gk = 0
    · have hlt : ¬ (j : Int) < b.length := by omega
      have HA := Lib.hid (bareI_no (fun i hi => hz i (by omega)))
      clear hz
      go_wp2
      go_ret
      exact ⟨congrArg (fun b => Ending.returned (.bool b)) HA.out.symm, rfl⟩
    · have hlt : (j : Int) < b.length := by omega
      have hjl : j < b.length := by omega
      obtain ⟨bl, o, rfl, hc⟩ := H.out.byte j hjl
      have hnext : bareAt b j = false → ∀ i, i < j + 1 → bareAt b i = false := fun e i hi => by
        by_cases e2 : i = j
        · subst e2; exact e
        · exact hz i (by omega)
      have hyes := bareI_yes hjl
      have HN := Lib.hid hnext
      have HY := Lib.hid hyes
      clear hz hnext hyes
      have hb0 : b[j]? = some b[j] := List.getElem?_eq_getElem hjl
      by_cases h13 : b[j] = 13
      · have t1 : ((b[j].toNat : Int) == 13) = true := by rw [h13]; rfl
        have t2 : ((b[j].toNat : Int) == 10) = false := by rw [h13]; rfl
        rw [h13] at hb0
        clear h13
        by_cases hn : j + 1 = b.length
        · have HA := Lib.hid (HY.out (by unfold bareAt; rw [hb0, List.getElem?_eq_none (by omega)]; rfl))
          have t3 : ((j : Int) + 1 == (b.length : Int)) = true := by simp; omega
          clear hn hb0
          go_wp2
          go_ret
          exact ⟨congrArg (fun b => Ending.returned (.bool b)) HA.out.symm, rfl⟩
        · have hj1 : j + 1 < b.length := by omega
          have t3 : ((j : Int) + 1 == (b.length : Int)) = false := by simp; omega
          obtain ⟨bl', o', he, hc1⟩ := H.out.byte (j + 1) hj1
          injection he with he; injection he with he1 he2; subst he1 he2
          have hb1 : b[j + 1]? = some b[j + 1] := List.getElem?_eq_getElem hj1
          by_cases h10 : b[j + 1] = 10
          · have t4 : ((b[j + 1].toNat : Int) != 10) = false := by rw [h10]; rfl
            have HA := Lib.hid (HN.out (by unfold bareAt; rw [hb1, hb0, h10]; rfl))
            clear h10 hb0 hb1 hn
            go_wp2
            go_roundg (gk - 1)
            case measure => omega
            case rel => exact ⟨j + 1, by omega, by go_num, HA.out, rfl⟩
          · have t4 : ((b[j + 1].toNat : Int) != 10) = true := by simp only [bne, byte_ne h10]; rfl
            have HA := Lib.hid (HY.out (by unfold bareAt; rw [hb1, hb0]; simp [h10]))
            clear h10 hb0 hb1 hn
            go_wp2
            go_ret
            exact ⟨congrArg (fun b => Ending.returned (.bool b)) HA.out.symm, rfl⟩
      · have t1 : ((b[j].toNat : Int) == 13) = false := byte_ne13 h13
        by_cases h10 : b[j] = 10
        · have t2 : ((b[j].toNat : Int) == 10) = true := by rw [h10]; rfl
          rw [h10] at hb0
          clear h10 h13
          by_cases hn : j = 0
          · have t3 : ((j : Int) == 0) = true := by rw [hn]; rfl
            have HA := Lib.hid (HY.out (by unfold bareAt; rw [hb0, hn]; rfl))
            clear hb0 hn
            go_wp2
            go_ret
            exact ⟨congrArg (fun b => Ending.returned (.bool b)) HA.out.symm, rfl⟩
          · obtain ⟨k, rfl⟩ : ∃ k, j = k + 1 := ⟨j - 1, by omega⟩
            have t3 : (((k + 1 : Nat) : Int) == 0) = false := by simp; omega
            have t3' : ((k : Int) + 1 == 0) = false := by simp; omega
            have hk1 : k < b.length := by omega
            obtain ⟨bl', o', he, hc1⟩ := H.out.byte k hk1
            injection he with he; injection he with he1 he2; subst he1 he2
            have hb1 : b[k]? = some b[k] := List.getElem?_eq_getElem hk1
            by_cases h10 : b[k] = 13
            · have t4 : ((b[k].toNat : Int) != 13) = false := by rw [h10]; rfl
              have HA := Lib.hid (HN.out (by unfold bareAt; rw [hb0, Nat.add_sub_cancel, hb1, h10]; simp))
              clear h10 hb0 hb1 hn
              go_wp2
              go_roundg (gk - 1)
              case measure => omega
              case rel => exact ⟨k + 1 + 1, by omega, by go_num, HA.out, rfl⟩
            · have t4 : ((b[k].toNat : Int) != 13) = true := by simp only [bne, byte_ne13 h10]; rfl
              have HA := Lib.hid (HY.out (by unfold bareAt; rw [hb0, Nat.add_sub_cancel, hb1]; simp [h10]))
              clear h10 hb0 hb1 hn
              go_wp2
              go_ret
              exact ⟨congrArg (fun b => Ending.returned (.bool b)) HA.out.symm, rfl⟩
        · have t2 : ((b[j].toNat : Int) == 10) = false := byte_ne h10
          have HA := Lib.hid (HN.out (by unfold bareAt; rw [hb0]; simp [h10, h13]))
          clear h10 h13 hb0
          go_wp2
          go_roundg (gk - 1)
          case measure => omega
          case rel => exact ⟨j + 1, by omega, by go_num, HA.out, rfl⟩

set_option maxHeartbeats 1000000 in
theorem Bare_calls (w : World) (ao : Option Addr) (cap : Nat) (b : List UInt8) (h : Rd w (.slice ao b.length cap) 1 (bvs b)) (hl : b.length ≤ 1099511627776) :
    Calls Tryd.prog 56 #[.slice ao b.length cap] w fun r w' => r = .returned (.bool (bareI b)) ∧ w = w' := by
  have H := Lib.hid h
  clear h
  go_enter Tryd.func56, Tryd.ntmps56
  go_wp2_with fail
  go_loopg [6] b.length (BrRel w b)
  case atStart => exact ⟨0, by omega, rfl, fun i hi => by omega, rfl⟩
  case round =>
    obtain ⟨j, hj, rfl, hz, rfl⟩ := hrel
    by_cases hg : gk = 0
    · have hlt : ¬ (j : Int) < b.length := by omega
      have HA := Lib.hid (bareI_no (fun i hi => hz i (by omega)))
      clear hz
      go_wp2
      go_ret
      exact ⟨congrArg (fun b => Ending.returned (.bool b)) HA.out.symm, rfl⟩
    · have hlt : (j : Int) < b.length := by omega
      have hjl : j < b.length := by omega
      obtain ⟨bl, o, rfl, hc⟩ := H.out.byte j hjl
      have hnext : bareAt b j = false → ∀ i, i < j + 1 → bareAt b i = false := fun e i hi => by
        by_cases e2 : i = j
        · subst e2; exact e
        · exact hz i (by omega)
      have hyes := bareI_yes hjl
      have HN := Lib.hid hnext
      have HY := Lib.hid hyes
      clear hz hnext hyes
      have hb0 : b[j]? = some b[j] := List.getElem?_eq_getElem hjl
      by_cases h13 : b[j] = 13
      · have t1 : ((b[j].toNat : Int) == 13) = true := by rw [h13]; rfl
        have t2 : ((b[j].toNat : Int) == 10) = false := by rw [h13]; rfl
        rw [h13] at hb0
        clear h13
        by_cases hn : j + 1 = b.length
        · have HA := Lib.hid (HY.out (by unfold bareAt; rw [hb0, List.getElem?_eq_none (by omega)]; rfl))
          have t3 : ((j : Int) + 1 == (b.length : Int)) = true := by simp; omega
          clear hn hb0
          go_wp2
          go_ret
          exact ⟨congrArg (fun b => Ending.returned (.bool b)) HA.out.symm, rfl⟩
        · have hj1 : j + 1 < b.length := by omega
          have t3 : ((j : Int) + 1 == (b.length : Int)) = false := by simp; omega
          obtain ⟨bl', o', he, hc1⟩ := H.out.byte (j + 1) hj1
          injection he with he; injection he with he1 he2; subst he1 he2
          have hb1 : b[j + 1]? = some b[j + 1] := List.getElem?_eq_getElem hj1
          by_cases h10 : b[j + 1] = 10
          · have t4 : ((b[j + 1].toNat : Int) != 10) = false := by rw [h10]; rfl
            have HA := Lib.hid (HN.out (by unfold bareAt; rw [hb1, hb0, h10]; rfl))
            clear h10 hb0 hb1 hn
            go_wp2
            go_roundg (gk - 1)
            case measure => omega
            case rel => exact ⟨j + 1, by omega, by go_num, HA.out, rfl⟩
          · have t4 : ((b[j + 1].toNat : Int) != 10) = true := by simp only [bne, byte_ne h10]; rfl
            have HA := Lib.hid (HY.out (by unfold bareAt; rw [hb1, hb0]; simp [h10]))
            clear h10 hb0 hb1 hn
            go_wp2
            go_ret
            exact ⟨congrArg (fun b => Ending.returned (.bool b)) HA.out.symm, rfl⟩
      · have t1 : ((b[j].toNat : Int) == 13) = false := byte_ne13 h13
        by_cases h10 : b[j] = 10
        · have t2 : ((b[j].toNat : Int) == 10) = true := by rw [h10]; rfl
          rw [h10] at hb0
          clear h10 h13
          by_cases hn : j = 0
          · have t3 : ((j : Int) == 0) = true := by rw [hn]; rfl
            have HA := Lib.hid (HY.out (by unfold bareAt; rw [hb0, hn]; rfl))
            clear hb0 hn
            go_wp2
            go_ret
            exact ⟨congrArg (fun b => Ending.returned (.bool b)) HA.out.symm, rfl⟩
          · obtain ⟨k, rfl⟩ : ∃ k, j = k + 1 := ⟨j - 1, by omega⟩
            have t3 : (((k + 1 : Nat) : Int) == 0) = false := by simp; omega
            have t3' : ((k : Int) + 1 == 0) = false := by simp; omega
            have hk1 : k < b.length := by omega
            obtain ⟨bl', o', he, hc1⟩ := H.out.byte k hk1
            injection he with he; injection he with he1 he2; subst he1 he2
            have hb1 : b[k]? = some b[k] := List.getElem?_eq_getElem hk1
            by_cases h10 : b[k] = 13
            · have t4 : ((b[k].toNat : Int) != 13) = false := by rw [h10]; rfl
              have HA := Lib.hid (HN.out (by unfold bareAt; rw [hb0, Nat.add_sub_cancel, hb1, h10]; simp))
              clear h10 hb0 hb1 hn
              go_wp2
              go_roundg (gk - 1)
              case measure => omega
              case rel => exact ⟨k + 1 + 1, by omega, by go_num, HA.out, rfl⟩
            · have t4 : ((b[k].toNat : Int) != 13) = true := by simp only [bne, byte_ne13 h10]; rfl
              have HA := Lib.hid (HY.out (by unfold bareAt; rw [hb0, Nat.add_sub_cancel, hb1]; simp [h10]))
              clear h10 hb0 hb1 hn
              go_wp2
              go_ret
              exact ⟨congrArg (fun b => Ending.returned (.bool b)) HA.out.symm, rfl⟩
        · have t2 : ((b[j].toNat : Int) == 10) = false := byte_ne h10
          have HA := Lib.hid (HN.out (by unfold bareAt; rw [hb0]; simp [h10, h13]))
          clear h10 h13 hb0
          go_wp2
          go_roundg (gk - 1)
          case measure => omega
          case rel => exact ⟨j + 1, by omega, by go_num, HA.out, rfl⟩
end Go.Proofs.YtmenphpilckphaaDoor
