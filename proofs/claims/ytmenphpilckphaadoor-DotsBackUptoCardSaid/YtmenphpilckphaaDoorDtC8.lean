/- slices.ContainsFunc at the law's own predicate. Conditions as stated. -/
import Derived.Test.YtmenphpilckphaaDoorDtR2
namespace Go.Proofs.YtmenphpilckphaaDoor
set_option linter.unusedVariables false
open Go Go.RowKit Dt

theorem pred_calls (w : World) (c : UInt8) : Calls Tryd.prog 33 #[.int .u8 c.toNat] w fun r w' => r = .returned (.bool (decide (127 < (c.toNat : Int)))) ∧ w = w' := by
  go_enter Tryd.func33, Tryd.ntmps33
  go_wp2
  go_ret
  exact ⟨rfl, rfl⟩
def IxRel (W : World) (b : List UInt8) (g : Nat) (iv : Value) (wr : World) : Prop := ∃ j : Nat, j + g = b.length ∧ iv = .int .i64 j ∧ (∀ i (h : i < b.length), i < j → decide (127 < b[i].toNat) = false) ∧ wr = W
def IxSays (W : World) (b : List UInt8) (r : Ending) (w' : World) : Prop := ∃ n : Int, r = .returned (.int .i64 n) ∧ (high b = decide (0 ≤ n)) ∧ W = w'
abbrev predV : Value := .func (Fn.func 33) #[] #[]
theorem indexFunc_calls (w : World) (ba : Option Addr) (bc : Nat) (b : List UInt8) (hb : Rd w (.slice ba b.length bc) 1 (bvs b)) (hl : b.length ≤ 1099511627776) :
    Calls Tryd.prog 52 #[.slice ba b.length bc, predV] w (IxSays w b) := by
  have H := Lib.hid hb
  clear hb
  go_enter Tryd.func52, Tryd.ntmps52
  go_wp2_with fail
  go_loopg [8] b.length (IxRel w b)
  case atStart => exact ⟨0, by omega, rfl, fun i h hi => by omega, rfl⟩
  case round =>
    obtain ⟨j, hj, rfl, hz, rfl⟩ := hrel
    by_cases hg : gk = 0
    · have hlt : ¬ (j : Int) < b.length := by omega
      have HA := Lib.hid (show high b = false by
        unfold high; rw [List.any_eq_false]
        intro c hc
        obtain ⟨i, hi, rfl⟩ := List.getElem_of_mem hc
        have := hz i hi (by omega)
        simpa using this)
      clear hz
      go_wp2
      go_ret
      exact ⟨-1, rfl, by rw [HA.out]; rfl, rfl⟩
    · have hlt : (j : Int) < b.length := by omega
      have hjl : j < b.length := by omega
      obtain ⟨bl, o, rfl, hc⟩ := H.out.byte j hjl
      have HP := Lib.hid (pred_calls wr b[j])
      by_cases h1 : 127 < b[j].toNat
      · have HD := Lib.hid (show decide (127 < (b[j].toNat : Int)) = true from decide_eq_true (by omega))
        have HA := Lib.hid (show high b = true by unfold high; rw [List.any_eq_true]; exact ⟨b[j], List.getElem_mem hjl, by simpa using h1⟩)
        clear hz h1
        go_wp2_with (go_at_call 33; refine HP.out.mono ?_; rintro e w1 ⟨rfl, rfl⟩; rw [HD.out])
        go_ret
        exact ⟨j, rfl, by rw [HA.out]; simp, rfl⟩
      · have HD := Lib.hid (show decide (127 < (b[j].toNat : Int)) = false from decide_eq_false (by omega))
        have HZ := Lib.hid (show ∀ i (h : i < b.length), i < j + 1 → decide (127 < b[i].toNat) = false from fun i h hi => by
          by_cases e : i = j
          · subst e; simpa using h1
          · exact hz i h (by omega))
        clear hz h1
        go_wp2_with (go_at_call 33; refine HP.out.mono ?_; rintro e w1 ⟨rfl, rfl⟩; rw [HD.out])
        go_roundg (gk - 1)
        case measure => omega
        case rel => exact ⟨j + 1, by omega, by go_num, HZ.out, rfl⟩
theorem containsFunc_calls (w : World) (ba : Option Addr) (bc : Nat) (b : List UInt8) (hb : Rd w (.slice ba b.length bc) 1 (bvs b)) (hl : b.length ≤ 1099511627776) :
    Calls Tryd.prog 32 #[.slice ba b.length bc, predV] w fun r w' => r = .returned (.bool (high b)) ∧ w = w' := by
  have H := Lib.hid hb
  clear hb
  go_enter Tryd.func32, Tryd.ntmps32
  go_wp2_with fail
  refine (indexFunc_calls w ba bc b H.out hl).mono ?_
  rintro e w' ⟨n, rfl, hn, rfl⟩
  have HN := Lib.hid hn
  clear hn
  go_wp2
  go_ret
  exact ⟨by rw [HN.out]; rfl, rfl⟩
end Go.Proofs.YtmenphpilckphaaDoor
