/- What the framer's laws have in common: same, plain, head. No condition but what each states. -/
import Derived.Test.YtnjloldhmjadoaaFrW5
import Derived.Lib.SlBytesConst
namespace Go.Proofs.Ytnjloldhmjadoaa
set_option linter.unusedVariables false
open Go Go.RowKit Ln Dt Fr

theorem run_const {P : Program} (w : World) (b : Nat) (hb : b = w.heap.size) (t e : TypeId) (C : Array Value) (n c : Nat) (ht : P.underlying t = some (.slice e)) (he : P.underlying e = some (.int .u8)) :
    (convert t t (.slice (some ⟨b, 0, none⟩) n c)).run P (w.alloc (.cells C e)) = .ok (.slice (some ⟨b, 0, none⟩) n c) (w.alloc (.cells C e (C.size, C.size + 1))) := by
  subst hb; exact Lib.run_convert_bytes_const w t e C n c ht he

theorem same_calls (w : World) (it : It) (a b : Value) (ha : Rd w a 1 (bvs it.bytes)) (hb : Rd w b 1 (bvs it.bytes)) :
    Calls Try.prog 16 #[itV it a, itV it b] w fun r w' => r = .returned (.bool true) ∧ Chg (fun _ => False) w w' := by
  unfold itV
  have kc := fun (o o' : Obj) => run_conv_txt (P := Try.prog) (ha.kept (((Chg.refl (fun _ => False) w).alloc o).alloc o') (fun _ _ _ h => h)) 24 9 _ Try.underlying24 Try.underlying5 Try.underlying9
  have kd := fun (o o' : Obj) => run_conv_txt (P := Try.prog) (hb.kept (((Chg.refl (fun _ => False) w).alloc o).alloc o') (fun _ _ _ h => h)) 24 9 _ Try.underlying24 Try.underlying5 Try.underlying9
  obtain ⟨a1, a2, a3, rfl, _⟩ := ha.shape
  obtain ⟨b1, b2, b3, rfl, _⟩ := hb.shape
  clear ha hb
  go_enter Try.func16, Try.ntmps16
  go_wp2
  go_ret
  exact ⟨rfl, ((Chg.refl _ w).alloc _).alloc _⟩

def pf (c : UInt8) : Bool := c != 13 && c != 10
def plainL (s : List UInt8) (most : Nat) : List UInt8 := (s.filter pf).take most
theorem plain_done {s : List UInt8} {most j : Nat} (hl : ((s.take j).filter pf).length ≤ most) (h : s.length ≤ j ∨ ((s.take j).filter pf).length = most) : (s.take j).filter pf = plainL s most := by
  have e : s.filter pf = (s.take j).filter pf ++ (s.drop j).filter pf := by rw [← List.filter_append, List.take_append_drop]
  unfold plainL
  rw [e]
  rcases h with h | h
  · rw [List.drop_of_length_le h, List.filter_nil, List.append_nil, List.take_of_length_le hl]
  · rw [← h, List.take_left]
def PlRel (w : World) (s : List UInt8) (most : Nat) (g : Nat) (ov iv : Value) (wr : World) : Prop :=
  ∃ j : Nat, j + g = s.length ∧ iv = .int .i64 j ∧ Arr wr 5 1 ov (bvs ((s.take j).filter pf)) ∧ ((s.take j).filter pf).length ≤ most ∧ (∀ k, ov.ownBlock = some k → w.heap.size ≤ k) ∧ Chg (fun _ => False) w wr

set_option maxHeartbeats 1000000 in
set_option maxRecDepth 100000 in
theorem plain_calls (w : World) (s : List UInt8) (most : Nat) (hs : s.length ≤ 1099511627776) (hm : most ≤ 16777216) :
    Calls Try.prog 26 #[.string ⟨s.toArray⟩, .int .i64 most] w fun r w' => r = .returned (.string ⟨(plainL s most).toArray⟩) ∧ Chg (fun _ => False) w w' := by
  obtain ⟨i0, hi0, hx0, hz0, hb0⟩ := info_parts Try.infoByte
  have hsz : (⟨s.toArray⟩ : ByteArray).size = s.length := rfl
  go_enter Try.func26, Try.ntmps26
  go_wp2_with fail
  go_loopg [5, 6] s.length (PlRel w s most)
  case atStart =>
    exact ⟨0, by omega, rfl, by simpa [bvs] using arr_empty_new w _ rfl _ 1, by simp, fun k hk => by simp [Value.ownBlock] at hk; omega, (Chg.refl _ w).alloc _⟩
  case round =>
    obtain ⟨j, hj, rfl, hA, hl, ho, hC⟩ := hrel
    obtain ⟨on, ol, oc, rfl, hol, _⟩ := hA.shape
    rw [bvs_length, Nat.mul_one] at hol
    subst hol
    have HA := Lib.hid hA
    have HO := Lib.hid ho
    have HC := Lib.hid hC
    clear hA ho hC
    have hcv := run_conv_txt (P := Try.prog) HA.out.rd 24 9 _ Try.underlying24 Try.underlying5 Try.underlying9
    by_cases hg : gk = 0
    · have hlt : ¬ (j : Int) < s.length := by omega
      have HD := Lib.hid (plain_done hl (.inl (by omega)))
      go_wp2
      go_ret
      exact ⟨congrArg (fun l : List UInt8 => Ending.returned (.string ⟨l.toArray⟩)) HD.out, HC.out⟩
    · have hlt : (j : Int) < s.length := by omega
      have hjl : j < s.length := by omega
      by_cases hfull : ((s.take j).filter pf).length = most
      · have hlt2 : ¬ ((((s.take j).filter pf).length : Nat) : Int) < most := by omega
        have HD := Lib.hid (plain_done hl (.inr hfull))
        clear hfull
        go_wp2
        go_ret
        exact ⟨congrArg (fun l : List UInt8 => Ending.returned (.string ⟨l.toArray⟩)) HD.out, HC.out⟩
      · have hlt2 : ((((s.take j).filter pf).length : Nat) : Int) < most := by omega
        have hnext : (s.take (j + 1)).filter pf = (s.take j).filter pf ++ if pf s[j] then [s[j]] else [] := by
          rw [List.take_succ_eq_append_getElem hjl, List.filter_append]
          congr 1
          by_cases h : pf s[j] <;> simp [h]
        have hdx : (⟨s.toArray⟩ : ByteArray)[j]'hjl = s[j] := by rfl
        generalize s[j] = c at *
        clear hcv
        by_cases h13 : c = 13
        · subst h13
          have HN := Lib.hid hnext
          clear hnext
          go_wp2
          go_roundg (gk - 1)
          case measure => omega
          case rel =>
            have hn := HN.out
            rw [show pf 13 = false from rfl] at hn
            simp only [Bool.false_eq_true, if_false, List.append_nil] at hn
            exact ⟨j + 1, by omega, by go_num, by rw [hn]; exact HA.out, by rw [hn]; exact hl, HO.out, HC.out⟩
        · by_cases h10 : c = 10
          · subst h10
            have HN := Lib.hid hnext
            clear hnext
            go_wp2
            go_roundg (gk - 1)
            case measure => omega
            case rel =>
              have hn := HN.out
              rw [show pf 10 = false from rfl] at hn
              simp only [Bool.false_eq_true, if_false, List.append_nil] at hn
              exact ⟨j + 1, by omega, by go_num, by rw [hn]; exact HA.out, by rw [hn]; exact hl, HO.out, HC.out⟩
          · have hp : pf c = true := by simp [pf, h13, h10]
            rw [hp] at hnext
            simp only [if_true] at hnext
            have t13 : ((c.toNat : Int) != 13) = true := by
              have : c.toNat ≠ 13 := fun e => h13 (UInt8.toNat_inj.1 (by simpa using e))
              simp; omega
            have t10 : ((c.toNat : Int) != 10) = true := by
              have : c.toNat ≠ 10 := fun e => h10 (UInt8.toNat_inj.1 (by simpa using e))
              simp; omega
            have HN := Lib.hid hnext
            clear hnext hp
            go_wp2_with (at_builtin; refine wpList_append_arr _ rfl _ _ 24 24 rfl 5 i0 (.int .u8 0) 1 1 Try.underlying24 hi0 hx0 hz0 hb0 rfl (by decide) _ (bvs ((s.take j).filter pf)) rfl (HA.out.kept ((Chg.refl (fun _ => False) wr).alloc _) (fun _ _ h => h)) (.slice (some ⟨wr.heap.size, 0, none⟩) 1 1) rfl 1 (bvs [c]) ?c1 ?c2 ?c3 ?c4)
            case c1 => exact (Rd.fresh' _ _ rfl _ _ _ _ _ [c] (by rfl) (by rfl) (by decide) (by decide)).src (bvs_one _) Try.underlying24
            case c2 => simp [bvs_length]; unfold maxLen; omega
            case c3 => simp [bvs_length]; omega
            case c4 =>
              intro v2 w2 ha hc hv
              rw [← bvs_append, ← HN.out] at ha
              have HA2 := Lib.hid ha
              have hO2 : ∀ k, v2.ownBlock = some k → w.heap.size ≤ k := by
                intro k hk
                have := HC.out.size
                rcases hv with e | e
                · rw [e] at hk; exact HO.out k hk
                · rw [e] at hk; simp at hk; omega
              have HO2 := Lib.hid hO2
              have HC2 := Lib.hid ((HC.out.alloc _).trans hc (T := fun k => some k = _) (fun i hi e => by have := HO.out i e.symm; omega))
              clear ha hc hv hO2
              go_wp2
              go_roundg (gk - 1)
              case measure => omega
              case rel =>
                exact ⟨j + 1, by omega, by go_num, HA2.out, by rw [HN.out]; simp; omega, HO2.out, HC2.out⟩

set_option maxHeartbeats 1000000 in
set_option maxRecDepth 100000 in
theorem head_calls (w : World) : Calls Try.prog 11 #[] w fun r w' => r = .returned (.bool true) ∧ Chg (fun _ => False) w w' := by
  have kc := fun (w : World) (b : Nat) (hb : b = w.heap.size) (C : Array Value) (n c : Nat) => run_const (P := Try.prog) w b hb 24 5 C n c Try.underlying24 Try.underlying5
  go_enter Try.func11, Try.ntmps11
  go_wp2_with fail
  refine (fr_New 10 10 20 1 1 1 w).mono ?_
  rintro e w1 h
  rcases h with ⟨_, b, F, rfl, h1, h2, h3, h4⟩ | ⟨h, _⟩
  case inr => exact absurd h (by decide)
  have H1 := Lib.hid (And.intro h1 (And.intro h2 (And.intro h3 h4)))
  have hnew : ∀ k, F k → w.heap.size ≤ k := h3
  clear h1 h2 h3 h4
  go_wp2_with fail
  have ha1 := ((Chg.refl (fun _ => False) w1).alloc (.cells #[.int .u8 97, .int .u8 98, .int .u8 13, .int .u8 10, .int .u8 99] 5 (5, 6)))
  refine (fr_Take (H1.out.1.kept ha1 (fun _ _ h => h)) (H1.out.2.1.of ha1) (.slice (some ⟨w1.heap.size, 0, none⟩) 5 5) [97, 98, 13, 10, 99] (Rd.fresh _ _ _ _ _ _ [97, 98, 13, 10, 99] (by rfl) (by rfl) (by decide) (by decide)) (fun k hk e => by simp [Value.ownBlock] at hk; have := H1.out.2.1 k e; omega) (by decide)).mono ?_
  have e1 : FM.take ⟨(10 : Int).toNat, (10 : Int).toNat, (20 : Int).toNat⟩ FM.new [97, 98, 13, 10, 99] = (4, ⟨1, [97, 98], [], 0, false⟩, FM.new) := by
    have e2 : Ln.take (((10 : Int).toNat : Nat) : Int) LS.new [97, 98, 13, 10, 99] = (4, ⟨1, [97, 98], 0⟩, LS.new) := by decide
    simp only [FM.take, FM.new, e2]; rfl
  rw [e1]
  rintro e w2 ⟨v2, rfl, g1, g2, ⟨F2, g3, g4, g5, g6⟩, g7⟩
  have h0 := H1.out.2.2.2.size
  have G := Lib.hid (And.intro g3 (And.intro g4 (And.intro g5 (And.intro g6 g7))))
  obtain ⟨a2, n2, p2, rfl, _⟩ := g1.shape
  clear g1 g2 g3 g4 g5 g6 g7 ha1 e1
  unfold itV
  go_wp2_with fail
  have ha3 := ((Chg.refl (fun _ => False) w2).alloc (.cells #[.int .i64 1, .string ⟨#[97, 98]⟩, .slice a2 n2 p2, .int .i64 0, .bool false] 35))
  refine (fr_Data (G.out.1.kept ha3 (fun _ _ h => h)) (G.out.2.1.of ha3)).mono ?_
  rintro e w3 ⟨rfl, F3, k1, k2, k3, k4⟩
  have K := Lib.hid (And.intro k1 (And.intro k2 (And.intro k3 k4)))
  clear k1 k2 k3 k4 ha3
  go_wp2_with fail
  refine (fr_Mode K.out.1).mono ?_
  rintro e w4 ⟨rfl, rfl⟩
  have H4 := Lib.hid H1.out.2.2.2
  go_wp2
  go_ret
  refine ⟨rfl, ?_⟩
  obtain ⟨u1, u2, u3, u4⟩ := H1.out
  obtain ⟨v1, v2, v3, v4, v5⟩ := G.out
  exact (((u4.alloc _).trans v5 (fun i hi e => by have := u3 i e; omega)).alloc _).trans K.out.2.2.2 (fun i hi e => by
    rcases v3 i e with h | h
    · have := u3 i h; omega
    · simp at h; omega)
end Go.Proofs.Ytnjloldhmjadoaa
