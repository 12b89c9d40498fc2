/- The laws' sameItems. No condition but what each states. -/
import Derived.Test.YtnjloldhmjadoaaPlW1
import Derived.Deep.DeepCutAuto
import Derived.Deep.RegionHeld3
namespace Go.Proofs.Ytnjloldhmjadoaa
set_option linter.unusedVariables false
open Go Go.RowKit Ln Dt Fr Pl

/-- Items as they lie, to be read. -/
def RdIts (w : World) (v : Value) (n : Nat) (out : List It) : Prop :=
  ∃ xs : List (It × Value), xs.map (·.1) = out ∧ xs.length = n ∧ Rd w v 5 (itsC xs) ∧ ∀ x ∈ xs, Rd w x.2 1 (bvs x.1.bytes)
theorem Its.rd {W0 : Nat} {w : World} {X : Nat → Prop} {ao : Option Addr} {n c : Nat} {out : List It} (h : Its W0 w X (.slice ao n c) out) : RdIts w (.slice ao n c) n out ∧ n = out.length := by
  obtain ⟨⟨xs, h1, h2, h3⟩, h4⟩ := h
  have hs := h2.rd.num
  rw [itsC_length] at hs
  have : xs.length = n := by omega
  exact ⟨⟨xs, h1, this, h2.rd, fun x hx => (h3 x hx).1.rd⟩, by rw [← h1]; simp; omega⟩
def SiRel (w0 : World) (n : Nat) (g : Nat) (iv : Value) (wr : World) : Prop := ∃ j : Nat, j + g = n ∧ iv = .int .i64 j ∧ Chg (fun _ => False) w0 wr
set_option maxHeartbeats 1000000 in
set_option maxRecDepth 100000 in
theorem sameItems_calls (w : World) (ao bo : Option Addr) (n c1 c2 : Nat) (out : List It) (ha : RdIts w (.slice ao n c1) n out) (hb : RdIts w (.slice bo n c2) n out) (hn : n ≤ 1099511627776) :
    Calls Try.prog 25 #[.slice ao n c1, .slice bo n c2] w fun r w' => r = .returned (.bool true) ∧ Chg (fun _ => False) w w' := by
  have HA := Lib.hid ha
  have HB := Lib.hid hb
  clear ha hb
  go_enter Try.func25, Try.ntmps25
  go_wp2_with fail
  go_loopg [13] n (SiRel w n)
  case atStart => exact ⟨0, by omega, rfl, Chg.refl _ _⟩
  case round =>
    obtain ⟨j, hj, rfl, hC⟩ := hrel
    have HC := Lib.hid hC
    clear hC
    by_cases hg : gk = 0
    · have hlt : ¬ (j : Int) < n := by omega
      go_wp2
      go_ret
      exact ⟨rfl, HC.out⟩
    · have hlt : (j : Int) < n := by omega
      have hjn : j < n := by omega
      obtain ⟨xs, x1, x2, x3, x4⟩ := HA.out
      obtain ⟨ys, y1, y2, y3, y4⟩ := HB.out
      have hjx : j < xs.length := by omega
      have hjy : j < ys.length := by omega
      have e1 : xs[j].1 = ys[j].1 := by
        have h1 : (xs.map (·.1))[j]? = (ys.map (·.1))[j]? := by rw [x1, y1]
        simpa [hjx, hjy] using h1
      have hne : itsC xs ≠ [] := by intro e; have := itsC_length xs; rw [e] at this; simp at this; omega
      have hne2 : itsC ys ≠ [] := by intro e; have := itsC_length ys; rw [e] at this; simp at this; omega
      obtain ⟨bl, o, rfl, hca⟩ := x3.at hne
      obtain ⟨bl2, o2, rfl, hcb⟩ := y3.at hne2
      have ra := x4 xs[j] (List.getElem_mem hjx)
      have rb := y4 ys[j] (List.getElem_mem hjy)
      have fa : ∀ i (hi : i < 5), w.cell? ⟨bl, o + (j * 5 + i), none⟩ = some ((itCs xs[j])[i]'hi) := fun i hi => by
        have hi' : j * 5 + i < (itsC xs).length := by rw [itsC_length]; omega
        rw [hca _ hi']
        have := rows_at 5 itCs (fun _ => rfl) xs j i hjx hi
        rw [show (xs.flatMap itCs) = itsC xs from rfl, List.getElem?_eq_getElem hi', List.getElem?_eq_getElem hi] at this
        exact this
      have fb : ∀ i (hi : i < 5), w.cell? ⟨bl2, o2 + (j * 5 + i), none⟩ = some ((itCs ys[j])[i]'hi) := fun i hi => by
        have hi' : j * 5 + i < (itsC ys).length := by rw [itsC_length]; omega
        rw [hcb _ hi']
        have := rows_at 5 itCs (fun _ => rfl) ys j i hjy hi
        rw [show (ys.flatMap itCs) = itsC ys from rfl, List.getElem?_eq_getElem hi', List.getElem?_eq_getElem hi] at this
        exact this
      have a0 := HC.out.cell (fa 0 (by omega)) (fun h => h)
      have a1 := HC.out.cell (fa 1 (by omega)) (fun h => h)
      have a2 := HC.out.cell (fa 2 (by omega)) (fun h => h)
      have a3 := HC.out.cell (fa 3 (by omega)) (fun h => h)
      have a4 := HC.out.cell (fa 4 (by omega)) (fun h => h)
      have b0 := HC.out.cell (fb 0 (by omega)) (fun h => h)
      have b1 := HC.out.cell (fb 1 (by omega)) (fun h => h)
      have b2 := HC.out.cell (fb 2 (by omega)) (fun h => h)
      have b3 := HC.out.cell (fb 3 (by omega)) (fun h => h)
      have b4 := HC.out.cell (fb 4 (by omega)) (fun h => h)
      simp only [itCs, List.getElem_cons_zero, List.getElem_cons_succ, Nat.add_zero, ← Nat.add_assoc] at a0 a1 a2 a3 a4 b0 b1 b2 b3 b4
      rw [← e1] at b0 b1 b3 b4 rb
      obtain ⟨s1, s2, s3, es, _⟩ := ra.shape
      obtain ⟨u1, u2, u3, eu, _⟩ := rb.shape
      rw [es] at a2 ra
      rw [eu] at b2 rb
      have RA := Lib.hid (ra.kept HC.out (fun _ _ _ h => h))
      have RB := Lib.hid (rb.kept HC.out (fun _ _ _ h => h))
      generalize xs[j].1 = it at *
      clear fa fb hca hcb ra rb x1 x2 x3 x4 y1 y2 y3 y4 es eu e1 hne hne2 hjx hjy
      go_upto_region 6 with (fail)
      go_cut [25] (fun a wx => a = .bool false ∧ Chg (fun _ => False) wr wx)
      case first =>
        have sm := fun w' (c : Sam wr w') => same_calls w' it (.slice s1 s2 s3) (.slice u1 u2 u3) (RA.out.kept c (fun _ _ _ h => h)) (RB.out.kept c (fun _ _ _ h => h))
        unfold itV at sm
        have SM := Lib.hid sm
        clear sm
        have s0 := Sam.refl wr
        have k0 : ∀ w', Sam wr w' → w'.cell? ⟨bl, o + j * 5, none⟩ = some (.int .i64 it.kind) := fun w' h => Chg.cell h a0 (fun h => h)
        have k1 : ∀ w', Sam wr w' → w'.cell? ⟨bl, o + j * 5 + 1, none⟩ = some (.string ⟨it.text.toArray⟩) := fun w' h => Chg.cell h a1 (fun h => h)
        have k2 : ∀ w', Sam wr w' → w'.cell? ⟨bl, o + j * 5 + 2, none⟩ = some (.slice s1 s2 s3) := fun w' h => Chg.cell h a2 (fun h => h)
        have k3 : ∀ w', Sam wr w' → w'.cell? ⟨bl, o + j * 5 + 3, none⟩ = some (.int .i64 it.why) := fun w' h => Chg.cell h a3 (fun h => h)
        have k4 : ∀ w', Sam wr w' → w'.cell? ⟨bl, o + j * 5 + 4, none⟩ = some (.bool it.high) := fun w' h => Chg.cell h a4 (fun h => h)
        have l0 : ∀ w', Sam wr w' → w'.cell? ⟨bl2, o2 + j * 5, none⟩ = some (.int .i64 it.kind) := fun w' h => Chg.cell h b0 (fun h => h)
        have l1 : ∀ w', Sam wr w' → w'.cell? ⟨bl2, o2 + j * 5 + 1, none⟩ = some (.string ⟨it.text.toArray⟩) := fun w' h => Chg.cell h b1 (fun h => h)
        have l2 : ∀ w', Sam wr w' → w'.cell? ⟨bl2, o2 + j * 5 + 2, none⟩ = some (.slice u1 u2 u3) := fun w' h => Chg.cell h b2 (fun h => h)
        have l3 : ∀ w', Sam wr w' → w'.cell? ⟨bl2, o2 + j * 5 + 3, none⟩ = some (.int .i64 it.why) := fun w' h => Chg.cell h b3 (fun h => h)
        have l4 : ∀ w', Sam wr w' → w'.cell? ⟨bl2, o2 + j * 5 + 4, none⟩ = some (.bool it.high) := fun w' h => Chg.cell h b4 (fun h => h)
        clear a0 a1 a2 a3 a4 b0 b1 b2 b3 b4
        go_region_held3 (fun w' => Sam wr w') (first | assumption | exact Sam.drew (by assumption)) (first
          | (go_at_call 16; refine (SM.out _ (by assumption)).mono ?_; rintro e w5 ⟨rfl, c5⟩; have s5 := Sam.more (w0 := wr) (by assumption) c5))
        go_wp2
        go_meet
        exact ⟨rfl, s5⟩
      case rest =>
        obtain ⟨rfl, c5⟩ := hcut
        have HC5 := Lib.hid (HC.out.trans c5 (fun _ _ h => h))
        clear c5 a0 a1 a2 a3 a4 b0 b1 b2 b3 b4
        go_wp2
        go_roundg (gk - 1)
        case measure => omega
        case rel => exact ⟨j + 1, by omega, by go_num, HC5.out⟩
end Go.Proofs.Ytnjloldhmjadoaa
