/- The law LinePieces, its bytes and cuts at most 2^20 each. -/
import Derived.Test.YtccmickmcpfapaaLnL3
import Derived.Laws.StructEq
namespace Go.Proofs.Ytccmickmcpfapaa
open Go Go.RowKit Ln

theorem toldsV_get (l : List (Itm × Nat)) (i j : Nat) (hi : i < l.length) (hj : j < 4) : (toldsV l)[i * 4 + j]? = (toldV l[i])[j]? := by
  induction l generalizing i with
  | nil => simp at hi
  | cons x r ih =>
    cases i with
    | zero =>
      simp only [toldsV, List.flatMap_cons, Nat.zero_mul, Nat.zero_add, List.getElem_cons_zero]
      rw [List.getElem?_append_left (by simp [toldV]; omega)]
    | succ i =>
      have := ih i (by simpa using hi)
      simp only [toldsV, List.flatMap_cons, List.getElem_cons_succ] at this ⊢
      rw [List.getElem?_append_right (by simp [toldV]; omega)]
      rw [← this]
      congr 1
      simp [toldV]; omega
/-- Where a told item lies. -/
theorem told_at {w : World} {ao : Option Addr} {n cap : Nat} {l : List (Itm × Nat)} (h : Rd w (.slice ao n cap) 4 (toldsV l)) (i : Nat) (hi : i < l.length) :
    ∃ b o, ao = some ⟨b, o, none⟩ ∧ w.cell? ⟨b, o + i * 4, none⟩ = some (.int .i64 l[i].1.kind) ∧ w.cell? ⟨b, o + i * 4 + 1, none⟩ = some (.string ⟨l[i].1.text.toArray⟩) ∧ w.cell? ⟨b, o + i * 4 + 2, none⟩ = some (.int .i64 l[i].1.why) ∧ w.cell? ⟨b, o + i * 4 + 3, none⟩ = some (.int .i64 l[i].2) := by
  have hne : toldsV l ≠ [] := by intro e; have := toldsV_length l; rw [e] at this; simp at this; omega
  obtain ⟨b, o, rfl, hc⟩ := h.at hne
  have key : ∀ j u, j < 4 → (toldV l[i])[j]? = some u → w.cell? ⟨b, o + i * 4 + j, none⟩ = some u := by
    intro j u hj hu
    have hlt : i * 4 + j < (toldsV l).length := by rw [toldsV_length]; omega
    have := hc (i * 4 + j) hlt
    rw [← Nat.add_assoc] at this
    rw [this]
    rw [← toldsV_get l i j hi hj, List.getElem?_eq_getElem hlt] at hu
    exact hu
  exact ⟨b, o, rfl, key 0 _ (by omega) rfl, key 1 _ (by omega) rfl, key 2 _ (by omega) rfl, key 3 _ (by omega) rfl⟩
/-- A loop over the told items that only reads: j are looked at. -/
def LIdx (w0 : World) (n : Nat) (g : Nat) (i : Value) (wr : World) : Prop := ∃ j : Nat, j + g = n ∧ i = .int .i64 j ∧ Chg (fun _ => False) w0 wr

set_option maxHeartbeats 1000000 in
set_option maxRecDepth 100000 in
theorem pieces_walk (W : World) (bv cv dv : Value) (bs : List UInt8) (cuts others : List Int) (hbs : Rd W bv 1 (bvs bs)) (hcs : Rd W cv 1 (cuts.map (Value.int .i64))) (hds : Rd W dv 1 (others.map (Value.int .i64)))
    (hlen : bs.length ≤ 1048576) (hcl : cuts.length ≤ 1048576) (hdl : others.length ≤ 1048576) :
    Calls Try.prog 3 #[bv, cv, dv] W fun e w' => e = .returned (.bool true) ∧ Below W.heap.size W w' := by
  obtain ⟨co, cn, cc, rfl, _⟩ := hcs.shape
  obtain rfl : cuts.length = cn := by have := hcs.num; simpa using this
  have HB := Lib.hid hbs
  have HCU := Lib.hid hcs
  have HDU := Lib.hid hds
  clear hbs hcs hds
  go_enter Try.func3, Try.ntmps3
  go_wp2_with fail
  refine (line_wakes _).mono ?_
  rintro e w1 ⟨rfl, hc1⟩
  have HC1 := Lib.hid hc1
  clear hc1
  go_wp2_with fail
  refine (line_bound _ _).mono ?_
  rintro e w1 ⟨rfl, rfl⟩
  have hbr := bnd_range (cuts.length : Int) (by omega) (by omega)
  generalize bnd (cuts.length : Int) = m at *
  obtain ⟨hm0, hm1⟩ := hbr
  go_wp2_with fail
  refine (line_all _ m hm0 hm1 _ _ bs cuts (HB.out.kept HC1.out (fun _ _ _ h => h)) (HCU.out.kept HC1.out (fun _ _ _ h => h)) hlen hcl).mono ?_
  rintro e w2 ⟨v1, rfl, ha1, ho1, hc2⟩
  have HA1 := Lib.hid ha1
  have HC2 := Lib.hid hc2
  obtain ⟨a1, n1, p1, rfl, hn1, _⟩ := ha1.shape
  have hz1 := HC1.out.size
  clear ha1 ho1 hc2
  go_wp2_with fail
  refine (line_all _ m hm0 hm1 _ _ bs others ((HB.out.kept HC1.out (fun _ _ _ h => h)).kept HC2.out (fun hx k hk h => by have := HB.out.lt hx k hk; omega)) ((HDU.out.kept HC1.out (fun _ _ _ h => h)).kept HC2.out (fun hx k hk h => by have := HDU.out.lt hx k hk; omega)) hlen hdl).mono ?_
  rintro e w3 ⟨v2, rfl, ha2, ho2, hc3⟩
  have HA2 := Lib.hid ha2
  have HC3 := Lib.hid hc3
  obtain ⟨a2, n2, p2, rfl, hn2, _⟩ := ha2.shape
  have ha1' := HA1.out.kept hc3 (fun k hk h => by have := HA1.out.lt k hk; omega)
  have HA1' := Lib.hid ha1'
  have hit := (run_since m bs LS.new 0).2
  generalize (run m LS.new 0 bs).2.2 = since at *
  generalize (run m LS.new 0 bs).1 = items at *
  rw [toldsV_length] at hn1 hn2
  obtain rfl : n1 = items.length := by omega
  obtain rfl : n2 = items.length := by omega
  clear ha2 ho2 hc3 ha1' hn1 hn2
  go_wp2_with fail
  go_loopg [56] (items.length) (LIdx w3 items.length)
  case atStart => exact ⟨0, by omega, rfl, Chg.refl _ _⟩
  case round =>
    obtain ⟨j, hj, rfl, hch⟩ := hrel
    have HC := Lib.hid hch
    clear hch
    by_cases hg : gk = 0
    · have hge : ¬ (j : Int) < items.length := by omega
      go_wp2
      go_ret
      have h1 := HC1.out.mono (T := fun k => W.heap.size ≤ k) (fun _ _ h => h.elim)
      exact ⟨rfl, (((h1.trans HC2.out (fun i _ h => by omega)).trans HC3.out (fun i _ h => by have := HC2.out.size; omega)).trans HC.out (fun _ _ h => h.elim)).below (Nat.le_refl _) (fun k hk => by omega)⟩
    · have hlt : (j : Int) < items.length := by omega
      have hjl : j < items.length := by omega
      obtain ⟨b1, o1, rfl, x0, x1, x2, x3⟩ := told_at (HA1'.out.rd.kept HC.out (fun _ _ _ h => h)) j hjl
      obtain ⟨b2, o2, rfl, y0, y1, y2, y3⟩ := told_at (HA2.out.rd.kept HC.out (fun _ _ _ h => h)) j hjl
      generalize items[j] = it at *
      go_wp2
      go_quiet (fail)
      go_wp2
      go_roundg (gk - 1)
      case measure => omega
      case rel => exact ⟨j + 1, by omega, by go_num, HC.out.drewN _⟩

end Go.Proofs.Ytccmickmcpfapaa
