/- The definition's liner: New, Line. No condition but what each states. -/
import Derived.Test.YtccmickmcpfapaaLnL2
import Derived.Deep.Cut
namespace Go.Proofs.Ytccmickmcpfapaa
open Go Go.RowKit Ln

/-- The definition's liner in block b: its bound, its bytes' slice v, its bytes. -/
structure RefAt (w : World) (b : Nat) (most : Int) (v : Value) (l : List UInt8) : Prop where
  blk : w.heap[b]? = some (.cells #[.int .i64 most, v] 53 (0, 0))
  arr : Arr w 5 1 v (bvs l)
  apart : v.ownBlock ≠ some b

theorem ref_new (m : Int) (w : World) (h1 : 1 ≤ m) (h2 : m ≤ 16777216) :
    Calls Try.prog 13 #[.int .i64 m] w fun r w' => r = .returned (.tuple #[.pointer (some ⟨w.heap.size, 0, none⟩), .int .i64 0]) ∧ RefAt w' w.heap.size m (.slice none 0 0) [] ∧ Chg (fun _ => False) w w' := by
  have t1 : ¬ m < 1 := by omega
  have t2 : ¬ 16777216 < m := by omega
  go_enter Try.func13, Try.ntmps13
  go_wp2
  go_ret2
  exact ⟨rfl, ⟨heap_alloc_at _ _, Arr.nil _ _ _, by simp [Value.ownBlock]⟩, (Chg.refl _ w).alloc _⟩
theorem ref_new_no (m : Int) (w : World) (h : m < 1 ∨ 16777216 < m) :
    Calls Try.prog 13 #[.int .i64 m] w fun r w' => r = .returned (.tuple #[.pointer none, .int .i64 2]) ∧ w = w' := by
  rcases h with h | h
  all_goals
    go_enter Try.func13, Try.ntmps13
    go_wp2
    all_goals
      go_ret2
      exact ⟨rfl, rfl⟩

theorem item_sets (w : World) (b : Nat) (k : Int) (t : ByteArray) (y : Int) : Chg (fun i => i = b) w (w.setCells b 0 [.int .i64 k, .string t, .slice none 0 0, .int .i64 y, .bool false]) := Chg.sets (S := fun k => k = b) b (fun _ => rfl) _ 0 w (Chg.refl _ _)
/-- From 0 to j no CR and no LF stands in s. -/
def RAt (w0 : World) (s : List UInt8) (g : Nat) (iv : Value) (wr : World) : Prop :=
  ∃ j : Nat, j + g = s.length ∧ iv = .int .i64 j ∧ (s.take j).any (fun c => c == 13 || c == 10) = false ∧ Chg (fun _ => False) w0 wr
theorem ref_line (s : List UInt8) (v : Value) (m : Int) (w : World) (h : Rd w v 1 (bvs s)) :
    Calls Try.prog 20 #[v, .int .i64 m] w fun r w' => r = .returned (itmV (line s m)) ∧ Chg (fun _ => False) w w' := by
  obtain ⟨ao, n, cap, rfl, hc⟩ := h.shape
  obtain rfl : s.length = n := h.len.symm
  have hb : (w.alloc (.cells #[.int .i64 0, .string ⟨#[]⟩, .slice none 0 0, .int .i64 0, .bool false] 46)).heap[w.heap.size]? = some (.cells #[.int .i64 0, .string ⟨#[]⟩, .slice none 0 0, .int .i64 0, .bool false] 46 (0, 0)) := heap_alloc_at _ _
  have HB := Lib.hid hb
  have HC := Lib.hid ((Chg.refl (fun _ => False) w).alloc (.cells #[.int .i64 0, .string ⟨#[]⟩, .slice none 0 0, .int .i64 0, .bool false] 46))
  have h0 := h
  have hml : (s.length : Int) ≤ 9223372036854775807 := by
    obtain ⟨_, n', _, _, e2, e3, e4, _⟩ := h
    rw [bvs_length] at e2
    have : maxLen ≤ 9223372036854775807 := by decide
    omega
  clear hb h hc
  go_enter Try.func20, Try.ntmps20
  go_upto_region 1 with (fail)
  have HR0 := Lib.hid (h0.kept ((Chg.refl (fun _ => False) w).alloc (.cells #[.int .i64 0, .string ⟨#[]⟩, .slice none 0 0, .int .i64 0, .bool false] 46)) (fun _ _ _ h => h))
  revert HB HC HR0
  generalize w.alloc (.cells #[.int .i64 0, .string ⟨#[]⟩, .slice none 0 0, .int .i64 0, .bool false] 46) = W0
  intro HB HC HR0
  go_wp2_with fail
  go_loopg [5] s.length (RAt W0 s)
  case atStart => exact ⟨0, by omega, rfl, rfl, Chg.refl _ _⟩
  case round =>
    obtain ⟨j, hj, rfl, hany, hc⟩ := hrel
    have HCC := Lib.hid hc
    have hbb := hc.obj HB.out (fun h => h)
    have hrr := HR0.out.kept hc (fun _ _ _ h => h)
    have k0 : wr.cell? ⟨w.heap.size, 0, none⟩ = _ := cell_of_blk hbb 0
    have k1 : wr.cell? ⟨w.heap.size, 1, none⟩ = _ := cell_of_blk hbb 1
    have k2 : wr.cell? ⟨w.heap.size, 2, none⟩ = _ := cell_of_blk hbb 2
    have k3 : wr.cell? ⟨w.heap.size, 3, none⟩ = _ := cell_of_blk hbb 3
    have k4 : wr.cell? ⟨w.heap.size, 4, none⟩ = _ := cell_of_blk hbb 4
    simp only [List.getElem?_toArray, List.getElem?_cons_zero, List.getElem?_cons_succ] at k0 k1 k2 k3 k4
    have kf := fun i => free_of_blk hbb i
    by_cases hg : gk = 0
    · have hlt : ¬ (j : Int) < s.length := by omega
      have hall : s.any (fun c => c == 13 || c == 10) = false := by rw [List.take_of_length_le (by omega)] at hany; exact hany
      have HALL := Lib.hid hall
      by_cases hm : m < (s.length : Int)
      · have HL : line s m = ⟨2, [], 131⟩ := by rw [line, HALL.out, if_neg Bool.false_ne_true, if_pos hm]
        have HLL := Lib.hid HL
        clear hc hbb hrr hany hall HL
        go_wp2
        refine bodyPost_ret (v := .agg #[.int .i64 2, .string ⟨#[]⟩, .slice none 0 0, .int .i64 131, .bool false]) ?_ rfl ⟨?_, ?_⟩
        · simp [results, Try.results20, go_sem, k0, k1, k2, k3, k4]
        · rw [HLL.out]; rfl
        · exact (HC.out.trans HCC.out (fun _ _ h => h)).trans (item_sets wr w.heap.size 2 ⟨#[]⟩ 131) (fun i hi h => by omega)
      · have HL : line s m = ⟨1, s, 0⟩ := by rw [line, HALL.out, if_neg Bool.false_ne_true, if_neg (by omega)]
        have HLL := Lib.hid HL
        have hcv := run_conv_txt (P := Try.prog) hrr 22 9 _ Try.underlying22 Try.underlying5 Try.underlying9
        clear hc hbb hrr hany hall HL
        go_wp2
        refine bodyPost_ret (v := .agg #[.int .i64 1, .string ⟨s.toArray⟩, .slice none 0 0, .int .i64 0, .bool false]) ?_ rfl ⟨?_, ?_⟩
        · simp [results, Try.results20, go_sem, k0, k1, k2, k3, k4]
        · rw [HLL.out]; rfl
        · exact (HC.out.trans HCC.out (fun _ _ h => h)).trans (item_sets wr w.heap.size 1 ⟨s.toArray⟩ 0) (fun i hi h => by omega)
    · have hlt : (j : Int) < s.length := by omega
      have hjl : j < s.length := by omega
      obtain ⟨bl, o, rfl, hcell⟩ := hrr.byte j hjl
      obtain ⟨c, hcj⟩ : ∃ c, c = s[j] := ⟨_, rfl⟩
      rw [← hcj] at hcell
      have hstop : (c = 13 ∨ c = 10) → line s m = ⟨2, [], 130⟩ := fun h => by
        have : s.any (fun c => c == 13 || c == 10) = true := by
          rw [List.any_eq_true]
          exact ⟨c, by rw [hcj]; exact List.getElem_mem hjl, by rcases h with h | h <;> subst h <;> rfl⟩
        rw [line, if_pos this]
      have hgo : ¬ c = 13 → ¬ c = 10 → (s.take (j + 1)).any (fun c => c == 13 || c == 10) = false := fun h1 h2 => by
        rw [List.take_succ_eq_append_getElem hjl, List.any_append, hany, ← hcj]
        simp [h1, h2]
      have HST := Lib.hid hstop
      have HGO := Lib.hid hgo
      have hb1 := UInt8.toNat_lt c
      clear hc hbb hrr hany hstop hgo hcj
      by_cases h13 : (c.toNat : Int) = 13
      · have HLL := Lib.hid (HST.out (.inl (by rw [← UInt8.toNat_inj]; show c.toNat = 13; omega)))
        clear HST HGO
        go_wp2
        refine bodyPost_ret (v := .agg #[.int .i64 2, .string ⟨#[]⟩, .slice none 0 0, .int .i64 130, .bool false]) ?_ rfl ⟨?_, ?_⟩
        · simp [results, Try.results20, go_sem, k0, k1, k2, k3, k4]
        · rw [HLL.out]; rfl
        · exact (HC.out.trans HCC.out (fun _ _ h => h)).trans (item_sets wr w.heap.size 2 ⟨#[]⟩ 130) (fun i hi h => by omega)
      · by_cases h10 : (c.toNat : Int) = 10
        · have HLL := Lib.hid (HST.out (.inr (by rw [← UInt8.toNat_inj]; show c.toNat = 10; omega)))
          clear HST HGO
          go_wp2
          refine bodyPost_ret (v := .agg #[.int .i64 2, .string ⟨#[]⟩, .slice none 0 0, .int .i64 130, .bool false]) ?_ rfl ⟨?_, ?_⟩
          · simp [results, Try.results20, go_sem, k0, k1, k2, k3, k4]
          · rw [HLL.out]; rfl
          · exact (HC.out.trans HCC.out (fun _ _ h => h)).trans (item_sets wr w.heap.size 2 ⟨#[]⟩ 130) (fun i hi h => by omega)
        · have HN := Lib.hid (HGO.out (by rintro rfl; exact h13 rfl) (by rintro rfl; exact h10 rfl))
          have e13 : ((c.toNat : Int) == 13) = false := beq_eq_false_iff_ne.2 h13
          have e10 : ((c.toNat : Int) == 10) = false := beq_eq_false_iff_ne.2 h10
          clear HST HGO h13 h10
          go_wp2
          go_roundg (gk - 1)
          case measure => omega
          case rel => exact ⟨j + 1, by omega, by go_num, HN.out, HCC.out⟩
end Go.Proofs.Ytccmickmcpfapaa
