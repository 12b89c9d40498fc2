/- The law FramerChunks, walked. No condition but what is stated. -/
import Derived.Test.YtnjloldhmjadoaaPlT2
namespace Go.Proofs.Ytnjloldhmjadoaa
set_option linter.unusedVariables false
open Go Go.RowKit Ln Dt Fr Pl
attribute [local irreducible] withinN

/-- What a chunk behind an empty row, and a row behind it, come to. -/
def outC (b : List UInt8) (rm : Nat) (p : List UInt8) : List It := [rowIt []] ++ (if b.take rm = [] then [] else [It.body (b.take rm)]) ++ [endIt, rowIt p]
abbrev tnsC (b : List UInt8) (rm : Nat) : Obj := .cells #[.int .i64 2, .int .i64 b.length, .int .i64 rm, .int .i64 0, .int .i64 0, .int .i64 0, .int .i64 0, .int .i64 0, .int .i64 0] 70
theorem chunk_played (w : World) (va ca : Option Addr) (n vc cc tb rm : Nat) (b p cs : List UInt8) (hall : Rd w (.slice va n vc) 1 (bvs ([13, 10] ++ b ++ (p ++ [13, 10])))) (hc : Rd w (.slice ca cs.length cc) 1 (bvs cs)) (ht : w.heap[tb]? = some (tnsC b rm))
    (hbl : b.length ≤ 1048576) (hpl : p.length ≤ 1024) (hp : ∀ c ∈ p, pf c = true) (hcl : cs.length ≤ 1048576) (hz : cs ≠ [] → allZero cs = false) (hrm : (rm : Int) ≤ 9223372036854775807) :
    Calls Try.prog 23 #[.agg #[.int .i64 1024, .int .i64 1, .int .i64 1, .int .i64 1, .int .i64 1, .int .i64 1], .slice va n vc, .slice ca cs.length cc, .slice (some ⟨tb, 0, none⟩) 3 3] w fun e w' =>
      ∃ (o1 : Option Addr) (n1 q1 : Nat), e = .returned (.tuple #[.slice o1 n1 q1, .int .i64 1, .bool true]) ∧ RdIts w' (.slice o1 n1 q1) n1 (outC b rm p) ∧ n1 ≤ 1099511627776 ∧ Chg (fun _ => False) w w' := by
  have hn := hall.len
  subst hn
  have hts : Rd w (.slice (some ⟨tb, 0, none⟩) [(⟨2, b.length, rm⟩ : Tn), ⟨0, 0, 0⟩, ⟨0, 0, 0⟩].length 3) 3 ([(⟨2, b.length, rm⟩ : Tn), ⟨0, 0, 0⟩, ⟨0, 0, 0⟩].flatMap tnCs) := by
    refine ⟨_, 3, 3, rfl, rfl, Nat.le_refl _, by unfold maxLen; omega, (fun h => by cases h), ?_⟩
    intro a ha _
    injection ha with ha; subst ha
    refine ⟨rfl, fun i hi => ?_⟩
    rw [cell_of_blk ht]
    simp only [Nat.zero_add]
    rw [← Array.getElem?_toList]
    exact List.getElem?_eq_getElem hi
  have hle : ([13, 10] ++ b ++ (p ++ [13, 10])).length ≤ 1049608 := by simp; omega
  refine (played_calls w 1024 1 1 (by omega) (by omega) (by omega) va ca _ vc cc 3 ([13, 10] ++ b ++ (p ++ [13, 10])) cs _ hall hc hts (by omega) hcl (by simp) (by simp only [List.length_cons, List.length_nil]; omega) hz (by simp [endl, nought]) (fun o ho => ?_)).mono ?_
  · simp only [List.mem_cons, List.not_mem_nil, or_false] at ho
    rcases ho with rfl | rfl | rfl
    · exact ⟨by simp; omega, hrm⟩
    · exact ⟨by simp, by simp⟩
    · exact ⟨by simp, by simp⟩
  · rintro e w' ⟨S, oa, on, oc, rfl, r1, r2, r3, r4⟩
    have hrun := chunk_row (L := ⟨1024, 1, 1⟩) b rm p hp hpl
    obtain rfl := r1.det hrun
    exact ⟨oa, on, oc, rfl, r2, r3, r4⟩

theorem take_len (b : List UInt8) (rm : Nat) : b.take (b.take rm).length = b.take rm := by
  rw [List.length_take]
  by_cases h : rm ≤ b.length
  · rw [Nat.min_eq_left h]
  · rw [Nat.min_eq_right (by omega), List.take_of_length_le (Nat.le_refl _), List.take_of_length_le (by omega)]
def preC (td : List UInt8) : List It := [rowIt []] ++ (if td = [] then [] else [It.body td])
theorem outC_pre (b : List UInt8) (rm : Nat) (p : List UInt8) : outC b rm p = preC (b.take rm) ++ [endIt, rowIt p] := rfl
theorem nil_rd (w : World) : Rd w (.slice none 0 0) 1 (bvs []) := ⟨none, 0, 0, rfl, by simp [bvs], by simp, by simp [maxLen], fun _ => ⟨rfl, rfl⟩, fun a h => by cases h⟩
theorem src_two (w : World) (a b : It) (k : Nat) (hk : k = w.heap.size) : Src Try.prog 5 58 (.slice (some ⟨k, 0, none⟩) 2 2) 2 (itCs (a, .slice none 0 0) ++ itCs (b, .slice none 0 0)) (w.alloc (.cells #[.int .i64 a.kind, .string ⟨a.text.toArray⟩, .slice none 0 0, .int .i64 a.why, .bool a.high, .int .i64 b.kind, .string ⟨b.text.toArray⟩, .slice none 0 0, .int .i64 b.why, .bool b.high] 35)) := by
  refine Src.ofSlice _ Try.underlying58 _ 2 2 _ rfl (fun j u hu => ?_) ?_
  · rw [Addr.add_none, Nat.zero_add]
    refine cell_alloc_eq hk ?_
    simpa [itCs] using hu
  · intro u hu
    simp only [itCs, List.mem_append, List.mem_cons, List.not_mem_nil, or_false] at hu
    rcases hu with (rfl | rfl | rfl | rfl | rfl) | (rfl | rfl | rfl | rfl | rfl) <;> rfl
/-- What is wanted, as it lies. -/
def WantC (W W7 : World) (td : List UInt8) (v : Value) (wx : World) : Prop :=
  ∃ (a : Option Addr) (n c : Nat) (xs : List (It × Value)), v = .slice a n c ∧ Arr wx 35 5 (.slice a n c) (itsC xs) ∧ xs.map (·.1) = preC td ∧ (∀ x ∈ xs, Rd W x.2 1 (bvs x.1.bytes)) ∧ xs.length ≤ 2 ∧ (∀ k, (Value.slice a n c).ownBlock = some k → W7.heap.size ≤ k) ∧ Chg (fun _ => False) W7 wx
set_option maxHeartbeats 16000000 in
set_option maxRecDepth 100000 in
theorem chunks_walk (W : World) (bo ca : Option Addr) (bc cc : Nat) (b : List UInt8) (room : Int) (s cs : List UInt8) (hb : Rd W (.slice bo b.length bc) 1 (bvs b)) (hc : Rd W (.slice ca cs.length cc) 1 (bvs cs))
    (hroom : room ≤ 9223372036854775807) (hs : b.length + s.length + cs.length ≤ 1048576) :
    Calls Try.prog 7 #[.agg #[.slice bo b.length bc, .int .i64 room, .string ⟨s.toArray⟩, .slice ca cs.length cc]] W fun e w' => e = .returned (.bool true) ∧ Below W.heap.size W w' := by
  obtain ⟨i0, hi0, hx0, hz0, hb0⟩ := info_parts Try.infoByte
  obtain ⟨i1, hi1, hy0, hy1, hy2⟩ := info_parts Try.infoItem
  have kc := fun (w : World) (b : Nat) (hb : b = w.heap.size) (C : Array Value) (n c : Nat) => run_const (P := Try.prog) w b hb 24 5 C n c Try.underlying24 Try.underlying5
  have HB := Lib.hid hb
  have HCS := Lib.hid hc
  have HRO := Lib.hid hroom
  clear hb hc hroom
  go_enter Try.func7, Try.ntmps7
  go_wp2_with fail
  refine (head_calls _).mono ?_
  rintro e w1 ⟨rfl, c1⟩
  have hch1 := ((Chg.refl (fun _ => False) W).alloc _).trans c1 (fun _ _ h => h)
  have bx := c1.obj (heap_alloc_at _ _) (fun h => h)
  have hl1 := lt_of_block bx
  have y0 := cell_of_blk bx 0
  have y1 := cell_of_blk bx 1
  have y2 := cell_of_blk bx 2
  have y3 := cell_of_blk bx 3
  simp at y0 y1 y2 y3
  have C1 := Lib.hid hch1
  clear hch1 bx c1
  go_upto_region 3 with (fail)
  go_cut [3, 4, 5, 6] (fun a r' t' c' wx => a = .slice bo b.length bc ∧ r' = .int .i64 room ∧ t' = .string ⟨s.toArray⟩ ∧ c' = .slice ca cs.length cc ∧ Chg (fun _ => False) W wx)
  case first =>
    go_quiet (fail)
    go_wp2
    go_meet
    exact ⟨rfl, rfl, rfl, rfl, by first | exact C1.out | exact C1.out.drew | exact C1.out.drewN _⟩
  case rest =>
    obtain ⟨rfl, rfl, rfl, rfl, c2⟩ := hcut
    obtain ⟨W2, hW2⟩ : ∃ W2 : World, W2 = wc := ⟨_, rfl⟩
    subst hW2
    have C2 := Lib.hid c2
    clear c2 C1 y0 y1 y2 y3 hl1
    have hlt : ¬ (1048576 : Int) < b.length := by omega
    go_upto_if 31 with (fail)
    go_cut [4] (fun a wx => a = .int .i64 (max0 room) ∧ wx = W2)
    case first =>
      by_cases hr : room < 0
      · have HE := Lib.hid (show max0 room = 0 by unfold max0; omega)
        go_wp2
        go_meet
        exact ⟨by rw [HE.out], rfl⟩
      · have HE := Lib.hid (show max0 room = room by unfold max0; omega)
        go_wp2
        go_meet
        exact ⟨by rw [HE.out], rfl⟩
    case rest =>
      obtain ⟨rfl, hw⟩ := hcut
      have hw' := hw.symm
      subst hw'
      clear hw hlt
      obtain ⟨rm, hrm⟩ : ∃ rm : Nat, (rm : Int) = max0 room := ⟨(max0 room).toNat, by unfold max0; omega⟩
      rw [← hrm]
      have hrm9 : (rm : Int) ≤ 9223372036854775807 := by rw [hrm]; have := HRO.out; unfold max0; omega
      clear hrm
      go_upto_region 8 with (fail)
      go_cut [38] (fun a wx => a = .bool (decide (cs ≠ []) && allZero cs) ∧ wx = W2)
      case first =>
        rcases zero_cases cs with ⟨h1, z1⟩ | ⟨h1, z1⟩ | ⟨h1, z1⟩
        · have hn1 : ¬ 0 < cs.length := by rw [h1]; decide
          have HE := Lib.hid (show (decide (cs ≠ []) && allZero cs) = false by simp [h1])
          clear h1 z1
          go_wp2
          go_meet
          exact ⟨by rw [HE.out], rfl⟩
        all_goals
          have hn1 : 0 < cs.length := List.length_pos_iff.2 h1
          have HE := Lib.hid (show (decide (cs ≠ []) && allZero cs) = allZero cs by simp [h1])
          clear h1 z1
          go_wp2_with fail
          refine (zeros_calls _ ca cc cs (HCS.out.kept C2.out (fun _ _ _ h => h)) (by omega)).mono ?_
          rintro e w6 ⟨rfl, rfl⟩
          go_wp2
          go_meet
          exact ⟨by rw [HE.out], rfl⟩
      case rest =>
        obtain ⟨rfl, hw⟩ := hcut
        have hw' := hw.symm
        subst hw'
        clear hw
        have hz : (decide (cs ≠ []) && allZero cs) = true ∨ (decide (cs ≠ []) && allZero cs) = false := by cases (decide (cs ≠ []) && allZero cs) <;> simp
        rcases hz with hz | hz
        · rw [hz]
          clear hz
          go_wp2
          go_ret
          exact ⟨rfl, C2.out.below (Nat.le_refl _) (fun _ _ h => h)⟩
        · rw [hz]
          have hnz : cs ≠ [] → allZero cs = false := fun h => by simpa [h] using hz
          have HNZ := Lib.hid hnz
          clear hz hnz
          go_wp2_with fail
          refine (plain_calls _ s 1024 (by omega) (by omega)).mono ?_
          rintro e w3 ⟨rfl, c3⟩
          have hk3 := c3.obj (heap_alloc_at _ _) (fun h => h)
          have C3 := Lib.hid ((C2.out.alloc (.cells #[.int .i64 1024, .int .i64 1, .int .i64 1, .int .i64 1, .int .i64 1, .int .i64 1] 23)).trans c3 (fun _ _ h => h))
          have hl3 := lt_of_block hk3
          have HK3 := Lib.hid hk3
          clear c3 hk3
          obtain ⟨p, hp⟩ : ∃ p, p = plainL s 1024 := ⟨_, rfl⟩
          have hpl := plainL_len s 1024
          have hpp := plainL_pf s 1024
          rw [← hp] at hpl hpp
          rw [← hp]
          have HPP := Lib.hid hpp
          clear hp hpp
          have hsrc : Src Try.prog 1 24 (.slice bo b.length bc) b.length (bvs b) (w3.alloc (.cells #[.int .u8 13, .int .u8 10] 5 (2, 3))) := ((HB.out.kept C3.out (fun _ _ _ h => h)).kept ((Chg.refl (fun _ => False) w3).alloc _) (fun _ _ _ h => h)).src (bvs_one _) Try.underlying24
          have hbase : Arr (w3.alloc (.cells #[.int .u8 13, .int .u8 10] 5 (2, 3))) 5 1 (.slice (some ⟨w3.heap.size, 0, none⟩) 2 2) (bvs [13, 10]) :=
            .inr ⟨w3.heap.size, 0, 2, 2, _, _, rfl, by omega, by unfold maxLen; omega, heap_alloc_at _ _, by simp, fun i _ h2 h3 => by omega, by simp [bvs], by simp [bvs]⟩
          have HSRC := Lib.hid hsrc
          have HBASE := Lib.hid hbase
          clear hsrc hbase
          go_wp2_with (at_builtin; refine wpList_append_arr _ rfl _ _ 24 24 rfl 5 i0 (.int .u8 0) 1 1 Try.underlying24 hi0 hx0 hz0 hb0 rfl (by decide) (.slice (some ⟨w3.heap.size, 0, none⟩) 2 2) (bvs [13, 10]) rfl HBASE.out (.slice bo b.length bc) rfl b.length (bvs b) HSRC.out (by simp [bvs]; unfold maxLen; omega) (by simp [bvs]; omega) ?d1)
          case d1 =>
            intro v4 w4 ha4 hc4 ho4
            have c34 : Chg (fun _ => False) w3 w4 := ((Chg.refl (fun _ => False) w3).alloc _).trans hc4 (fun k hk e => by simp [Value.ownBlock] at e; omega)
            have hv4 : ∀ k, v4.ownBlock = some k → w3.heap.size ≤ k := fun k hk => by
              rcases ho4 with e | e
              · rw [e] at hk; simp [Value.ownBlock] at hk; omega
              · rw [e] at hk; injection hk with hk; omega
            have ha4' : Arr w4 5 1 v4 (bvs ([13, 10] ++ b)) := by rw [bvs_append]; exact ha4
            have hv4l := ha4'.lt
            obtain ⟨v4a, v4n, v4c, rfl, -⟩ := ha4'.shape
            have hk4 := c34.obj HK3.out (fun h => h)
            have k0 := cell_of_blk hk4 0
            have k1 := cell_of_blk hk4 1
            have k2 := cell_of_blk hk4 2
            have k3 := cell_of_blk hk4 3
            have k4 := cell_of_blk hk4 4
            have k5 := cell_of_blk hk4 5
            simp at k0 k1 k2 k3 k4 k5
            have hl4 := lt_of_block hk4
            have HA4 := Lib.hid ha4'
            have HV4 := Lib.hid hv4
            have HV4L := Lib.hid hv4l
            have C34 := Lib.hid c34
            clear ha4 hc4 ho4 ha4' hv4 hv4l c34 hk4 kc
            have hadd : ∀ w, (Op.stringOp .add ⟨p.toArray⟩ ⟨#[13, 10]⟩).run Try.prog w = .ok (.string ⟨(p ++ [13, 10]).toArray⟩) w := fun w =>
              run_string_add_lists w p [13, 10] (by omega) (by simp)
            have HA4D := Lib.hid (show Arr w4.drew 5 1 (.slice v4a v4n v4c) (bvs ([13, 10] ++ b)) from HA4.out.kept ((Chg.refl (fun _ => False) w4).drew) (fun _ _ h => h))
            have HA4E := Lib.hid (show Arr (w4.alloc (tnsC b rm)).drew 5 1 (.slice v4a v4n v4c) (bvs ([13, 10] ++ b)) from HA4.out.kept (((Chg.refl (fun _ => False) w4).alloc (tnsC b rm)).drew) (fun _ _ h => h))
            have C34D := Lib.hid (show Chg (fun _ => False) w3 w4.drew from C34.out.drew)
            have C34E := Lib.hid (show Chg (fun _ => False) w3 (w4.alloc (tnsC b rm)).drew from (C34.out.alloc (tnsC b rm)).drew)
            have HTE := Lib.hid (show (w4.alloc (tnsC b rm)).drew.heap[w4.heap.size]? = some (tnsC b rm) from heap_alloc_at w4 (tnsC b rm))
            go_upto_region 13 with (fail)
            go_cut [10, 11, 12] (fun a m f wx => ∃ (o1 : Option Addr) (n1 q1 : Nat), a = .slice o1 n1 q1 ∧ m = .int .i64 1 ∧ f = .bool true ∧ RdIts wx (.slice o1 n1 q1) n1 (outC b rm p) ∧ n1 ≤ 1099511627776 ∧ Chg (fun _ => False) w3 wx)
            case first =>
              have s0 : Sam w3 w4 := C34.out
              have q0 : ∀ w', Sam w3 w' → w'.cell? ⟨W2.heap.size, 0, none⟩ = _ := fun w' h => cell_of_blk (Chg.obj h HK3.out (fun h => h)) 0
              have q1 : ∀ w', Sam w3 w' → w'.cell? ⟨W2.heap.size, 1, none⟩ = _ := fun w' h => cell_of_blk (Chg.obj h HK3.out (fun h => h)) 1
              have q2 : ∀ w', Sam w3 w' → w'.cell? ⟨W2.heap.size, 2, none⟩ = _ := fun w' h => cell_of_blk (Chg.obj h HK3.out (fun h => h)) 2
              have q3 : ∀ w', Sam w3 w' → w'.cell? ⟨W2.heap.size, 3, none⟩ = _ := fun w' h => cell_of_blk (Chg.obj h HK3.out (fun h => h)) 3
              have q4 : ∀ w', Sam w3 w' → w'.cell? ⟨W2.heap.size, 4, none⟩ = _ := fun w' h => cell_of_blk (Chg.obj h HK3.out (fun h => h)) 4
              have q5 : ∀ w', Sam w3 w' → w'.cell? ⟨W2.heap.size, 5, none⟩ = _ := fun w' h => cell_of_blk (Chg.obj h HK3.out (fun h => h)) 5
              simp at q0 q1 q2 q3 q4 q5
              clear k0 k1 k2 k3 k4 k5
              go_region_held3 (fun w' => Sam w3 w') (first | assumption | exact Sam.drew (by assumption) | exact Sam.alloc (by assumption) _) (first
                | ((refine step_append_arr (by rfl) _ _ 24 9 (by rfl) 5 i0 (.int .u8 0) 1 1 Try.underlying24 hi0 hx0 hz0 hb0 rfl (by decide) (.slice v4a v4n v4c) (bvs ([13, 10] ++ b)) (by rfl) (by first | with_reducible exact HA4D.out | with_reducible exact HA4E.out) (.string ⟨(p ++ [13, 10]).toArray⟩) (by rfl) (p ++ [13, 10]).length (bvs (p ++ [13, 10])) (src_str _ _) (by rw [bvs_length, Nat.div_one]; simp; unfold maxLen; omega) (by rw [bvs_length, Nat.div_one]; simp; omega) ?_
                    intro v6 w6 ha6 hc6 ho6
                    have c6 : Chg (fun _ => False) w3 w6 := by first | with_reducible exact C34D.out.trans hc6 (fun k hk e => by have := HV4.out k e.symm; omega) | with_reducible exact C34E.out.trans hc6 (fun k hk e => by have := HV4.out k e.symm; omega)
                    first | (have HT6 := Lib.hid (by with_reducible exact hc6.obj HTE.out (fun e => by have := HV4L.out _ e.symm; omega) : w6.heap[w4.heap.size]? = some (tnsC b rm))) | skip
                    obtain ⟨v6a, v6n, v6c, rfl, -⟩ := ha6.shape
                    have s6 : Sam w3 w6 := c6
                    have HA6 := Lib.hid (show Rd w6 (.slice v6a v6n v6c) 1 (bvs ([13, 10] ++ b ++ (p ++ [13, 10]))) by rw [bvs_append]; exact ha6.rd)
                    have C6 := Lib.hid c6
                    clear ha6 hc6 ho6 c6))
                | (go_at_call 23
                   with_reducible refine (chunk_played w6 v6a ca v6n v6c cc w4.heap.size rm b p cs HA6.out (HCS.out.kept (C3.out.trans C6.out (fun _ _ h => h)) (fun _ _ _ h => h)) HT6.out (by omega) hpl.1 HPP.out (by omega) HNZ.out hrm9).mono ?_
                   rintro e w7 ⟨o1, n1, q1, rfl, r2, r3, c7⟩
                   have R2 := Lib.hid r2
                   have C7 := Lib.hid (C6.out.trans c7 (fun _ _ h => h))
                   have s7 : Sam w3 w7 := C7.out
                   clear r2 c7)
                | (go_at_call 23
                   with_reducible refine (chunk_played (w6.alloc (tnsC b rm)) v6a ca v6n v6c cc w6.heap.size rm b p cs (HA6.out.kept ((Chg.refl (fun _ => False) _).alloc _) (fun _ _ _ h => h)) (HCS.out.kept ((C3.out.trans C6.out (fun _ _ h => h)).alloc _) (fun _ _ _ h => h)) (heap_alloc_at _ _) (by omega) hpl.1 HPP.out (by omega) HNZ.out hrm9).mono ?_
                   rintro e w7 ⟨o1, n1, q1, rfl, r2, r3, c7⟩
                   have R2 := Lib.hid r2
                   have C7 := Lib.hid ((C6.out.alloc _).trans c7 (fun _ _ h => h))
                   have s7 : Sam w3 w7 := C7.out
                   clear r2 c7))
              all_goals
                go_wp2
                go_meet
                exact ⟨_, _, _, rfl, rfl, rfl, R2.out, by assumption, C7.out⟩
            case rest =>
              obtain ⟨o1, n1, q1, rfl, rfl, rfl, r2, r3, c7⟩ := hcut
              obtain ⟨W7, hW7⟩ : ∃ W7 : World, W7 = wc := ⟨_, rfl⟩
              subst hW7
              have R2 := Lib.hid r2
              have C7 := Lib.hid (C3.out.trans c7 (fun _ _ h => h))
              clear r2 c7 hadd k0 k1 k2 k3 k4 k5 HA4 HA4D HA4E C34 C34D C34E HTE hl4 hl3
              have hbl2 : b.length ≤ 1048576 := by omega
              go_upto_if 70 with (fail)
              obtain ⟨W8, hW8⟩ : ∃ W8 : World, W8 = W7.alloc (.cells #[.int .i64 1, .string ⟨#[]⟩, .slice none 0 0, .int .i64 0, .bool false] 35) := ⟨_, rfl⟩
              have h8 : W8.heap[W7.heap.size]? = some (.cells #[.int .i64 1, .string ⟨#[]⟩, .slice none 0 0, .int .i64 0, .bool false] 35 (0, 0)) := by rw [hW8]; exact heap_alloc_at _ _
              have C78 := Lib.hid (show Chg (fun _ => False) W7 W8 by rw [hW8]; exact (Chg.refl _ W7).alloc _)
              rw [← hW8]
              have A8 := Lib.hid (show Arr W8 35 5 (.slice (some ⟨W7.heap.size, 0, none⟩) 1 1) (itsC [(rowIt [], .slice none 0 0)]) from
                .inr ⟨W7.heap.size, 0, 1, 1, _, _, rfl, by omega, by unfold maxLen; omega, h8, by simp, fun i _ _ h => by simp at h, by simp [itsC, itCs], by simp [itsC, itCs, rowIt]⟩)
              clear hW8 h8
              go_cut [14] (fun a wx => ∃ n : Nat, a = .slice bo n bc ∧ n = (b.take rm).length ∧ wx = W8)
              case first =>
                obtain ⟨_, _, _, hse, _, _, hbc, _⟩ := HB.out.shape
                injection hse with hse1 hse2 hse3
                subst hse2 hse3
                clear hse1
                by_cases hlt : (rm : Int) < b.length
                · have hcap : rm ≤ bc := by omega
                  have HL := Lib.hid (show rm = (b.take rm).length by rw [List.length_take]; omega)
                  go_wp2
                  go_meet
                  exact ⟨rm, rfl, HL.out, rfl⟩
                · have HL := Lib.hid (show b.length = (b.take rm).length by rw [List.length_take]; omega)
                  go_wp2
                  go_meet
                  exact ⟨b.length, rfl, HL.out, rfl⟩
              case rest =>
                obtain ⟨tn, rfl, htn, hw⟩ := hcut
                have hw' := hw.symm
                subst hw'
                clear hw
                have hfst := HB.out.first (b.take rm).length (by rw [List.length_take]; omega)
                rw [take_len, ← htn] at hfst
                rw [outC_pre] at R2
                have htl : tn ≤ b.length := by rw [htn, List.length_take]; omega
                obtain ⟨td, htd⟩ : ∃ td, td = b.take rm := ⟨_, rfl⟩
                rw [← htd] at hfst htn R2
                have HFS := Lib.hid hfst
                have HTD := Lib.hid htn
                clear hfst htn htd
                go_upto_if 76 with (fail)
                go_cut [13] (fun a wx => WantC W W7 td a wx)
                case first =>
                  by_cases h0 : td = []
                  · have hz : tn = 0 := by rw [HTD.out, h0]; rfl
                    subst hz
                    have H0 := Lib.hid h0
                    clear h0
                    go_wp2
                    go_meet
                    exact ⟨_, 1, 1, [(rowIt [], .slice none 0 0)], rfl, A8.out, by simp [preC, H0.out], fun x hx => by simp at hx; subst hx; exact nil_rd _, by simp, fun k hk => by simp [Value.ownBlock] at hk; omega, C78.out⟩
                  · have hz : 0 < tn := by rw [HTD.out]; exact List.length_pos_iff.2 h0
                    have H0 := Lib.hid h0
                    clear h0
                    go_wp2_with (at_builtin; refine wpList_append_arr _ rfl _ _ 58 58 rfl 35 i1 _ 5 64 Try.underlying58 hi1 hy0 hy1 hy2 rfl (by decide) (.slice (some ⟨W7.heap.size, 0, none⟩) 1 1) (itsC [(rowIt [], .slice none 0 0)]) rfl (A8.out.kept ((Chg.refl (fun _ => False) W8).alloc _) (fun _ _ h => h)) (.slice (some ⟨W8.heap.size, 0, none⟩) 1 1) rfl 1 (itCs (It.body td, .slice bo tn bc)) (src_it W8 (It.body td) (.slice bo tn bc) rfl _ rfl) (by simp [itsC, itCs]; unfold maxLen; omega) (by simp [itsC, itCs]) ?d5)
                    case d5 =>
                      intro v9 w9 ha9 hc9 ho9
                      have s8 := C78.out.size
                      have hv9 : ∀ k, v9.ownBlock = some k → W7.heap.size ≤ k := fun k hk => by
                        rcases ho9 with e | e
                        · rw [e] at hk; simp [Value.ownBlock] at hk; omega
                        · rw [e] at hk; injection hk with hk; omega
                      have c9 : Chg (fun _ => False) W7 w9 := (C78.out.alloc _).trans hc9 (fun k hk e => by simp [Value.ownBlock] at e; omega)
                      obtain ⟨v9a, v9n, v9c, rfl, -⟩ := ha9.shape
                      have HA9 := Lib.hid ha9
                      have HV9 := Lib.hid hv9
                      have C9 := Lib.hid c9
                      clear ha9 hc9 ho9 hv9 c9
                      go_wp2
                      go_meet
                      exact ⟨v9a, v9n, v9c, [(rowIt [], .slice none 0 0), (It.body td, .slice bo tn bc)], rfl, HA9.out, by simp [preC, H0.out], fun x hx => by
                        simp at hx
                        rcases hx with rfl | rfl
                        · exact nil_rd _
                        · exact HFS.out, by simp, HV9.out, C9.out⟩
                case rest =>
                  obtain ⟨wa, wn, wcp, xs, rfl, hax, hxm, hxr, hxl, hxo, hxc⟩ := hcut
                  obtain ⟨W9, hW9⟩ : ∃ W9 : World, W9 = wc := ⟨_, rfl⟩
                  subst hW9
                  have HAX := Lib.hid hax
                  have HXM := Lib.hid hxm
                  have HXR := Lib.hid hxr
                  have HXO := Lib.hid hxo
                  have HXC := Lib.hid hxc
                  clear hax hxm hxr hxo hxc A8 C78
                  go_wp2_with (at_builtin; refine wpList_append_arr _ rfl _ _ 58 58 rfl 35 i1 _ 5 64 Try.underlying58 hi1 hy0 hy1 hy2 rfl (by decide) (.slice wa wn wcp) (itsC xs) rfl (HAX.out.kept ((Chg.refl (fun _ => False) W9).alloc _) (fun _ _ h => h)) (.slice (some ⟨W9.heap.size, 0, none⟩) 2 2) rfl 2 (itCs (endIt, .slice none 0 0) ++ itCs (rowIt p, .slice none 0 0)) (src_two W9 endIt (rowIt p) _ rfl) (by rw [itsC_length, Nat.mul_div_cancel _ (by decide)]; unfold maxLen; omega) (by rw [itsC_length, Nat.mul_div_cancel _ (by decide)]; omega) ?d6)
                  case d6 =>
                    intro vb wb hab hcb hob
                    have cb : Chg (fun _ => False) W7 wb := (HXC.out.alloc _).trans hcb (fun k hk e => by have := HXO.out k e.symm; omega)
                    obtain ⟨vba, vbn, vbc, rfl, -⟩ := hab.shape
                    have hx2 : Arr wb 35 5 (.slice vba vbn vbc) (itsC (xs ++ [(endIt, .slice none 0 0), (rowIt p, .slice none 0 0)])) := by
                      rw [itsC_append]; exact hab
                    have CB := Lib.hid (C7.out.trans cb (fun _ _ h => h))
                    have hn : n1 = vbn := by
                      have h1 := hx2.rd.num
                      rw [itsC_length] at h1
                      have h2 := R2.out.num
                      rw [← HXM.out] at h2
                      simp at h1 h2
                      omega
                    subst hn
                    have hri : RdIts wb (.slice vba n1 vbc) n1 (preC td ++ [endIt, rowIt p]) := by
                      refine ⟨xs ++ [(endIt, .slice none 0 0), (rowIt p, .slice none 0 0)], by rw [List.map_append, HXM.out]; rfl, ?_, hx2.rd, fun x hx => ?_⟩
                      · have h1 := hx2.rd.num
                        rw [itsC_length] at h1
                        omega
                      · rcases List.mem_append.1 hx with h | h
                        · exact (HXR.out x h).kept CB.out (fun _ _ _ h => h)
                        · simp at h
                          rcases h with rfl | rfl
                          · exact nil_rd _
                          · exact nil_rd _
                    have RI := Lib.hid hri
                    have R2B := Lib.hid (R2.out.kept cb)
                    clear hab hcb hob cb hx2 hri
                    go_wp2_with fail
                    refine (sameItems_calls wb o1 vba n1 q1 vbc _ R2B.out RI.out (by omega)).mono ?_
                    rintro e w8 ⟨rfl, c8⟩
                    have C8 := Lib.hid (CB.out.trans c8 (fun _ _ h => h))
                    clear c8
                    go_wp2
                    go_ret
                    exact ⟨rfl, C8.out.below (Nat.le_refl _) (fun _ _ h => h)⟩

theorem walk_FramerChunks {H : Type} {enc : TypeId × Value → H} (W : World) (v0 : Value) (d0 : DataW H) (p0 : List MemPlace)
    (ok0 : ∃ base, Value.okWide Try.prog W .any base 68 v0) (h0 : DataW.Trod enc Try.prog W 0 (fun _ => true) true 68 v0 d0 p0)
    (hk : Rows.uptoBulkAll [d0] ≤ 1048576) :
    Calls Try.prog 7 #[v0] W fun e w' => e = .returned (.bool true) ∧ Below W.heap.size W w' := by
  obtain ⟨bo, ca, bc, cc, b, room, s, cs, rfl, h1, h2, h3, h4⟩ := arg_octets ok0 h0
  simp only [Rows.uptoBulkAll] at hk
  exact chunks_walk W bo ca bc cc b room s cs h1 h2 h3 (by omega)
end Go.Proofs.Ytnjloldhmjadoaa
