/- The law FramerLines, walked. No condition but what is stated. -/
import Derived.Test.YtnjloldhmjadoaaPlT1
import Derived.Test.YtnjloldhmjadoaaPlRef
namespace Go.Proofs.Ytnjloldhmjadoaa
set_option linter.unusedVariables false
open Go Go.RowKit Ln Dt Fr Pl
attribute [local irreducible] withinN

theorem run_min_1024 (ats : Array TypeId) (ty : TypeId) (k k' : IntKind) (a : Nat) : Builtin.min_ ats ty #[.int k a, .int k' 1024] = pure (.int k (minN a 1024 : Nat)) := run_min_nat ats ty k k' a 1024
attribute [local go_sem ↓] run_min_1024
theorem bytes_bvs (l : List UInt8) : byteCells ⟨l.toArray⟩ = bvs l := by simp [byteCells, bvs]
theorem src_str (w : World) (l : List UInt8) : Src Try.prog 1 9 (.string ⟨l.toArray⟩) l.length (bvs l) w := by
  have := Src.ofString (w := w) Try.underlying9 ⟨l.toArray⟩
  rw [bytes_bvs] at this
  exact this
theorem Rd.pre {w : World} {ao : Option Addr} {n cap sz : Nat} {xs : List Value} (h : Rd w (.slice ao n cap) sz xs) (k : Nat) (hk : k ≤ n) : Rd w (.slice ao k cap) sz (xs.take (k * sz)) := by
  obtain ⟨ao', n', cap', e1, r1, r2, r3, r4, r5⟩ := h
  injection e1 with e1 e2 e3
  subst e1 e2 e3
  have hle : k * sz ≤ n * sz := Nat.mul_le_mul_right _ hk
  refine ⟨ao, k, cap, rfl, by rw [List.length_take]; omega, by omega, r3, fun hn => ⟨by have := r4 hn; omega, (r4 hn).2⟩, fun a ha hx => ?_⟩
  have hne : xs ≠ [] := by rintro rfl; simp at hx
  refine ⟨(r5 a ha hne).1, fun i hi => ?_⟩
  rw [List.length_take] at hi
  rw [(r5 a ha hne).2 i (by omega), List.getElem_take]
theorem stC_take : ∀ (rows : List (List UInt8)) (k : Nat), (rows.flatMap stC).take k = (rows.take k).flatMap stC
  | [], k => by simp
  | r :: rs, 0 => by simp
  | r :: rs, k + 1 => by
    have := stC_take rs k
    simp only [List.flatMap_cons, List.take_succ_cons, stC, List.singleton_append] at this ⊢
    rw [this]
theorem sum_take (f : List UInt8 → Nat) : ∀ (rows : List (List UInt8)) (k : Nat), ((rows.take k).map f).sum ≤ (rows.map f).sum
  | [], k => by simp
  | r :: rs, 0 => by simp
  | r :: rs, k + 1 => by have := sum_take f rs k; simp only [List.take_succ_cons, List.map_cons, List.sum_cons]; omega
/-- What a row comes to; the stream; the items as they lie. -/
def rowP (m : Nat) (r : List UInt8) : List UInt8 := plainL r m
def strm (m : Nat) (rows : List (List UInt8)) : List UInt8 := (rows.map (rowP m)).flatMap fun p => p ++ [13, 10]
def wantX (m : Nat) (rows : List (List UInt8)) : List (It × Value) := rows.map fun r => (rowIt (rowP m r), .slice none 0 0)
theorem plainL_len (r : List UInt8) (m : Nat) : (plainL r m).length ≤ m ∧ (plainL r m).length ≤ r.length := by
  unfold plainL
  rw [List.length_take]
  have := List.length_filter_le pf r
  omega
theorem plainL_pf (r : List UInt8) (m : Nat) : ∀ c ∈ plainL r m, pf c = true := fun c hc => by
  unfold plainL at hc
  exact (List.mem_filter.1 (List.mem_of_mem_take hc)).2
theorem strm_len (m : Nat) : ∀ rows : List (List UInt8), (strm m rows).length ≤ 2 * (rows.map fun r => r.length + 1).sum
  | [] => by simp [strm]
  | r :: rs => by
    have := strm_len m rs
    have h2 := (plainL_len r m).2
    simp only [strm, List.map_cons, List.flatMap_cons, List.length_append, List.sum_cons, rowP] at this ⊢
    simp only [List.length_cons, List.length_nil]
    omega
theorem strm_snoc (m : Nat) (rows : List (List UInt8)) (j : Nat) (h : j < rows.length) : strm m (rows.take (j + 1)) = strm m (rows.take j) ++ (rowP m rows[j] ++ [13, 10]) := by
  unfold strm
  rw [List.take_succ_eq_append_getElem h, List.map_append, List.flatMap_append]
  simp only [List.map_cons, List.map_nil, List.flatMap_cons, List.flatMap_nil, List.append_nil]
theorem wantX_snoc (m : Nat) (rows : List (List UInt8)) (j : Nat) (h : j < rows.length) : itsC (wantX m (rows.take (j + 1))) = itsC (wantX m (rows.take j)) ++ itCs (rowIt (rowP m rows[j]), .slice none 0 0) := by
  unfold wantX
  rw [List.take_succ_eq_append_getElem h, List.map_append, itsC_append]
  simp only [List.map_cons, List.map_nil, itsC, List.flatMap_cons, List.flatMap_nil, List.append_nil]
theorem mem_sum (f : List UInt8 → Nat) : ∀ (l : List (List UInt8)) (j : Nat) (h : j < l.length), f l[j] ≤ (l.map f).sum
  | a :: r, 0, _ => by simp
  | a :: r, j + 1, h => by
    have := mem_sum f r j (by simpa using h)
    simp only [List.getElem_cons_succ, List.map_cons, List.sum_cons]
    omega
theorem row_cell {W : World} {ra : Option Addr} {rc : Nat} {rows : List (List UInt8)} (h : Rd W (.slice ra rows.length rc) 1 (rows.flatMap stC)) (j : Nat) (hj : j < rows.length) : ∃ rb roff, ra = some ⟨rb, roff, none⟩ ∧ W.cell? ⟨rb, roff + j, none⟩ = some (.string ⟨rows[j].toArray⟩) := by
  have hlen := rows_len 1 stC (fun _ => rfl) rows
  have hne : rows.flatMap stC ≠ [] := by intro e; rw [e] at hlen; simp at hlen; omega
  obtain ⟨rb, roff, rfl, hc⟩ := h.at hne
  refine ⟨rb, roff, rfl, ?_⟩
  have hj' : j < (rows.flatMap stC).length := by rw [hlen]; omega
  rw [hc j hj']
  have := rows_at 1 stC (fun _ => rfl) rows j 0 hj (by omega)
  rw [Nat.mul_one, Nat.add_zero, List.getElem?_eq_getElem hj'] at this
  exact this
/-- The loop's head. -/
def LnRel (W1 : World) (m : Nat) (rows : List (List UInt8)) (g : Nat) (bv wv iv : Value) (wr : World) : Prop :=
  ∃ (j : Nat) (ba wa : Option Addr) (bn bc wn wc : Nat), j + g = rows.length ∧ iv = .int .i64 j ∧ bv = .slice ba bn bc ∧ wv = .slice wa wn wc ∧ Arr wr 5 1 (.slice ba bn bc) (bvs (strm m (rows.take j))) ∧ Arr wr 35 5 (.slice wa wn wc) (itsC (wantX m (rows.take j))) ∧
    (∀ k, (Value.slice ba bn bc).ownBlock = some k → W1.heap.size ≤ k) ∧ (∀ k, (Value.slice wa wn wc).ownBlock = some k → W1.heap.size ≤ k ∧ (Value.slice ba bn bc).ownBlock ≠ some k) ∧ Chg (fun _ => False) W1 wr

set_option maxHeartbeats 4000000 in
set_option maxRecDepth 100000 in
theorem lines_walk (W : World) (most : Int) (ra ca : Option Addr) (rn rc cc : Nat) (rows : List (List UInt8)) (cs : List UInt8) (hr : Rd W (.slice ra rows.length rc) 1 (rows.flatMap stC)) (hc : Rd W (.slice ca cs.length cc) 1 (bvs cs))
    (hs : (rows.map fun r => r.length + 1).sum + cs.length ≤ 1048576) :
    Calls Try.prog 6 #[.int .i64 most, .slice ra rows.length rc, .slice ca cs.length cc] W fun e w' => e = .returned (.bool true) ∧ Below W.heap.size W w' := by
  obtain ⟨i0, hi0, hx0, hz0, hb0⟩ := info_parts Try.infoByte
  obtain ⟨i1, hi1, hy0, hy1, hy2⟩ := info_parts Try.infoItem
  have HR := Lib.hid hr
  have HCS := Lib.hid hc
  have hrl : rows.length ≤ 1048576 := by
    have : ∀ l : List (List UInt8), l.length ≤ (l.map fun r => r.length + 1).sum := fun l => by
      induction l with
      | nil => simp
      | cons a r ih => simp; omega
    have := this rows
    omega
  clear hr hc
  go_enter Try.func6, Try.ntmps6
  go_wp2_with fail
  refine (head_calls _).mono ?_
  rintro e w1 ⟨rfl, c1⟩
  have C1 := Lib.hid c1
  clear c1
  go_wp2_with fail
  refine (limits_calls _ most 0 0 0 0 0).mono ?_
  rintro e w2 ⟨rfl, c2⟩
  obtain ⟨m0, hm0⟩ : ∃ m0, m0 = withinN most := ⟨_, rfl⟩
  obtain ⟨t1, ht1⟩ : ∃ t1, t1 = withinN 0 := ⟨_, rfl⟩
  rw [← hm0, ← ht1]
  have hmm := withinN_le most
  have htt := withinN_le 0
  rw [← hm0] at hmm
  rw [← ht1] at htt
  have C2 := Lib.hid (C1.out.trans c2 (fun _ _ h => h))
  clear c2 hm0 ht1 C1
  go_upto_if 23 with (fail)
  obtain ⟨W3, hW3⟩ : ∃ W3 : World, W3 = w2.alloc (.cells #[.int .i64 m0, .int .i64 t1, .int .i64 t1, .int .i64 1, .int .i64 1, .int .i64 1] 23) := ⟨_, rfl⟩
  have hlb : W3.heap[w2.heap.size]? = some (.cells #[.int .i64 m0, .int .i64 t1, .int .i64 t1, .int .i64 1, .int .i64 1, .int .i64 1] 23 (0, 0)) := by rw [hW3]; exact heap_alloc_at _ _
  have C3 := Lib.hid (show Chg (fun _ => False) W W3 by rw [hW3]; exact C2.out.alloc _)
  rw [← hW3]
  have HLB := Lib.hid hlb
  have hl3 := lt_of_block hlb
  clear hW3 hlb C2
  go_cut [1] (fun a wx => ∃ rows' : List (List UInt8), a = .slice ra rows'.length rc ∧ rows'.length ≤ 4096 ∧ Rd W (.slice ra rows'.length rc) 1 (rows'.flatMap stC) ∧ (rows'.map fun r => r.length + 1).sum + cs.length ≤ 1048576 ∧ wx = W3)
  case first =>
    obtain ⟨_, _, _, hse, _, _, hrc, _⟩ := HR.out.shape
    injection hse with hse1 hse2 hse3
    subst hse2 hse3
    clear hse1
    by_cases hlt : (4096 : Int) < rows.length
    · have hcap : 4096 ≤ rc := by omega
      have hpre := HR.out.pre 4096 (by omega)
      rw [stC_take, Nat.mul_one] at hpre
      have HPRE := Lib.hid hpre
      have hsum := sum_take (fun r => r.length + 1) rows 4096
      have HL := Lib.hid (show (rows.take 4096).length = 4096 by rw [List.length_take]; omega)
      clear hpre
      go_wp2
      go_meet
      exact ⟨rows.take 4096, by rw [HL.out], by rw [HL.out]; omega, by rw [HL.out]; exact HPRE.out, by omega, rfl⟩
    · go_wp2
      go_meet
      exact ⟨rows, rfl, by omega, HR.out, hs, rfl⟩
  case rest =>
    obtain ⟨rw', rfl, hrl2, hr2, hs2, hw⟩ := hcut
    have hw' := hw.symm
    subst hw'
    clear hw HR hrl hs
    have HR2 := Lib.hid hr2
    have HS2 := Lib.hid hs2
    clear hr2 hs2
    go_wp2_with fail
    have hj0 := minN_le m0 1024
    obtain ⟨mm, hmme⟩ : ∃ mm, mm = minN m0 1024 := ⟨_, rfl⟩
    rw [← hmme] at hj0
    have HMM := Lib.hid hmme
    clear hmme
    go_loopg [8, 9, 28] rw'.length (LnRel W3 mm rw')
    case atStart => exact ⟨0, none, none, 0, 0, 0, 0, by omega, rfl, rfl, rfl, Arr.nil _ _ _, Arr.nil _ _ _, fun k hk => by simp [Value.ownBlock] at hk, fun k hk => by simp [Value.ownBlock] at hk, Chg.refl _ _⟩
    case round =>
      obtain ⟨j, ba, wa, bn, bc, wn, wcp, hj, rfl, rfl, rfl, hb, hwn, hbo, hwo, hC⟩ := hrel
      by_cases hg : gk = 0
      · have hlt : ¬ (j : Int) < rw'.length := by omega
        have hjj : j = rw'.length := by omega
        rw [hjj, List.take_of_length_le (Nat.le_refl _)] at hb hwn
        have HB := Lib.hid hb
        have HWN := Lib.hid hwn
        have HC := Lib.hid hC
        have HCW := Lib.hid (C3.out.trans hC (fun _ _ h => h))
        have hbl := strm_len mm rw'
        have hs2 := HS2.out
        clear hb hwn hC hjj hbo hwo
        have hbn : bn = (strm mm rw').length := HB.out.rd.len
        subst hbn
        go_upto_region 15 with (fail)
        go_cut [53] (fun a wx => a = .bool (decide (cs ≠ []) && allZero cs) ∧ wx = wr)
        case first =>
          rcases zero_cases cs with ⟨h1, z1⟩ | ⟨h1, z1⟩ | ⟨h1, z1⟩
          · have hn1 : ¬ 0 < cs.length := by rw [h1]; decide
            have HE := Lib.hid (show (decide (cs ≠ []) && allZero cs) = false by simp [h1])
            clear h1 z1
            go_wp2
            go_meet
            exact ⟨by rw [HE.out], rfl⟩
          all_goals
            have hn1 : 0 < cs.length := List.length_pos_iff.2 h1
            have HE := Lib.hid (show (decide (cs ≠ []) && allZero cs) = allZero cs by simp [h1])
            clear h1 z1
            go_wp2_with fail
            refine (zeros_calls _ ca cc cs (HCS.out.kept HCW.out (fun _ _ _ h => h)) (by omega)).mono ?_
            rintro e w6 ⟨rfl, rfl⟩
            go_wp2
            go_meet
            exact ⟨by rw [HE.out], rfl⟩
        case rest =>
          obtain ⟨rfl, hw⟩ := hcut
          have hw' := hw.symm
          subst hw'
          clear hw
          have hz : (decide (cs ≠ []) && allZero cs) = true ∨ (decide (cs ≠ []) && allZero cs) = false := by cases (decide (cs ≠ []) && allZero cs) <;> simp
          rcases hz with hz | hz
          · rw [hz]
            clear hz
            go_wp2
            go_ret
            exact ⟨rfl, HCW.out.below (Nat.le_refl _) (fun _ _ h => h)⟩
          · rw [hz]
            have hnz : cs ≠ [] → allZero cs = false := fun h => by simpa [h] using hz
            have HNZ := Lib.hid hnz
            clear hz hnz
            have hk := HC.out.obj HLB.out (fun h => h)
            have k0 := cell_of_blk hk 0
            have k1 := cell_of_blk hk 1
            have k2 := cell_of_blk hk 2
            have k3 := cell_of_blk hk 3
            have k4 := cell_of_blk hk 4
            have k5 := cell_of_blk hk 5
            simp at k0 k1 k2 k3 k4 k5
            clear hk
            go_wp2_with fail
            refine (played_calls wr m0 t1 t1 hmm htt htt ba ca none bc cc 0 (strm mm rw') cs [] HB.out.rd (HCS.out.kept HCW.out (fun _ _ _ h => h)) ⟨none, 0, 0, rfl, by simp, by simp, by simp [maxLen], fun _ => ⟨rfl, rfl⟩, fun a h => by cases h⟩ (by omega) (by omega) (by simp) (by simp; omega) HNZ.out rfl (fun o h => by simp at h)).mono ?_
            rintro e w7 ⟨S1, o1, n1, q1, rfl, r1, r2, r3, c7⟩
            have hrun := rows_run (L := ⟨m0, t1, t1⟩) (rw'.map (rowP mm)) [] (fun p hp => by
              obtain ⟨r, _, rfl⟩ := List.mem_map.1 hp
              exact ⟨plainL_pf _ _, Nat.le_trans (plainL_len _ _).1 hj0.1⟩)
            obtain rfl := r1.det hrun
            have hw7 := HWN.out.kept c7 (fun _ _ h => h)
            have hn : wn = n1 := by
              have h1 := hw7.rd.num
              rw [itsC_length] at h1
              have h2 := r2.num
              simp [wantX] at h1 h2
              omega
            subst hn
            have hri : RdIts w7 (.slice wa wn wcp) wn ([] ++ (rw'.map (rowP mm)).map rowIt) := by
              refine ⟨wantX mm rw', by simp [wantX], ?_, hw7.rd, fun x hx => ?_⟩
              · have h1 := hw7.rd.num
                rw [itsC_length] at h1
                omega
              · obtain ⟨r, _, rfl⟩ := List.mem_map.1 hx
                exact ⟨none, 0, 0, rfl, by simp [rowIt, bvs], by simp, by simp [maxLen], fun _ => ⟨rfl, rfl⟩, fun a h => by cases h⟩
            have R2 := Lib.hid r2
            have RI := Lib.hid hri
            have C7 := Lib.hid (HCW.out.trans c7 (fun _ _ h => h))
            clear r1 r2 hrun hw7 hri c7 k0 k1 k2 k3 k4 k5
            go_wp2_with fail
            refine (sameItems_calls w7 o1 wa wn q1 wcp _ R2.out RI.out (by omega)).mono ?_
            rintro e w8 ⟨rfl, c8⟩
            have C8 := Lib.hid (C7.out.trans c8 (fun _ _ h => h))
            clear c8
            go_wp2
            go_ret
            exact ⟨rfl, C8.out.below (Nat.le_refl _) (fun _ _ h => h)⟩
      · have hlt : (j : Int) < rw'.length := by omega
        have hjl : j < rw'.length := by omega
        obtain ⟨rb, roff, rfl, hst⟩ := row_cell HR2.out j hjl
        have hcell := (C3.out.trans hC (fun _ _ h => h)).cell hst (fun h => h)
        have k0 := cell_of_blk (hC.obj HLB.out (fun h => h)) 0
        simp at k0
        have hs1 := strm_snoc mm rw' j hjl
        have hs3 := wantX_snoc mm rw' j hjl
        have hbl := strm_len mm (rw'.take j)
        have hbs := sum_take (fun r => r.length + 1) rw' j
        have hms := mem_sum (fun r => r.length + 1) rw' j hjl
        have hs2 := HS2.out
        have hbd : (strm mm (rw'.take j)).length ≤ 2097152 := by omega
        have hwn2 : wn = j := by
          have h1 := hwn.rd.num
          rw [itsC_length] at h1
          simp [wantX] at h1
          omega
        subst hwn2
        obtain ⟨row, hrow⟩ : ∃ row, row = rw'[wn] := ⟨_, rfl⟩
        rw [← hrow] at hcell hs1 hs3 hms
        have hrl3 : row.length ≤ 1048576 := by omega
        have hpl := plainL_len row mm
        have hl1 := hb.lt
        have hl2 := hwn.lt
        have hsz := hC.size
        have HB := Lib.hid hb
        have HWN := Lib.hid hwn
        have HBO := Lib.hid hbo
        have HWO := Lib.hid hwo
        have HC := Lib.hid hC
        have HS1 := Lib.hid hs1
        have HS3 := Lib.hid hs3
        have HL1 := Lib.hid hl1
        have HL2 := Lib.hid hl2
        have hwx : (wantX mm (rw'.take wn)).length ≤ 4096 := by simp [wantX]; omega
        clear hb hwn hbo hwo hC hs1 hs3 hbl hbs hms hs2 hst hrow hl1 hl2
        go_wp2_with fail
        refine (plain_calls wr row (minN m0 1024) (by omega) (by rw [← HMM.out]; omega)).mono ?_
        rintro e w4 ⟨rfl, c4⟩
        rw [← HMM.out]
        have hadd : ∀ w, (Op.stringOp .add ⟨(plainL row mm).toArray⟩ ⟨#[13, 10]⟩).run Try.prog w = .ok (.string ⟨(plainL row mm ++ [13, 10]).toArray⟩) w := fun w =>
          run_string_add_lists w (plainL row mm) [13, 10] (by first | omega | (simp; omega)) (by simp)
        have C4 := Lib.hid c4
        have hz4 := c4.size
        clear c4 k0 hcell
        go_wp2_with (at_builtin; refine wpList_append_arr _ rfl _ _ 24 9 rfl 5 i0 (.int .u8 0) 1 1 Try.underlying24 hi0 hx0 hz0 hb0 rfl (by decide) (.slice ba bn bc) (bvs (strm mm (rw'.take wn))) rfl (HB.out.kept C4.out (fun _ _ h => h)) (.string ⟨(plainL row mm ++ [13, 10]).toArray⟩) rfl (plainL row mm ++ [13, 10]).length (bvs (plainL row mm ++ [13, 10])) (src_str _ _) (by rw [bvs_length, Nat.div_one, List.length_append]; unfold maxLen; simp; omega) (by rw [bvs_length, Nat.div_one, List.length_append]; simp; omega) ?d1)
        case d1 =>
          intro v5 w5 ha5 hc5 ho5
          have cz5 := hc5.size
          have hv5 : ∀ k, v5.ownBlock = some k → W3.heap.size ≤ k ∧ (Value.slice wa wn wcp).ownBlock ≠ some k := fun k hk => by
            rcases ho5 with e | e
            · rw [e] at hk
              exact ⟨HBO.out k hk, fun e2 => (HWO.out k e2).2 hk⟩
            · rw [e] at hk; injection hk with hk
              refine ⟨by omega, fun e2 => ?_⟩
              have := HL2.out k e2; omega
          have hw5 : Arr w5 35 5 (.slice wa wn wcp) (itsC (wantX mm (rw'.take wn))) := (HWN.out.kept C4.out (fun _ _ h => h)).kept hc5 (fun b hb e => (HWO.out b hb).2 e.symm)
          have c5 : Chg (fun _ => False) W3 w5 := (HC.out.trans C4.out (fun _ _ h => h)).trans hc5 (fun k hk e => by have := HBO.out k e.symm; omega)
          obtain ⟨b5, n5, q5, rfl, -⟩ := ha5.shape
          have HA5 := Lib.hid ha5
          have HV5 := Lib.hid hv5
          have HW5 := Lib.hid hw5
          have C5 := Lib.hid c5
          clear ha5 hc5 ho5 hv5 hw5 c5 hadd
          go_wp2_with (at_builtin; refine wpList_append_arr _ rfl _ _ 58 58 rfl 35 i1 _ 5 64 Try.underlying58 hi1 hy0 hy1 hy2 rfl (by decide) (.slice wa wn wcp) (itsC (wantX mm (rw'.take wn))) rfl (HW5.out.kept ((Chg.refl (fun _ => False) w5).alloc _) (fun _ _ h => h)) (.slice (some ⟨w5.heap.size, 0, none⟩) 1 1) rfl 1 (itCs (rowIt (plainL row mm), .slice none 0 0)) (src_it w5 (rowIt (plainL row mm)) (.slice none 0 0) rfl _ rfl) (by rw [itsC_length, Nat.mul_div_cancel _ (by decide)]; unfold maxLen; omega) (by rw [itsC_length, Nat.mul_div_cancel _ (by decide)]; omega) ?d2)
          case d2 =>
            intro v6 w6 ha6 hc6 ho6
            have cz6 := hc6.size
            simp only [World.size_alloc] at cz6
            have c6 : Chg (fun k => some k = (Value.slice wa wn wcp).ownBlock) w5 w6 := ((Chg.refl _ w5).alloc _).trans hc6 (fun _ _ h => h)
            have hb6 : Arr w6 5 1 (.slice b5 n5 q5) (bvs (strm mm (rw'.take (wn + 1)))) := by
              rw [HS1.out, bvs_append]
              exact HA5.out.kept c6 (fun b hb e => (HV5.out b hb).2 e.symm)
            have hl5 := HA5.out.lt
            have hv6 : ∀ k, v6.ownBlock = some k → W3.heap.size ≤ k ∧ (Value.slice b5 n5 q5).ownBlock ≠ some k := fun k hk => by
              rcases ho6 with e | e
              · rw [e] at hk
                exact ⟨(HWO.out k hk).1, fun e2 => (HV5.out k e2).2 hk⟩
              · rw [e] at hk; injection hk with hk
                refine ⟨by omega, fun e2 => ?_⟩
                have := hl5 k e2; omega
            have c6' : Chg (fun _ => False) W3 w6 := C5.out.trans c6 (fun k hk e => by have := HWO.out k e.symm; omega)
            have hw6 : Arr w6 35 5 v6 (itsC (wantX mm (rw'.take (wn + 1)))) := by rw [HS3.out]; exact ha6
            obtain ⟨b6, n6, q6, rfl, -⟩ := ha6.shape
            have HB6 := Lib.hid hb6
            have HV6 := Lib.hid hv6
            have C6 := Lib.hid c6'
            have HW6 := Lib.hid hw6
            clear ha6 hc6 ho6 c6 hb6 hv6 c6' hw6 hl5
            go_wp2
            go_roundg (gk - 1)
            case measure => omega
            case rel => exact ⟨wn + 1, b5, b6, n5, q5, n6, q6, by omega, by go_num, rfl, rfl, HB6.out, HW6.out, fun k hk => (HV5.out k hk).1, HV6.out, C6.out⟩

open Go.ChangeShapes Go.WideShapes Go.ChangeAt
theorem walk_FramerLines {H : Type} {enc : TypeId × Value → H} (W : World) (v0 v1 v2 : Value) (d0 d1 d2 : DataW H) (p0 p1 p2 : List MemPlace)
    (ok0 : ∃ base, Value.okWide Try.prog W .any base 3 v0) (ok1 : ∃ base, Value.okWide Try.prog W .any base 64 v1) (ok2 : ∃ base, Value.okWide Try.prog W .any base 24 v2)
    (h0 : DataW.Trod enc Try.prog W 0 (fun _ => true) true 3 v0 d0 p0) (h1 : DataW.Trod enc Try.prog W 0 (fun _ => true) true 64 v1 d1 p1) (h2 : DataW.Trod enc Try.prog W 0 (fun _ => true) true 24 v2 d2 p2)
    (hk : Rows.uptoBulkAll [d0, d1, d2] ≤ 1048576) :
    Calls Try.prog 6 #[v0, v1, v2] W fun e w' => e = .returned (.bool true) ∧ Below W.heap.size W w' := by
  obtain ⟨most, rfl, _, _⟩ := arg_i64 Try.underlying3 ok0 h0
  obtain ⟨ra, rn, rc, rows, rfl, hr, rfl, hs⟩ := arg_texts ok1 h1
  obtain ⟨base, ok2⟩ := ok2
  obtain ⟨a0, len, cap, rfl⟩ := okWide_slice Try.underlying24 ok2
  obtain ⟨m, hm⟩ := h2
  obtain ⟨ca, cc, cs, hcs, hc, hl⟩ := arg_bytes_at hm
  simp only [Value.cells, List.cons.injEq, and_true] at hcs
  rw [hcs]
  simp only [Rows.uptoBulkAll] at hk
  have hl2 : cs.length + 1 ≤ Rows.uptoBulk d2 := hl
  clear hl
  exact lines_walk W most ra ca 0 rc cc rows cs hr hc (by omega)
end Go.Proofs.Ytnjloldhmjadoaa
