/- played: an item behind the others, and a turn. No condition but what is stated. -/
import Derived.Test.YtnjloldhmjadoaaPlB1
namespace Go.Proofs.Ytnjloldhmjadoaa
set_option linter.unusedVariables false
open Go Go.RowKit Ln Dt Fr Pl
attribute [local go_sem ↓] run_min_nat run_max0

set_option maxHeartbeats 4000000 in
set_option maxRecDepth 1000000 in
theorem in_turn (W : World) (l0 l1 l2 : Nat) (h0 : 1 ≤ l0 ∧ l0 ≤ 16777216) (p : Nat) (ta : Option Addr) (tc N : Nat) (ts : List Tn) (HTS : Hid (Rd W (.slice ta ts.length tc) 3 (ts.flatMap tnCs)))
    (hbl : N ≤ 4194304) (htl : ts.length ≤ 1048576) (hbt : N * (ts.length + 2) ≤ 1099511627776) (HE : Hid (endl ts = false)) (HTN : Hid (∀ o ∈ ts, o.n ≤ 9223372036854775807 ∧ o.room ≤ 9223372036854775807))
    (S : PS) (pp : List UInt8) (r n : Nat) (hlen3 : pp.length ≤ n) (hn4 : n ≤ 4194304)
    (c0 c1 c2 c5 c6 c7 c12 c14 c23 c24 c25 c26 c27 c28 c29 c30 c31 c32 c33 c34 c35 c36 c37 c38 c39 c40 c41 c42 c43 c44 c45 c46 c47 c48 c49 c50 c51 c52 c53 c54 c55 c56 c57 c58 c59 c195 c196 c197 c198 c199 c200 c201 c202 c203 c204 c205 c206 c207 c208 c209 c210 c211 c212 c213 c214 c215 c216 c217 c218 c219 c220 c221 : Value) (u8 u9 u10 u19 u20 u21 u22 u60 u61 u62 u63 u64 u65 u66 u67 u68 u69 u70 u71 u72 u73 u74 u75 u76 u77 u78 u79 u80 u81 u82 u83 u84 u85 u86 u87 u88 u89 u90 u91 u92 u93 u94 u95 u96 u97 u98 u99 u100 u101 u102 u103 u104 u105 u106 u107 u108 u109 u110 u111 u112 u113 u114 u115 u116 u117 u118 u119 u120 u121 u122 u123 u124 u125 u126 u127 u128 u129 u130 u131 u132 u133 u134 u135 u136 u137 u138 u139 u140 u141 u142 u143 u144 u145 u146 u147 u148 u149 u150 u151 u152 u153 u154 u155 u156 u157 u158 u159 u160 u161 u162 u163 u164 u165 u166 u167 u168 u169 u170 u171 u172 u173 u174 u175 u176 u177 u178 u179 u180 u181 u182 u183 u184 u185 u186 u187 u188 u189 u190 u191 u192 u193 u194 : Value) (Q0 : Exit → Act → World → Prop) (J : Nat → Act → World → Prop) (K : Act → World → Prop) (gk : Nat) (wr : World)
    (hJ : ∀ k a' w', (∃ u8 u9 u10 u13 u15 u17 u18 u19 u20 u21 u22 u60 u61 u62 u63 u64 u65 u66 u67 u68 u69 u70 u71 u72 u73 u74 u75 u76 u77 u78 u79 u80 u81 u82 u83 u84 u85 u86 u87 u88 u89 u90 u91 u92 u93 u94 u95 u96 u97 u98 u99 u100 u101 u102 u103 u104 u105 u106 u107 u108 u109 u110 u111 u112 u113 u114 u115 u116 u117 u118 u119 u120 u121 u122 u123 u124 u125 u126 u127 u128 u129 u130 u131 u132 u133 u134 u135 u136 u137 u138 u139 u140 u141 u142 u143 u144 u145 u146 u147 u148 u149 u150 u151 u152 u153 u154 u155 u156 u157 u158 u159 u160 u161 u162 u163 u164 u165 u166 u167 u168 u169 u170 u171 u172 u173 u174 u175 u176 u177 u178 u179 u180 u181 u182 u183 u184 u185 u186 u187 u188 u189 u190 u191 u192 u193 u194 : Value, IRel W p ⟨l0, l1, l2⟩ N ts S pp r k u13 u15 u17 u18 w' ∧ a' = ⟨#[c0, c1, c2, .slice ta ts.length tc, .pointer (some ⟨W.heap.size, 0, none⟩), c5, c6, c7, u8, u9, u10, .pointer (some ⟨p, 0, none⟩), c12, u13, c14, u15, .int .i64 n, u17, u18, u19, u20, u21, u22, c23, c24, c25, c26, c27, c28, c29, c30, c31, c32, c33, c34, c35, c36, c37, c38, c39, c40, c41, c42, c43, c44, c45, c46, c47, c48, c49, c50, c51, c52, c53, c54, c55, c56, c57, c58, c59, u60, u61, u62, u63, u64, u65, u66, u67, u68, u69, u70, u71, u72, u73, u74, u75, u76, u77, u78, u79, u80, u81, u82, u83, u84, u85, u86, u87, u88, u89, u90, u91, u92, u93, u94, u95, u96, u97, u98, u99, u100, u101, u102, u103, u104, u105, u106, u107, u108, u109, u110, u111, u112, u113, u114, u115, u116, u117, u118, u119, u120, u121, u122, u123, u124, u125, u126, u127, u128, u129, u130, u131, u132, u133, u134, u135, u136, u137, u138, u139, u140, u141, u142, u143, u144, u145, u146, u147, u148, u149, u150, u151, u152, u153, u154, u155, u156, u157, u158, u159, u160, u161, u162, u163, u164, u165, u166, u167, u168, u169, u170, u171, u172, u173, u174, u175, u176, u177, u178, u179, u180, u181, u182, u183, u184, u185, u186, u187, u188, u189, u190, u191, u192, u193, u194, c195, c196, c197, c198, c199, c200, c201, c202, c203, c204, c205, c206, c207, c208, c209, c210, c211, c212, c213, c214, c215, c216, c217, c218, c219, c220, c221], []⟩) → J k a' w')
    (hK : ∀ a' w', Handed J gk a' w' → K a' w')
    (S2 : PS) (X2 : Nat → Prop) (q : List UInt8) (qo oa2 : Option Addr) (qc st on2 oc2 : Nat) (hat : IAt W wr p ⟨l0, l1, l2⟩ N ts S pp r gk S2 X2 q qo qc st (.slice oa2 on2 oc2))
    (hk : (FM.take ⟨l0, l1, l2⟩ S2.m q).2.1.kind ≠ 0) (hk3 : (FM.take ⟨l0, l1, l2⟩ S2.m q).2.1.kind ≠ 3) (hts : ts ≠ []) :
    iBody.wp Try.prog (Exit.then K (NoPanic Q0)) ⟨#[c0, c1, c2, .slice ta ts.length tc, .pointer (some ⟨W.heap.size, 0, none⟩), c5, c6, c7, u8, u9, u10, .pointer (some ⟨p, 0, none⟩), c12, .slice oa2 on2 oc2, c14, .int .i64 S2.t, .int .i64 n, .slice qo q.length qc, .int .i64 st, u19, u20, u21, u22, c23, c24, c25, c26, c27, c28, c29, c30, c31, c32, c33, c34, c35, c36, c37, c38, c39, c40, c41, c42, c43, c44, c45, c46, c47, c48, c49, c50, c51, c52, c53, c54, c55, c56, c57, c58, c59, u60, u61, u62, u63, u64, u65, u66, u67, u68, u69, u70, u71, u72, u73, u74, u75, u76, u77, u78, u79, u80, u81, u82, u83, u84, u85, u86, u87, u88, u89, u90, u91, u92, u93, u94, u95, u96, u97, u98, u99, u100, u101, u102, u103, u104, u105, u106, u107, u108, u109, u110, u111, u112, u113, u114, u115, u116, u117, u118, u119, u120, u121, u122, u123, u124, u125, u126, u127, u128, u129, u130, u131, u132, u133, u134, u135, u136, u137, u138, u139, u140, u141, u142, u143, u144, u145, u146, u147, u148, u149, u150, u151, u152, u153, u154, u155, u156, u157, u158, u159, u160, u161, u162, u163, u164, u165, u166, u167, u168, u169, u170, u171, u172, u173, u174, u175, u176, u177, u178, u179, u180, u181, u182, u183, u184, u185, u186, u187, u188, u189, u190, u191, u192, u193, u194, c195, c196, c197, c198, c199, c200, c201, c202, c203, c204, c205, c206, c207, c208, c209, c210, c211, c212, c213, c214, c215, c216, c217, c218, c219, c220, c221], []⟩ wr := by
  obtain ⟨i0, hi0, hx0, hz0, hb0⟩ := info_parts Try.infoByte
  obtain ⟨i1, hi1, hy0, hy1, hy2⟩ := info_parts Try.infoItem
  obtain ⟨hg2, hq, hqo, hst, hrun2, hcx2, hin2⟩ := hat
  have HJ := Lib.hid hJ
  clear hJ
  conv => arg 2; whnf
  have HQ := Lib.hid hq
  have HQO := Lib.hid hqo
  have HG2 := Lib.hid hg2
  have HRUN2 := Lib.hid hrun2
  have HCX := Lib.hid hcx2
  have HIN := Lib.hid hin2
  have hwr2 := hcx2.size
  have hqb : q.length ≤ N := by have := hin2.le; omega
  have hsm : msize S2.m + 2 * q.length ≤ 1099511627775 := by rw [msize_eq]; have := hin2.size; omega
  clear hq hqo hg2 hrun2 hcx2 hin2
  go_wp2_with fail
  refine (one_take HCX.out.one _ q HQ.out (fun k hk => (HQO.out k hk).1) hsm).mono ?_
  rintro e w3 ⟨va, rfl, o3, a3, n3, c3⟩
  have hx3 := fun S' => take_run (L := ⟨l0, l1, l2⟩) (ts := ts) (S' := S') S2.m S2.out S2.t q HIN.out.good
  obtain ⟨nn, hnn⟩ : ∃ nn, nn = (FM.take ⟨l0, l1, l2⟩ S2.m q).1 := ⟨_, rfl⟩
  obtain ⟨it, hit⟩ : ∃ it, it = (FM.take ⟨l0, l1, l2⟩ S2.m q).2.1 := ⟨_, rfl⟩
  obtain ⟨m3, hm3⟩ : ∃ m3, m3 = (FM.take ⟨l0, l1, l2⟩ S2.m q).2.2 := ⟨_, rfl⟩
  have hnone := fun S' => (hx3 S').1
  have hsome := fun S' => (hx3 S').2
  have hpay := take_pay (L := ⟨l0, l1, l2⟩) S2.m q HIN.out.good
  have hstep := HIN.out.step (L := ⟨l0, l1, l2⟩) HE.out (p := q) (by omega)
  have hstop := HIN.out.none (L := ⟨l0, l1, l2⟩) (p := q) (by omega)
  have hmu := mu_step (L := ⟨l0, l1, l2⟩) HE.out (p := q) HIN.out.good
  have hkk := take_kind (L := ⟨l0, l1, l2⟩) S2.m q
  have hbd := take_body (L := ⟨l0, l1, l2⟩) S2.m q
  clear hx3
  simp only [← hnn, ← hit, ← hm3] at hnone hsome hpay hstep hstop hmu hkk hbd
  rw [← hm3] at o3
  rw [← hit] at a3
  rw [← hit] at hk hk3
  have HHhk := Lib.hid hk
  have HHhk3 := Lib.hid hk3
  clear hk hk3
  rw [← hnn, ← hit]
  have hle : nn ≤ q.length := by
    by_cases h0 : it.kind = 0
    · have := (hnone S2 h0).1; omega
    · exact (hpay h0).2.2
  have NONE := Lib.hid hnone
  have SOME := Lib.hid hsome
  have PAY := Lib.hid hpay
  have STEP := Lib.hid hstep
  have STOP := Lib.hid hstop
  have MU := Lib.hid hmu
  have KK := Lib.hid hkk
  have BD := Lib.hid hbd
  clear hnone hsome hpay hstep hstop hmu hkk hbd hnn hit hm3
  have hcx3 := HCX.out.call o3 c3 (fun k h => .inl h)
  have CX3 := Lib.hid hcx3
  have A3 := Lib.hid a3
  have N3 := Lib.hid n3
  have hw3 := c3.size
  obtain ⟨va1, va2, va3, rfl, -⟩ := a3.shape
  have hqb3 : ∀ o : Obj, (w3.alloc o).cell? ⟨W.heap.size, 0, none⟩ = some (.int .i64 l0) := fun o => by
    rw [World.cell?_alloc_lt _ _ _ (lt_of_block hcx3.box)]; exact cell_of_blk hcx3.box 0
  have hheld := held_line (CX3.out.one.is.choose_spec.1)
  obtain ⟨q1, q2, q3, q4⟩ := hheld
  have CQ := Lib.hid (HQ.out.kept c3 (fun hx k hk e => e (HQO.out k hk).1))
  clear hcx3 a3 n3 o3 c3
  unfold itV
  go_upto_region 15 with (fail)
  obtain ⟨ob, hob⟩ : ∃ ob : Obj, ob = .cells #[.int .i64 it.kind, .string ⟨it.text.toArray⟩, .slice va1 va2 va3, .int .i64 it.why, .bool it.high] 35 := ⟨_, rfl⟩
  obtain ⟨W4, hW4⟩ : ∃ W4, W4 = w3.alloc ob := ⟨_, rfl⟩
  have hcx4 : Ctx W W4 (fun k => (X2 k ∨ some k = (Value.slice va1 va2 va3).ownBlock) ∨ k = w3.heap.size) p ⟨l0, l1, l2⟩ m3 S2.out (.slice oa2 on2 oc2) := by
    rw [hW4]
    exact CX3.out.more ((Chg.refl (fun _ => False) w3).alloc ob) (fun k h => .inl h) (fun k h => h.elim .inl (fun e => .inr (by subst e; simp)))
  have hit4 : W4.heap[w3.heap.size]? = some ob := by rw [hW4]; exact heap_alloc_at _ _
  rw [hob] at hit4
  have heldc : ∀ w', Sam W4 w' → Calls Try.prog 28 #[.pointer (some ⟨p, 0, none⟩)] w' fun r w'' => r = .returned (.int .i64 m3.held) ∧ w'' = w' := fun w' h => (one_held (hcx4.same h).one).mono (by rintro e w'' ⟨rfl, rfl⟩; exact ⟨rfl, rfl⟩)
  rw [← hob, ← hW4]
  have A4 := Lib.hid (show Arr W4 5 1 (.slice va1 va2 va3) (bvs it.bytes) by rw [hW4]; exact A3.out.kept ((Chg.refl (fun _ => False) w3).alloc ob) (fun _ _ h => h))
  have CQ4 := Lib.hid (show Rd W4 (.slice qo q.length qc) 1 (bvs q) by rw [hW4]; exact CQ.out.kept ((Chg.refl (fun _ => False) w3).alloc ob) (fun _ _ _ h => h))
  have hw34 : W4.heap.size = w3.heap.size + 1 := by rw [hW4]; simp
  have CX4 := Lib.hid hcx4
  have IT4 := Lib.hid hit4
  have HELD := Lib.hid heldc
  have b0 : W4.cell? ⟨W.heap.size, 0, none⟩ = some (.int .i64 l0) := cell_of_blk hcx4.box 0
  have z0 : W4.cell? ⟨w3.heap.size, 0, none⟩ = some (.int .i64 it.kind) := cell_of_blk hit4 0
  clear hcx4 hit4 heldc hob hW4 CX3 A3 CQ hqb3
  go_cut [105] from 60 to 194 (fun a wx => a = .bool false ∧ Sam W4 wx)
  case first =>
    have cb1 : decide ((nn : Int) < 0) = false := decide_eq_false (by omega)
    have cb2 : decide ((nn : Int) > (q.length : Int)) = false := decide_eq_false (by omega)
    have wr1 : IntKind.i64.wrap ((n : Int) + 2) = (n : Int) + 2 := IntWalk.i64_in _ (by omega)
    have wr2 : IntKind.i64.wrap ((l0 : Int) + 8) = (l0 : Int) + 8 := IntWalk.i64_in _ (by omega)
    have cb3 : decide ((st : Int) > (n : Int) + 2) = false := decide_eq_false (by omega)
    have q2' : m3.held ≤ (l0 : Int) + 1 := q2
    have cb4 : decide (m3.held < 0) = false := decide_eq_false (by omega)
    have cb5 : decide (m3.held > (l0 : Int) + 8) = false := decide_eq_false (by omega)
    have hk := HHhk.out
    have ck : (it.kind == 0) = false := by simpa using hk
    clear hk
    go_quiet ((go_at_call 28; exact Calls.quiet_of_same (HELD.out _ (Chg.drewN (Chg.refl _ _) _))))
    go_wp2
    go_meet
    exact ⟨by rw [decide_eq_false (by omega)], Chg.drewN (Chg.refl _ _) _⟩
  case rest =>
    obtain ⟨W5, hW5⟩ : ∃ W5 : World, W5 = wc := ⟨_, rfl⟩
    subst hW5
    obtain ⟨rfl, c5⟩ := hcut
    have c5' : Chg (fun _ => False) W4 W5 := c5
    obtain ⟨y0, y1, y2, y3, y4, yf⟩ := cells5 (c5'.obj IT4.out (fun h => h))
    have CX5 := Lib.hid (CX4.out.same c5')
    have IT5 := Lib.hid (c5'.obj IT4.out (fun h => h))
    have A5 := Lib.hid (A4.out.kept c5' (fun _ _ h => h))
    have hl5 := lt_of_block IT5.out
    have NEW := Lib.hid (show ∀ k, (Value.slice va1 va2 va3).ownBlock = some k → (Value.slice oa2 on2 oc2).ownBlock ≠ some k from fun k hk e => by have h1 := N3.out k hk; have h2 := HCX.out.its.lt k e; omega)
    obtain ⟨qo', qn', qc', hsl2, hq5, hown5⟩ := (CQ4.out.kept c5' (fun _ _ _ h => h)).tail' (P := Try.prog) Try.underlying24 Try.elemB hi0 hz0 nn hle
    have hqn := hq5.len
    subst hqn
    obtain ⟨qs, hq2⟩ : ∃ x, x = q.drop nn := ⟨_, rfl⟩
    rw [← hq2] at hsl2 hq5 hown5
    have hq2l : qs.length + nn ≤ q.length := by rw [hq2, List.length_drop]; omega
    have hq2u : q.length ≤ qs.length + nn := by rw [hq2, List.length_drop]; omega
    have HQ2 := Lib.hid hq2
    have Q5 := Lib.hid hq5
    have OWN5 := Lib.hid hown5
    clear CX4 IT4 A4 CQ4 HELD c5 c5' hq5 hown5 b0 z0 q2 q1 hq2
    have hk := HHhk.out
    have hk3 := HHhk3.out
    have HK33 := Lib.hid hk3
    have HM2 : Hid (¬ (it.kind = 3 ∧ last3 S2.out = true)) := Lib.hid (fun h => hk3 h.1)
    have HNE := Lib.hid hts
    clear hk3 hts
    have ck : (it.kind == 0) = false := by simpa using hk
    obtain ⟨p1, -, -⟩ := PAY.out hk
    have STEP5 := Lib.hid (STEP.out hk)
    have RUN5 := Lib.hid (fun S' => SOME.out S' hk)
    have MU5 := Lib.hid (MU.out hk q.length (Nat.le_refl _))
    have KK5 := Lib.hid (KK.out hk)
    clear hk
    go_upto_region 19 with (fail)
    go_cut [129] from 60 to 194 (fun a wx => a = .bool false ∧ wx = W5)
    case first =>
      by_cases hk3 : it.kind = 3
      · have ck3 : (it.kind == 3) = true := by simpa using hk3
        have hlf : last3 S2.out = false := by
          cases e : last3 S2.out with
          | false => rfl
          | true => exact absurd ⟨hk3, e⟩ HM2.out
        clear hk3
        rcases List.eq_nil_or_concat S2.out with ho | ⟨l, y, ho⟩
        · have hon : on2 = 0 := by rw [CX5.out.its.rd.2, ho]; rfl
          subst hon
          clear ho hlf
          go_wp2
          go_meet
          exact ⟨rfl, rfl⟩
        · rw [List.concat_eq_append] at ho
          rw [ho, last3_snoc] at hlf
          have hcx5 := CX5.out
          rw [ho] at hcx5
          obtain ⟨ob, oo, ys, wa, wn, wcap, rfl, rfl, -, -, -, -, g0, -, -⟩ := hcx5.its.last
          have ck3y : (y.kind == 3) = false := by simpa using hlf
          have hon1 : 0 < (ys.length : Int) + 1 := by omega
          have hon2 : (ys.length : Int) ≤ 1099511627776 := by
            have h1 := HIN.out.outl
            have h2 := CX5.out.its.rd.2
            omega
          clear hcx5 ho hlf
          go_wp2
          go_meet
          exact ⟨rfl, rfl⟩
      · have ck3 : (it.kind == 3) = false := by simpa using hk3
        clear hk3
        go_wp2
        go_meet
        exact ⟨rfl, rfl⟩
    case rest =>
      obtain ⟨rfl, hw⟩ := hcut
      have hw' := hw.symm
      subst hw'
      clear hw
      obtain ⟨xs, xs1, xs2, xs3⟩ := CX5.out.its.is
      have XS1 := Lib.hid xs1
      have XS2 := Lib.hid xs2
      have XS3 := Lib.hid xs3
      have hxl : xs.length ≤ 1099511627776 := by
        have h1 := HIN.out.outl
        have h2 : xs.length = S2.out.length := by rw [← xs1]; simp
        omega
      have OV2 := Lib.hid HCX.out.its.lt
      clear xs1 xs2 xs3
      go_wp2_with (at_builtin; go_loud (refine wpList_append_arr _ rfl _ _ 58 58 rfl 35 i1 _ 5 64 Try.underlying58 hi1 hy0 hy1 hy2 rfl (by decide) (.slice oa2 on2 oc2) (itsC xs) rfl (XS2.out.kept ((Chg.refl (fun _ => False) W5).alloc _) (fun _ _ h => h)) (.slice (some ⟨W5.heap.size, 0, none⟩) 1 1) rfl 1 (itCs (it, .slice va1 va2 va3)) (src_it W5 it (.slice va1 va2 va3) rfl _ rfl) (by rw [itsC_length, Nat.mul_div_cancel _ (by decide)]; unfold maxLen; omega) (by rw [itsC_length, Nat.mul_div_cancel _ (by decide)]; omega) ?d1))
      case d1 =>
        intro v6 w6 ha6 hc6 ho6
        have hcx6 := CX5.out.push XS1.out XS3.out ha6 hc6 ho6 A5.out (fun k hk => ⟨.inl (.inr hk.symm), NEW.out k hk⟩)
        obtain ⟨v6a, v6n, v6c, rfl, -⟩ := ha6.shape
        have c6 : Chg (fun k => some k = (Value.slice oa2 on2 oc2).ownBlock) W5 w6 := ((Chg.refl _ W5).alloc _).trans hc6 (fun _ _ h => h)
        have C6 := Lib.hid c6
        have hit6 := c6.obj IT5.out (fun e => by have := OV2.out _ e.symm; omega)
        have hl6 := lt_of_block hit6
        have t0 : w6.cell? ⟨w3.heap.size, 0, none⟩ = some (.int .i64 it.kind) := cell_of_blk hit6 0
        have HIT6 := Lib.hid hit6
        have HO6 := Lib.hid ho6
        have CX6 := Lib.hid hcx6
        have Q6 := Lib.hid (Q5.out.kept c6 (fun _ k hk e => (HQO.out k (by rw [← OWN5.out]; exact hk)).2 e.symm))
        have OWN6 := Lib.hid (show ∀ k, (Value.slice qo' qs.length qc').ownBlock = some k → X2 k ∧ (Value.slice v6a v6n v6c).ownBlock ≠ some k from fun k hk => by
          have h4 := HQO.out k (by rw [← OWN5.out]; exact hk)
          refine ⟨h4.1, fun e => ?_⟩
          have h5 := HCX.out.one.ins k h4.1
          rcases HO6.out with h6 | h6
          · rw [h6] at e; exact h4.2 e
          · rw [h6] at e; injection e with e; omega)
        clear ha6 hc6 ho6 hcx6 hit6 c6
        have hclose : ∀ (S' : PS) (s' : Nat) (w' : World) (X' : Nat → Prop), tell ts S2 it m3 = S' → S'.out = S2.out ++ [it] → Ctx W w' X' p ⟨l0, l1, l2⟩ S'.m S'.out (.slice v6a v6n v6c) → Rd w' (.slice qo' qs.length qc') 1 (bvs qs) → (∀ k, X2 k → X' k) → s' + phi S'.m + qs.length ≤ pp.length + 1 →
            IRel W p ⟨l0, l1, l2⟩ N ts S pp r (mu ts S' qs.length) (.slice v6a v6n v6c) (.int .i64 S'.t) (.slice qo' qs.length qc') (.int .i64 s') w' ∧ mu ts S' qs.length < gk := by
          intro S' s' w' X' te ho' hcx hq' hxx hs'
          have h1 := STEP5.out
          have h2 := MU5.out
          have h3 := HG2.out
          rw [te, show q.length + r - nn = qs.length + r from by omega] at h1
          rw [te, show q.length - nn = qs.length from by omega] at h2
          exact ⟨IRel.mk S' X' qs qo' qc' s' hq' (fun k hk => ⟨hxx k (OWN6.out k hk).1, (OWN6.out k hk).2⟩) hs' (fun S3 hr => HRUN2.out S3 (RUN5.out S3 (by rw [te, ← HQ2.out]; exact hr))) hcx h1, by omega⟩
        have CLOSE := Lib.hid hclose
        clear hclose
        have hk3 := HK33.out
        have hts := HNE.out
        have ck3 : (it.kind == 3) = false := by simpa using hk3
        obtain ⟨hm3, -⟩ := KK5.out hk3
        have HK3 := Lib.hid hk3
        have HM3 := Lib.hid hm3
        clear hk3 hm3
        have hl0 : ((ts.length : Int) == 0) = false := by
          have := List.length_pos_iff.2 hts
          simp; omega
        have hl1 : ¬ (ts.length : Int) = 0 := by
          have := List.length_pos_iff.2 hts
          omega
        obtain ⟨tb, toff, j, rfl, hj, hjl, d0, d1, d2⟩ := turn_cells HTS.out S2.t hts
        have TE := Lib.hid (tell_turn2 (m' := m3) (S := S2) hts HM3.out HK3.out)
        have hmod : (S2.t : Int).tmod (ts.length : Int) = (j : Int) := by rw [hj, Int.natCast_emod]; exact Int.tmod_eq_emod_of_nonneg (by omega)
        have htt : (S2.t : Int) ≤ 1099511627776 := by
          have h1 := HIN.out.outl
          have h2 := HIN.out.tt
          omega
        have htbl := World.block_lt_of_cell? _ _ d0
        simp only at htbl
        have e0 := CX6.out.chg.cell d0 (by show ¬ W.heap.size ≤ tb; omega)
        have e1 := CX6.out.chg.cell d1 (by show ¬ W.heap.size ≤ tb; omega)
        have e2 := CX6.out.chg.cell d2 (by show ¬ W.heap.size ≤ tb; omega)
        have hjl2 : (j : Int) < ts.length := by omega
        obtain ⟨o, hoe⟩ : ∃ o, o = turnAt ts S2.t := ⟨_, rfl⟩
        rw [← hoe] at e0 e1 e2 TE
        have hon : o.n ≤ 9223372036854775807 ∧ o.room ≤ 9223372036854775807 := by
          rw [hoe]
          unfold turnAt
          rw [List.getD_eq_getElem?_getD, List.getElem?_eq_getElem (by rw [← hj]; exact hjl)]
          exact HTN.out _ (List.getElem_mem _)
        have HON := Lib.hid hon
        clear hts hj d0 d1 d2 hoe hon
        have CX6' := CX6.out
        rw [HM3.out] at CX6'
        have CX7 := Lib.hid (CX6'.more (Y := fun k => (((X2 k ∨ some k = (Value.slice va1 va2 va3).ownBlock) ∨ k = w3.heap.size) ∨ W5.heap.size ≤ k ∧ k < w6.heap.size) ∨ k = w6.heap.size) ((Chg.refl (fun _ => False) w6).alloc (.cells #[.int .i64 o.kind, .int .i64 o.n, .int .i64 o.room] 70)) (fun k h => .inl h) (fun k h => h.elim .inl (fun e => .inr (by subst e; simp))))
        have Q7 := Lib.hid (Q6.out.kept ((Chg.refl (fun _ => False) w6).alloc (.cells #[.int .i64 o.kind, .int .i64 o.n, .int .i64 o.room] 70)) (fun _ _ _ h => h))
        have hit7 := heap_alloc_at w6 (.cells #[.int .i64 o.kind, .int .i64 o.n, .int .i64 o.room] 70)
        have HIT7 := Lib.hid hit7
        clear hit7 CX6'
        by_cases ho1 : o.kind = 1
        · have co1 : (o.kind == 1) = true := by simpa using ho1
          have co2 : (o.kind == 2) = false := by simp [ho1]
          have hte := TE.out
          rw [act_data ho1] at hte
          have TE1 := Lib.hid hte
          clear ho1 hte
          go_wp2_with fail
          refine (data_done CX7.out.one).mono ?_
          rintro e w8 ⟨rfl, o8, c8⟩
          have CX8 := Lib.hid (CX7.out.call o8 c8 (fun k h => h))
          have Q8 := Lib.hid (Q7.out.kept c8 (fun _ k hk e => e (.inl (.inl (.inl (.inl (OWN6.out k hk).1))))))
          have u0 : w8.cell? ⟨w6.heap.size, 0, none⟩ = some (.int .i64 o.kind) := cell_of_blk (c8.obj HIT7.out (fun e => e (.inr rfl))) 0
          clear o8 c8
          go_wp2_with fail
          have hJ := HJ.out
          go_roundg (mu ts ⟨(FM.new.data?).2, S2.out ++ [it], S2.t + 1⟩ qs.length)
          case measure => exact (CLOSE.out _ (st + 1) w8 _ TE1.out rfl CX8.out Q8.out (fun k hk => .inl (.inl (.inl (.inl hk)))) (by show st + 1 + 0 + qs.length ≤ pp.length + 1; omega)).2
          case rel => exact (CLOSE.out _ (st + 1) w8 _ TE1.out rfl CX8.out Q8.out (fun k hk => .inl (.inl (.inl (.inl hk)))) (by show st + 1 + 0 + qs.length ≤ pp.length + 1; omega)).1
        · have co1 : (o.kind == 1) = false := by simpa using ho1
          by_cases ho2 : o.kind = 2
          · have co2 : (o.kind == 2) = true := by simpa using ho2
            have hte := TE.out
            rw [act_chunk ho2] at hte
            have TE1 := Lib.hid hte
            clear ho1 ho2 hte
            go_wp2_with fail
            refine (chunk_done CX7.out.one o.n o.room HON.out.1 HON.out.2).mono ?_
            rintro e w8 ⟨rfl, o8, c8⟩
            have hp8 := phi_le (FM.new.chunk? (max0 o.n) (max0 o.room)).2
            have CX8 := Lib.hid (CX7.out.call o8 c8 (fun k h => h))
            have Q8 := Lib.hid (Q7.out.kept c8 (fun _ k hk e => e (.inl (.inl (.inl (.inl (OWN6.out k hk).1))))))
            have u0 : w8.cell? ⟨w6.heap.size, 0, none⟩ = some (.int .i64 o.kind) := cell_of_blk (c8.obj HIT7.out (fun e => e (.inr rfl))) 0
            clear o8 c8
            go_wp2_with fail
            have hJ := HJ.out
            go_roundg (mu ts ⟨(FM.new.chunk? (max0 o.n) (max0 o.room)).2, S2.out ++ [it], S2.t + 1⟩ qs.length)
            case measure => exact (CLOSE.out _ 0 w8 _ TE1.out rfl CX8.out Q8.out (fun k hk => .inl (.inl (.inl (.inl hk)))) (by show 0 + phi (FM.new.chunk? (max0 o.n) (max0 o.room)).2 + qs.length ≤ pp.length + 1; omega)).2
            case rel => exact (CLOSE.out _ 0 w8 _ TE1.out rfl CX8.out Q8.out (fun k hk => .inl (.inl (.inl (.inl hk)))) (by show 0 + phi (FM.new.chunk? (max0 o.n) (max0 o.room)).2 + qs.length ≤ pp.length + 1; omega)).1
          · have co2 : (o.kind == 2) = false := by simpa using ho2
            have hte := TE.out
            rw [act_other ho1 ho2] at hte
            have TE1 := Lib.hid hte
            clear ho1 ho2 hte
            go_wp2_with fail
            have hJ := HJ.out
            go_roundg (mu ts ⟨FM.new, S2.out ++ [it], S2.t + 1⟩ qs.length)
            case measure => exact (CLOSE.out _ (st + 1) _ _ TE1.out rfl CX7.out Q7.out (fun k hk => .inl (.inl (.inl (.inl hk)))) (by show st + 1 + 0 + qs.length ≤ pp.length + 1; omega)).2
            case rel => exact (CLOSE.out _ (st + 1) _ _ TE1.out rfl CX7.out Q7.out (fun k hk => .inl (.inl (.inl (.inl hk)))) (by show st + 1 + 0 + qs.length ≤ pp.length + 1; omega)).1
end Go.Proofs.Ytnjloldhmjadoaa
