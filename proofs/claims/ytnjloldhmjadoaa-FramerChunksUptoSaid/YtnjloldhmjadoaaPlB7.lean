/- played: a round of the outer loop. No condition but what is stated. -/
import Derived.Test.YtnjloldhmjadoaaPlB6
namespace Go.Proofs.Ytnjloldhmjadoaa
set_option linter.unusedVariables false
open Go Go.RowKit Ln Dt Fr Pl
attribute [local go_sem ↓] run_min_nat run_max0

set_option maxHeartbeats 4000000 in
set_option maxRecDepth 1000000 in
theorem out_round (W : World) (l0 l1 l2 : Nat) (h0 : 1 ≤ l0 ∧ l0 ≤ 16777216) (p : Nat) (co ta : Option Addr) (cc tc : Nat) (b cs : List UInt8) (ts : List Tn) (HCU : Hid (Rd W (.slice co cs.length cc) 1 (bvs cs))) (HTS : Hid (Rd W (.slice ta ts.length tc) 3 (ts.flatMap tnCs)))
    (hbl : b.length ≤ 4194304) (hcl : cs.length ≤ 1048576) (htl : ts.length ≤ 1048576) (hbt : b.length * (ts.length + 2) ≤ 1099511627776) (HZ : Hid (cs ≠ [] → allZero cs = false)) (HE : Hid (endl ts = false)) (HTN : Hid (∀ o ∈ ts, o.n ≤ 9223372036854775807 ∧ o.room ≤ 9223372036854775807))
    (c0 c5 c6 c7 c12 c23 c24 c25 c26 c27 c28 c29 c30 c31 c32 c33 : Value) (u8 u9 u10 u16 u17 u18 u19 u20 u21 u22 u34 u35 u36 u37 u38 u39 u40 u41 u42 u43 u44 u45 u46 u47 u48 u49 u50 u51 u52 u53 u54 u55 u56 u57 u58 u59 u60 u61 u62 u63 u64 u65 u66 u67 u68 u69 u70 u71 u72 u73 u74 u75 u76 u77 u78 u79 u80 u81 u82 u83 u84 u85 u86 u87 u88 u89 u90 u91 u92 u93 u94 u95 u96 u97 u98 u99 u100 u101 u102 u103 u104 u105 u106 u107 u108 u109 u110 u111 u112 u113 u114 u115 u116 u117 u118 u119 u120 u121 u122 u123 u124 u125 u126 u127 u128 u129 u130 u131 u132 u133 u134 u135 u136 u137 u138 u139 u140 u141 u142 u143 u144 u145 u146 u147 u148 u149 u150 u151 u152 u153 u154 u155 u156 u157 u158 u159 u160 u161 u162 u163 u164 u165 u166 u167 u168 u169 u170 u171 u172 u173 u174 u175 u176 u177 u178 u179 u180 u181 u182 u183 u184 u185 u186 u187 u188 u189 u190 u191 u192 u193 u194 u195 u196 u197 u198 u199 u200 u201 u202 u203 u204 u205 u206 u207 u208 u209 u210 u211 u212 u213 u214 u215 u216 u217 u218 u219 u220 u221 : Value) (Q0 : Exit → Act → World → Prop) (J : Nat → Act → World → Prop) (K : Act → World → Prop) (gk : Nat) (wr : World)
    (hJ : ∀ k a' w', (∃ u1 u8 u9 u10 u13 u14 u15 u16 u17 u18 u19 u20 u21 u22 u34 u35 u36 u37 u38 u39 u40 u41 u42 u43 u44 u45 u46 u47 u48 u49 u50 u51 u52 u53 u54 u55 u56 u57 u58 u59 u60 u61 u62 u63 u64 u65 u66 u67 u68 u69 u70 u71 u72 u73 u74 u75 u76 u77 u78 u79 u80 u81 u82 u83 u84 u85 u86 u87 u88 u89 u90 u91 u92 u93 u94 u95 u96 u97 u98 u99 u100 u101 u102 u103 u104 u105 u106 u107 u108 u109 u110 u111 u112 u113 u114 u115 u116 u117 u118 u119 u120 u121 u122 u123 u124 u125 u126 u127 u128 u129 u130 u131 u132 u133 u134 u135 u136 u137 u138 u139 u140 u141 u142 u143 u144 u145 u146 u147 u148 u149 u150 u151 u152 u153 u154 u155 u156 u157 u158 u159 u160 u161 u162 u163 u164 u165 u166 u167 u168 u169 u170 u171 u172 u173 u174 u175 u176 u177 u178 u179 u180 u181 u182 u183 u184 u185 u186 u187 u188 u189 u190 u191 u192 u193 u194 u195 u196 u197 u198 u199 u200 u201 u202 u203 u204 u205 u206 u207 u208 u209 u210 u211 u212 u213 u214 u215 u216 u217 u218 u219 u220 u221 : Value, ORel W p ⟨l0, l1, l2⟩ b cs ts k u1 u13 u14 u15 w' ∧ a' = ⟨#[c0, u1, .slice co cs.length cc, .slice ta ts.length tc, .pointer (some ⟨W.heap.size, 0, none⟩), c5, c6, c7, u8, u9, u10, .pointer (some ⟨p, 0, none⟩), c12, u13, u14, u15, u16, u17, u18, u19, u20, u21, u22, c23, c24, c25, c26, c27, c28, c29, c30, c31, c32, c33, u34, u35, u36, u37, u38, u39, u40, u41, u42, u43, u44, u45, u46, u47, u48, u49, u50, u51, u52, u53, u54, u55, u56, u57, u58, u59, u60, u61, u62, u63, u64, u65, u66, u67, u68, u69, u70, u71, u72, u73, u74, u75, u76, u77, u78, u79, u80, u81, u82, u83, u84, u85, u86, u87, u88, u89, u90, u91, u92, u93, u94, u95, u96, u97, u98, u99, u100, u101, u102, u103, u104, u105, u106, u107, u108, u109, u110, u111, u112, u113, u114, u115, u116, u117, u118, u119, u120, u121, u122, u123, u124, u125, u126, u127, u128, u129, u130, u131, u132, u133, u134, u135, u136, u137, u138, u139, u140, u141, u142, u143, u144, u145, u146, u147, u148, u149, u150, u151, u152, u153, u154, u155, u156, u157, u158, u159, u160, u161, u162, u163, u164, u165, u166, u167, u168, u169, u170, u171, u172, u173, u174, u175, u176, u177, u178, u179, u180, u181, u182, u183, u184, u185, u186, u187, u188, u189, u190, u191, u192, u193, u194, u195, u196, u197, u198, u199, u200, u201, u202, u203, u204, u205, u206, u207, u208, u209, u210, u211, u212, u213, u214, u215, u216, u217, u218, u219, u220, u221], []⟩) → J k a' w')
    (hK : ∀ a' w', Handed J gk a' w' → K a' w')
    (hR : ∀ a' w', (∃ u1 u8 u9 u10 u13 u14 u15 u16 u17 u18 u19 u20 u21 u22 u34 u35 u36 u37 u38 u39 u40 u41 u42 u43 u44 u45 u46 u47 u48 u49 u50 u51 u52 u53 u54 u55 u56 u57 u58 u59 u60 u61 u62 u63 u64 u65 u66 u67 u68 u69 u70 u71 u72 u73 u74 u75 u76 u77 u78 u79 u80 u81 u82 u83 u84 u85 u86 u87 u88 u89 u90 u91 u92 u93 u94 u95 u96 u97 u98 u99 u100 u101 u102 u103 u104 u105 u106 u107 u108 u109 u110 u111 u112 u113 u114 u115 u116 u117 u118 u119 u120 u121 u122 u123 u124 u125 u126 u127 u128 u129 u130 u131 u132 u133 u134 u135 u136 u137 u138 u139 u140 u141 u142 u143 u144 u145 u146 u147 u148 u149 u150 u151 u152 u153 u154 u155 u156 u157 u158 u159 u160 u161 u162 u163 u164 u165 u166 u167 u168 u169 u170 u171 u172 u173 u174 u175 u176 u177 u178 u179 u180 u181 u182 u183 u184 u185 u186 u187 u188 u189 u190 u191 u192 u193 u194 u195 u196 u197 u198 u199 u200 u201 u202 u203 u204 u205 u206 u207 u208 u209 u210 u211 u212 u213 u214 u215 u216 u217 u218 u219 u220 u221 : Value, RRel W ⟨l0, l1, l2⟩ ts b u8 u9 u10 w' ∧ a' = ⟨#[c0, u1, .slice co cs.length cc, .slice ta ts.length tc, .pointer (some ⟨W.heap.size, 0, none⟩), c5, c6, c7, u8, u9, u10, .pointer (some ⟨p, 0, none⟩), c12, u13, u14, u15, u16, u17, u18, u19, u20, u21, u22, c23, c24, c25, c26, c27, c28, c29, c30, c31, c32, c33, u34, u35, u36, u37, u38, u39, u40, u41, u42, u43, u44, u45, u46, u47, u48, u49, u50, u51, u52, u53, u54, u55, u56, u57, u58, u59, u60, u61, u62, u63, u64, u65, u66, u67, u68, u69, u70, u71, u72, u73, u74, u75, u76, u77, u78, u79, u80, u81, u82, u83, u84, u85, u86, u87, u88, u89, u90, u91, u92, u93, u94, u95, u96, u97, u98, u99, u100, u101, u102, u103, u104, u105, u106, u107, u108, u109, u110, u111, u112, u113, u114, u115, u116, u117, u118, u119, u120, u121, u122, u123, u124, u125, u126, u127, u128, u129, u130, u131, u132, u133, u134, u135, u136, u137, u138, u139, u140, u141, u142, u143, u144, u145, u146, u147, u148, u149, u150, u151, u152, u153, u154, u155, u156, u157, u158, u159, u160, u161, u162, u163, u164, u165, u166, u167, u168, u169, u170, u171, u172, u173, u174, u175, u176, u177, u178, u179, u180, u181, u182, u183, u184, u185, u186, u187, u188, u189, u190, u191, u192, u193, u194, u195, u196, u197, u198, u199, u200, u201, u202, u203, u204, u205, u206, u207, u208, u209, u210, u211, u212, u213, u214, u215, u216, u217, u218, u219, u220, u221], []⟩) → Q0 .ret a' w')
    (ro oa : Option Addr) (rc on oc i : Nat) (S : PS) (X : Nat → Prop) (b0' rest : List UInt8) (hg : gk = rest.length * cs.length + dzc cs i) (hrd : Rd W (.slice ro rest.length rc) 1 (bvs rest)) (hbb : b = b0' ++ rest) (hrun : Run ⟨l0, l1, l2⟩ ts PS.new b0' S) (hpend : pend S.m = false)
    (hctx : Ctx W wr X p ⟨l0, l1, l2⟩ S.m S.out (.slice oa on oc)) (hinv : PInv b.length ts S rest.length) (hmeas : i + gk ≤ b.length * cs.length + cs.length) :
    oBody.wp Try.prog (Exit.then K (NoPanic Q0)) ⟨#[c0, .slice ro rest.length rc, .slice co cs.length cc, .slice ta ts.length tc, .pointer (some ⟨W.heap.size, 0, none⟩), c5, c6, c7, u8, u9, u10, .pointer (some ⟨p, 0, none⟩), c12, .slice oa on oc, .int .i64 i, .int .i64 S.t, u16, u17, u18, u19, u20, u21, u22, c23, c24, c25, c26, c27, c28, c29, c30, c31, c32, c33, u34, u35, u36, u37, u38, u39, u40, u41, u42, u43, u44, u45, u46, u47, u48, u49, u50, u51, u52, u53, u54, u55, u56, u57, u58, u59, u60, u61, u62, u63, u64, u65, u66, u67, u68, u69, u70, u71, u72, u73, u74, u75, u76, u77, u78, u79, u80, u81, u82, u83, u84, u85, u86, u87, u88, u89, u90, u91, u92, u93, u94, u95, u96, u97, u98, u99, u100, u101, u102, u103, u104, u105, u106, u107, u108, u109, u110, u111, u112, u113, u114, u115, u116, u117, u118, u119, u120, u121, u122, u123, u124, u125, u126, u127, u128, u129, u130, u131, u132, u133, u134, u135, u136, u137, u138, u139, u140, u141, u142, u143, u144, u145, u146, u147, u148, u149, u150, u151, u152, u153, u154, u155, u156, u157, u158, u159, u160, u161, u162, u163, u164, u165, u166, u167, u168, u169, u170, u171, u172, u173, u174, u175, u176, u177, u178, u179, u180, u181, u182, u183, u184, u185, u186, u187, u188, u189, u190, u191, u192, u193, u194, u195, u196, u197, u198, u199, u200, u201, u202, u203, u204, u205, u206, u207, u208, u209, u210, u211, u212, u213, u214, u215, u216, u217, u218, u219, u220, u221], []⟩ wr := by
  obtain ⟨i0, hi0, hx0, hz0, hb0⟩ := info_parts Try.infoByte
  obtain ⟨i1, hi1, hy0, hy1, hy2⟩ := info_parts Try.infoItem
  conv => arg 2; whnf
  have HJ := Lib.hid hJ
  have HRR := Lib.hid hR
  clear hJ hR
  have HR := Lib.hid hrd
  have HI := Lib.hid hinv
  have HBB := Lib.hid hbb
  have HRUN := Lib.hid hrun
  have HP := Lib.hid hpend
  have HC := Lib.hid hctx
  have HG := Lib.hid hg
  have hrl : rest.length ≤ b.length := hinv.le
  have HM := Lib.hid hmeas
  have hwr := hctx.size
  have hi64 : (i : Int) ≤ 4398047559680 := by
    have : b.length * cs.length ≤ 4194304 * 1048576 := Nat.mul_le_mul hbl hcl
    omega
  clear hrd hinv hbb hrun hpend hctx hg hmeas
  go_upto_if 38 with (fail)
  go_cut [16] from 34 to 221 (fun a wx => ∃ n : Nat, a = .int .i64 n ∧ n ≤ rest.length ∧ (cs = [] → n = rest.length) ∧ (cs ≠ [] → n = minN rest.length (cutAt cs i)) ∧ wx = wr)
  case first =>
    by_cases hcs : cs = []
    · have hK : ¬ (0 : Int) < cs.length := by rw [hcs]; decide
      have HCS := Lib.hid hcs
      clear hcs
      go_wp2
      go_meet
      exact ⟨rest.length, rfl, Nat.le_refl _, fun _ => rfl, fun h => absurd HCS.out h, rfl⟩
    · have hKp : 0 < cs.length := List.length_pos_iff.2 hcs
      have hK : (0 : Int) < cs.length := by omega
      have hK0 : ¬ (cs.length : Int) = 0 := by omega
      have hmod : (i : Int).tmod (cs.length : Int) = ((i % cs.length : Nat) : Int) := by rw [Int.natCast_emod]; exact Int.tmod_eq_emod_of_nonneg (by omega)
      have hml : i % cs.length < cs.length := Nat.mod_lt _ hKp
      obtain ⟨cb, coff, rfl, hcell⟩ := HCU.out.byte (i % cs.length) hml
      have hcut : cs[i % cs.length].toNat = cutAt cs i := by unfold cutAt; rw [List.getD_eq_getElem?_getD, List.getElem?_eq_getElem hml]; rfl
      have hcb := World.block_lt_of_cell? _ _ hcell
      have hcell2 := HC.out.chg.cell hcell (by show ¬ W.heap.size ≤ cb; simp at hcb; omega)
      rw [hcut] at hcell2
      have hml2 : ((i % cs.length : Nat) : Int) < cs.length := by omega
      have hc256 : cutAt cs i ≤ 255 := by
        rw [← hcut]; have := cs[i % cs.length].toNat_lt; omega
      have HCS := Lib.hid hcs
      generalize i % cs.length = im at *
      clear hcs hcell hcut hcb
      go_wp2
      go_meet
      exact ⟨minN rest.length (cutAt cs i), rfl, (minN_le _ _).1, fun h => absurd h HCS.out, fun _ => rfl, rfl⟩
  case rest =>
    obtain ⟨n, rfl, hn1, hn2, hn3, rfl⟩ := hcut
    have HN2 := Lib.hid hn2
    have HN3 := Lib.hid hn3
    clear hn2 hn3
    obtain ⟨ro', rn', rc', hsl, hrd2, hown2⟩ := HR.out.tail' (P := Try.prog) Try.underlying24 Try.elemB hi0 hz0 n hn1
    have hfirst := HR.out.first n hn1
    obtain ⟨_, _, _, hse, _, _, hrc, _⟩ := HR.out.shape
    injection hse with hse1 hse2 hse3
    subst hse2 hse3
    clear hse1
    have hnrc : n ≤ rc := by omega
    have hnrc2 : (n : Int) ≤ rc := by omega
    have HF := Lib.hid hfirst
    have HR2 := Lib.hid hrd2
    have hrn := hrd2.len
    subst hrn
    clear hrd2 hown2 hfirst
    obtain ⟨rest2, hr2⟩ : ∃ x, x = rest.drop n := ⟨_, rfl⟩
    rw [← hr2] at hsl HR2
    have hr2l : rest2.length + n ≤ rest.length := by rw [hr2, List.length_drop]; omega
    have hr2u : rest.length ≤ rest2.length + n := by rw [hr2, List.length_drop]; omega
    have HRD := Lib.hid hr2
    clear hr2
    go_wp2_with (at_builtin; refine wpList_append_arr _ rfl _ _ 24 24 rfl 5 i0 (.int .u8 0) 1 1 Try.underlying24 hi0 hx0 hz0 hb0 rfl (by decide) (.slice (some ⟨wc.heap.size, 0, none⟩) 0 0) [] rfl (arr_empty_new _ _ rfl _ 1) (.slice ro n rc) rfl n (bvs (rest.take n)) ?c1 ?c2 ?c3 ?c4)
    case c1 => exact ((HF.out.old HC.out.chg).kept ((Chg.refl (fun _ => False) _).alloc _) (fun _ _ _ h => h)).src (bvs_one _) Try.underlying24
    case c2 => simp; unfold maxLen; omega
    case c3 => simp; omega
    case c4 =>
    intro v2 w2 ha hc ho _
    have c2 : Chg (fun _ => False) wc w2 := ((Chg.refl (fun _ => False) wc).alloc _).trans hc (fun k hk e => by simp [Value.ownBlock] at e; omega)
    have hv2 : ∀ k, v2.ownBlock = some k → wc.heap.size ≤ k ∧ k < w2.heap.size := fun k hk => ⟨by
      rcases ho with e | e
      · rw [e] at hk; simp [Value.ownBlock] at hk; omega
      · rw [e] at hk; simp at hk; omega, ha.lt k hk⟩
    have hs2 := c2.size
    have hcx := HC.out.more c2 (Y := fun k => X k ∨ wc.heap.size ≤ k ∧ k < w2.heap.size) (fun k h => .inl h) (fun k h => h)
    have HC2 := Lib.hid hcx
    have HA := Lib.hid ha
    have HV := Lib.hid hv2
    obtain ⟨pa, pn, pc, rfl, -⟩ := ha.shape
    have hpn : (rest.take n).length = pn := by have := ha.rd.len; omega
    have hOV := HC.out.its.lt
    clear ha hc ho c2 hv2 hcx HF HR HC
    go_wp2_with fail
    clear hsl
    have hlen : (rest.take n).length = n := by rw [List.length_take]; omega
    obtain ⟨pp, hpp⟩ : ∃ pp, pp = rest.take n := ⟨_, rfl⟩
    rw [← hpp] at HA hpn hlen
    have HPP := Lib.hid hpp
    clear hpp
    subst hpn
    have HLEN := Lib.hid hlen
    have hlen2 : pp.length ≤ 4194304 := by omega
    have hlen3 : pp.length ≤ n := by omega
    clear hlen
    have hst0 : IRel W p ⟨l0, l1, l2⟩ b.length ts S pp rest2.length (mu ts S pp.length) (.slice oa on oc) (.int .i64 S.t) (.slice pa pp.length pc) (.int .i64 (0 : Nat)) w2 := by
      refine IRel.mk S _ pp pa pc 0 HA.out.rd (fun k hk => ⟨.inr (HV.out k hk), fun e => ?_⟩) ?_ (fun S2 h => h) HC2.out ?_
      · have := HC2.out.its.lt
        have := HV.out k hk
        have := hOV k e
        omega
      · have := phi_le S.m; omega
      · have := HI.out
        have := HLEN.out
        rw [show pp.length + rest2.length = rest.length from by omega]; exact HI.out
    have hst1 : IRel W p ⟨l0, l1, l2⟩ b.length ts S pp rest2.length (mu ts S pp.length) (.slice oa on oc) (.int .i64 S.t) (.slice pa pp.length pc) (.int .i64 0) w2 := hst0
    clear hst0
    refine wp_mono (Q := NoPanic _) (inner_loop W l0 l1 l2 h0 p ta tc b.length ts HTS hbl htl hbt HE HTN S pp rest2.length n hlen3 (by omega) _ _ _ _ _ _ _ _ _ _ _ _ _ _ _ _ _ _ _ _ _ _ _ _ _ _ _ _ _ _ _ _ _ _ _ _ _ _ _ _ _ _ _ _ _ _ _ _ _ _ _ _ _ _ _ _ _ _ _ _ _ _ _ _ _ _ _ _ _ _ _ _ _ _ _ _ _ _ _ _ _ _ _ _ _ _ _ _ _ _ _ _ _ _ _ _ _ _ _ _ _ _ _ _ _ _ _ _ _ _ _ _ _ _ _ _ _ _ _ _ _ _ _ _ _ _ _ _ _ _ _ _ _ _ _ _ _ _ _ _ _ _ _ _ _ _ _ _ _ _ _ _ _ _ _ _ _ _ _ _ _ _ _ _ _ _ _ _ _ _ _ _ _ _ _ _ _ _ _ _ _ _ _ _ _ _ _ _ _ _ _ _ _ _ _ _ _ _ _ _ _ _ _ _ _ _ _ _ _ _ _ _ _ _ _ _ _ _ _ _ ?hbr _ hst1) NoPanic.imp
    case hbr =>
      intro a' w' hx
      obtain ⟨x8, hx⟩ := hx
      obtain ⟨x9, hx⟩ := hx
      obtain ⟨x10, hx⟩ := hx
      obtain ⟨x13, hx⟩ := hx
      obtain ⟨x15, hx⟩ := hx
      obtain ⟨x17, hx⟩ := hx
      obtain ⟨x18, hx⟩ := hx
      obtain ⟨x19, hx⟩ := hx
      obtain ⟨x20, hx⟩ := hx
      obtain ⟨x21, hx⟩ := hx
      obtain ⟨x22, hx⟩ := hx
      obtain ⟨x60, hx⟩ := hx
      obtain ⟨x61, hx⟩ := hx
      obtain ⟨x62, hx⟩ := hx
      obtain ⟨x63, hx⟩ := hx
      obtain ⟨x64, hx⟩ := hx
      obtain ⟨x65, hx⟩ := hx
      obtain ⟨x66, hx⟩ := hx
      obtain ⟨x67, hx⟩ := hx
      obtain ⟨x68, hx⟩ := hx
      obtain ⟨x69, hx⟩ := hx
      obtain ⟨x70, hx⟩ := hx
      obtain ⟨x71, hx⟩ := hx
      obtain ⟨x72, hx⟩ := hx
      obtain ⟨x73, hx⟩ := hx
      obtain ⟨x74, hx⟩ := hx
      obtain ⟨x75, hx⟩ := hx
      obtain ⟨x76, hx⟩ := hx
      obtain ⟨x77, hx⟩ := hx
      obtain ⟨x78, hx⟩ := hx
      obtain ⟨x79, hx⟩ := hx
      obtain ⟨x80, hx⟩ := hx
      obtain ⟨x81, hx⟩ := hx
      obtain ⟨x82, hx⟩ := hx
      obtain ⟨x83, hx⟩ := hx
      obtain ⟨x84, hx⟩ := hx
      obtain ⟨x85, hx⟩ := hx
      obtain ⟨x86, hx⟩ := hx
      obtain ⟨x87, hx⟩ := hx
      obtain ⟨x88, hx⟩ := hx
      obtain ⟨x89, hx⟩ := hx
      obtain ⟨x90, hx⟩ := hx
      obtain ⟨x91, hx⟩ := hx
      obtain ⟨x92, hx⟩ := hx
      obtain ⟨x93, hx⟩ := hx
      obtain ⟨x94, hx⟩ := hx
      obtain ⟨x95, hx⟩ := hx
      obtain ⟨x96, hx⟩ := hx
      obtain ⟨x97, hx⟩ := hx
      obtain ⟨x98, hx⟩ := hx
      obtain ⟨x99, hx⟩ := hx
      obtain ⟨x100, hx⟩ := hx
      obtain ⟨x101, hx⟩ := hx
      obtain ⟨x102, hx⟩ := hx
      obtain ⟨x103, hx⟩ := hx
      obtain ⟨x104, hx⟩ := hx
      obtain ⟨x105, hx⟩ := hx
      obtain ⟨x106, hx⟩ := hx
      obtain ⟨x107, hx⟩ := hx
      obtain ⟨x108, hx⟩ := hx
      obtain ⟨x109, hx⟩ := hx
      obtain ⟨x110, hx⟩ := hx
      obtain ⟨x111, hx⟩ := hx
      obtain ⟨x112, hx⟩ := hx
      obtain ⟨x113, hx⟩ := hx
      obtain ⟨x114, hx⟩ := hx
      obtain ⟨x115, hx⟩ := hx
      obtain ⟨x116, hx⟩ := hx
      obtain ⟨x117, hx⟩ := hx
      obtain ⟨x118, hx⟩ := hx
      obtain ⟨x119, hx⟩ := hx
      obtain ⟨x120, hx⟩ := hx
      obtain ⟨x121, hx⟩ := hx
      obtain ⟨x122, hx⟩ := hx
      obtain ⟨x123, hx⟩ := hx
      obtain ⟨x124, hx⟩ := hx
      obtain ⟨x125, hx⟩ := hx
      obtain ⟨x126, hx⟩ := hx
      obtain ⟨x127, hx⟩ := hx
      obtain ⟨x128, hx⟩ := hx
      obtain ⟨x129, hx⟩ := hx
      obtain ⟨x130, hx⟩ := hx
      obtain ⟨x131, hx⟩ := hx
      obtain ⟨x132, hx⟩ := hx
      obtain ⟨x133, hx⟩ := hx
      obtain ⟨x134, hx⟩ := hx
      obtain ⟨x135, hx⟩ := hx
      obtain ⟨x136, hx⟩ := hx
      obtain ⟨x137, hx⟩ := hx
      obtain ⟨x138, hx⟩ := hx
      obtain ⟨x139, hx⟩ := hx
      obtain ⟨x140, hx⟩ := hx
      obtain ⟨x141, hx⟩ := hx
      obtain ⟨x142, hx⟩ := hx
      obtain ⟨x143, hx⟩ := hx
      obtain ⟨x144, hx⟩ := hx
      obtain ⟨x145, hx⟩ := hx
      obtain ⟨x146, hx⟩ := hx
      obtain ⟨x147, hx⟩ := hx
      obtain ⟨x148, hx⟩ := hx
      obtain ⟨x149, hx⟩ := hx
      obtain ⟨x150, hx⟩ := hx
      obtain ⟨x151, hx⟩ := hx
      obtain ⟨x152, hx⟩ := hx
      obtain ⟨x153, hx⟩ := hx
      obtain ⟨x154, hx⟩ := hx
      obtain ⟨x155, hx⟩ := hx
      obtain ⟨x156, hx⟩ := hx
      obtain ⟨x157, hx⟩ := hx
      obtain ⟨x158, hx⟩ := hx
      obtain ⟨x159, hx⟩ := hx
      obtain ⟨x160, hx⟩ := hx
      obtain ⟨x161, hx⟩ := hx
      obtain ⟨x162, hx⟩ := hx
      obtain ⟨x163, hx⟩ := hx
      obtain ⟨x164, hx⟩ := hx
      obtain ⟨x165, hx⟩ := hx
      obtain ⟨x166, hx⟩ := hx
      obtain ⟨x167, hx⟩ := hx
      obtain ⟨x168, hx⟩ := hx
      obtain ⟨x169, hx⟩ := hx
      obtain ⟨x170, hx⟩ := hx
      obtain ⟨x171, hx⟩ := hx
      obtain ⟨x172, hx⟩ := hx
      obtain ⟨x173, hx⟩ := hx
      obtain ⟨x174, hx⟩ := hx
      obtain ⟨x175, hx⟩ := hx
      obtain ⟨x176, hx⟩ := hx
      obtain ⟨x177, hx⟩ := hx
      obtain ⟨x178, hx⟩ := hx
      obtain ⟨x179, hx⟩ := hx
      obtain ⟨x180, hx⟩ := hx
      obtain ⟨x181, hx⟩ := hx
      obtain ⟨x182, hx⟩ := hx
      obtain ⟨x183, hx⟩ := hx
      obtain ⟨x184, hx⟩ := hx
      obtain ⟨x185, hx⟩ := hx
      obtain ⟨x186, hx⟩ := hx
      obtain ⟨x187, hx⟩ := hx
      obtain ⟨x188, hx⟩ := hx
      obtain ⟨x189, hx⟩ := hx
      obtain ⟨x190, hx⟩ := hx
      obtain ⟨x191, hx⟩ := hx
      obtain ⟨x192, hx⟩ := hx
      obtain ⟨x193, hx⟩ := hx
      obtain ⟨x194, hx⟩ := hx
      obtain ⟨hxr, rfl⟩ := hx
      obtain ⟨S3, X5, rfl, hrun3, hpend3, hcx5, hinv3, oa2, on2, oc2, rfl⟩ := hxr
      obtain ⟨W5, hW5⟩ : ∃ W5 : World, W5 = w' := ⟨_, rfl⟩
      subst hW5
      have RN := Lib.hid hrun3
      have RS2 := Lib.hid hpend3
      have CX5 := Lib.hid hcx5
      have RS1 := Lib.hid hinv3
      clear hrun3 hpend3 hcx5 hinv3 HA HV HC2 hst1
      by_cases hr0 : rest2.length = 0
      · as_aux_lemma =>
        have hr0' : ((rest2.length : Int) == 0) = true := by simp [hr0]
        have HR0 := Lib.hid hr0
        clear hr0
        go_wp2_with fail
        refine (one_mode CX5.out.one).mono ?_
        rintro e w6 ⟨rfl, rfl⟩
        dsimp only
        go_wp2_with fail
        refine HRR.out _ _ ?_
        (repeat apply Exists.intro)
        refine ⟨?_, rfl⟩
        obtain ⟨r1, r2⟩ := CX5.out.its.rd
        have r3 := RS1.out.outl
        refine ⟨S3, oa2, on2, oc2, rfl, rfl, rfl, all_done HBB.out HPP.out HRD.out HRUN.out (fun _ h => h) RN.out HR0.out, r1, ?_, CX5.out.chg.mono (fun i hi h => absurd h (by omega))⟩
        rw [r2]; omega
      · have hr0' : ((rest2.length : Int) == 0) = false := by simpa using hr0
        have HR0 := Lib.hid hr0
        clear hr0
        go_upto_region 32 with (fail)
        go_cut [218] from 34 to 221 (fun a wx => a = .bool false ∧ wx = W5)
        case first =>
          as_aux_lemma =>
          by_cases hcs : cs = []
          · have hK : ¬ 0 < cs.length := by rw [hcs]; decide
            clear hcs
            go_wp2
            go_meet
            exact ⟨rfl, rfl⟩
          · have hK : 0 < cs.length := List.length_pos_iff.2 hcs
            have HAZ := Lib.hid (HZ.out hcs)
            have HCW := Lib.hid (HCU.out.old CX5.out.chg)
            clear hcs
            have hnz : n = 0 ∨ ¬ n = 0 := by omega
            rcases hnz with rfl | hnz
            all_goals
              go_wp2_with (go_at_call 22; refine (zeros_false _ _ _ _ HCW.out (by omega) HAZ.out).mono ?_; rintro e w' ⟨rfl, rfl⟩; dsimp only)
              all_goals
                go_meet
                exact ⟨rfl, rfl⟩
        case rest =>
          obtain ⟨rfl, rfl⟩ := hcut
          go_wp2_with fail
          have hJ := HJ.out
          go_roundg (rest2.length * cs.length + dzc cs (i + 1))
          case measure => have := outer_down HZ.out hr2l hr2u HN2.out HN3.out HR0.out; have := HG.out; omega
          case rel =>
            obtain ⟨r1, r2⟩ := piece_done HBB.out HPP.out HRD.out HRUN.out (fun _ h => h) RN.out
            have r4 := outer_down HZ.out hr2l hr2u HN2.out HN3.out HR0.out
            have r5 := HG.out
            have r6 := HM.out
            exact ⟨S3, _, i + 1, b0' ++ pp, rest2, ro', rc', rfl, rfl, by go_num, rfl, HR2.out, r2, r1, RS2.out, CX5.out, RS1.out, by omega, oa2, on2, oc2, rfl⟩
end Go.Proofs.Ytnjloldhmjadoaa
