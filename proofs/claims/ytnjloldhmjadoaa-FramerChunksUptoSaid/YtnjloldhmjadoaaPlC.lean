/- What played's rounds want beside: more of the plain theory, and how the items lie behind a round. No condition but what each states. -/
import Derived.Test.YtnjloldhmjadoaaPlW2
import Derived.Test.YtnjloldhmjadoaaPlInv
import Derived.Deep.RegionLaw
namespace Go.Proofs.Ytnjloldhmjadoaa
set_option linter.unusedVariables false
open Go Go.RowKit Ln Dt Fr Pl

theorem step_append_arr {P : Program} {ops : Array Oper} {o : Oper} {a : Act} {w : World} {K : Act → World → Prop} {Q : Exit → Act → World → Prop} {E : Prop}
    (hg : o.guard = none) (s x : Operand) (t tx : TypeId) (hop : o.op = Op.call { callee := Callee.builtin Builtin.append, args := #[s, x], argTypes := #[t, tx] })
    (e : TypeId) (i : TypeInfo) (z : Value) (sz by_ : Nat) (ht : P.underlying t = some (.slice e)) (hi : P.info? e = some i) (hz : i.zero = some z) (hs : i.size = sz) (hb : i.bytes = by_) (hzs : z.cells.size = sz) (hsz : 0 < sz)
    (v : Value) (xs : List Value) (hv : a.eval s = v) (h : Arr w e sz v xs) (y : Value) (hy : a.eval x = y) (m : Nat) (news : List Value) (hsrc : Src P sz tx y m news w)
    (b1 : xs.length / sz + m ≤ maxLen) (b2 : (xs.length / sz + m) * by_ ≤ 140737488355328)
    (hK : ∀ v' w', Arr w' e sz v' (xs ++ news) → Chg (fun k => some k = v.ownBlock) w w' → (v'.ownBlock = v.ownBlock ∨ v'.ownBlock = some w.heap.size) → K (a.put o.dst v') w') :
    if Region.wanted o (yielded ops a.tmps) = true then Oper.wp P o a w K Q else E := by
  have hw : Region.wanted o (yielded ops a.tmps) = true := by simp [Region.wanted, hg]
  rw [if_pos hw]
  obtain ⟨v', w', hrun, r1, r2, r3, r4⟩ := arr_append (P := P) h t tx o.type i z by_ ht hi hz hs hb hzs hsz y m news hsrc b1 b2
  unfold Oper.wp
  simp [execOp, hop, resolve, invoke, builtin, hv, hy, hrun, Result.andThen]
  exact hK _ _ r1 r2 r3

/-- 0 or more. -/
def max0 (b : Int) : Int := max 0 b
theorem run_max0 (ats : Array TypeId) (ty : TypeId) (k k' : IntKind) (b : Int) : Builtin.max_ ats ty #[.int k 0, .int k' b] = pure (.int k (max0 b)) := by
  have e : (if b > (0 : Int) then b else (0 : Int)) = max0 b := by
    unfold max0; split <;> omega
  rw [← e]
  simp only [Builtin.max_, List.foldlM_cons, List.foldlM_nil, Builtin.max2]
  rfl

theorem zeros_false (w : World) (ao : Option Addr) (cap : Nat) (cs : List UInt8) (h : Rd w (.slice ao cs.length cap) 1 (bvs cs)) (hl : cs.length ≤ 1099511627776) (hz : allZero cs = false) :
    Calls Try.prog 22 #[.slice ao cs.length cap] w fun r w' => r = .returned (.bool false) ∧ w = w' :=
  (zeros_calls w ao cap cs h hl).mono fun _ _ ⟨h1, h2⟩ => ⟨by rw [h1, hz], h2⟩

theorem ln_kind (m : Int) : ∀ (p : List UInt8) (ls : LS), (Ln.take m ls p).2.1.kind ≠ 3
  | [], ls => by simp [Ln.take, Itm.none]
  | c :: r, ls => by
    have hi : ls.item.kind ≠ 3 := by unfold LS.item; split <;> simp
    rw [Ln.take]; split
    · exact hi
    · exact ln_kind m r _
theorem take_body {L : Lim} (m : FM) (p : List UInt8) (h3 : (FM.take L m p).2.1.kind = 3) : (FM.take L m p).2.1 = It.body (FM.take L m p).2.1.bytes ∧ (FM.take L m p).2.1.bytes ≠ [] := by
  cases m with
  | lines ls bg => exact absurd h3 (ln_kind _ _ _)
  | data r =>
    simp only [FM.take, RS.take] at h3 ⊢
    split
    · rename_i h; rw [if_pos h] at h3; simp [DS.end] at h3
    · rename_i h
      rw [if_neg h] at h3
      split
      · rename_i ht; exact ⟨rfl, ht⟩
      · rename_i ht
        rw [if_neg ht] at h3
        split
        · rename_i ho; rw [if_pos ho] at h3; simp [DS.end] at h3
        · rename_i ho; rw [if_neg ho] at h3; simp [It.none] at h3
  | chunk left room =>
    simp only [FM.take] at h3 ⊢
    split
    · rename_i h
      refine ⟨rfl, fun e => ?_⟩
      have := congrArg List.length e
      simp only [It.body, List.length_take, List.length_nil] at this
      omega
    · rename_i h
      rw [if_neg h] at h3
      split
      · rename_i h2; rw [if_pos h2] at h3; simp at h3
      · rename_i h2; rw [if_neg h2] at h3; simp [It.none] at h3
def last3 (out : List It) : Bool := match out.getLast? with | some y => decide (y.kind = 3) | none => false
theorem last3_nil : last3 [] = false := rfl
theorem last3_snoc (l : List It) (y : It) : last3 (l ++ [y]) = decide (y.kind = 3) := by simp [last3]
theorem last3_elim {out : List It} (h : last3 out = true) : ∃ l y, out = l ++ [y] ∧ y.kind = 3 := by
  rcases List.eq_nil_or_concat out with rfl | ⟨l, y, rfl⟩
  · simp [last3] at h
  · refine ⟨l, y, List.concat_eq_append, ?_⟩
    rw [List.concat_eq_append, last3_snoc] at h
    simpa using h
theorem addB_merge {l : List It} {y : It} (h : y.kind = 3) (b : List UInt8) : addB (l ++ [y]) b = l ++ [{ y with bytes := y.bytes ++ b }] := by
  unfold addB
  by_cases hb : b = []
  · subst hb; simp
  · simp [hb, h]
theorem addB_push {out : List It} {b : List UInt8} (hb : b ≠ []) (h : last3 out = false) : addB out b = out ++ [It.body b] := by
  unfold addB
  rw [if_neg hb]
  unfold last3 at h
  cases hg : out.getLast? with
  | none => simp [List.getLast?_eq_none_iff.1 hg]
  | some y => rw [hg] at h; simp only [decide_eq_false_iff_not] at h; exact if_neg h
theorem tell_merge {ts : List Tn} {m m' : FM} {l : List It} {y x : It} {t : Nat} (h : y.kind = 3) (hx : x.kind = 3) : tell ts ⟨m, l ++ [y], t⟩ x m' = ⟨m', l ++ [{ y with bytes := y.bytes ++ x.bytes }], t⟩ := by
  simp [tell, hx, addB_merge h]
theorem tell_push {ts : List Tn} {m m' : FM} {out : List It} {x : It} {t : Nat} (hx : x.kind = 3) (hb : x = It.body x.bytes ∧ x.bytes ≠ []) (h : last3 out = false) : tell ts ⟨m, out, t⟩ x m' = ⟨m', out ++ [x], t⟩ := by
  simp only [tell, hx, if_true]
  rw [addB_push hb.2 h, ← hb.1]
theorem tell_merge' {ts : List Tn} {S : PS} {m' : FM} {l : List It} {y x : It} (ho : S.out = l ++ [y]) (h : y.kind = 3) (hx : x.kind = 3) : tell ts S x m' = ⟨m', l ++ [{ y with bytes := y.bytes ++ x.bytes }], S.t⟩ := by
  obtain ⟨a, b, c⟩ := S
  simp only at ho
  subst ho
  exact tell_merge h hx
theorem tell_none {m m' : FM} {out : List It} {x : It} {t : Nat} (hx : x.kind ≠ 3) : tell [] ⟨m, out, t⟩ x m' = ⟨m', out ++ [x], t⟩ := by
  simp [tell, hx, turned]
theorem tell_push' {ts : List Tn} {S : PS} {m' : FM} {x : It} (hx : x.kind = 3) (hb : x = It.body x.bytes ∧ x.bytes ≠ []) (h : last3 S.out = false) : tell ts S x m' = ⟨m', S.out ++ [x], S.t⟩ := tell_push hx hb h
theorem tell_none' {ts : List Tn} (hts : ts = []) {S : PS} {m' : FM} {x : It} (hx : x.kind ≠ 3) : tell ts S x m' = ⟨m', S.out ++ [x], S.t⟩ := by subst hts; exact tell_none hx
theorem tell_turn {ts : List Tn} (hts : ts ≠ []) {m m' : FM} {out : List It} {x : It} {t : Nat} (hx : x.kind ≠ 3) : tell ts ⟨m, out, t⟩ x m' = ⟨(turnAt ts t).act m', out ++ [x], t + 1⟩ := by
  simp [tell, hx, turned, hts]
theorem tell_turn' {ts : List Tn} (hts : ts ≠ []) {S : PS} {m' : FM} {x : It} (hx : x.kind ≠ 3) : tell ts S x m' = ⟨(turnAt ts S.t).act m', S.out ++ [x], S.t + 1⟩ := tell_turn hts hx
theorem tell_turn2 {ts : List Tn} (hts : ts ≠ []) {S : PS} {m' : FM} (hm : m' = FM.new) {x : It} (hx : x.kind ≠ 3) : tell ts S x m' = ⟨(turnAt ts S.t).act FM.new, S.out ++ [x], S.t + 1⟩ := by subst hm; exact tell_turn' hts hx
theorem act_data {o : Tn} (h : o.kind = 1) : o.act FM.new = (FM.new.data?).2 := by simp [Tn.act, h]
theorem act_chunk {o : Tn} (h : o.kind = 2) : o.act FM.new = (FM.new.chunk? (max0 o.n) (max0 o.room)).2 := by simp [Tn.act, h, max0]
theorem act_other {o : Tn} (h : o.kind ≠ 1) (h2 : o.kind ≠ 2) (m : FM) : o.act m = m := by simp [Tn.act, h, h2]
theorem chunk_ok (a b : Int) : (FM.new.chunk? (max0 a) (max0 b)).1 = 0 := by
  have : ¬ (max0 a < 0 ∨ max0 b < 0) := by unfold max0; omega
  simp [FM.new, FM.chunk?, this]
theorem data_ok : (FM.new.data?).1 = 0 := rfl
theorem act_phi {o : Tn} (h : o.kind ≠ 2) : phi (o.act FM.new) = 0 := by
  by_cases h1 : o.kind = 1
  · rw [act_data h1]; rfl
  · rw [act_other h1 h]; rfl

/-- A piece is done. -/
theorem piece_done {L : Lim} {ts : List Tn} {b b0 rest rest2 pp q : List UInt8} {S S2 S3 : PS} {n : Nat} (hbb : b = b0 ++ rest) (hpp : pp = rest.take n) (hrd : rest2 = rest.drop n)
    (h1 : Run L ts PS.new b0 S) (h2 : ∀ S', Run L ts S2 q S' → Run L ts S pp S') (h3 : Run L ts S2 q S3) : Run L ts PS.new (b0 ++ pp) S3 ∧ b = (b0 ++ pp) ++ rest2 :=
  ⟨h1.app (h2 _ h3), by rw [hbb, hpp, hrd, List.append_assoc, List.take_append_drop]⟩
theorem all_done {L : Lim} {ts : List Tn} {b b0 rest rest2 pp q : List UInt8} {S S2 S3 : PS} {n : Nat} (hbb : b = b0 ++ rest) (hpp : pp = rest.take n) (hrd : rest2 = rest.drop n)
    (h1 : Run L ts PS.new b0 S) (h2 : ∀ S', Run L ts S2 q S' → Run L ts S pp S') (h3 : Run L ts S2 q S3) (h0 : rest2.length = 0) : Run L ts PS.new b S3 := by
  obtain ⟨r1, r2⟩ := piece_done hbb hpp hrd h1 h2 h3
  rw [r2, List.eq_nil_of_length_eq_zero h0, List.append_nil]; exact r1

def cutAt (cs : List UInt8) (i : Nat) : Nat := (cs.getD (i % cs.length) 0).toNat
def dzc (cs : List UInt8) (i : Nat) : Nat := distF (fun i => cutAt cs i == 0) cs.length i
theorem dzc_step {cs : List UInt8} (h : allZero cs = false) (i : Nat) : dzc cs i < cs.length ∧ (cutAt cs i = 0 → dzc cs i = dzc cs (i + 1) + 1) := by
  unfold allZero at h
  rw [List.all_eq_false] at h
  obtain ⟨c, hc, hn⟩ := h
  obtain ⟨j, hj, rfl⟩ := List.getElem_of_mem hc
  have hf : (cutAt cs j == 0) = false := by
    unfold cutAt
    rw [Nat.mod_eq_of_lt hj, List.getD_eq_getElem?_getD, List.getElem?_eq_getElem hj]
    simp only [Option.getD_some]
    have : cs[j].toNat ≠ 0 := fun e => hn (by simpa using UInt8.toNat_inj.1 (by simpa using e))
    simpa using this
  obtain ⟨h1, h2⟩ := dist_step (fun i => cutAt cs i == 0) cs.length (fun i => by simp [cutAt]) j hj hf i
  exact ⟨h1, fun e => h2 (by simpa using e)⟩
/-- The outer loop's measure goes down. -/
theorem outer_down {cs : List UInt8} {rest rest2 : List UInt8} {n i : Nat} (hz : cs ≠ [] → allZero cs = false) (h1 : rest2.length + n ≤ rest.length) (h2 : rest.length ≤ rest2.length + n)
    (hn2 : cs = [] → n = rest.length) (hn3 : cs ≠ [] → n = minN rest.length (cutAt cs i)) (h0 : rest2.length ≠ 0) : rest2.length * cs.length + dzc cs (i + 1) + 1 ≤ rest.length * cs.length + dzc cs i := by
  by_cases hcs : cs = []
  · have := hn2 hcs; omega
  · have hn := hn3 hcs
    obtain ⟨d1, d2⟩ := dzc_step (hz hcs) i
    obtain ⟨d3, _⟩ := dzc_step (hz hcs) (i + 1)
    by_cases hc : cutAt cs i = 0
    · have : n = 0 := by rw [hn, hc]; unfold minN; omega
      have := d2 hc
      have e : rest2.length = rest.length := by omega
      rw [e]; omega
    · have h1n : 1 ≤ n := by
        rw [hn]; unfold minN
        have : 1 ≤ rest.length := by omega
        omega
      have e : rest.length = rest2.length + n := by omega
      rw [e, Nat.add_mul]
      have : 1 * cs.length ≤ n * cs.length := Nat.mul_le_mul_right _ h1n
      omega

/-- What stays through all of played. -/
structure Ctx (W : World) (w : World) (X : Nat → Prop) (p : Nat) (L : Lim) (m : FM) (out : List It) (ov : Value) : Prop where
  one : FOne w X p L m
  its : Its W.heap.size w X ov out
  old : ∀ k, k ≤ W.heap.size → X k
  box : w.heap[W.heap.size]? = some (.cells #[.int .i64 L.line, .int .i64 L.text, .int .i64 L.all, .int .i64 1, .int .i64 1, .int .i64 1] 23 (0, 0))
  apart : ov.ownBlock ≠ some W.heap.size
  chg : Chg (fun k => W.heap.size ≤ k) W w
theorem Ctx.size {W w : World} {X : Nat → Prop} {p : Nat} {L : Lim} {m : FM} {out : List It} {ov : Value} (h : Ctx W w X p L m out ov) : W.heap.size < w.heap.size := lt_of_block h.box
/-- New blocks, and nothing else. -/
theorem Ctx.more {W w w' : World} {X Y : Nat → Prop} {p : Nat} {L : Lim} {m : FM} {out : List It} {ov : Value} (h : Ctx W w X p L m out ov) (c : Chg (fun _ => False) w w') (hx : ∀ k, X k → Y k) (hy : ∀ k, Y k → X k ∨ w.heap.size ≤ k ∧ k < w'.heap.size) : Ctx W w' Y p L m out ov :=
  ⟨h.one.more (c.mono (fun _ _ h => h.elim)) hy, h.its.more c (fun _ _ h => h) hx, fun k hk => hx k (h.old k hk), c.obj h.box (fun h => h), h.apart, h.chg.trans c (fun _ _ h => h.elim)⟩
theorem Ctx.same {W w w' : World} {X : Nat → Prop} {p : Nat} {L : Lim} {m : FM} {out : List It} {ov : Value} (h : Ctx W w X p L m out ov) (c : Chg (fun _ => False) w w') : Ctx W w' X p L m out ov := h.more c (fun _ h => h) (fun _ h => .inl h)
/-- A call of the framer's. -/
theorem Ctx.call {W w w' : World} {X Y : Nat → Prop} {p : Nat} {L : Lim} {m m' : FM} {out : List It} {ov : Value} (h : Ctx W w X p L m out ov) (o : FOne w' Y p L m') (c : Chg (fun k => ¬ X k) w w') (hx : ∀ k, X k → Y k) : Ctx W w' Y p L m' out ov :=
  ⟨o, h.its.more c (fun _ a b => b a) hx, fun k hk => hx k (h.old k hk), c.obj h.box (fun e => e (h.old _ (Nat.le_refl _))), h.apart, h.chg.trans c (fun i hi e => by
    by_cases hl : i < W.heap.size
    · exact absurd (h.old i (by omega)) e
    · show W.heap.size ≤ i; omega)⟩
/-- Bytes that came in, and those cut out of them. -/
theorem Rd.old {W w : World} {v : Value} {sz : Nat} {xs : List Value} (h : Rd W v sz xs) (c : Chg (fun k => W.heap.size ≤ k) W w) : Rd w v sz xs := h.kept c (fun hx k hk e => by have := h.lt hx k hk; omega)
theorem msize_eq (m : FM) : msize m = sizeM m := by cases m <;> rfl
theorem Its.lt {W0 : Nat} {w : World} {X : Nat → Prop} {ov : Value} {out : List It} (h : Its W0 w X ov out) : ∀ k, ov.ownBlock = some k → k < w.heap.size := by
  obtain ⟨⟨xs, h1, h2, h3⟩, h4⟩ := h
  exact h2.lt
/-- An item behind the others. -/
theorem Ctx.push {W w w2 : World} {X : Nat → Prop} {p : Nat} {L : Lim} {m : FM} {out : List It} {ov v2 vx : Value} {x : It} {o : Obj} {xs : List (It × Value)} (h : Ctx W w X p L m out ov)
    (h1 : xs.map (·.1) = out) (h3 : ∀ x ∈ xs, Arr w 5 1 x.2 (bvs x.1.bytes) ∧ ∀ k, x.2.ownBlock = some k → X k ∧ ov.ownBlock ≠ some k)
    (ha : Arr w2 35 5 v2 (itsC xs ++ itCs (x, vx))) (c : Chg (fun k => some k = ov.ownBlock) (w.alloc o) w2) (ho : v2.ownBlock = ov.ownBlock ∨ v2.ownBlock = some (w.heap.size + 1))
    (hx : Arr w 5 1 vx (bvs x.bytes)) (hx2 : ∀ k, vx.ownBlock = some k → X k ∧ ov.ownBlock ≠ some k) : Ctx W w2 (fun k => X k ∨ w.heap.size ≤ k ∧ k < w2.heap.size) p L m (out ++ [x]) v2 := by
  have ca : Chg (fun _ => False) w (w.alloc o) := (Chg.refl _ w).alloc o
  have hs := h.size
  have hs2 := c.size
  simp only [World.size_alloc] at hs2
  have cX : Chg X w w2 := (ca.mono (fun _ _ h => h.elim)).trans c (fun i hi e => (h.its.own i e.symm).1)
  have c0 : Chg (fun k => some k = ov.ownBlock) w w2 := (ca.mono (fun _ _ h => h.elim)).trans c (fun i hi e => e)
  refine ⟨h.one.more cX (fun k e => e), ?_, fun k hk => .inl (h.old k hk), c0.obj h.box (fun e => h.apart e.symm), ?_, h.chg.trans c0 (fun i hi e => (h.its.own i e.symm).2)⟩
  · refine Its.push (w := w) (X := X) (ov := ov) (vx := vx) h1 h3 h.its.own h.one.ins ha c0 ho (by omega) (by omega) hx hx2 (fun k e => .inl e) (fun k e1 e2 => .inr ⟨e1, e2⟩)
  · rcases ho with e | e
    · rw [e]; exact h.apart
    · rw [e]; intro e2; injection e2 with e2; omega
/-- The last item. -/
theorem Its.last {W0 : Nat} {w : World} {X : Nat → Prop} {oa : Option Addr} {on oc : Nat} {l : List It} {y : It} (h : Its W0 w X (.slice oa on oc) (l ++ [y])) : ∃ (ob oo : Nat) (ys : List (It × Value)) (va : Option Addr) (vn vc : Nat), oa = some ⟨ob, oo, none⟩ ∧ on = ys.length + 1 ∧ ys.map (·.1) = l ∧ Arr w 35 5 (.slice oa on oc) (itsC (ys ++ [(y, .slice va vn vc)])) ∧
    (∀ x ∈ ys ++ [(y, .slice va vn vc)], Arr w 5 1 x.2 (bvs x.1.bytes) ∧ ∀ k, x.2.ownBlock = some k → X k ∧ (Value.slice oa on oc).ownBlock ≠ some k) ∧ vn = y.bytes.length ∧
    w.cell? ⟨ob, oo + ys.length * 5, none⟩ = some (.int .i64 y.kind) ∧ w.cell? ⟨ob, oo + ys.length * 5 + 2, none⟩ = some (.slice va vn vc) ∧ w.frozen? ⟨ob, oo + ys.length * 5 + 2, none⟩ = false := by
  obtain ⟨⟨xs, h1, h2, h3⟩, h4⟩ := h
  rcases List.eq_nil_or_concat xs with rfl | ⟨ys, ⟨y', vy⟩, rfl⟩
  · simp at h1
  · rw [List.concat_eq_append] at h1 h2 h3
    rw [List.map_append, List.map_cons, List.map_nil] at h1
    obtain ⟨g1, g2⟩ := List.append_inj_right' h1 rfl |> fun e => (⟨List.append_inj_left' h1 rfl, by simpa using e⟩ : _ ∧ _)
    subst g2
    have hv := (h3 (y', vy) (by simp)).1
    obtain ⟨va, vn, vc, rfl, hvl, _⟩ := hv.shape
    have hn := h2.rd.num
    rw [itsC_length, List.length_append, List.length_singleton] at hn
    have hne : itsC (ys ++ [(y', Value.slice va vn vc)]) ≠ [] := by intro e; have := itsC_length (ys ++ [(y', Value.slice va vn vc)]); rw [e] at this; simp at this
    obtain ⟨ob, oo, rfl, hc⟩ := h2.rd.at hne
    have at_ : ∀ i (hi : i < 5), w.cell? ⟨ob, oo + (ys.length * 5 + i), none⟩ = some ((itCs (y', Value.slice va vn vc))[i]'hi) := fun i hi => by
      have hi' : ys.length * 5 + i < (itsC (ys ++ [(y', Value.slice va vn vc)])).length := by rw [itsC_length]; simp; omega
      rw [hc _ hi']
      have := rows_at 5 itCs (fun _ => rfl) (ys ++ [(y', Value.slice va vn vc)]) ys.length i (by simp) hi
      rw [show ((ys ++ [(y', Value.slice va vn vc)]).flatMap itCs) = itsC (ys ++ [(y', Value.slice va vn vc)]) from rfl, List.getElem?_eq_getElem hi'] at this
      have e : (ys ++ [(y', Value.slice va vn vc)])[ys.length]'(by simp) = (y', Value.slice va vn vc) := by simp
      rw [e, List.getElem?_eq_getElem hi] at this
      exact this
    refine ⟨ob, oo, ys, va, vn, vc, rfl, by omega, g1, h2, h3, ?_, at_ 0 (by omega), ?_, ?_⟩
    · rw [bvs_length, Nat.mul_one] at hvl; exact hvl.symm
    · have := at_ 2 (by omega); rwa [← Nat.add_assoc] at this
    · have hcap := h2.shape
      obtain ⟨_, n', cap', he, _, _, hle, _⟩ := hcap
      injection he with e1 e2 e3
      subst e2 e3
      have := (h2.freeAt (ys.length * 5 + 2) (by omega)).1
      rwa [← Nat.add_assoc] at this
theorem last_free {w : World} {ob oo on oc : Nat} {ys : List (It × Value)} {y : It} {vy : Value} (h : Arr w 35 5 (.slice (some ⟨ob, oo, none⟩) on oc) (itsC (ys ++ [(y, vy)]))) :
    w.cell? ⟨ob, oo + ys.length * 5 + 2, none⟩ = some vy ∧ w.frozen? ⟨ob, oo + ys.length * 5 + 2, none⟩ = false := by
  have hl : (itsC (ys ++ [(y, vy)])).length = ys.length * 5 + 5 := by rw [itsC_length]; simp; omega
  have hn := h.rd.num
  obtain ⟨_, n', cap', he, _, _, hle, _⟩ := h.shape
  injection he with e1 e2 e3
  subst e2 e3
  have h1 := h.cellAt (ys.length * 5 + 2) (by omega)
  have h2 := (h.freeAt (ys.length * 5 + 2) (by omega)).1
  rw [← Nat.add_assoc] at h1 h2
  refine ⟨?_, h2⟩
  rw [h1]
  have := rows_at 5 itCs (fun _ => rfl) (ys ++ [(y, vy)]) ys.length 2 (by simp) (by omega)
  rw [show ((ys ++ [(y, vy)]).flatMap itCs) = itsC (ys ++ [(y, vy)]) from rfl, List.getElem?_eq_getElem (by omega)] at this
  rw [this]
  have e : (ys ++ [(y, vy)])[ys.length]'(by simp) = (y, vy) := by simp
  rw [e]; rfl
/-- The last item grows. -/
theorem Ctx.merge {W w w2 : World} {X : Nat → Prop} {p : Nat} {L : Lim} {m : FM} {l : List It} {y : It} {b : List UInt8} {ob oo on oc : Nat} {ys : List (It × Value)} {vy v3 : Value}
    (h : Ctx W w X p L m (l ++ [y]) (.slice (some ⟨ob, oo, none⟩) on oc)) (h1 : ys.map (·.1) = l) (h2 : Arr w 35 5 (.slice (some ⟨ob, oo, none⟩) on oc) (itsC (ys ++ [(y, vy)])))
    (h3 : ∀ x ∈ ys ++ [(y, vy)], Arr w 5 1 x.2 (bvs x.1.bytes) ∧ ∀ k, x.2.ownBlock = some k → X k ∧ (Value.slice (some ⟨ob, oo, none⟩) on oc).ownBlock ≠ some k)
    (c : Chg (fun _ => False) w w2) (ha : Arr w2 5 1 v3 (bvs (y.bytes ++ b))) (hv : ∀ k, v3.ownBlock = some k → w.heap.size ≤ k) :
    Ctx W (w2.setCell ⟨ob, oo + ys.length * 5 + 2, none⟩ v3) (fun k => X k ∨ w.heap.size ≤ k ∧ k < w2.heap.size) p L m (l ++ [{ y with bytes := y.bytes ++ b }]) (.slice (some ⟨ob, oo, none⟩) on oc) := by
  have hs := h.size
  have hob := h.its.own ob rfl
  have hne : ob ≠ W.heap.size := fun e => h.apart (by subst e; rfl)
  have cs : Chg (· = ob) w (w2.setCell ⟨ob, oo + ys.length * 5 + 2, none⟩ v3) := Chg.set (S := (· = ob)) (p := ⟨ob, oo + ys.length * 5 + 2, none⟩) (c.mono (fun _ _ h => h.elim)) (fun _ => rfl) v3
  have hsz : (w2.setCell ⟨ob, oo + ys.length * 5 + 2, none⟩ v3).heap.size = w2.heap.size := by simp [World.setCell]
  refine ⟨h.one.more (cs.mono (fun i _ e => by subst e; exact hob.1)) (fun k e => by rw [hsz]; exact e), ?_, fun k hk => .inl (h.old k hk), cs.obj h.box (fun e => hne e.symm), h.apart, h.chg.trans cs (fun i hi e => by subst e; exact hob.2)⟩
  rw [show oo + ys.length * 5 + 2 = oo + (ys.length * 5 + 2) from by omega]
  exact Its.merge h1 h2 h3 h.its.own h.one.ins c ha hv (fun k e => .inl e) (fun k e1 e2 => .inr ⟨e1, e2⟩)
theorem src_it (w : World) (it : It) (v : Value) (hv : v.oneCell' = true) (k : Nat) (hk : k = w.heap.size) : Src Try.prog 5 58 (.slice (some ⟨k, 0, none⟩) 1 1) 1 (itCs (it, v)) (w.alloc (.cells #[.int .i64 it.kind, .string ⟨it.text.toArray⟩, v, .int .i64 it.why, .bool it.high] 35)) := by
  refine Src.ofSlice _ Try.underlying58 _ 1 1 _ rfl (fun j u hu => ?_) ?_
  · rw [Addr.add_none, Nat.zero_add]
    refine cell_alloc_eq hk ?_
    simpa [itCs] using hu
  · intro u hu
    simp only [itCs, List.mem_cons, List.not_mem_nil, or_false] at hu
    rcases hu with rfl | rfl | rfl | rfl | rfl <;> first | rfl | exact hv
def tnCs (o : Tn) : List Value := [.int .i64 o.kind, .int .i64 o.n, .int .i64 o.room]
/-- A turn, as it lies. -/
theorem turn_cells {W : World} {ta : Option Addr} {tc : Nat} {ts : List Tn} (h : Rd W (.slice ta ts.length tc) 3 (ts.flatMap tnCs)) (t : Nat) (h0 : ts ≠ []) : ∃ (tb toff j : Nat), ta = some ⟨tb, toff, none⟩ ∧ j = t % ts.length ∧ j < ts.length ∧
    W.cell? ⟨tb, toff + j * 3, none⟩ = some (.int .i64 (turnAt ts t).kind) ∧ W.cell? ⟨tb, toff + j * 3 + 1, none⟩ = some (.int .i64 (turnAt ts t).n) ∧ W.cell? ⟨tb, toff + j * 3 + 2, none⟩ = some (.int .i64 (turnAt ts t).room) := by
  have hl : 0 < ts.length := List.length_pos_iff.2 h0
  have hj : t % ts.length < ts.length := Nat.mod_lt _ hl
  have hlen := rows_len 3 tnCs (fun _ => rfl) ts
  have hne : ts.flatMap tnCs ≠ [] := by intro e; rw [e] at hlen; simp at hlen; omega
  obtain ⟨tb, toff, rfl, hc⟩ := h.at hne
  have e0 : turnAt ts t = ts[t % ts.length] := by unfold turnAt; rw [List.getD_eq_getElem?_getD, List.getElem?_eq_getElem hj]; rfl
  have f : ∀ i (hi : i < 3), W.cell? ⟨tb, toff + (t % ts.length * 3 + i), none⟩ = some ((tnCs (turnAt ts t))[i]'hi) := fun i hi => by
    have hi' : t % ts.length * 3 + i < (ts.flatMap tnCs).length := by rw [hlen]; omega
    rw [hc _ hi']
    have := rows_at 3 tnCs (fun _ => rfl) ts (t % ts.length) i hj hi
    rw [List.getElem?_eq_getElem hi', List.getElem?_eq_getElem hi, ← e0] at this
    exact this
  refine ⟨tb, toff, t % ts.length, rfl, rfl, hj, f 0 (by omega), ?_, ?_⟩
  · have := f 1 (by omega); rwa [← Nat.add_assoc] at this
  · have := f 2 (by omega); rwa [← Nat.add_assoc] at this
theorem data_done {w : World} {X : Nat → Prop} {p : Nat} {L : Lim} (h : FOne w X p L FM.new) :
    Calls Try.prog 12 #[.pointer (some ⟨p, 0, none⟩)] w fun r w' => r = .returned (.int .i64 0) ∧ FOne w' X p L (FM.new.data?).2 ∧ Chg (fun k => ¬ X k) w w' := one_data h
theorem chunk_done {w : World} {X : Nat → Prop} {p : Nat} {L : Lim} (h : FOne w X p L FM.new) (a b : Int) (ha : a ≤ 9223372036854775807) (hb : b ≤ 9223372036854775807) :
    Calls Try.prog 27 #[.pointer (some ⟨p, 0, none⟩), .int .i64 (max0 a), .int .i64 (max0 b)] w fun r w' => r = .returned (.int .i64 0) ∧ FOne w' X p L (FM.new.chunk? (max0 a) (max0 b)).2 ∧ Chg (fun k => ¬ X k) w w' := by
  refine (one_chunk h (max0 a) (max0 b) (by unfold max0; omega) (by unfold max0; omega)).mono ?_
  rintro r w' ⟨rfl, h1, h2⟩
  exact ⟨by rw [chunk_ok], h1, h2⟩
end Go.Proofs.Ytnjloldhmjadoaa
