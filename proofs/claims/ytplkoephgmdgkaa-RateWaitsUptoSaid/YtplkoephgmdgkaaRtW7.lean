/- lay, Ask and Note of a rate table, walked. No condition but what each states. -/
import Derived.Test.YtplkoephgmdgkaaRtW6
import Derived.Test.YtplkoephgmdgkaaRtAsk
namespace Go.Proofs.Ytplkoephgmdgkaa
open Go Go.RowKit Rt Go.Maps
set_option linter.unusedVariables false
attribute [local go_sem] run_fadd run_fsub run_fmul run_fquo store_f64

theorem rt_lay (w : World) (tb m : Nat) (t : Tb) (bk : ByteArray → Option Nat) (F : Nat → Prop) (h : TAx tb m t bk F w) (k : ByteArray) (hk : k.size ≤ maxLen) (now : Nat) (hn : now ≤ MAXT) :
    Calls Try.prog 49 #[.pointer (some ⟨tb, 0, none⟩), .string k, .int .i64 now] w (LaySays tb m t k F w (t.laid k now)) := by
  cases hg : t.get k with
  | some e => exact lay_old w tb m t bk F h k hk now e hg
  | none =>
    by_cases hl : t.L.length < 1024
    · exact lay_new w tb m t bk F h k hk now hn hg hl
    · exact lay_full w tb m t bk F h k hk now hn hg hl
/-- An entry is written anew. -/
theorem TAx.upd {tb m : Nat} {t : Tb} {bk : ByteArray → Option Nat} {F : Nat → Prop} {w w' : World} (h : TAx tb m t bk F w) {k : ByteArray} {e : Ent} (he : e ∈ t.L) (hk : e.key = k) {f : Ent → Ent} (hfk : ∀ e, (f e).key = e.key) (hfo : ∀ e, e.ok t → (f e).ok t) {b s : Nat} (hb : bk k = some b)
    (hc : w'.heap[b]? = some (.cells (entC (f e) s) 98 (0, 0))) (hs : FS (f e).std s) (c : Chg (· = b) w w') : TAx tb m (t.upd k f) bk F w' := by
  have hte : ∀ {x y : Array Value} {a d : TypeId} {p q : Nat × Nat} {b1 b2 : Nat}, w.heap[b1]? = some (.cells x a p) → w.heap[b2]? = some (.cells y d q) → a ≠ d → b1 ≠ b2 := by
    intro x y a d p q b1 b2 h1 h2 hne e
    subst e
    rw [h1] at h2
    injection h2 with h2
    injection h2 with _ h2
    exact hne h2
  obtain ⟨b', s', h1, h2, _⟩ := h.ent e he
  have hbb : b' = b := by rw [hk, hb] at h1; injection h1 with h1; exact h1.symm
  subst hbb
  have hbm : ¬ m = b' := by
    intro e
    obtain ⟨D, ⟨es, clock, hb', _⟩, _⟩ := h.map
    rw [e, h2] at hb'
    cases hb'
  refine ⟨upd_ok h.ok hfo hfk, c.obj h.tab (fun e => hte h.tab h2 (by decide) e), by show KM w' m bk (t.L.map _).length; rw [List.length_map]; exact h.map.kept c hbm, fun x hx => ?_, fun x b hxb => ?_, h.inj, h.ftb, h.fm, h.fb, fun i hi => Nat.lt_of_lt_of_le (h.flt i hi) c.size⟩
  · obtain ⟨y, hy, rfl⟩ := List.mem_map.1 hx
    by_cases hyk : y.key = k
    · obtain rfl := key_one h.ok hy he (by rw [hyk, hk])
      rw [if_pos hyk]
      exact ⟨b', s, by rw [hfk, hyk]; exact hb, hc, hs⟩
    · rw [if_neg hyk]
      obtain ⟨b2, s2, g1, g2, g3⟩ := h.ent y hy
      refine ⟨b2, s2, g1, c.obj g2 (fun e => ?_), g3⟩
      subst e
      exact hyk (h.inj _ _ _ g1 hb)
  · obtain ⟨y, hy, hyx⟩ := h.key x b hxb
    refine ⟨_, List.mem_map.2 ⟨y, hy, rfl⟩, ?_⟩
    split
    · rw [hfk]; exact hyx
    · exact hyx
/-- What Ask leaves. -/
def AskSays (tb m : Nat) (F : Nat → Prop) (w : World) (q : Bool × Tb) (r : Ending) (w' : World) : Prop := ∃ bk' F', r = .returned (.bool q.1) ∧ TAx tb m q.2 bk' F' w' ∧ Chg F w w' ∧ ∀ i, F' i → F i ∨ w.heap.size ≤ i
theorem AskSays.no {tb m : Nat} {t : Tb} {bk : ByteArray → Option Nat} {F : Nat → Prop} {w w' : World} (h : TAx tb m t bk F w) (c : Chg (fun _ => False) w w') : AskSays tb m F w (false, t) (.returned (.bool false)) w' :=
  ⟨bk, F, rfl, h.same c, c.mono (fun _ _ h => h.elim), fun i hi => .inl hi⟩
set_option maxHeartbeats 2000000 in
set_option maxRecDepth 100000 in
theorem ask_out (w : World) (tb m : Nat) (t : Tb) (bk : ByteArray → Option Nat) (F : Nat → Prop) (h : TAx tb m t bk F w) (k : ByteArray) (hk : k.size ≤ maxLen) (now : Int) (c : Nat) (hc : c < 2 ^ 64) (hno : ¬ (timely now = true ∧ payable c (t.level k now) = true)) :
    Calls Try.prog 16 #[.pointer (some ⟨tb, 0, none⟩), .string k, .int .i64 now, .float .f64 c] w (AskSays tb m F w (t.ask k now c)) := by
  have TH := Lib.hid (rt_there w tb _ _ _ _ (some m) h.tab)
  have VA := Lib.hid (rt_valid now w)
  have LV := Lib.hid (rt_Level w tb m t bk F h k hk now)
  have hq : t.ask k now c = (false, t) := by unfold Tb.ask; rw [if_neg hno]
  rw [hq]
  have NO := Lib.hid (fun w' (hc : Chg (fun _ => False) w w') => AskSays.no h hc)
  have hlv : t.level k now < INF := Nat.lt_of_le_of_lt (Nat.le_trans (level_le k now) h.ok.burst) most_inf
  cases ht : timely now
  · rw [ht] at VA
    clear hq h hno hlv hc
    go_enter Try.func16, Try.ntmps16
    go_wp2_with (first | (go_at_call 47; refine TH.out.mono ?_; rintro e w' ⟨rfl, rfl⟩) | (go_at_call 48; refine VA.out.mono ?_; rintro e w' ⟨rfl, rfl⟩))
    go_ret
    exact NO.out _ (Chg.refl _ _)
  · rw [ht] at VA
    have hge := ge0_iff hc
    by_cases hg : isN c = false ∧ 0 ≤ key c
    · have h0 : (FloatKind.f64.format.order c 0 = some .gt ∨ FloatKind.f64.format.order c 0 = some .eq) := hge.2 hg
      have hgt : (FloatKind.f64.format.order c (t.level k now) == some .gt) = true := by
        have h1 : (FloatKind.f64.format.order c (t.level k now) == some .gt) = decide ((t.level k now : Int) < key c) := gt_lv hc hg.1 hlv
        rw [h1, decide_eq_true]
        refine Decidable.byContradiction fun h2 => hno ⟨ht, pay_iff.2 ⟨hg.1, hg.2, h2⟩⟩
      generalize t.level k now = lv at *
      clear hq h hno hlv hc hge hg
      go_enter Try.func16, Try.ntmps16
      go_wp2_with (first | (go_at_call 47; refine TH.out.mono ?_; rintro e w' ⟨rfl, rfl⟩) | (go_at_call 48; refine VA.out.mono ?_; rintro e w' ⟨rfl, rfl⟩) | (go_at_call 19; refine LV.out.mono ?_; rintro e w' ⟨rfl, c'⟩; have C' := Lib.hid c'; clear c'))
      go_ret
      exact NO.out _ C'.out
    · have h0 : ¬ (FloatKind.f64.format.order c 0 = some .gt ∨ FloatKind.f64.format.order c 0 = some .eq) := fun h1 => hg (hge.1 h1)
      have h1 : (FloatKind.f64.format.order c 0 == some .gt) = false := by simpa using (not_or.1 h0).1
      have h2 : (FloatKind.f64.format.order c 0 == some .eq) = false := by simpa using (not_or.1 h0).2
      clear hq h hno hlv hc hge hg
      go_enter Try.func16, Try.ntmps16
      go_wp2_with (first | (go_at_call 47; refine TH.out.mono ?_; rintro e w' ⟨rfl, rfl⟩) | (go_at_call 48; refine VA.out.mono ?_; rintro e w' ⟨rfl, rfl⟩))
      go_ret
      exact NO.out _ (Chg.refl _ _)
set_option maxHeartbeats 2000000 in
set_option maxRecDepth 100000 in
theorem ask_in (w : World) (tb m : Nat) (t : Tb) (bk : ByteArray → Option Nat) (F : Nat → Prop) (h : TAx tb m t bk F w) (k : ByteArray) (hk : k.size ≤ maxLen) (n : Nat) (hn : n ≤ MAXT) (c : Nat) (hc : c < 2 ^ 64) (hp : payable c (t.level k n) = true) :
    Calls Try.prog 16 #[.pointer (some ⟨tb, 0, none⟩), .string k, .int .i64 n, .float .f64 c] w (AskSays tb m F w (t.ask k n c)) := by
  have hM : MAXT = 253402300799 := rfl
  have htm : timely (n : Int) = true := by unfold timely; simp; omega
  have TH := Lib.hid (rt_there w tb _ _ _ _ (some m) h.tab)
  have VA := Lib.hid (rt_valid n w)
  rw [htm] at VA
  have LV := Lib.hid (rt_Level w tb m t bk F h k hk n)
  have hlv : t.level k n < INF := Nat.lt_of_le_of_lt (Nat.le_trans (level_le k n) h.ok.burst) most_inf
  have hpi := pay_iff.1 hp
  have h0 : (FloatKind.f64.format.order c 0 = some .gt ∨ FloatKind.f64.format.order c 0 = some .eq) := (ge0_iff hc).2 ⟨hpi.1, hpi.2.1⟩
  have hgt : (FloatKind.f64.format.order c (t.level k n) == some .gt) = false := by
    have h1 : (FloatKind.f64.format.order c (t.level k n) == some .gt) = decide ((t.level k n : Int) < key c) := gt_lv hc hpi.1 hlv
    rw [h1, decide_eq_false hpi.2.2]
  have hq : t.ask k n c = (match t.laid k n with | none => (false, t) | some u => (true, u.upd k (take u n c))) := by
    unfold Tb.ask; rw [if_pos ⟨htm, hp⟩]; rfl
  have hsub := pay_sub hc hp hlv
  have HLL := Lib.hid (fun (u : Tb) (hl : t.laid k n = some u) (e : Ent) (he : e ∈ u.L) (hke : e.key = k) => laid_level h.ok hn hl he hke)
  have LAY := Lib.hid (fun w' (hc : Chg (fun _ => False) w w') => rt_lay w' tb m t bk F (h.same hc) k hk n hn)
  have H := Lib.hid h
  have hb1 : (FloatKind.f64.format.order c 0 == some .gt || FloatKind.f64.format.order c 0 == some .eq) = true := by
    rcases h0 with h | h <;> rw [h] <;> rfl
  have hb2 : (!FloatKind.f64.format.order c 0 == some .gt && !FloatKind.f64.format.order c 0 == some .eq) = false := by
    rcases h0 with h | h <;> rw [h] <;> rfl
  generalize t.level k n = lv at *
  have HLT := Lib.hid hlv
  have HSUB := Lib.hid hsub
  clear h hp hpi hlv hsub htm
  cases hld : t.laid k n with
  | none =>
    rw [hld] at hq LAY
    simp only at hq
    rw [hq]
    have FIN := Lib.hid (fun w' (hc : Chg (fun _ => False) w w') => AskSays.no H.out hc)
    clear hq hld
    go_enter Try.func16, Try.ntmps16
    go_wp2_with (first | (go_at_call 47; refine TH.out.mono ?_; rintro e w' ⟨rfl, rfl⟩) | (go_at_call 48; refine VA.out.mono ?_; rintro e w' ⟨rfl, rfl⟩) | (go_at_call 19; refine LV.out.mono ?_; rintro e w1 ⟨rfl, c'⟩; have C1 := Lib.hid c'; clear c') | (go_at_call 49; refine (LAY.out _ C1.out).mono ?_; rintro e w2 ⟨rfl, c'⟩; have C2 := Lib.hid c'; clear c'))
    go_ret
    exact FIN.out _ (C1.out.trans C2.out (fun _ _ h => h))
  | some u =>
    rw [hld] at hq LAY
    simp only at hq
    rw [hq]
    have HLD := Lib.hid hld
    clear hq hld
    go_enter Try.func16, Try.ntmps16
    go_wp2_with (first | (go_at_call 47; refine TH.out.mono ?_; rintro e w' ⟨rfl, h9⟩; have h9 := h9.symm; subst h9) | (go_at_call 48; refine VA.out.mono ?_; rintro e w' ⟨rfl, h9⟩; have h9 := h9.symm; subst h9) | (go_at_call 19; refine LV.out.mono ?_; rintro e w1 ⟨rfl, c'⟩; have C1 := Lib.hid c'; clear c'))
    refine (LAY.out _ C1.out).mono ?_
    rintro e w2 ⟨b, bk', F', rfl, h2, hb, c2, hF⟩
    obtain ⟨e, he, hke⟩ := h2.key k b hb
    obtain ⟨b', s, hb', hcell, hfs⟩ := h2.ent e he
    obtain rfl : b' = b := by rw [hke, hb] at hb'; injection hb' with h; exact h.symm
    have hll := HLL.out u HLD.out e he hke
    have LE := Lib.hid (rt_level w2 u h2.ok e (h2.ok.ents e he) s tb b' m h2.tab hcell n hn)
    have heq : lvl u e n = lv := hll.1
    rw [heq] at LE
    have H2 := Lib.hid h2
    have HC := Lib.hid hcell
    have HX := Lib.hid (And.intro he (And.intro hke (And.intro hb hfs)))
    have HF := Lib.hid hF
    have C2 := Lib.hid c2
    have HEQ := Lib.hid heq
    have hes := (h2.ok.ents e he).since
    have e1 : ∀ z, fres z .sub lv c = subw lv c := fres_some HSUB.out
    have e2 : fdr .sub lv c = 0 := fdr_some HSUB.out
    clear h2 hb' hcell hfs hll heq he hke hb hF c2
    go_wp2_with fail
    refine LE.out.mono ?_
    rintro e5 w3 ⟨rfl, c3⟩
    have hc3 := Chg.obj c3 HC.out (fun h => h)
    have C3 := Lib.hid c3
    obtain ⟨q0, q1, q2, q3, qf⟩ := cells4 hc3
    have q2 : w3.cell? ⟨b', 2, none⟩ = some (.int .i64 (e.since : Int)) := q2
    have hl3 := lt_of_block hc3
    have HC3 := Lib.hid hc3
    have emax : ∀ (z : World) (ts : Array TypeId) (ty : TypeId), (Builtin.max_ ts ty #[.int .i64 (e.since : Int), .int .i64 (n : Int)]).run Try.prog z = .ok (.int .i64 ((max e.since n : Nat) : Int)) z := fun z ts ty => by
      simp [Builtin.max_, Builtin.max2]; omega
    clear c3 hc3
    have fin : AskSays tb m F w (true, u.upd k (take u n c)) (.returned (.bool true)) (((w3.drewN 0).setCell ⟨b', 0, none⟩ (.float .f64 (subw lv c))).setCell ⟨b', 2, none⟩ (.int .i64 ((max e.since n : Nat) : Int))) := by
      have hcb : (((w3.drewN 0).setCell ⟨b', 0, none⟩ (.float .f64 (subw lv c))).setCell ⟨b', 2, none⟩ (.int .i64 ((max e.since n : Nat) : Int))).heap[b']? = some (.cells (entC (take u n c e) s) 98 (0, 0)) := by
        have h1 := heap_setCell_at (w := w3.drewN 0) (b := b') (i := 0) HC3.out (.float .f64 (subw lv c))
        have h2 := heap_setCell_at h1 (i := 2) (.int .i64 ((max e.since n : Nat) : Int))
        rw [h2]
        have e3 : (take u n c e).lev = subw lv c := by show subw (lvl u e n) c = _; rw [HEQ.out]
        unfold entC
        rw [e3]
        rfl
      have hcc : Chg (· = b') w3 (((w3.drewN 0).setCell ⟨b', 0, none⟩ (.float .f64 (subw lv c))).setCell ⟨b', 2, none⟩ (.int .i64 ((max e.since n : Nat) : Int))) := (((Chg.refl (· = b') w3).drewN 0).set (fun _ => rfl) _).set (fun _ => rfl) _
      have h3 := H2.out.same C3.out
      have h4 := h3.upd HX.out.1 HX.out.2.1 (f := take u n c) (fun _ => rfl) (fun x hx => take_ok H2.out.ok hx hn) HX.out.2.2.1 hcb (s := s) HX.out.2.2.2 hcc
      have hfb : F' b' := H2.out.fb _ _ HX.out.2.2.1
      have c13 : Chg F w w3 := ((C1.out.mono (fun _ _ h => h.elim)).trans C2.out (fun _ _ h => h)).trans (C3.out.mono (fun _ _ h => h.elim)) (fun _ _ h => h)
      refine ⟨bk', F', rfl, h4, c13.trans hcc (fun i hi e => ?_), fun i hi => ?_⟩
      · subst e
        rcases HF.out _ hfb with h | h
        · exact h
        · have := C1.out.size; omega
      · rcases HF.out i hi with h | h
        · exact .inl h
        · have := C1.out.size; exact .inr (by omega)
    have FIN := Lib.hid fin
    clear fin
    go_wp2
    go_ret
    exact FIN.out
end Go.Proofs.Ytplkoephgmdgkaa
