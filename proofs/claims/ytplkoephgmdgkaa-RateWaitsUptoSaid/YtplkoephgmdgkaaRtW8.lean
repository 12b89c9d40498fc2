/- Ask whole, Note, New of a rate table, walked. No condition but what each states. -/
import Derived.Test.YtplkoephgmdgkaaRtW7
namespace Go.Proofs.Ytplkoephgmdgkaa
open Go Go.RowKit Rt Go.Maps
set_option linter.unusedVariables false
attribute [local go_sem] run_fadd run_fsub run_fmul run_fquo store_f64

theorem rt_Ask (w : World) (tb m : Nat) (t : Tb) (bk : ByteArray → Option Nat) (F : Nat → Prop) (h : TAx tb m t bk F w) (k : ByteArray) (hk : k.size ≤ maxLen) (now : Int) (c : Nat) (hc : c < 2 ^ 64) :
    Calls Try.prog 16 #[.pointer (some ⟨tb, 0, none⟩), .string k, .int .i64 now, .float .f64 c] w (AskSays tb m F w (t.ask k now c)) := by
  by_cases hy : timely now = true ∧ payable c (t.level k now) = true
  · obtain ⟨n, rfl, hn⟩ := timely_yes hy.1
    exact ask_in w tb m t bk F h k hk n hn c hc hy.2
  · exact ask_out w tb m t bk F h k hk now c hc hy
/-- What Note leaves. -/
def NoteSays (tb m : Nat) (F : Nat → Prop) (w : World) (q : Int × Tb) (r : Ending) (w' : World) : Prop := ∃ bk' F', r = .returned (.int .i64 q.1) ∧ TAx tb m q.2 bk' F' w' ∧ Chg F w w' ∧ ∀ i, F' i → F i ∨ w.heap.size ≤ i
theorem NoteSays.no {tb m : Nat} {t : Tb} {bk : ByteArray → Option Nat} {F : Nat → Prop} {w w' : World} (h : TAx tb m t bk F w) (c : Chg (fun _ => False) w w') (x : Int) : NoteSays tb m F w (x, t) (.returned (.int .i64 x)) w' :=
  ⟨bk, F, rfl, h.same c, c.mono (fun _ _ h => h.elim), fun i hi => .inl hi⟩
set_option maxHeartbeats 2000000 in
set_option maxRecDepth 100000 in
theorem rt_Note (w : World) (tb m : Nat) (t : Tb) (bk : ByteArray → Option Nat) (F : Nat → Prop) (h : TAx tb m t bk F w) (k : ByteArray) (hk : k.size ≤ maxLen) (now : Int) (x : Nat) (hx : x < 2 ^ 64) :
    Calls Try.prog 18 #[.pointer (some ⟨tb, 0, none⟩), .string k, .int .i64 now, .float .f64 x] w (NoteSays tb m F w (t.note k now x)) := by
  have TH := Lib.hid (rt_there w tb _ _ _ _ (some m) h.tab)
  have VA := Lib.hid (rt_valid now w)
  have WI := Lib.hid (rt_within x 13920626448202203136 4697254411347427328 w)
  have hwi : withinB x (MOST + 2 ^ 63) MOST = withinB x 13920626448202203136 4697254411347427328 := rfl
  have NO := Lib.hid (fun w' (hc : Chg (fun _ => False) w w') (y : Int) => NoteSays.no h hc y)
  cases ht : timely now
  · have hq : t.note k now x = (5, t) := by unfold Tb.note; rw [if_pos ht]
    rw [hq]
    rw [ht] at VA
    clear hq h hx hwi WI
    go_enter Try.func18, Try.ntmps18
    go_wp2_with (first | (go_at_call 47; refine TH.out.mono ?_; rintro e w' ⟨rfl, h9⟩; have h9 := h9.symm; subst h9) | (go_at_call 48; refine VA.out.mono ?_; rintro e w' ⟨rfl, h9⟩; have h9 := h9.symm; subst h9))
    go_ret
    exact NO.out _ (Chg.refl _ _) 5
  · rw [ht] at VA
    cases hw : withinB x 13920626448202203136 4697254411347427328
    · have hq : t.note k now x = (2, t) := by unfold Tb.note; rw [if_neg (by simp [ht]), if_pos (by rw [hwi, hw])]
      rw [hq]
      rw [hw] at WI
      clear hq h hx hwi
      go_enter Try.func18, Try.ntmps18
      go_wp2_with (first | (go_at_call 47; refine TH.out.mono ?_; rintro e w' ⟨rfl, h9⟩; have h9 := h9.symm; subst h9) | (go_at_call 48; refine VA.out.mono ?_; rintro e w' ⟨rfl, h9⟩; have h9 := h9.symm; subst h9) | (go_at_call 51; refine WI.out.mono ?_; rintro e w' ⟨rfl, h9⟩; have h9 := h9.symm; subst h9))
      go_ret
      exact NO.out _ (Chg.refl _ _) 2
    · rw [hw] at WI
      obtain ⟨n, rfl, hn⟩ := timely_yes ht
      have LAY := Lib.hid (rt_lay w tb m t bk F h k hk n hn)
      have hq : t.note k n x = (match t.laid k n with | none => (4, t) | some u => (0, u.upd k (jot u n x))) := by
        unfold Tb.note; rw [if_neg (by simp [ht]), if_neg (by rw [hwi, hw]; simp)]; rfl
      clear hwi ht
      cases hld : t.laid k n with
      | none =>
        rw [hld] at hq LAY
        simp only at hq
        rw [hq]
        clear hq hld h hx
        go_enter Try.func18, Try.ntmps18
        go_wp2_with (first | (go_at_call 47; refine TH.out.mono ?_; rintro e w' ⟨rfl, h9⟩; have h9 := h9.symm; subst h9) | (go_at_call 48; refine VA.out.mono ?_; rintro e w' ⟨rfl, h9⟩; have h9 := h9.symm; subst h9) | (go_at_call 51; refine WI.out.mono ?_; rintro e w' ⟨rfl, h9⟩; have h9 := h9.symm; subst h9) | (go_at_call 49; refine LAY.out.mono ?_; rintro e w2 ⟨rfl, c'⟩; have C2 := Lib.hid c'; clear c'))
        go_ret
        exact NO.out _ C2.out 4
      | some u =>
        rw [hld] at hq LAY
        simp only at hq
        rw [hq]
        have H := Lib.hid h
        have HXX := Lib.hid hx
        clear hq hld h hx
        go_enter Try.func18, Try.ntmps18
        go_wp2_with (first | (go_at_call 47; refine TH.out.mono ?_; rintro e w' ⟨rfl, h9⟩; have h9 := h9.symm; subst h9) | (go_at_call 48; refine VA.out.mono ?_; rintro e w' ⟨rfl, h9⟩; have h9 := h9.symm; subst h9) | (go_at_call 51; refine WI.out.mono ?_; rintro e w' ⟨rfl, h9⟩; have h9 := h9.symm; subst h9))
        refine LAY.out.mono ?_
        rintro e w2 ⟨b, bk', F', rfl, h2, hb, c2, hF⟩
        obtain ⟨e, he, hke⟩ := h2.key k b hb
        obtain ⟨b', s, hb', hcell, hfs⟩ := h2.ent e he
        obtain rfl : b' = b := by rw [hke, hb] at hb'; injection hb' with h; exact h.symm
        have ST := Lib.hid (rt_standing w2 u h2.ok e (h2.ok.ents e he) s tb b' m h2.tab hcell hfs n hn)
        have H2 := Lib.hid h2
        have HC := Lib.hid hcell
        have HX := Lib.hid (And.intro he (And.intro hke hb))
        have HF := Lib.hid hF
        have C2 := Lib.hid c2
        have hes := (h2.ok.ents e he).noted
        clear h2 hb' hcell hfs he hke hb hF c2
        go_wp2_with fail
        refine ST.out.mono ?_
        rintro e5 w3 ⟨y, rfl, hy, c3⟩
        have hc3 := Chg.obj c3 HC.out (fun h => h)
        have C3 := Lib.hid c3
        obtain ⟨q0, q1, q2, q3, qf⟩ := cells4 hc3
        have q3 : w3.cell? ⟨b', 3, none⟩ = some (.int .i64 (e.noted : Int)) := q3
        have hl3 := lt_of_block hc3
        have HC3 := Lib.hid hc3
        have HZ := Lib.hid (fres_fs w3 .add hy (FS.some HXX.out))
        have emax : ∀ (z : World) (ts : Array TypeId) (ty : TypeId), (Builtin.max_ ts ty #[.int .i64 (e.noted : Int), .int .i64 (n : Int)]).run Try.prog z = .ok (.int .i64 ((max e.noted n : Nat) : Int)) z := fun z ts ty => by
          simp [Builtin.max_, Builtin.max2]; omega
        clear c3 hc3 hy
        have fin : ∀ z d, z = fres w3 .add y x → NoteSays tb m F w (0, u.upd k (jot u n x)) (.returned (.int .i64 0)) (((w3.drewN d).setCell ⟨b', 1, none⟩ (.float .f64 z)).setCell ⟨b', 3, none⟩ (.int .i64 ((max e.noted n : Nat) : Int))) := by
          intro z d hz
          have hcb : (((w3.drewN d).setCell ⟨b', 1, none⟩ (.float .f64 z)).setCell ⟨b', 3, none⟩ (.int .i64 ((max e.noted n : Nat) : Int))).heap[b']? = some (.cells (entC (jot u n x e) z) 98 (0, 0)) := by
            have h1 := heap_setCell_at (w := w3.drewN d) (b := b') (i := 1) HC3.out (.float .f64 z)
            have h2 := heap_setCell_at h1 (i := 3) (.int .i64 ((max e.noted n : Nat) : Int))
            rw [h2]
            rfl
          have hcc : Chg (· = b') w3 (((w3.drewN d).setCell ⟨b', 1, none⟩ (.float .f64 z)).setCell ⟨b', 3, none⟩ (.int .i64 ((max e.noted n : Nat) : Int))) := (((Chg.refl (· = b') w3).drewN d).set (fun _ => rfl) _).set (fun _ => rfl) _
          have h3 := H2.out.same C3.out
          have h4 := h3.upd HX.out.1 HX.out.2.1 (f := jot u n x) (fun _ => rfl) (fun x hx => jot_ok hx hn) HX.out.2.2 hcb (s := z) (by rw [hz]; exact HZ.out) hcc
          have hfb : F' b' := H2.out.fb _ _ HX.out.2.2
          refine ⟨bk', F', rfl, h4, (C2.out.trans (C3.out.mono (fun _ _ h => h.elim)) (fun _ _ h => h)).trans hcc (fun i hi e => ?_), fun i hi => ?_⟩
          · subst e
            rcases HF.out _ hfb with h | h
            · exact h
            · omega
          · rcases HF.out i hi with h | h
            · exact .inl h
            · exact .inr (by omega)
        have FIN := Lib.hid fin
        clear fin
        go_wp2
        go_ret
        exact FIN.out _ _ rfl
end Go.Proofs.Ytplkoephgmdgkaa
