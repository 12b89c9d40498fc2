/- The framer with what it takes up; Mode, Held, Data, Chunk. No condition but what each states. -/
import Derived.Test.YtnjloldhmjadoaaFrW1
namespace Go.Proofs.Ytnjloldhmjadoaa
set_option linter.unusedVariables false
open Go Go.RowKit Ln Dt Fr

theorem line_heldL (w : World) (b : Nat) (v : Value) (m : Int) (s : LS) (h : LinerAt w b m v s) (hm1 : m ≤ 16777216) (hok : s.ok m) :
    Calls Try.prog 47 #[.pointer (some ⟨b, 0, none⟩)] w fun r w' => r = .returned (.int .i64 (heldL s)) ∧ w = w' := line_held w b v m s h hm1 hok
/-- Nothing of the world w0 has changed. -/
def Sam (w0 w : World) : Prop := Chg (fun _ => False) w0 w
theorem Sam.refl (w : World) : Sam w w := Chg.refl _ w
theorem Sam.drew {w0 w : World} (h : Sam w0 w) : Sam w0 w.drew := Chg.drew h
theorem Sam.alloc {w0 w : World} (h : Sam w0 w) (o : Obj) : Sam w0 (w.alloc o) := Chg.alloc h o
theorem Sam.more {w0 w w' : World} (h : Sam w0 w) (c : Chg (fun _ => False) w w') : Sam w0 w' := Chg.trans h c (fun _ _ h => h)
structure Lim.ok (L : Lim) : Prop where
  l1 : 1 ≤ L.line
  l2 : L.line ≤ 16777216
  t1 : 1 ≤ L.text
  t2 : L.text ≤ 16777216
  a1 : 1 ≤ L.all
  a2 : L.all ≤ 16777216
def ModeOK (w : World) (F : Nat → Prop) (b lb : Nat) (v : Value) (x : FB) (ls : LS) (L : Lim) : FM → Prop
  | .lines ls' bg => x.mode = 1 ∧ x.tk = fnV 46 x.lp ∧ x.hd = fnV 47 x.lp ∧ x.begun = bg ∧ ls' = ls ∧ (bg = false → ls = LS.new)
  | .data r => x.mode = 2 ∧ ls = LS.new ∧ ∃ rb, x.tk = fnV 33 (.pointer (some ⟨rb, 0, none⟩)) ∧ x.hd = fnV 34 (.pointer (some ⟨rb, 0, none⟩)) ∧ RdrAt w rb L.text L.all r.d r.waits ∧ F rb ∧ rb ≠ b ∧ rb ≠ lb ∧ v.ownBlock ≠ some rb
  | .chunk left room => x.mode = 3 ∧ ls = LS.new ∧ x.tk = fnV 44 (.pointer (some ⟨b, 0, none⟩)) ∧ x.hd = fnV 45 (.pointer (some ⟨b, 0, none⟩)) ∧ x.left = left ∧ x.room = room ∧ (left : Int) ≤ 9223372036854775807 ∧ (room : Int) ≤ 9223372036854775807
/-- The framer in block b, within F. -/
structure FR (w : World) (F : Nat → Prop) (b : Nat) (L : Lim) (m : FM) : Prop where
  ok : Lim.ok L
  is : ∃ (x : FB) (lb : Nat) (v : Value) (ls : LS), FBAt w b x ∧ x.l1 = L.text ∧ x.l2 = L.all ∧ x.lp = .pointer (some ⟨lb, 0, none⟩) ∧ LinerAt w lb L.line v ls ∧ ls.ok L.line ∧ F b ∧ F lb ∧ (∀ k, v.ownBlock = some k → F k) ∧ b ≠ lb ∧ v.ownBlock ≠ some b ∧ ModeOK w F b lb v x ls L m
theorem ModeOK.kept {S F : Nat → Prop} {w w' : World} {b lb : Nat} {v : Value} {x : FB} {ls : LS} {L : Lim} {m : FM} (h : ModeOK w F b lb v x ls L m) (c : Chg S w w') (d : Dis F S) : ModeOK w' F b lb v x ls L m := by
  cases m with
  | lines ls' bg => exact h
  | data r =>
    obtain ⟨h1, h2, rb, h3, h4, h5, h6, h7⟩ := h
    exact ⟨h1, h2, rb, h3, h4, h5.kept c (d _ h6), h6, h7⟩
  | chunk left room => exact h
theorem FR.kept {S F : Nat → Prop} {w w' : World} {b : Nat} {L : Lim} {m : FM} (h : FR w F b L m) (c : Chg S w w') (d : Dis F S) : FR w' F b L m := by
  obtain ⟨ok, x, lb, v, ls, h1, h2, h3, h4, h5, h6, h7, h8, h9, h10, h11, h12⟩ := h
  exact ⟨ok, x, lb, v, ls, h1.kept c (d _ h7), h2, h3, h4, h5.kept c (d _ h8) (fun k hk => d _ (h9 k hk)), h6, h7, h8, h9, h10, h11, h12.kept c d⟩

theorem fr_Mode {w : World} {F : Nat → Prop} {b : Nat} {L : Lim} {m : FM} (h : FR w F b L m) :
    Calls Try.prog 17 #[.pointer (some ⟨b, 0, none⟩)] w fun r w' => r = .returned (.int .i64 m.mode) ∧ w = w' := by
  obtain ⟨ok, x, lb, v, ls, h1, h2, h3, h4, h5, h6, h7, h8, h9, h10, h11, h12⟩ := h
  have e : x.mode = m.mode := by
    cases m with
    | lines _ _ => exact h12.1
    | data _ => exact h12.1
    | chunk _ _ => exact h12.1
  rw [← e]
  exact fr_mode w b x h1

theorem fr_Held {w : World} {F : Nat → Prop} {b : Nat} {L : Lim} {m : FM} (h : FR w F b L m) :
    Calls Try.prog 28 #[.pointer (some ⟨b, 0, none⟩)] w fun r w' => r = .returned (.int .i64 m.held) ∧ w = w' := by
  obtain ⟨ok, x, lb, v, ls, h1, h2, h3, h4, h5, h6, h7, h8, h9, h10, h11, h12⟩ := h
  obtain ⟨c1, c2, c6, c7, c8, c9, c10, c11, c12, f⟩ := h1.facts
  cases m with
  | lines ls' bg =>
    obtain ⟨m1, m2, m3, m4, rfl, m5⟩ := h12
    have t1 : (x.mode == 0) = false := by rw [m1]; rfl
    rw [m3, h4] at c8
    have H5 := Lib.hid h5
    have hl2 := ok.l2
    have H6 := Lib.hid h6
    clear h1 h2 h3 h4 h5 h6 h7 h8 h9 h10 h11 m1 m2 m3 m4 m5 c1 c2 c7 c9 c10 c11 c12 f
    unfold fnV at c8
    go_enter Try.func28, Try.ntmps28
    go_wp2_with (go_at_call 47; refine (line_heldL w lb v L.line ls' H5.out (by omega) H6.out).mono ?_; rintro e w' ⟨rfl, rfl⟩)
    go_ret
    exact ⟨rfl, rfl⟩
  | data r =>
    obtain ⟨m1, m2, rb, m3, m4, m5, m6⟩ := h12
    have t1 : (x.mode == 0) = false := by rw [m1]; rfl
    rw [m4] at c8
    have H5 := Lib.hid m5
    clear h1 h2 h3 h4 h5 h6 h7 h8 h9 h10 h11 m1 m2 m3 m4 m5 m6 c1 c2 c7 c9 c10 c11 c12 f
    unfold fnV at c8
    go_enter Try.func28, Try.ntmps28
    go_wp2_with (go_at_call 34; refine (dots_held w rb L.text L.all r.d r.waits H5.out).mono ?_; rintro e w' ⟨rfl, rfl⟩)
    go_ret
    exact ⟨rfl, rfl⟩
  | chunk left room =>
    obtain ⟨m1, m2, m3, m4, m5, m6⟩ := h12
    have t1 : (x.mode == 0) = false := by rw [m1]; rfl
    rw [m4] at c8
    clear h1 h2 h3 h4 h5 h6 h7 h8 h9 h10 h11 m1 m2 m3 m4 m5 m6 c1 c2 c7 c9 c10 c11 c12 f
    unfold fnV at c8
    go_enter Try.func28, Try.ntmps28
    go_wp2_with (go_at_call 45; refine (fr_none w _).mono ?_; rintro e w' ⟨rfl, rfl⟩)
    go_ret
    exact ⟨rfl, rfl⟩

theorem data_world {w : World} {b : Nat} {x : FB} (h : FBAt w b x) (rb : Nat) : FBAt (((w.setCell ⟨b, 6, none⟩ (.int .i64 2)).setCell ⟨b, 7, none⟩ (fnV 33 (.pointer (some ⟨rb, 0, none⟩)))).setCell ⟨b, 8, none⟩ (fnV 34 (.pointer (some ⟨rb, 0, none⟩)))) b
    { x with mode := 2, tk := fnV 33 (.pointer (some ⟨rb, 0, none⟩)), hd := fnV 34 (.pointer (some ⟨rb, 0, none⟩)) } := by
  have := heap_setCell_at (heap_setCell_at (heap_setCell_at h (.int .i64 2) (i := 6)) (fnV 33 (.pointer (some ⟨rb, 0, none⟩))) (i := 7)) (fnV 34 (.pointer (some ⟨rb, 0, none⟩))) (i := 8)
  unfold FBAt
  simpa [frC, fnV] using this

/-- What a call that may change the mode leaves. -/
def ModePost (w : World) (F : Nat → Prop) (b : Nat) (L : Lim) (q : Int × FM) (r : Ending) (w' : World) : Prop :=
  r = .returned (.int .i64 q.1) ∧ ∃ F', FR w' F' b L q.2 ∧ Ins w' F' ∧ Grow w F F' ∧ Chg F w w'
theorem fr_Data {w : World} {F : Nat → Prop} {b : Nat} {L : Lim} {m : FM} (h : FR w F b L m) (hi : Ins w F) :
    Calls Try.prog 12 #[.pointer (some ⟨b, 0, none⟩)] w (ModePost w F b L m.data?) := by
  have hcopy := h
  obtain ⟨ok, x, lb, v, ls, h1, h2, h3, h4, h5, h6, h7, h8, h9, h10, h11, h12⟩ := h
  have hmf := @run_mkfunc Try.prog
  obtain ⟨c1, c2, c6, c7, c8, c9, c10, c11, c12, f⟩ := h1.facts
  by_cases hm : ∃ ls', m = .lines ls' false
  · obtain ⟨ls', rfl⟩ := hm
    obtain ⟨m1, m2, m3, m4, rfl, m5⟩ := h12
    have t1 : (x.mode == 0) = false := by rw [m1]; rfl
    have hmay := fr_may w b x h1
    rw [if_pos ⟨m1, m4⟩] at hmay
    have HMAY := Lib.hid hmay
    rw [h2] at c1
    rw [h3] at c2
    have H1 := Lib.hid h1
    have H5 := Lib.hid h5
    have H6 := Lib.hid h6
    have HO := Lib.hid ok
    have HI := Lib.hid hi
    have hnew := m5 rfl
    have H9 := Lib.hid h9
    have H11 := Lib.hid h11
    have HN := Lib.hid hnew
    have hb := hi b h7
    have hlb := hi lb h8
    have H23 := Lib.hid (And.intro h2 (And.intro h3 h4))
    clear hcopy h1 h2 h3 h4 h5 h6 h9 h11 m1 m2 m3 m4 m5 hmay ok hi c9 c10 c11 c12 hnew
    go_enter Try.func12, Try.ntmps12
    go_wp2_with (go_at_call 31; refine HMAY.out.mono ?_; rintro e w' ⟨rfl, rfl⟩)
    have s0 := Sam.refl w
    have k1 : ∀ w', Sam w w' → w'.cell? ⟨b, 1, none⟩ = some (.int .i64 L.text) := fun w' h => Chg.cell h c1 (fun h => h)
    have k2 : ∀ w', Sam w w' → w'.cell? ⟨b, 2, none⟩ = some (.int .i64 L.all) := fun w' h => Chg.cell h c2 (fun h => h)
    go_region_held3 (fun w' => Sam w w') (first | assumption | exact Sam.drew (by assumption)) (first
      | (go_at_call 32; refine (dots_new L.text L.all _ HO.out.t1 HO.out.t2 HO.out.a1 HO.out.a2).mono ?_; rintro e w5 ⟨rfl, r5, c5⟩; have s5 := Sam.more (w0 := w) (by assumption) c5))
    have b5 := Chg.obj s5 H1.out (fun h => h)
    have q6 := Chg.cell s5 c6 (fun h => h)
    have q7 := Chg.cell s5 c7 (fun h => h)
    have q8 := Chg.cell s5 c8 (fun h => h)
    have f5 := fun i => free_of_blk b5 i
    have hlr : w.heap.size < w5.heap.size := lt_of_block r5.blk
    have R5 := Lib.hid r5
    have S5 := Lib.hid s5
    have B5 := Lib.hid b5
    clear r5 c5 s5 b5 k1 k2 s0 c1 c2 c6 c7 c8 f
    go_wp2
    go_ret
    obtain ⟨e2, e3, e4⟩ := H23.out
    have hch := (((Chg.refl (· = b) w5).set (p := ⟨b, 6, none⟩) (fun _ => rfl) (.int .i64 2)).set (p := ⟨b, 7, none⟩) (fun _ => rfl) (fnV 33 (.pointer (some ⟨w.heap.size, 0, none⟩)))).set (p := ⟨b, 8, none⟩) (fun _ => rfl) (fnV 34 (.pointer (some ⟨w.heap.size, 0, none⟩)))
    refine ⟨rfl, fun k => F k ∨ k = w.heap.size, ⟨HO.out, _, lb, v, LS.new, data_world B5.out w.heap.size, e2, e3, e4, ?_, LS.ok_new (by have := HO.out.l1; omega), .inl h7, .inl h8, fun k hk => .inl (H9.out k hk), h10, H11.out, ?_⟩, ?_, fun k hk => hk.imp id (fun e => by omega), ?_⟩
    · have := (H5.out.kept S5.out (fun h => h) (fun _ _ h => h)).kept hch (fun e => h10 e.symm) (fun k hk e => H11.out (by rw [hk]; exact congrArg some e))
      rw [HN.out] at this; exact this
    · exact ⟨rfl, rfl, w.heap.size, rfl, rfl, R5.out.kept hch (fun e => by have e' : w.heap.size = b := e; omega), .inr rfl, by omega, by omega, fun e => by have := HI.out _ (H9.out _ e); omega⟩
    · intro k hk
      refine Nat.lt_of_lt_of_le (m := w5.heap.size) ?_ hch.size
      rcases hk with e | e
      · have := HI.out k e; omega
      · omega
    · exact (Chg.mono (T := F) S5.out (fun _ _ h => h.elim)).trans hch (fun i hi e => by have e' : i = b := e; rw [e']; exact h7)
  · have hd : m.data? = (6, m) := by
      cases m with
      | lines ls' bg =>
        cases bg
        · exact absurd ⟨ls', rfl⟩ hm
        · rfl
      | data _ => rfl
      | chunk _ _ => rfl
    have hmay := fr_may w b x h1
    have hne : ¬ (x.mode = 1 ∧ x.begun = false) := by
      rintro ⟨e1, e2⟩
      cases m with
      | lines ls' bg => exact hm ⟨ls', by rw [← h12.2.2.2.1, e2]⟩
      | data _ => rw [h12.1] at e1; cases e1
      | chunk _ _ => rw [h12.1] at e1; cases e1
    have t1 : (x.mode == 0) = false := by
      cases m with
      | lines ls' bg => rw [h12.1]; rfl
      | data _ => rw [h12.1]; rfl
      | chunk _ _ => rw [h12.1]; rfl
    rw [if_neg hne] at hmay
    have HMAY := Lib.hid hmay
    have HD := Lib.hid hd
    have HF := Lib.hid hcopy
    have HI := Lib.hid hi
    clear hcopy h1 h2 h3 h4 h5 h6 h9 h11 h12 hmay hi hd hne hm c1 c2 c7 c8 c9 c10 c11 c12
    go_enter Try.func12, Try.ntmps12
    go_wp2_with (go_at_call 31; refine HMAY.out.mono ?_; rintro e w' ⟨rfl, rfl⟩)
    go_ret
    exact ⟨by rw [HD.out]; rfl, F, by rw [HD.out]; exact HF.out, HI.out, Grow.refl _ _, Chg.refl _ _⟩
end Go.Proofs.Ytnjloldhmjadoaa
