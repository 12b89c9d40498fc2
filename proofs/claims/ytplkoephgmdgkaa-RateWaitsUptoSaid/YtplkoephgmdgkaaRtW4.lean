/- A rate table in memory; Level and Standing walked. No condition but what each states. -/
import Derived.Test.YtplkoephgmdgkaaRtMap
namespace Go.Proofs.Ytplkoephgmdgkaa
open Go Go.RowKit Rt Go.Maps
set_option linter.unusedVariables false
attribute [local go_sem] run_fadd run_fsub run_fmul run_fquo store_f64

/-- The table t lies at block tb, its map at m, its entries where bk says; all of it within F. -/
structure TAx (tb m : Nat) (t : Tb) (bk : ByteArray → Option Nat) (F : Nat → Prop) (w : World) : Prop where
  ok : t.ok
  tab : w.heap[tb]? = some (.cells (tabC t m) 47 (0, 0))
  map : KM w m bk t.L.length
  ent : ∀ e ∈ t.L, ∃ b s, bk e.key = some b ∧ w.heap[b]? = some (.cells (entC e s) 98 (0, 0)) ∧ FS e.std s
  key : ∀ k b, bk k = some b → ∃ e ∈ t.L, e.key = k
  inj : ∀ k k' b, bk k = some b → bk k' = some b → k = k'
  ftb : F tb
  fm : F m
  fb : ∀ k b, bk k = some b → F b
  flt : ∀ i, F i → i < w.heap.size
theorem TAx.kept {tb m : Nat} {t : Tb} {bk : ByteArray → Option Nat} {F S : Nat → Prop} {w w' : World} (h : TAx tb m t bk F w) (c : Chg S w w') (hs : ∀ i, F i → ¬ S i) : TAx tb m t bk F w' :=
  ⟨h.ok, c.obj h.tab (hs _ h.ftb), h.map.kept c (hs _ h.fm), fun e he => by
    obtain ⟨b, s, h1, h2, h3⟩ := h.ent e he
    exact ⟨b, s, h1, c.obj h2 (hs _ (h.fb _ _ h1)), h3⟩, h.key, h.inj, h.ftb, h.fm, h.fb, fun i hi => Nat.lt_of_lt_of_le (h.flt i hi) c.size⟩
theorem TAx.same {tb m : Nat} {t : Tb} {bk : ByteArray → Option Nat} {F : Nat → Prop} {w w' : World} (h : TAx tb m t bk F w) (c : Chg (fun _ => False) w w') : TAx tb m t bk F w' := h.kept c (fun _ _ h => h)
theorem TAx.has {tb m : Nat} {t : Tb} {bk : ByteArray → Option Nat} {F : Nat → Prop} {w : World} (h : TAx tb m t bk F w) {k : ByteArray} {e : Ent} (hg : t.get k = some e) :
    e.ok t ∧ ∃ b s, bk k = some b ∧ w.heap[b]? = some (.cells (entC e s) 98 (0, 0)) ∧ FS e.std s := by
  obtain ⟨h1, h2⟩ := get_some hg
  refine ⟨h.ok.ents e h1, ?_⟩
  rw [← h2]; exact h.ent e h1
theorem TAx.no {tb m : Nat} {t : Tb} {bk : ByteArray → Option Nat} {F : Nat → Prop} {w : World} (h : TAx tb m t bk F w) {k : ByteArray} (hg : t.get k = none) : bk k = none := by
  cases e : bk k with
  | none => rfl
  | some b =>
    obtain ⟨e', h1, h2⟩ := h.key k b e
    exact absurd h2 (get_none hg e' h1)
theorem timely_yes {now : Int} (h : timely now = true) : ∃ n : Nat, now = n ∧ n ≤ MAXT := by
  unfold timely at h
  simp only [Bool.and_eq_true, decide_eq_true_eq] at h
  have hM : MAXT = 253402300799 := rfl
  exact ⟨now.toNat, by omega, by omega⟩
set_option maxHeartbeats 2000000 in
set_option maxRecDepth 100000 in
theorem rt_Level (w : World) (tb m : Nat) (t : Tb) (bk : ByteArray → Option Nat) (F : Nat → Prop) (h : TAx tb m t bk F w) (k : ByteArray) (hk : k.size ≤ maxLen) (now : Int) :
    Calls Try.prog 19 #[.pointer (some ⟨tb, 0, none⟩), .string k, .int .i64 now] w fun r w' => r = .returned (.float .f64 (t.level k now)) ∧ Chg (fun _ => False) w w' := by
  have TH := Lib.hid (rt_there w tb _ _ _ _ (some m) h.tab)
  have VA := Lib.hid (rt_valid now w)
  obtain ⟨g0, g1, g2, g3, gf⟩ := cells4 h.tab
  cases ht : timely now
  · have hl : t.level k now = 0 := by unfold Tb.level; rw [ht]; rfl
    rw [hl]
    rw [ht] at VA
    clear hl h
    go_enter Try.func19, Try.ntmps19
    go_wp2_with (first | (go_at_call 47; refine TH.out.mono ?_; rintro e w' ⟨rfl, rfl⟩) | (go_at_call 48; refine VA.out.mono ?_; rintro e w' ⟨rfl, rfl⟩))
    go_ret
    exact ⟨rfl, Chg.refl _ _⟩
  · obtain ⟨n, rfl, hn⟩ := timely_yes ht
    rw [ht] at VA
    have hlook := h.map.look hk
    cases hg : t.get k with
    | none =>
      have hl : t.level k n = t.burst := by unfold Tb.level; rw [ht, if_pos rfl, hg]
      rw [h.no hg] at hlook
      rw [hl]
      have hlook' : (Instr.lookup 45 (.map (some m)) (.string k) false).run Try.prog w = .ok (.pointer none) w := hlook
      clear hl h hg hlook
      go_enter Try.func19, Try.ntmps19
      go_wp2_with (first | (go_at_call 47; refine TH.out.mono ?_; rintro e w' ⟨rfl, rfl⟩) | (go_at_call 48; refine VA.out.mono ?_; rintro e w' ⟨rfl, rfl⟩))
      go_ret
      exact ⟨rfl, Chg.refl _ _⟩
    | some e =>
      obtain ⟨heo, b, s, hb, hc, hf⟩ := h.has hg
      have hl : t.level k n = lvl t e n := by unfold Tb.level; rw [ht, if_pos rfl, hg]; rfl
      rw [hb] at hlook
      rw [hl]
      have hlook' : (Instr.lookup 45 (.map (some m)) (.string k) false).run Try.prog w = .ok (.pointer (some ⟨b, 0, none⟩)) w := hlook
      have LV := Lib.hid (rt_level w t h.ok e heo s tb b m h.tab hc n hn)
      clear hl h hg hlook heo hc hf hb
      go_enter Try.func19, Try.ntmps19
      go_wp2_with (first | (go_at_call 47; refine TH.out.mono ?_; rintro e w' ⟨rfl, rfl⟩) | (go_at_call 48; refine VA.out.mono ?_; rintro e w' ⟨rfl, rfl⟩) | (go_at_call 50; refine LV.out.mono ?_; rintro e w' ⟨rfl, c'⟩; have C' := Lib.hid c'; clear c'))
      go_ret
      exact ⟨rfl, C'.out⟩
set_option maxHeartbeats 2000000 in
set_option maxRecDepth 100000 in
theorem rt_Standing (w : World) (tb m : Nat) (t : Tb) (bk : ByteArray → Option Nat) (F : Nat → Prop) (h : TAx tb m t bk F w) (k : ByteArray) (hk : k.size ≤ maxLen) (now : Int) :
    Calls Try.prog 26 #[.pointer (some ⟨tb, 0, none⟩), .string k, .int .i64 now] w fun r w' => ∃ y, r = .returned (.float .f64 y) ∧ FS (t.standing k now) y ∧ Chg (fun _ => False) w w' := by
  have TH := Lib.hid (rt_there w tb _ _ _ _ (some m) h.tab)
  have VA := Lib.hid (rt_valid now w)
  obtain ⟨g0, g1, g2, g3, gf⟩ := cells4 h.tab
  cases ht : timely now
  · have hl : t.standing k now = some 0 := by unfold Tb.standing; rw [ht]; rfl
    have HL := Lib.hid (show FS (t.standing k now) 0 by rw [hl]; exact FS.some (by decide))
    rw [ht] at VA
    clear hl h
    go_enter Try.func26, Try.ntmps26
    go_wp2_with (first | (go_at_call 47; refine TH.out.mono ?_; rintro e w' ⟨rfl, rfl⟩) | (go_at_call 48; refine VA.out.mono ?_; rintro e w' ⟨rfl, rfl⟩))
    go_ret
    exact ⟨0, rfl, HL.out, Chg.refl _ _⟩
  · obtain ⟨n, rfl, hn⟩ := timely_yes ht
    rw [ht] at VA
    have hlook := h.map.look hk
    cases hg : t.get k with
    | none =>
      have hl : t.standing k n = some 0 := by unfold Tb.standing; rw [ht, if_pos rfl, hg]
      have HL := Lib.hid (show FS (t.standing k n) 0 by rw [hl]; exact FS.some (by decide))
      rw [h.no hg] at hlook
      have hlook' : (Instr.lookup 45 (.map (some m)) (.string k) false).run Try.prog w = .ok (.pointer none) w := hlook
      clear hl h hg hlook
      go_enter Try.func26, Try.ntmps26
      go_wp2_with (first | (go_at_call 47; refine TH.out.mono ?_; rintro e w' ⟨rfl, rfl⟩) | (go_at_call 48; refine VA.out.mono ?_; rintro e w' ⟨rfl, rfl⟩))
      go_ret
      exact ⟨0, rfl, HL.out, Chg.refl _ _⟩
    | some e =>
      obtain ⟨heo, b, s, hb, hc, hf⟩ := h.has hg
      have hl : t.standing k n = stn t e n := by unfold Tb.standing; rw [ht, if_pos rfl, hg]; rfl
      rw [hb] at hlook
      rw [hl]
      have hlook' : (Instr.lookup 45 (.map (some m)) (.string k) false).run Try.prog w = .ok (.pointer (some ⟨b, 0, none⟩)) w := hlook
      have LV := Lib.hid (rt_standing w t h.ok e heo s tb b m h.tab hc hf n hn)
      clear hl h hg hlook heo hc hf hb
      go_enter Try.func26, Try.ntmps26
      go_wp2_with (first | (go_at_call 47; refine TH.out.mono ?_; rintro e w' ⟨rfl, rfl⟩) | (go_at_call 48; refine VA.out.mono ?_; rintro e w' ⟨rfl, rfl⟩) | (go_at_call 52; refine LV.out.mono ?_; rintro e w' ⟨y', rfl, f', c'⟩; have C' := Lib.hid c'; have F' := Lib.hid f'; clear c' f'))
      go_ret
      exact ⟨_, rfl, F'.out, C'.out⟩
end Go.Proofs.Ytplkoephgmdgkaa
