/- Entries laid into a rate table and taken out; lay walked. No condition but what each states. -/
import Derived.Test.YtplkoephgmdgkaaRtW4
import Derived.Test.YtplkoephgmdgkaaRtBest
import Derived.Deep.LoopGhost
import Derived.Deep.DeepCutAuto
namespace Go.Proofs.Ytplkoephgmdgkaa
open Go Go.RowKit Rt Go.Maps
set_option linter.unusedVariables false
attribute [local go_sem] run_fadd run_fsub run_fmul run_fquo store_f64

namespace Rt
def Tb.put (t : Tb) (e : Ent) : Tb := ⟨t.per, t.burst, t.fade, t.L ++ [e]⟩
def Tb.cut (t : Tb) (k : ByteArray) : Tb := ⟨t.per, t.burst, t.fade, t.L.filter (fun e => decide (e.key ≠ k))⟩
theorem filter_len (k : ByteArray) : ∀ (l : List Ent), l.Pairwise (fun a b => a.key ≠ b.key) → (∃ e ∈ l, e.key = k) → (l.filter (fun e => decide (e.key ≠ k))).length + 1 = l.length
  | [], _, h => by obtain ⟨e, h, _⟩ := h; cases h
  | x :: r, hp, h => by
    rw [List.pairwise_cons] at hp
    by_cases hx : x.key = k
    · have hr : r.filter (fun e => decide (e.key ≠ k)) = r := by
        rw [List.filter_eq_self]
        intro a ha
        have := hp.1 a ha
        simp only [decide_eq_true_eq]
        intro e; exact this (by rw [hx, e])
      rw [List.filter_cons, if_neg (by simp [hx]), hr]; rfl
    · obtain ⟨e, he, hk⟩ := h
      rcases List.mem_cons.1 he with rfl | he
      · exact absurd hk hx
      · have ih := filter_len k r hp.2 ⟨e, he, hk⟩
        rw [List.filter_cons, if_pos (by simp [hx])]
        simp only [List.length_cons]
        omega
theorem Tb.ok.put {t : Tb} (h : t.ok) {e : Ent} (he : e.ok t) (hn : ∀ x ∈ t.L, x.key ≠ e.key) (hl : t.L.length < 1024) : (Tb.put t e).ok :=
  ⟨h.per, h.per0, h.burst, h.burst0, h.fade, by
    refine List.pairwise_append.2 ⟨h.apart, by simp, fun a ha b hb => ?_⟩
    obtain rfl := List.mem_singleton.1 hb
    exact hn a ha, fun x hx => by
    rcases List.mem_append.1 hx with hx | hx
    · have := h.ents x hx; exact ⟨this.lev, this.since, this.noted, this.key⟩
    · obtain rfl := List.mem_singleton.1 hx; exact ⟨he.lev, he.since, he.noted, he.key⟩, by
    show (t.L ++ [e]).length ≤ 1024
    rw [List.length_append]
    simp only [List.length_cons, List.length_nil]; omega⟩
theorem Tb.ok.cut {t : Tb} (h : t.ok) (k : ByteArray) : (Tb.cut t k).ok :=
  ⟨h.per, h.per0, h.burst, h.burst0, h.fade, List.Pairwise.filter _ h.apart, fun x hx => by
    have := h.ents x (List.mem_filter.1 hx).1; exact ⟨this.lev, this.since, this.noted, this.key⟩, Nat.le_trans (List.length_filter_le ..) h.size⟩
theorem new_ok {t : Tb} (h : t.ok) {k : ByteArray} (hk : k.size ≤ maxLen) {now : Nat} (hn : now ≤ MAXT) : (t.new k now).ok t := ⟨Nat.le_refl _, hn, hn, hk⟩
end Rt
/-- An entry is taken out. -/
theorem TAx.cut {tb m : Nat} {t : Tb} {bk : ByteArray → Option Nat} {F : Nat → Prop} {w w' : World} (h : TAx tb m t bk F w) {k : ByteArray} (hg : ∃ e ∈ t.L, e.key = k) (hm : KM w' m (fun x => if x = k then none else bk x) (t.L.length - 1)) (c : Chg (· = m) w w') :
    TAx tb m (Tb.cut t k) (fun x => if x = k then none else bk x) F w' := by
  have hlen := filter_len k t.L h.ok.apart hg
  have e1 : (Tb.cut t k).L.length = t.L.length - 1 := by show (t.L.filter _).length = _; omega
  have hne : ∀ b x ty fz, w.heap[b]? = some (.cells x ty fz) → ¬ b = m := by
    intro b x ty fz hb e
    obtain ⟨D, ⟨es, clock, hb', _⟩, _⟩ := h.map
    rw [e, hb'] at hb
    cases hb
  refine ⟨h.ok.cut k, c.obj h.tab (hne _ _ _ _ h.tab), by rw [e1]; exact hm, fun e he => ?_, fun x b hb => ?_, fun x y b hx hy => ?_, h.ftb, h.fm, fun x b hb => ?_, fun i hi => Nat.lt_of_lt_of_le (h.flt i hi) c.size⟩
  · obtain ⟨he1, he2⟩ := List.mem_filter.1 he
    obtain ⟨b, s, h1, h2, h3⟩ := h.ent e he1
    have hk : e.key ≠ k := by simpa using he2
    exact ⟨b, s, by rw [if_neg hk]; exact h1, c.obj h2 (hne _ _ _ _ h2), h3⟩
  · by_cases hx : x = k
    · rw [if_pos hx] at hb; cases hb
    · rw [if_neg hx] at hb
      obtain ⟨e, h1, h2⟩ := h.key x b hb
      exact ⟨e, List.mem_filter.2 ⟨h1, by rw [h2]; simpa using hx⟩, h2⟩
  · split at hx
    · cases hx
    · split at hy
      · cases hy
      · exact h.inj x y b hx hy
  · split at hb
    · cases hb
    · exact h.fb x b hb
/-- An entry is laid in. -/
theorem TAx.put {tb m : Nat} {t : Tb} {bk : ByteArray → Option Nat} {F : Nat → Prop} {w w1 w' : World} (h : TAx tb m t bk F w) {e : Ent} (he : e.ok t) (hn : ∀ x ∈ t.L, x.key ≠ e.key) (hl : t.L.length < 1024) {b s : Nat} (c1 : Chg (fun _ => False) w w1) (hb : w1.heap[b]? = some (.cells (entC e s) 98 (0, 0))) (hbn : w.heap.size ≤ b) (hs : FS e.std s)
    (hm : KM w' m (fun x => if x = e.key then some b else bk x) (t.L.length + 1)) (c : Chg (· = m) w1 w') :
    TAx tb m (Tb.put t e) (fun x => if x = e.key then some b else bk x) (fun i => F i ∨ i = b) w' := by
  have hne : ∀ b x ty fz, w1.heap[b]? = some (.cells x ty fz) → ¬ b = m := by
    intro b x ty fz hb e
    obtain ⟨D, ⟨es, clock, hb', _⟩, _⟩ := (h.map.kept c1 (fun h => h))
    rw [e, hb'] at hb
    cases hb
  have h1 := h.same c1
  have hnb : bk e.key = none := by
    cases e1 : bk e.key with
    | none => rfl
    | some b => obtain ⟨x, hx, hk⟩ := h.key _ _ e1; exact absurd hk (hn x hx)
  refine ⟨h.ok.put he hn hl, c.obj h1.tab (hne _ _ _ _ h1.tab), by show KM w' m _ (t.L ++ [e]).length; rw [List.length_append]; exact hm, fun x hx => ?_, fun x b' hb' => ?_, fun x y b' hx hy => ?_, .inl h.ftb, .inl h.fm, fun x b' hb' => ?_, fun i hi => ?_⟩
  · rcases List.mem_append.1 hx with hx | hx
    · obtain ⟨b', s', g1, g2, g3⟩ := h1.ent x hx
      exact ⟨b', s', by rw [if_neg (hn x hx)]; exact g1, c.obj g2 (hne _ _ _ _ g2), g3⟩
    · obtain rfl := List.mem_singleton.1 hx
      exact ⟨b, s, by simp, c.obj hb (hne _ _ _ _ hb), hs⟩
  · by_cases hx : x = e.key
    · exact ⟨e, by simp [Tb.put], hx.symm⟩
    · rw [if_neg hx] at hb'
      obtain ⟨e', h1, h2⟩ := h.key x b' hb'
      exact ⟨e', List.mem_append_left _ h1, h2⟩
  · by_cases h1 : x = e.key <;> by_cases h2 : y = e.key
    · rw [h1, h2]
    · rw [if_pos h1] at hx; rw [if_neg h2] at hy
      have := h.flt _ (h.fb _ _ hy); injection hx with hx; omega
    · rw [if_neg h1] at hx; rw [if_pos h2] at hy
      have := h.flt _ (h.fb _ _ hx); injection hy with hy; omega
    · rw [if_neg h1] at hx; rw [if_neg h2] at hy
      exact h.inj x y b' hx hy
  · by_cases hx : x = e.key
    · rw [if_pos hx] at hb'; injection hb' with hb'; exact .inr hb'.symm
    · rw [if_neg hx] at hb'; exact .inl (h.fb x b' hb')
  · have hs1 := c1.size
    have hs2 := c.size
    have hs3 : b < w1.heap.size := lt_of_block hb
    rcases hi with hi | rfl
    · have := h.flt i hi; omega
    · omega
theorem cut_get {t : Tb} {k k' : ByteArray} (h : t.get k = none) : (Tb.cut t k').get k = none := by
  unfold Tb.get Rt.Tb.cut
  rw [List.find?_eq_none]
  intro e he
  have := get_none h e (List.mem_filter.1 he).1
  simpa using this
/-- What lay leaves. -/
def LaySays (tb m : Nat) (t : Tb) (k : ByteArray) (F : Nat → Prop) (w : World) (o : Option Tb) (r : Ending) (w' : World) : Prop := match o with
  | none => r = .returned (.pointer none) ∧ Chg (fun _ => False) w w'
  | some u => ∃ b bk' F', r = .returned (.pointer (some ⟨b, 0, none⟩)) ∧ TAx tb m u bk' F' w' ∧ bk' k = some b ∧ Chg F w w' ∧ ∀ i, F' i → F i ∨ w.heap.size ≤ i
theorem lay_old (w : World) (tb m : Nat) (t : Tb) (bk : ByteArray → Option Nat) (F : Nat → Prop) (h : TAx tb m t bk F w) (k : ByteArray) (hk : k.size ≤ maxLen) (now : Nat) (e : Ent) (hg : t.get k = some e) :
    Calls Try.prog 49 #[.pointer (some ⟨tb, 0, none⟩), .string k, .int .i64 now] w (LaySays tb m t k F w (t.laid k now)) := by
  obtain ⟨g0, g1, g2, g3, gf⟩ := cells4 h.tab
  obtain ⟨heo, b, s, hb, hc, hf⟩ := h.has hg
  have hl : t.laid k now = some t := by unfold Tb.laid; rw [hg]
  have hlook := h.map.look hk
  rw [hb] at hlook
  have hlook' : (Instr.lookup 45 (.map (some m)) (.string k) false).run Try.prog w = .ok (.pointer (some ⟨b, 0, none⟩)) w := hlook
  have fin : LaySays tb m t k F w (t.laid k now) (.returned (.pointer (some ⟨b, 0, none⟩))) w := by
    rw [hl]; exact ⟨b, bk, F, rfl, h, hb, Chg.refl _ _, fun i hi => .inl hi⟩
  have FIN := Lib.hid fin
  clear fin hlook hl hf hc heo h hg hb
  go_enter Try.func49, Try.ntmps49
  go_wp2
  go_ret
  exact FIN.out
theorem maxLen_big : 1048576 < maxLen := by decide
/-- Laying a new entry in, where there is room. -/
theorem lay_add {w : World} {tb m : Nat} {t : Tb} {bk : ByteArray → Option Nat} {F : Nat → Prop} (h : TAx tb m t bk F w) {k : ByteArray} (hk : k.size ≤ maxLen) {now : Nat} (hn : now ≤ MAXT) (hg : t.get k = none) (hl : t.L.length < 1024) :
    ∃ w2, (Instr.mapUpdate 45 (.map (some m)) (.string k) (.pointer (some ⟨w.heap.size, 0, none⟩))).run Try.prog (w.alloc (.cells #[.float .f64 t.burst, .float .f64 0, .int .i64 now, .int .i64 now] 98)) = .ok () w2 ∧
      TAx tb m (Tb.put t (t.new k now)) (fun x => if x = k then some w.heap.size else bk x) (fun i => F i ∨ i = w.heap.size) w2 ∧ Chg (· = m) w w2 := by
  have c1 : Chg (fun _ => False) w (w.alloc (.cells #[.float .f64 t.burst, .float .f64 0, .int .i64 now, .int .i64 now] 98)) := (Chg.refl _ _).alloc _
  have hm := h.map.kept c1 (fun h => h)
  obtain ⟨w2, hrun, hm2, c2⟩ := hm.put (by have := maxLen_big; omega) hk w.heap.size
  rw [h.no hg] at hm2
  refine ⟨w2, hrun, h.put (e := t.new k now) (s := 0) (new_ok h.ok hk hn) (get_none hg) hl c1 (heap_alloc_at _ _) (Nat.le_refl _) (FS.some (by decide)) hm2 c2, ?_⟩
  exact (c1.mono (fun _ _ h => h.elim)).trans c2 (fun _ _ h => h)
theorem lay_new (w : World) (tb m : Nat) (t : Tb) (bk : ByteArray → Option Nat) (F : Nat → Prop) (h : TAx tb m t bk F w) (k : ByteArray) (hk : k.size ≤ maxLen) (now : Nat) (hn : now ≤ MAXT) (hg : t.get k = none) (hl : t.L.length < 1024) :
    Calls Try.prog 49 #[.pointer (some ⟨tb, 0, none⟩), .string k, .int .i64 now] w (LaySays tb m t k F w (t.laid k now)) := by
  obtain ⟨g0, g1, g2, g3, gf⟩ := cells4 h.tab
  obtain ⟨w2, hrun, h2, c2⟩ := lay_add h hk hn hg hl
  have hld : t.laid k now = some (Tb.put t (t.new k now)) := by unfold Tb.laid; rw [hg]; simp only; rw [if_pos hl]; rfl
  have hlook := h.map.look hk
  rw [h.no hg] at hlook
  have hlook' : (Instr.lookup 45 (.map (some m)) (.string k) false).run Try.prog w = .ok (.pointer none) w := hlook
  have hlen := fun ty => h.map.len ty
  have hlt : ¬ (1024 : Int) ≤ t.L.length := by omega
  have htl : tb < w.heap.size := lt_of_block h.tab
  have fin : LaySays tb m t k F w (t.laid k now) (.returned (.pointer (some ⟨w.heap.size, 0, none⟩))) w2 := by
    rw [hld]; exact ⟨w.heap.size, _, _, rfl, h2, by simp, c2.mono (fun i _ e => by rw [e]; exact h.fm), fun i hi => by rcases hi with hi | hi
                                                                                                                       · exact .inl hi
                                                                                                                       · exact .inr (by omega)⟩
  have FIN := Lib.hid fin
  generalize t.L.length = n at *
  clear fin hlook hld h hg h2 c2 hl
  go_enter Try.func49, Try.ntmps49
  go_wp2
  go_ret
  exact FIN.out
end Go.Proofs.Ytplkoephgmdgkaa
