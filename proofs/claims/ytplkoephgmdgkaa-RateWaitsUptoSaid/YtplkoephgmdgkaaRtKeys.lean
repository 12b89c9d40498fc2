/- Keys walked. No condition but what each states. -/
import Derived.Test.YtplkoephgmdgkaaRtOwn
namespace Go.Proofs.Ytplkoephgmdgkaa
open Go Go.RowKit Rt Go.Maps
set_option linter.unusedVariables false

theorem own_some {ov : Value} {n : Nat} : (∀ k, ov.ownBlock = some k → n ≤ k) → ∀ i, i < n → ¬ (some i = ov.ownBlock) := fun h i hi e => by have := h i e.symm; omega
set_option maxHeartbeats 4000000 in
set_option maxRecDepth 100000 in
theorem rt_Keys (SC : SortC) (w : World) (tb m : Nat) (t : Tb) (bk : ByteArray → Option Nat) (F : Nat → Prop) (h : TAx tb m t bk F w) :
    Calls Try.prog 29 #[.pointer (some ⟨tb, 0, none⟩)] w (KeysSays t w) := by
  obtain ⟨i0, hi0, hx0, hz0, hb0⟩ := info_parts Try.infoStr
  have TH := Lib.hid (rt_there w tb _ _ _ _ (some m) h.tab)
  obtain ⟨g0, g1, g2, g3, gf⟩ := cells4 h.tab
  have htl : tb < w.heap.size := lt_of_block h.tab
  have hml : m < w.heap.size := h.map.lt
  obtain ⟨w1, hrange, hkr, hc1, hsz⟩ := h.map.range
  have H := Lib.hid h
  have KR1 := Lib.hid hkr
  have C1 := Lib.hid hc1
  clear h hkr hc1
  go_enter Try.func29, Try.ntmps29
  go_wp2_with (go_at_call 47; refine TH.out.mono ?_; rintro e w' ⟨rfl, h9⟩; have h9 := h9.symm; subst h9)
  go_loopg [3] (t.L.length) (KyRel w m t bk)
  case atStart =>
    refine ⟨_, _, [], Nat.le_refl _, KR1.out, Arr.nil _ _ _, fun k hk => by simp [Value.ownBlock] at hk, List.nodup_nil, fun k => ?_, by simp, C1.out, by omega⟩
    constructor
    · intro h; cases h
    · rintro ⟨h1, h2⟩; rw [h1] at h2; cases h2
  case round =>
    obtain ⟨left, cnt, ks, hcnt, hkr, harr, hown, hnd, hmem, hlen, hch, hsz1⟩ := hrel
    rcases hkr.next 0 with ⟨hdone, hrun⟩ | ⟨k1, b1, w2, cnt2, hl1, hb1, hk1, hrun, hkr2, hlt2, c2, hsz2, hen⟩
    · have hL := H.out.ok.size
      have SORT := Lib.hid (SC wr _ ks harr (by omega))
      have HM := Lib.hid (And.intro hnd (And.intro hmem (And.intro hdone hown)))
      have CH := Lib.hid hch
      obtain ⟨ao, cap, rfl⟩ := arr_shape harr
      clear hkr harr hnd hmem hdone hown hch
      go_wp2_with fail
      refine SORT.out.mono ?_
      rintro e5 w5 ⟨rfl, ss, hp, hs, ha5, hc5⟩
      have fin : KeysSays t w (.returned (.slice ao (strs ks).length cap)) w5 := by
        refine ⟨ss, _, rfl, ⟨ha5, fun k hk => by have := HM.out.2.2.2 k hk; omega, CH.out.trans hc5 (fun i hi e => by have := HM.out.2.2.2 i e.symm; omega)⟩, rises_of hs (hp.nodup_iff.2 HM.out.1), fun k => ?_, by rw [hp.length_eq]; omega⟩
        rw [hp.mem_iff, HM.out.2.1 k]
        constructor
        · rintro ⟨h1, _⟩
          obtain ⟨b, hb⟩ := Option.isSome_iff_exists.1 h1
          exact H.out.key k b hb
        · rintro ⟨e, he, rfl⟩
          obtain ⟨b, s, h1, _, _⟩ := H.out.ent e he
          exact ⟨by rw [h1]; rfl, HM.out.2.2.1 _⟩
      have FIN := Lib.hid fin
      clear fin hp hs ha5 hc5
      go_wp2
      go_ret
      exact FIN.out
    · have hr0 : w.heap.size < wr.heap.size := hkr.lt
      have ch2 : Chg (fun _ => False) w w2 := hch.trans c2 (fun i hi e => by omega)
      have harr2 := harr.kept c2 (fun k hk e => by have := hown k hk; omega)
      have hL := H.out.ok.size
      have hb1s : (bk k1).isSome = true := by rw [hb1]; rfl
      have hmem2 : ∀ k, k ∈ ks ++ [k1] ↔ ((bk k).isSome = true ∧ (left k && !decide (k = k1)) = false) := by
        intro k
        rw [List.mem_append, hmem k, List.mem_singleton]
        constructor
        · rintro (⟨h1, h2⟩ | rfl)
          · exact ⟨h1, by rw [h2]; rfl⟩
          · exact ⟨hb1s, by simp⟩
        · rintro ⟨h1, h2⟩
          by_cases e : k = k1
          · exact .inr e
          · refine .inl ⟨h1, ?_⟩
            simpa [e] using h2
      have hnd2 : (ks ++ [k1]).Nodup := by
        refine List.nodup_append.2 ⟨hnd, by simp, fun a ha b hb => ?_⟩
        obtain rfl := List.mem_singleton.1 hb
        rintro rfl
        have := ((hmem a).1 ha).2
        rw [hl1] at this; cases this
      have HR := Lib.hid (And.intro hkr2 (And.intro hmem2 (And.intro hnd2 (And.intro ch2 hown))))
      have ARR := Lib.hid harr2
      have hlk : ks.length + 1 + cnt2 ≤ t.L.length := by omega
      have hsz3 : w.heap.size + 1 ≤ w2.heap.size := by omega
      have hcc : cnt2 < gk := by omega
      obtain ⟨ao, cap, rfl⟩ := arr_shape harr2
      clear hkr harr hown hnd hmem hlen hch hsz1 ch2 harr2 hb1s hmem2 hnd2 hkr2 hlt2 c2 hsz2 hcnt hl1 hb1 hr0
      have SS := Lib.hid (src_one (t := 56) Try.underlying56 (x := .string k1) (b := w2.heap.size) (w := w2.alloc (.cells #[.string k1] 9)) rfl (by simp))
      have AR2 := Lib.hid (ARR.out.kept ((Chg.refl (fun _ => False) w2).alloc (.cells #[.string k1] 9)) (fun _ _ h => h))
      go_wp2_with (at_builtin; refine wpList_append_arr _ rfl _ _ 56 56 rfl 9 i0 (.string ⟨#[]⟩) 1 16 Try.underlying56 hi0 hx0 hz0 hb0 rfl (by decide) (.slice ao (strs ks).length cap) (strs ks) rfl AR2.out (.slice (some ⟨w2.heap.size, 0, none⟩) 1 1) rfl 1 [.string k1] SS.out (by rw [strs_len]; unfold maxLen; omega) (by rw [strs_len]; omega) ?d1)
      case d1 =>
        intro v3 w3 ha3 hc3 ho3
        have hc3' : Chg (fun k => some k = (Value.slice ao (strs ks).length cap).ownBlock) w2 w3 := ((Chg.refl _ w2).alloc _).trans hc3 (fun _ _ h => h)
        have hown := HR.out.2.2.2.2
        have hs3 := hc3'.size
        have hown3 : ∀ k, v3.ownBlock = some k → w.heap.size + 1 ≤ k := by
          intro k hk
          rcases ho3 with e | e
          · exact hown k (by rw [← e]; exact hk)
          · rw [e] at hk; injection hk with hk; omega
        have R := Lib.hid (show KyRel w m t bk (gk - 1) v3 w3 from ⟨_, cnt2, ks ++ [k1], by omega, HR.out.1.kept hc3' (fun e => own_some hown m (by omega) e) (fun e => own_some hown w.heap.size (by omega) e), by rw [strs_app]; exact ha3, hown3, HR.out.2.2.1, HR.out.2.1, by simp only [List.length_append, List.length_cons, List.length_nil]; omega, HR.out.2.2.2.1.trans hc3' (fun i hi e => own_some hown i (by omega) e), by omega⟩)
        clear ha3 hc3 ho3 hc3' hown hown3
        go_wp2
        go_roundg (gk - 1)
        case measure => omega
        case rel => exact R.out
end Go.Proofs.Ytplkoephgmdgkaa
