/- The framer's Take. No condition but what each states. -/
import Derived.Test.YtnjloldhmjadoaaFrW3
import Derived.Deep.DeepCutAuto
namespace Go.Proofs.Ytnjloldhmjadoaa
set_option linter.unusedVariables false
open Go Go.RowKit Ln Dt Fr

def msize : FM → Nat
  | .data r => r.d.size
  | _ => 0
structure FTPost (w w' : World) (F : Nat → Prop) (b : Nat) (L : Lim) (m' : FM) (v' : Value) (bytes : List UInt8) : Prop where
  arr : Arr w' 5 1 v' (bvs bytes)
  new : ∀ k, v'.ownBlock = some k → w.heap.size ≤ k
  is : ∃ F', FR w' F' b L m' ∧ Ins w' F' ∧ Grow w F F' ∧ (∀ k, v'.ownBlock = some k → ¬ F' k)
  chg : Chg F w w'
def FTakes (w : World) (F : Nat → Prop) (b : Nat) (L : Lim) (q : Nat × It × FM) (r : Ending) (w' : World) : Prop :=
  ∃ v', r = .returned (.tuple #[.int .i64 q.1, itV q.2.1 v']) ∧ FTPost w w' F b L q.2.2 v' q.2.1.bytes
theorem begun_world {w : World} {b : Nat} {x : FB} (h : FBAt w b x) (y : Bool) : FBAt (w.setCell ⟨b, 10, none⟩ (.bool y)) b { x with begun := y } := by
  have := heap_setCell_at h (.bool y) (i := 10)
  unfold FBAt
  simpa [frC] using this

set_option maxHeartbeats 1000000 in
set_option maxRecDepth 100000 in
theorem fr_take_lines {w : World} {F : Nat → Prop} {b : Nat} {L : Lim} {ls : LS} {bg : Bool} (h : FR w F b L (.lines ls bg)) (hi : Ins w F) (bv : Value) (bs : List UInt8) (hbs : Rd w bv 1 (bvs bs)) (hsep : ∀ k, bv.ownBlock = some k → ¬ F k) :
    Calls Try.prog 15 #[.pointer (some ⟨b, 0, none⟩), bv] w (FTakes w F b L (FM.take L (.lines ls bg) bs)) := by
  obtain ⟨ok, x, lb, v, ls', h1, h2, h3, h4, h5, h6, h7, h8, h9, h10, h11, m1, m2, m3, m4, e, m5⟩ := h
  subst e
  obtain ⟨c1, c2, c6, c7, c8, c9, c10, c11, c12, f⟩ := h1.facts
  have t1 : (x.mode == 0) = false := by rw [m1]; rfl
  rw [m2, h4] at c7
  unfold fnV at c7
  rw [m4] at c10
  have hb := hi b h7
  have hlb := hi lb h8
  have hch0 : ∀ o : Obj, Chg (fun _ => False) w (w.alloc o) := fun o => (Chg.refl _ w).alloc o
  have HT := Lib.hid (fun o : Obj => line_take (w.alloc o) lb v L.line ls (h5.kept (hch0 o) (fun h => h) (fun _ _ h => h)) (by have := ok.l1; omega) (by have := ok.l2; omega) h6 bv bs (hbs.kept (hch0 o) (fun _ _ _ h => h)) (fun _ k hk => ⟨fun e => hsep k hk (e ▸ h8), fun e => hsep k hk (h9 k e)⟩))
  have H1 := Lib.hid h1
  have H5 := Lib.hid h5
  have H9 := Lib.hid h9
  have H11 := Lib.hid h11
  have HI := Lib.hid hi
  have HO := Lib.hid ok
  have HM := Lib.hid (And.intro h2 (And.intro h3 (And.intro h4 (And.intro m1 (And.intro m2 (And.intro m3 m5))))))
  have M1 := Lib.hid m1
  have M4 := Lib.hid m4
  have TOK := Lib.hid (take_ok (by have := ok.l1; omega : (0 : Int) ≤ L.line) bs ls h6)
  have TNEW := Lib.hid (take_item_new L.line bs ls)
  have TNONE := Lib.hid (take_none L.line bs ls)
  clear h1 h2 h3 h4 h5 h6 h9 h11 m1 m2 m3 m4 m5 ok hi hbs hsep hch0 c1 c2 c8 c9 c11 c12
  go_enter Try.func15, Try.ntmps15
  go_wp2_with fail
  refine (HT.out _).mono ?_
  rintro e w2 ⟨rfl, v2, g1, g2, g3⟩
  have hr5 : w2.heap[w.heap.size]? = some (.cells itm5 35 (0, 0)) := g3.obj (heap_alloc_at _ _) (fun e => by
    rcases e with e | e
    · omega
    · have := HI.out _ (H9.out _ e.symm); omega)
  have hfb : FBAt w2 b x := g3.obj (heap_alloc_lt _ _ H1.out) (fun e => by
    rcases e with e | e
    · exact h10 e
    · exact H11.out e.symm)
  have hv2 : v2.ownBlock ≠ some b := by
    rcases g2 with e | e | ⟨k, e, hk⟩
    · rw [e]; simp
    · rw [e]; exact H11.out
    · rw [e]; intro e2; injection e2 with e2; simp at hk; omega
  have hv2n : ∀ k, v2.ownBlock = some k → F k ∨ w.heap.size < k := by
    intro k hk
    rcases g2 with e | e | ⟨i, e, hi⟩
    · rw [e] at hk; cases hk
    · rw [e] at hk; exact .inl (H9.out k hk)
    · rw [e] at hk; injection hk with hk; simp at hi; right; omega
  have hal : Chg F w w2 := ((Chg.refl F w).alloc _).trans g3 (fun i hi e => by
    rcases e with e | e
    · rw [e]; exact h8
    · exact H9.out i e.symm)
  obtain ⟨d1, d2, d6, d7, d8, d9, d10, d11, d12, df⟩ := hfb.facts
  obtain ⟨y0, y1, y2, y3, y4, yf⟩ := cells5 hr5
  have hlr := lt_of_block hr5
  have hb2 := lt_of_block hfb
  have G1 := Lib.hid g1
  have HFB := Lib.hid hfb
  have HV2 := Lib.hid hv2
  have HV2N := Lib.hid hv2n
  have HAL := Lib.hid hal
  have HR5 := Lib.hid hr5
  rw [M4.out] at d10
  rw [M1.out] at d6
  obtain ⟨n, hn⟩ : ∃ n, n = (take L.line ls bs).1 := ⟨_, rfl⟩
  obtain ⟨it, hit⟩ : ∃ it, it = (take L.line ls bs).2.1 := ⟨_, rfl⟩
  obtain ⟨ls2, hls⟩ : ∃ ls2, ls2 = (take L.line ls bs).2.2 := ⟨_, rfl⟩
  have HQ : Hid (FM.take L (.lines ls bg) bs = (n, ofItm it, .lines ls2 (it.kind == 0 && (bg || decide (0 < n))))) := Lib.hid (by rw [hn, hit, hls]; rfl)
  rw [← hls] at G1 TOK TNEW
  rw [← hit] at TNEW TNONE
  rw [← hn] at TNONE
  rw [← hn, ← hit]
  have HLS := Lib.hid hls
  have HN := Lib.hid hn
  clear g1 g2 g3 hr5 hfb hv2 hv2n hal hn hit hls c6 c7 c10 f d1 d2 d7 d8 d9 d11 d12 HT
  unfold itmV
  obtain ⟨nb, hnb⟩ : ∃ nb, nb = (it.kind == 0 && (bg || decide (0 < n))) := ⟨_, rfl⟩
  rw [← hnb] at HQ
  have fin : ∀ W5 : World, Chg (fun k => k = w.heap.size ∨ w2.heap.size ≤ k) (w2.setCell ⟨b, 10, none⟩ (.bool nb)) W5 → FTPost w W5 F b L (.lines ls2 nb) (.slice none 0 0) [] := by
    intro W5 hc5
    obtain ⟨a1, a2, a3, a4, a5, a6, a7⟩ := HM.out
    have h25 : Chg (fun k => k = b ∨ k = w.heap.size ∨ w2.heap.size ≤ k) w2 W5 := (((Chg.refl (· = b) w2).set (fun _ => rfl) _).mono (fun _ _ e => .inl e)).trans hc5 (fun i _ e => .inr e)
    have hlb2 : lb < w2.heap.size := lt_of_block G1.out.blk
    have hv2l : ∀ k, v2.ownBlock = some k → k < w2.heap.size := G1.out.arr.lt
    refine ⟨Arr.nil _ _ _, fun k hk => by simp [Value.ownBlock] at hk, ⟨fun k => k = b ∨ k = lb ∨ v2.ownBlock = some k, ⟨HO.out, { x with begun := nb }, lb, v2, ls2, ?_, a1, a2, a3, ?_, TOK.out, .inl rfl, .inr (.inl rfl), fun k hk => .inr (.inr hk), h10, HV2.out, a4, a5, a6, rfl, rfl, ?_⟩, ?_, ?_, fun k hk => by simp [Value.ownBlock] at hk⟩, ?_⟩
    · exact (begun_world HFB.out nb).kept hc5 (fun e => by rcases e with e | e <;> omega)
    · refine G1.out.kept h25 (fun e => ?_) (fun k hk e => ?_)
      · rcases e with e | e | e
        · exact h10 e.symm
        · omega
        · omega
      · rcases e with e | e | e
        · exact HV2.out (by rw [hk, e])
        · rcases HV2N.out k hk with e2 | e2
          · have := HI.out k e2; omega
          · omega
        · have := hv2l k hk; omega
    · intro hnb0
      rw [hnb] at hnb0
      by_cases hk : it.kind = 0
      · have tk : (it.kind == 0) = true := by simpa using hk
        rw [tk, Bool.true_and, Bool.or_eq_false_iff] at hnb0
        obtain ⟨e1, e2⟩ := hnb0
        have hz : n = 0 := by simpa using e2
        have hbs : bs = [] := List.eq_nil_of_length_eq_zero (by rw [← TNONE.out hk]; exact hz)
        rw [HLS.out, hbs, take]
        exact a7 e1
      · exact TNEW.out hk
    · rintro k (e | e | e)
      · rw [e]; have := h25.size; omega
      · rw [e]; have := h25.size; omega
      · have := hv2l k e; have := h25.size; omega
    · rintro k (e | e | e)
      · rw [e]; exact .inl h7
      · rw [e]; exact .inl h8
      · exact (HV2N.out k e).imp id (fun h => by omega)
    · refine HAL.out.trans h25 (fun i hi e => ?_)
      rcases e with e | e | e
      · rw [e]; exact h7
      · omega
      · have := HAL.out.size; omega
  have FIN := Lib.hid fin
  clear fin
  by_cases hk : it.kind = 0
  · have tk : (it.kind == 0) = true := by simpa using hk
    cases bg
    · have hx : nb = decide (0 < n) := by rw [hnb, tk]; simp
      have HX := Lib.hid hx
      clear hnb hk hx
      go_wp2
      go_region
      all_goals
        go_wp2
        refine bodyPost_ret (v := .tuple #[.int .i64 n, itV (ofItm it) (.slice none 0 0)]) ?_ rfl ?_
        · simp [results, Try.results15, go_sem, itV, ofItm, hlr, y0, y1, y2, y3, y4]
        · have hf := FIN.out
          rw [HX.out] at hf
          rw [HQ.out, HX.out]
          exact ⟨.slice none 0 0, rfl, hf _ ((((five_sets _ _ _ _ _ _ _).mono (fun _ _ e => .inl e)).alloc _).drew)⟩
    · have hx : nb = true := by rw [hnb, tk]; simp
      have HX := Lib.hid hx
      clear hnb hk hx
      go_wp2
      go_region
      all_goals
        go_wp2
        refine bodyPost_ret (v := .tuple #[.int .i64 n, itV (ofItm it) (.slice none 0 0)]) ?_ rfl ?_
        · simp [results, Try.results15, go_sem, itV, ofItm, hlr, y0, y1, y2, y3, y4]
        · have hf := FIN.out
          rw [HX.out] at hf
          rw [HQ.out, HX.out]
          exact ⟨.slice none 0 0, rfl, hf _ ((((five_sets _ _ _ _ _ _ _).mono (fun _ _ e => .inl e)).alloc _).drew)⟩
  · have tk : (it.kind == 0) = false := by simpa using hk
    have hx : nb = false := by rw [hnb, tk]; simp
    have HX := Lib.hid hx
    clear hnb hk hx
    go_wp2
    go_region
    all_goals
      go_wp2
      refine bodyPost_ret (v := .tuple #[.int .i64 n, itV (ofItm it) (.slice none 0 0)]) ?_ rfl ?_
      · simp [results, Try.results15, go_sem, itV, ofItm, hlr, y0, y1, y2, y3, y4]
      · have hf := FIN.out
        rw [HX.out] at hf
        rw [HQ.out, HX.out]
        exact ⟨.slice none 0 0, rfl, hf _ ((((five_sets _ _ _ _ _ _ _).mono (fun _ _ e => .inl e)).alloc _).drew)⟩
end Go.Proofs.Ytnjloldhmjadoaa
