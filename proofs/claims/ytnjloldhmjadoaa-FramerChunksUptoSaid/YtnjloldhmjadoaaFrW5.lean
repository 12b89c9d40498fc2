/- The framer's Take of a body and of a chunk. No condition but what each states. -/
import Derived.Test.YtnjloldhmjadoaaFrW4
namespace Go.Proofs.Ytnjloldhmjadoaa
set_option linter.unusedVariables false
open Go Go.RowKit Ln Dt Fr

/-- Behind what came of the bytes: the cells of the framer, its liner (new), the item's bytes. -/
structure Mid (w w2 : World) (F : Nat → Prop) (b lb : Nat) (L : Lim) (x2 : FB) (v : Value) (v' : Value) (bytes : List UInt8) : Prop where
  ok : Lim.ok L
  fb : FBAt w2 b x2
  l1 : x2.l1 = L.text
  l2 : x2.l2 = L.all
  lp : x2.lp = .pointer (some ⟨lb, 0, none⟩)
  ln : LinerAt w2 lb L.line v LS.new
  fB : F b
  fL : F lb
  fV : ∀ k, v.ownBlock = some k → F k
  ne : b ≠ lb
  nv : v.ownBlock ≠ some b
  arr : Arr w2 5 1 v' (bvs bytes)
  new : ∀ k, v'.ownBlock = some k → w.heap.size < k
  chg : Chg F w w2
  ins : Ins w F
  more : w.heap.size < w2.heap.size
theorem Mid.keep {w w2 W5 : World} {F : Nat → Prop} {b lb : Nat} {L : Lim} {x2 : FB} {v v' : Value} {bytes : List UInt8} {m' : FM} (h : Mid w w2 F b lb L x2 v v' bytes) (hm : ModeOK w2 F b lb v x2 LS.new L m') (c : Chg (fun k => k = w.heap.size ∨ w2.heap.size ≤ k) w2 W5) : FTPost w W5 F b L m' v' bytes := by
  have d : Dis F (fun k => k = w.heap.size ∨ w2.heap.size ≤ k) := fun k a e => by
    have := h.ins k a; have := h.more
    rcases e with e | e <;> omega
  refine ⟨h.arr.kept c (fun k hk e => ?_), fun k hk => Nat.le_of_lt (h.new k hk), ⟨F, ⟨h.ok, x2, lb, v, LS.new, h.fb.kept c (d _ h.fB), h.l1, h.l2, h.lp, h.ln.kept c (d _ h.fL) (fun k hk => d _ (h.fV k hk)), LS.ok_new (by omega), h.fB, h.fL, h.fV, h.ne, h.nv, hm.kept c d⟩, ?_, Grow.refl _ _, fun k hk e => ?_⟩, h.chg.trans c (fun i hi e => ?_)⟩
  · have := h.new k hk; have := h.arr.lt k hk
    rcases e with e | e <;> omega
  · intro k a; have := h.ins k a; have := h.more; have := c.size; omega
  · have := h.new k hk; have := h.ins k e; omega
  · have := h.more
    rcases e with e | e <;> omega
theorem Mid.over {w w2 w3 W5 : World} {F : Nat → Prop} {b lb : Nat} {L : Lim} {x2 : FB} {v v' : Value} {bytes : List UInt8} (h : Mid w w2 F b lb L x2 v v' bytes) (o : Obj) (c3 : Chg (· = b) (w2.alloc o) w3)
    (fb : FBAt w3 b { x2 with mode := 1, begun := false, tk := fnV 46 x2.lp, hd := fnV 47 x2.lp }) (c : Chg (· = w.heap.size) w3 W5) : FTPost w W5 F b L FM.new v' bytes := by
  have hbw := h.ins b h.fB
  have c23 : Chg (fun k => k = b ∨ k = w.heap.size) w2 W5 := (((Chg.refl (fun k => k = b ∨ k = w.heap.size) w2).alloc o).trans c3 (fun i _ e => .inl e)).trans c (fun i _ e => .inr e)
  refine ⟨h.arr.kept c23 (fun k hk e => ?_), fun k hk => Nat.le_of_lt (h.new k hk), ⟨F, ⟨h.ok, _, lb, v, LS.new, fb.kept c (fun e => by omega), h.l1, h.l2, h.lp, h.ln.kept c23 (fun e => ?_) (fun k hk e => ?_), LS.ok_new (by omega), h.fB, h.fL, h.fV, h.ne, h.nv, rfl, rfl, rfl, rfl, rfl, fun _ => rfl⟩, ?_, Grow.refl _ _, fun k hk e => ?_⟩, h.chg.trans c23 (fun i hi e => ?_)⟩
  · have := h.new k hk; omega
  · have := h.ins lb h.fL; have := h.ne; omega
  · have := h.ins k (h.fV k hk)
    rcases e with e | e
    · exact h.nv (by rw [hk, e])
    · omega
  · intro k a; have := h.ins k a; have := h.more; have := c23.size; omega
  · have := h.new k hk; have := h.ins k e; omega
  · rcases e with e | e
    · rw [e]; exact h.fB
    · omega

set_option maxHeartbeats 1000000 in
set_option maxRecDepth 100000 in
theorem fr_take_data {w : World} {F : Nat → Prop} {b : Nat} {L : Lim} {r : RS} (h : FR w F b L (.data r)) (hi : Ins w F) (bv : Value) (bs : List UInt8) (hbs : Rd w bv 1 (bvs bs)) (hsep : ∀ k, bv.ownBlock = some k → ¬ F k) (hs : r.d.size + 2 * bs.length ≤ 1099511627775) :
    Calls Try.prog 15 #[.pointer (some ⟨b, 0, none⟩), bv] w (FTakes w F b L (FM.take L (.data r) bs)) := by
  obtain ⟨ok, x, lb, v, ls', h1, h2, h3, h4, h5, h6, h7, h8, h9, h10, h11, m1, rfl, rb, m2, m3, m4, m5, m6, m7, m8⟩ := h
  obtain ⟨c1, c2, c6, c7, c8, c9, c10, c11, c12, f⟩ := h1.facts
  have t1 : (x.mode == 0) = false := by rw [m1]; rfl
  have m2c := m2
  rw [m2] at c7
  unfold fnV at c7
  have hb := hi b h7
  have hlb := hi lb h8
  have hrb := hi rb m5
  have hch0 : ∀ o : Obj, Chg (fun _ => False) w (w.alloc o) := fun o => (Chg.refl _ w).alloc o
  have HT := Lib.hid (fun o : Obj => dots_takes (w.alloc o) rb L.text L.all r (m4.kept (hch0 o) (fun h => h)) bv bs (hbs.kept (hch0 o) (fun _ _ _ h => h)) (fun k hk e => hsep k hk (e ▸ m5)) hs ok.t2)
  clear hbs hsep hch0 c1 c2 c8 c9 c10 c11 c12 m2
  go_enter Try.func15, Try.ntmps15
  go_wp2_with fail
  refine (HT.out _).mono ?_
  rintro e w2 ⟨v', rfl, g0, g1, g2, g3⟩
  have hr5 : w2.heap[w.heap.size]? = some (.cells itm5 35 (0, 0)) := g3.obj (heap_alloc_at _ _) (fun e => by omega)
  obtain ⟨a2, n2, p2, rfl, _⟩ := g1.shape
  obtain ⟨it, hit⟩ : ∃ it, it = (RS.take L.text L.all r bs).2.1 := ⟨_, rfl⟩
  obtain ⟨n, hn⟩ : ∃ n, n = (RS.take L.text L.all r bs).1 := ⟨_, rfl⟩
  have hmid : Mid w w2 F b lb L x v (.slice a2 n2 p2) it.bytes := ⟨ok, g3.obj (heap_alloc_lt _ _ h1) (fun e => m6 e.symm), h2, h3, h4, h5.kept (((Chg.refl (· = rb) w).alloc _).trans g3 (fun _ _ e => e)) (fun e => m7 e.symm) (fun k hk e => m8 (by rw [hk]; exact congrArg some e)), h7, h8, h9, h10, h11, by rw [hit]; exact g1, fun k hk => by have := g2 k hk; simp at this; omega, ((Chg.refl F w).alloc _).trans g3 (fun i _ e => by have e2 : i = rb := e; rw [e2]; exact m5), hi, lt_of_block hr5⟩
  obtain ⟨d1, d2, d6, d7, d8, d9, d10, d11, d12, df⟩ := hmid.fb.facts
  obtain ⟨y0, y1, y2, y3, y4, yf⟩ := cells5 hr5
  have hlr := lt_of_block hr5
  have hb2 := lt_of_block hmid.fb
  have HMID := Lib.hid hmid
  have HR5 := Lib.hid hr5
  have HQ : Hid (FM.take L (.data r) bs = (n, it, if it.kind = 4 then FM.new else (.data (RS.take L.text L.all r bs).2.2))) := Lib.hid (by rw [hn, hit]; rfl)
  have HMO := Lib.hid (show ModeOK w2 F b lb v x LS.new L (.data (RS.take L.text L.all r bs).2.2) from ⟨m1, rfl, rb, m2c, m3, g0, m5, m6, m7, m8⟩)
  rw [m1] at d6
  rw [← hit, ← hn]
  clear g1 g2 g3 g0 m5 m6 m7 m8 m2c hs hrb hr5 hmid h1 h2 h3 h4 h5 h9 h11 m1 m3 m4 ok hi hit hn d1 d2 d9 d11 d12 c6 c7 f
  unfold itV
  by_cases hk : it.kind = 4
  · have tk : (it.kind == 4) = true := by simpa using hk
    have HK := Lib.hid hk
    clear hk
    go_wp2_with fail
    have hfb3 : FBAt (w2.alloc (.cells #[.int .i64 it.kind, .string ⟨it.text.toArray⟩, .slice a2 n2 p2, .int .i64 it.why, .bool it.high] 35)) b _ := HMID.out.fb.kept ((Chg.refl (fun _ => False) w2).alloc _) (fun h => h)
    refine (fr_lines _ b _ hfb3).mono ?_
    rintro e w3 ⟨rfl, k3, c3⟩
    have bx := c3.obj (heap_alloc_at _ _) (fun e => by have e' : w2.heap.size = b := e; omega)
    have br := c3.obj (heap_alloc_lt _ _ HR5.out) (fun e => by have e' : w.heap.size = b := e; omega)
    obtain ⟨z0, z1, z2, z3, z4, zf⟩ := cells5 bx
    obtain ⟨u0, u1, u2, u3, u4, uf⟩ := cells5 br
    have K3 := Lib.hid k3
    have C3 := Lib.hid c3
    clear hfb3 k3 c3 bx br d6 d7 d8 d10 df y0 y1 y2 y3 y4 yf
    have nRb : ¬ w.heap.size = w2.heap.size := by omega
    go_wp2
    go_region
    all_goals
      go_wp2
      refine bodyPost_ret (v := .tuple #[.int .i64 n, itV it (.slice a2 n2 p2)]) ?_ rfl ?_
      · simp [results, Try.results15, go_sem, itV, u0, u1, u2, u3, u4]
      · rw [HQ.out, if_pos HK.out]
        exact ⟨_, rfl, HMID.out.over _ C3.out K3.out ((five_sets _ _ _ _ _ _ _).drew)⟩
  · have tk : (it.kind == 4) = false := by simpa using hk
    have HK := Lib.hid hk
    clear hk
    go_wp2
    go_region
    all_goals
      go_wp2
      refine bodyPost_ret (v := .tuple #[.int .i64 n, itV it (.slice a2 n2 p2)]) ?_ rfl ?_
      · simp [results, Try.results15, go_sem, itV, hlr, y0, y1, y2, y3, y4]
      · rw [HQ.out, if_neg HK.out]
        exact ⟨_, rfl, HMID.out.keep HMO.out ((((five_sets _ _ _ _ _ _ _).mono (fun _ _ e => .inl e)).alloc _).drew)⟩

theorem chunk_eq (L : Lim) (left room : Nat) (bs : List UInt8) : FM.take L (.chunk left room) bs = (minN bs.length left, octIt bs (minN bs.length left) (minN (minN bs.length left) room) left, if (octIt bs (minN bs.length left) (minN (minN bs.length left) room) left).kind = 4 then FM.new else .chunk (left - minN bs.length left) (room - minN (minN bs.length left) room)) := by
  unfold FM.take octIt minN
  simp only
  split
  · simp [It.body]
  · split
    · simp
    · simp [It.none]

set_option maxHeartbeats 1000000 in
set_option maxRecDepth 100000 in
theorem fr_take_chunk {w : World} {F : Nat → Prop} {b : Nat} {L : Lim} {left room : Nat} (h : FR w F b L (.chunk left room)) (hi : Ins w F) (bv : Value) (bs : List UInt8) (hbs : Rd w bv 1 (bvs bs)) (hsep : ∀ k, bv.ownBlock = some k → ¬ F k) (hs : bs.length ≤ 1099511627776) :
    Calls Try.prog 15 #[.pointer (some ⟨b, 0, none⟩), bv] w (FTakes w F b L (FM.take L (.chunk left room) bs)) := by
  obtain ⟨ok, x, lb, v, ls', h1, h2, h3, h4, h5, h6, h7, h8, h9, h10, h11, m1, rfl, m2, m3, m4, m5, m6, m7⟩ := h
  obtain ⟨c1, c2, c6, c7, c8, c9, c10, c11, c12, f⟩ := h1.facts
  have t1 : (x.mode == 0) = false := by rw [m1]; rfl
  have m2c := m2
  rw [m2] at c7
  unfold fnV at c7
  have hb := hi b h7
  have hlb := hi lb h8
  have hch0 : ∀ o : Obj, Chg (fun _ => False) w (w.alloc o) := fun o => (Chg.refl _ w).alloc o
  have HT := Lib.hid (fun o : Obj => fr_octets (w.alloc o) b x (h1.kept (hch0 o) (fun h => h)) left room m4 m5 m6 m7 bv bs (hbs.kept (hch0 o) (fun _ _ _ h => h)) (fun k hk e => hsep k hk (e ▸ h7)) hs _ _ rfl rfl)
  clear hbs hsep hch0 c1 c2 c8 c9 c10 c11 c12 m2
  go_enter Try.func15, Try.ntmps15
  go_wp2_with fail
  refine (HT.out _).mono ?_
  rintro e w2 ⟨v', rfl, g0, g1, g2, g3⟩
  have hr5 : w2.heap[w.heap.size]? = some (.cells itm5 35 (0, 0)) := g3.obj (heap_alloc_at _ _) (fun e => by omega)
  obtain ⟨a2, n2, p2, rfl, _⟩ := g1.shape
  obtain ⟨it, hit⟩ : ∃ it, it = octIt bs (minN bs.length left) (minN (minN bs.length left) room) left := ⟨_, rfl⟩
  obtain ⟨n, hn⟩ : ∃ n, n = minN bs.length left := ⟨_, rfl⟩
  have hmid : Mid w w2 F b lb L { x with left := (left - minN bs.length left : Nat), room := (room - minN (minN bs.length left) room : Nat) } v (.slice a2 n2 p2) it.bytes := ⟨ok, g0, h2, h3, h4, h5.kept (((Chg.refl (· = b) w).alloc _).trans g3 (fun _ _ e => e)) (fun e => h10 e.symm) (fun k hk e => h11 (by rw [hk]; exact congrArg some e)), h7, h8, h9, h10, h11, by rw [hit]; exact g1, fun k hk => by have := g2 k hk; simp at this; omega, ((Chg.refl F w).alloc _).trans g3 (fun i _ e => by have e2 : i = b := e; rw [e2]; exact h7), hi, lt_of_block hr5⟩
  obtain ⟨d1, d2, d6, d7, d8, d9, d10, d11, d12, df⟩ := hmid.fb.facts
  obtain ⟨y0, y1, y2, y3, y4, yf⟩ := cells5 hr5
  have hlr := lt_of_block hr5
  have hb2 := lt_of_block hmid.fb
  have HMID := Lib.hid hmid
  have HR5 := Lib.hid hr5
  have HQ : Hid (FM.take L (.chunk left room) bs = (n, it, if it.kind = 4 then FM.new else (.chunk (left - minN bs.length left) (room - minN (minN bs.length left) room)))) := Lib.hid (by rw [hn, hit]; exact chunk_eq L left room bs)
  have HMO := Lib.hid (show ModeOK w2 F b lb v { x with left := (left - minN bs.length left : Nat), room := (room - minN (minN bs.length left) room : Nat) } LS.new L (.chunk (left - minN bs.length left) (room - minN (minN bs.length left) room)) from ⟨m1, rfl, m2c, m3, rfl, rfl, by omega, by omega⟩)
  rw [m1] at d6
  rw [← hit, ← hn]
  clear g1 g2 g3 g0 m5 m6 m7 m2c hs hr5 hmid h1 h2 h3 h4 h5 h9 h11 m1 m3 m4 ok hi hit hn d1 d2 d9 d11 d12 c6 c7 f
  unfold itV
  by_cases hk : it.kind = 4
  · have tk : (it.kind == 4) = true := by simpa using hk
    have HK := Lib.hid hk
    clear hk
    go_wp2_with fail
    have hfb3 : FBAt (w2.alloc (.cells #[.int .i64 it.kind, .string ⟨it.text.toArray⟩, .slice a2 n2 p2, .int .i64 it.why, .bool it.high] 35)) b _ := HMID.out.fb.kept ((Chg.refl (fun _ => False) w2).alloc _) (fun h => h)
    refine (fr_lines _ b _ hfb3).mono ?_
    rintro e w3 ⟨rfl, k3, c3⟩
    have bx := c3.obj (heap_alloc_at _ _) (fun e => by have e' : w2.heap.size = b := e; omega)
    have br := c3.obj (heap_alloc_lt _ _ HR5.out) (fun e => by have e' : w.heap.size = b := e; omega)
    obtain ⟨z0, z1, z2, z3, z4, zf⟩ := cells5 bx
    obtain ⟨u0, u1, u2, u3, u4, uf⟩ := cells5 br
    have K3 := Lib.hid k3
    have C3 := Lib.hid c3
    clear hfb3 k3 c3 bx br d6 d7 d8 d10 df y0 y1 y2 y3 y4 yf
    have nRb : ¬ w.heap.size = w2.heap.size := by omega
    go_wp2
    go_region
    all_goals
      go_wp2
      refine bodyPost_ret (v := .tuple #[.int .i64 n, itV it (.slice a2 n2 p2)]) ?_ rfl ?_
      · simp [results, Try.results15, go_sem, itV, u0, u1, u2, u3, u4]
      · rw [HQ.out, if_pos HK.out]
        exact ⟨_, rfl, HMID.out.over _ C3.out K3.out ((five_sets _ _ _ _ _ _ _).drew)⟩
  · have tk : (it.kind == 4) = false := by simpa using hk
    have HK := Lib.hid hk
    clear hk
    go_wp2
    go_region
    all_goals
      go_wp2
      refine bodyPost_ret (v := .tuple #[.int .i64 n, itV it (.slice a2 n2 p2)]) ?_ rfl ?_
      · simp [results, Try.results15, go_sem, itV, hlr, y0, y1, y2, y3, y4]
      · rw [HQ.out, if_neg HK.out]
        exact ⟨_, rfl, HMID.out.keep HMO.out ((((five_sets _ _ _ _ _ _ _).mono (fun _ _ e => .inl e)).alloc _).drew)⟩

/-- Take, whatever is under way. -/
theorem fr_Take {w : World} {F : Nat → Prop} {b : Nat} {L : Lim} {m : FM} (h : FR w F b L m) (hi : Ins w F) (bv : Value) (bs : List UInt8) (hbs : Rd w bv 1 (bvs bs)) (hsep : ∀ k, bv.ownBlock = some k → ¬ F k) (hs : msize m + 2 * bs.length ≤ 1099511627775) :
    Calls Try.prog 15 #[.pointer (some ⟨b, 0, none⟩), bv] w (FTakes w F b L (FM.take L m bs)) := by
  cases m with
  | lines ls bg => exact fr_take_lines h hi bv bs hbs hsep
  | data r => exact fr_take_data h hi bv bs hbs hsep hs
  | chunk left room => exact fr_take_chunk h hi bv bs hbs hsep (by simp only [msize] at hs; omega)
end Go.Proofs.Ytnjloldhmjadoaa
