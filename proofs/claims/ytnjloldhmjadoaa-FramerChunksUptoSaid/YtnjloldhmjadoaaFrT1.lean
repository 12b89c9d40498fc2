/- The law FramerWaits, what it wants beside the walk: its argument opened; two framers; what is under way. No condition but what each states. -/
import Derived.Test.YtnjloldhmjadoaaFrA1
import Derived.Test.YtnjloldhmjadoaaArgs2
import Derived.ChangeMaps5
import Derived.Laws.IdiomStrings
namespace Go.Proofs.Ytnjloldhmjadoaa
set_option linter.unusedVariables false
open Go Go.RowKit Ln Dt Fr Go.ChangeShapes Go.WideShapes Go.ChangeAt

theorem Try.cellsWait : Try.prog.cellsOf 73 = 5 := by kernel_rfl
theorem str_of (s : ByteArray) : ∃ l : List UInt8, s = ⟨l.toArray⟩ ∧ s.data.toList = l := ⟨s.data.toList, rfl, rfl⟩
theorem arg_wait {H : Type} {enc : TypeId × Value → H} {W : World} {v : Value} {d : DataW H} {p : List MemPlace} (ok : ∃ base, Value.okWide Try.prog W .any base 73 v) (h : DataW.Trod enc Try.prog W 0 (fun _ => true) true 73 v d p) :
    ∃ (s : List UInt8) (mode n room : Int) (ao : Option Addr) (cap : Nat) (l : List UInt8), v = .agg #[.string ⟨s.toArray⟩, .int .i64 mode, .int .i64 n, .int .i64 room, .slice ao l.length cap] ∧ Rd W (.slice ao l.length cap) 1 (bvs l) ∧ n ≤ 9223372036854775807 ∧ room ≤ 9223372036854775807 ∧ s.length + l.length ≤ Rows.uptoBulk d := by
  obtain ⟨base, ok⟩ := ok
  obtain ⟨cs, rfl, hcs⟩ := okWide_struct Try.underlying73 ok
  obtain ⟨m, hm⟩ := h
  simp only [Value.cells] at hm
  obtain ⟨xs, n', _, hxy, hlen, hxl, hf⟩ := DataW.trod_struct Try.underlying73 hm
  rw [Try.cellsWait] at hlen
  match xs, hxl, hcl : cs.toList, hlen with
  | [y0, y1, y2, y3, y4], _, [v0, v1, v2, v3, v4], _ =>
    rw [hcl] at hf
    have g0 := hf 0 _ rfl
    have g1 := hf 1 _ rfl
    have g2 := hf 2 _ rfl
    have g3 := hf 3 _ rfl
    have g4 := hf 4 _ rfl
    have cb : Try.prog.cellsOf 24 = 1 := by kernel_rfl
    have cstr : Try.prog.cellsOf 9 = 1 := by kernel_rfl
    have ci : Try.prog.cellsOf 3 = 1 := by kernel_rfl
    have ci6 : Try.prog.cellsOf 2 = 1 := by kernel_rfl
    simp [cb, cstr, ci, ci6] at g0 g1 g2 g3 g4
    obtain ⟨s, e0, q0, hs⟩ := DataW.trod_string Try.underlying9 g0
    obtain ⟨z1, e1, q1, w1⟩ := DataW.trod_int Try.underlying3 g1
    obtain ⟨z2, e2, q2, w2⟩ := DataW.trod_int Try.underlying2 g2
    obtain ⟨z3, e3, q3, w3⟩ := DataW.trod_int Try.underlying2 g3
    obtain ⟨ao, n1, cap1, zs, e4, hrd, hw, hb⟩ := arg_ints_at Try.underlying24 Try.underlying5 Try.cellsByte g4
    obtain ⟨bl, e, hl⟩ := bytes_of zs hw
    rw [e] at hrd
    simp at e0 e1 e2 e3 e4
    have hn := hrd.len
    subst hn
    refine ⟨s.data.toList, z1, z2, z3, ao, cap1, bl, ?_, hrd, (i64_bounds w2).2, (i64_bounds w3).2, ?_⟩
    · have ec : cs = #[v0, v1, v2, v3, v4] := by
        rw [← Array.toArray_toList (xs := cs), hcl]
      rw [ec, e0, e1, e2, e3, e4]
    · simp at hxy
      rw [hxy.1]
      simp only [Rows.uptoBulk, Rows.uptoBulkAll]
      rw [q0]
      simp only [Rows.uptoBulk]
      clear hs g0 g1 g2 g3 g4 w1 w2 w3 hf hcs hw hrd hcl
      generalize Rows.uptoBulk y4.1 = u at *
      generalize Rows.uptoBulk y1.1 = u1 at *
      generalize Rows.uptoBulk y2.1 = u2 at *
      generalize Rows.uptoBulk y3.1 = u3 at *
      generalize s.data.toList.length = u0 at *
      omega

/-- '[]byte(s)' of a string. -/
theorem run_str_bytes {P : Program} (w : World) (src dst e : TypeId) (l : List UInt8) (hl : l.length ≤ maxLen) (hs : P.underlying src = some .string) (hd : P.underlying dst = some (.slice e)) (he : P.underlying e = some (.int .u8)) :
    ∃ (cap : Nat) (o : Obj), (convert src dst (.string ⟨l.toArray⟩)).run P w = .ok (.slice (some ⟨w.heap.size, 0, none⟩) l.length cap) (w.drew.alloc o) ∧ Rd (w.drew.alloc o) (.slice (some ⟨w.heap.size, 0, none⟩) l.length cap) 1 (bvs l) := by
  refine ⟨_, _, run_bytes_of_string w src dst e _ hs hd he, ?_⟩
  have hge := grownCap_ge w l.length 0 e
  have hle := grownCap_le_maxLen w l.length 0 e hl
  refine ⟨_, _, _, rfl, by rw [bvs_length, Nat.mul_one], hge, hle, (fun h => by cases h), ?_⟩
  intro a ha hx
  injection ha with ha; subst ha
  refine ⟨rfl, fun i hi => ?_⟩
  rw [bvs_length] at hi
  have := heap_alloc_at w.drew (.cells (bytesRow ⟨l.toArray⟩ (grownCap w l.length 0 e)) e ((bytesRow ⟨l.toArray⟩ (grownCap w l.length 0 e)).size, (bytesRow ⟨l.toArray⟩ (grownCap w l.length 0 e)).size + 1))
  have h2 := cell_of_blk this i
  show World.cell? _ ⟨w.heap.size, 0 + i, none⟩ = _
  rw [Nat.zero_add]
  refine h2.trans ?_
  rw [bytesRow_at _ _ _ (by simpa using hi)]
  simp [bvs]

/-- Two framers apart, and apart from X. -/
structure FTwo (w : World) (X : Nat → Prop) (p q : Nat) (L : Lim) (m m' : FM) : Prop where
  is : ∃ F G, FR w F p L m ∧ FR w G q L m' ∧ Ins w F ∧ Ins w G ∧ Dis F G ∧ Dis F X ∧ Dis G X
  ins : Ins w X
theorem FTwo.swap {w : World} {X : Nat → Prop} {p q : Nat} {L : Lim} {m m' : FM} (h : FTwo w X p q L m m') : FTwo w X q p L m' m := by
  obtain ⟨⟨F, G, h1, h2, h3, h4, h5, h6, h7⟩, h8⟩ := h
  exact ⟨⟨G, F, h2, h1, h4, h3, h5.symm, h7, h6⟩, h8⟩
theorem FTwo.kept {w w' : World} {X : Nat → Prop} {p q : Nat} {L : Lim} {m m' : FM} (h : FTwo w X p q L m m') (c : Chg X w w') : FTwo w' X p q L m m' := by
  obtain ⟨⟨F, G, h1, h2, h3, h4, h5, h6, h7⟩, h8⟩ := h
  exact ⟨⟨F, G, h1.kept c h6, h2.kept c h7, h3.of c, h4.of c, h5, h6, h7⟩, h8.of c⟩
/-- New blocks, not theirs. -/
theorem FTwo.more {w w' : World} {X Y : Nat → Prop} {p q : Nat} {L : Lim} {m m' : FM} (h : FTwo w X p q L m m') (c : Chg X w w') (hy : ∀ k, Y k → w.heap.size ≤ k ∧ k < w'.heap.size) : FTwo w' (fun k => X k ∨ Y k) p q L m m' := by
  obtain ⟨⟨F, G, h1, h2, h3, h4, h5, h6, h7⟩, h8⟩ := h
  refine ⟨⟨F, G, h1.kept c h6, h2.kept c h7, h3.of c, h4.of c, h5, fun k a b => ?_, fun k a b => ?_⟩, fun k b => ?_⟩
  · rcases b with b | b
    · exact h6 k a b
    · have := h3 k a; have := hy k b; omega
  · rcases b with b | b
    · exact h7 k a b
    · have := h4 k a; have := hy k b; omega
  · rcases b with b | b
    · exact h8.of c k b
    · exact (hy k b).2
/-- One call on the first. -/
theorem FTwo.step {w : World} {X : Nat → Prop} {p q : Nat} {L : Lim} {m m' : FM} (h : FTwo w X p q L m m') : ∃ F, FR w F p L m ∧ Ins w F ∧ Dis F X ∧
    ∀ (w' : World) (m2 : FM) (F' : Nat → Prop), FR w' F' p L m2 → Ins w' F' → Grow w F F' → Chg F w w' → FTwo w' X p q L m2 m' ∧ Chg (fun k => ¬ X k) w w' := by
  obtain ⟨⟨F, G, h1, h2, h3, h4, h5, h6, h7⟩, h8⟩ := h
  refine ⟨F, h1, h3, h6, fun w' m2 F' g1 g2 g3 g4 => ⟨⟨⟨F', G, g1, h2.kept g4 h5.symm, g2, h4.of g4, h5.grow g3 h4, h6.grow g3 h8, h7⟩, h8.of g4⟩, g4.mono (fun i _ e x => h6 i e x)⟩⟩
theorem two_mode {w : World} {X : Nat → Prop} {p q : Nat} {L : Lim} {m m' : FM} (h : FTwo w X p q L m m') :
    Calls Try.prog 17 #[.pointer (some ⟨p, 0, none⟩)] w fun r w' => r = .returned (.int .i64 m.mode) ∧ w = w' := by
  obtain ⟨F, h1, _⟩ := h.step; exact fr_Mode h1
theorem two_held {w : World} {X : Nat → Prop} {p q : Nat} {L : Lim} {m m' : FM} (h : FTwo w X p q L m m') :
    Calls Try.prog 28 #[.pointer (some ⟨p, 0, none⟩)] w fun r w' => r = .returned (.int .i64 m.held) ∧ w = w' := by
  obtain ⟨F, h1, _⟩ := h.step; exact fr_Held h1
theorem two_data {w : World} {X : Nat → Prop} {p q : Nat} {L : Lim} {m m' : FM} (h : FTwo w X p q L m m') :
    Calls Try.prog 12 #[.pointer (some ⟨p, 0, none⟩)] w fun r w' => r = .returned (.int .i64 m.data?.1) ∧ FTwo w' X p q L m.data?.2 m' ∧ Chg (fun k => ¬ X k) w w' := by
  obtain ⟨F, h1, h2, h3, h4⟩ := h.step
  refine (fr_Data h1 h2).mono ?_
  rintro e w' ⟨rfl, F', g1, g2, g3, g4⟩
  exact ⟨rfl, h4 w' _ F' g1 g2 g3 g4⟩
theorem two_chunk {w : World} {X : Nat → Prop} {p q : Nat} {L : Lim} {m m' : FM} (h : FTwo w X p q L m m') (n r : Int) (hn : n ≤ 9223372036854775807) (hr : r ≤ 9223372036854775807) :
    Calls Try.prog 27 #[.pointer (some ⟨p, 0, none⟩), .int .i64 n, .int .i64 r] w fun e w' => e = .returned (.int .i64 (m.chunk? n r).1) ∧ FTwo w' X p q L (m.chunk? n r).2 m' ∧ Chg (fun k => ¬ X k) w w' := by
  obtain ⟨F, h1, h2, h3, h4⟩ := h.step
  refine (fr_Chunk h1 h2 n r hn hr).mono ?_
  rintro e w' ⟨rfl, F', g1, g2, g3, g4⟩
  exact ⟨rfl, h4 w' _ F' g1 g2 g3 g4⟩
theorem two_take {w : World} {X : Nat → Prop} {p q : Nat} {L : Lim} {m m' : FM} (h : FTwo w X p q L m m') (bv : Value) (bs : List UInt8) (hbs : Rd w bv 1 (bvs bs)) (hsep : ∀ k, bv.ownBlock = some k → X k) (hs : msize m + 2 * bs.length ≤ 1099511627775) :
    Calls Try.prog 15 #[.pointer (some ⟨p, 0, none⟩), bv] w fun e w' => ∃ v', e = .returned (.tuple #[.int .i64 (FM.take L m bs).1, itV (FM.take L m bs).2.1 v']) ∧ FTwo w' (fun k => X k ∨ some k = v'.ownBlock) p q L (FM.take L m bs).2.2 m' ∧ Arr w' 5 1 v' (bvs (FM.take L m bs).2.1.bytes) ∧ (∀ k, v'.ownBlock = some k → w.heap.size ≤ k) ∧ Chg (fun k => ¬ X k) w w' := by
  obtain ⟨⟨F, G, h1, h2, h3, h4, h5, h6, h7⟩, h8⟩ := h
  refine (fr_Take h1 h3 bv bs hbs (fun k hk e => h6 k e (hsep k hk)) hs).mono ?_
  rintro e w' ⟨v', rfl, g1, g2, ⟨F', g3, g4, g5, g6⟩, g7⟩
  refine ⟨v', rfl, ⟨⟨F', G, g3, h2.kept g7 h5.symm, g4, h4.of g7, h5.grow g5 h4, ?_, ?_⟩, ?_⟩, g1, g2, g7.mono (fun i _ e x => h6 i e x)⟩
  · rintro k a (b | b)
    · exact (h6.grow g5 h8) k a b
    · exact g6 k b.symm a
  · rintro k a (b | b)
    · exact h7 k a b
    · have := g2 k b.symm; have := h4 k a; omega
  · rintro k (b | b)
    · exact h8.of g7 k b
    · exact g1.lt k b.symm

theorem take_plain (most : Int) : ∀ (p : List UInt8) (s : LS), s.cr = false → (∀ c ∈ p, pf c = true) → (Ln.take most s p).2.1.kind = 0 ∧ (Ln.take most s p).1 = p.length
  | [], s, _, _ => by simp [Ln.take, Itm.none]
  | c :: r, s, hs, h => by
    have hc := h c (by simp)
    have h13 : c ≠ 13 := by rintro rfl; simp [pf] at hc
    have he : s.ends c = false := by unfold LS.ends; rw [hs]; rfl
    have hcr : (s.next most c).cr = false := by
      simp only [LS.next, LS.spoil]
      repeat' split
      all_goals simp [h13]
    obtain ⟨i1, i2⟩ := take_plain most r _ hcr (fun x hx => h x (by simp [hx]))
    unfold Ln.take
    rw [he]
    simp only [Bool.false_eq_true, if_false]
    exact ⟨i1, by rw [i2]; rfl⟩
def begP (s : List UInt8) : List UInt8 := plainL s 512 ++ [120]
theorem begP_len (s : List UInt8) : (begP s).length ≤ 513 := by
  unfold begP plainL; simp; omega
/-- What is under way behind the first call. -/
def begM (mode : Int) (s : List UInt8) : FM := if mode = 1 then .data RS.new else if mode = 2 then .chunk 1099511627776 3 else (FM.take ⟨1024, 9, 9⟩ FM.new (begP s)).2.2
theorem begM_busy (mode : Int) (s : List UInt8) : (begM mode s).data? = (6, begM mode s) ∧ (∀ n r : Int, (begM mode s).chunk? n r = (if n < 0 ∨ r < 0 then 2 else 6, begM mode s)) ∧ msize (begM mode s) = 0 := by
  have key : ∀ m : FM, m.begun = true → m.data? = (6, m) ∧ ∀ n r : Int, m.chunk? n r = (if n < 0 ∨ r < 0 then 2 else 6, m) := by
    intro m hm
    cases m with
    | lines ls b =>
      have : b = true := hm
      subst this
      exact ⟨rfl, fun n r => by show (if n < 0 ∨ r < 0 then (2, _) else (6, _)) = _; split <;> rfl⟩
    | data r => exact ⟨rfl, fun n r => by show (if n < 0 ∨ r < 0 then (2, _) else (6, _)) = _; split <;> rfl⟩
    | chunk a b => exact ⟨rfl, fun n r => by show (if n < 0 ∨ r < 0 then (2, _) else (6, _)) = _; split <;> rfl⟩
  have hb : (begM mode s).begun = true ∧ msize (begM mode s) = 0 := by
    unfold begM
    split
    · exact ⟨rfl, rfl⟩
    · split
      · exact ⟨rfl, rfl⟩
      · have h1 := take_plain ((1024 : Nat) : Int) (begP s) LS.new rfl (by
          intro c hc
          unfold begP plainL at hc
          rcases List.mem_append.1 hc with h | h
          · exact (List.mem_filter.1 (List.mem_of_mem_take h)).2
          · simp at h; subst h; rfl)
        have h2 : 0 < (begP s).length := by unfold begP; simp
        refine ⟨?_, rfl⟩
        simp only [FM.take, FM.new, FM.begun]
        rw [h1.1, h1.2]
        simp [h2]
  exact ⟨(key _ hb.1).1, (key _ hb.1).2, hb.2⟩
end Go.Proofs.Ytnjloldhmjadoaa
