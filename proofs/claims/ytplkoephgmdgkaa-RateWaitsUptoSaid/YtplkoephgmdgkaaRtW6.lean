/- lay at a full table, walked. No condition but what each states. -/
import Derived.Test.YtplkoephgmdgkaaRtW5
namespace Go.Proofs.Ytplkoephgmdgkaa
open Go Go.RowKit Rt Go.Maps
set_option linter.unusedVariables false
attribute [local go_sem] run_fadd run_fsub run_fmul run_fquo store_f64

def goesV : Option Ent → Value
  | none => .string ⟨#[]⟩
  | some g => .string g.key
def leastV : Option Ent → Value
  | none => .int .i64 0
  | some g => .int .i64 (last g : Int)
def LyRel (w0 : World) (m : Nat) (t : Tb) (bk : ByteArray → Option Nat) (now : Nat) (g : Nat) (gv lv fv : Value) (wr : World) : Prop :=
  ∃ left cnt o, cnt ≤ g ∧ KR wr m w0.heap.size bk t.L.length left cnt ∧ Bst t now (fun k => (bk k).isSome && !left k) o ∧ gv = goesV o ∧ lv = leastV o ∧ fv = .bool o.isSome ∧ Chg (fun _ => False) w0 wr
def aft (t : Tb) (k : ByteArray) (now : Nat) : Option Ent → Option Tb
  | none => none
  | some g => some (Tb.put (Tb.cut t g.key) (t.new k now))
theorem laid_full {t : Tb} {k : ByteArray} {now : Nat} {o : Option Ent} (hg : t.get k = none) (hl : ¬ t.L.length < 1024) (hb : best t now = o) : t.laid k now = aft t k now o := by
  unfold Tb.laid
  rw [hg]
  simp only
  rw [if_neg hl, hb]
  cases o <;> rfl
theorem lv_full {x y : Nat} (hx : x ≤ MOST) (hy : y ≤ MOST) : (FloatKind.f64.format.order x y != some .eq) = decide (x ≠ y) := by
  have hm := most_inf
  have h : FloatKind.f64.format.order x y = some (compare (x : Int) (y : Int)) := order_pos (by omega) (by omega)
  rw [h]
  by_cases e : x = y
  · subst e; rw [Int.compare_eq_eq.2 rfl]; simp
  · have : compare (x : Int) (y : Int) ≠ .eq := fun h => e (by have := Int.compare_eq_eq.1 h; omega)
    simp [e, this]
set_option maxHeartbeats 4000000 in
set_option maxRecDepth 100000 in
theorem lay_full (w : World) (tb m : Nat) (t : Tb) (bk : ByteArray → Option Nat) (F : Nat → Prop) (h : TAx tb m t bk F w) (k : ByteArray) (hk : k.size ≤ maxLen) (now : Nat) (hn : now ≤ MAXT) (hg : t.get k = none) (hl : ¬ t.L.length < 1024) :
    Calls Try.prog 49 #[.pointer (some ⟨tb, 0, none⟩), .string k, .int .i64 now] w (LaySays tb m t k F w (t.laid k now)) := by
  obtain ⟨g0, g1, g2, g3, gf⟩ := cells4 h.tab
  have hlook := h.map.look hk
  rw [h.no hg] at hlook
  have hlook' : (Instr.lookup 45 (.map (some m)) (.string k) false).run Try.prog w = .ok (.pointer none) w := hlook
  have hlen := fun ty => h.map.len ty
  have hlt : (1024 : Int) ≤ t.L.length := by omega
  have htl : tb < w.heap.size := lt_of_block h.tab
  obtain ⟨w1, hrange, hkr, hc1, hsz⟩ := h.map.range
  obtain ⟨n, hnl⟩ : ∃ n, n = t.L.length := ⟨_, rfl⟩
  rw [← hnl] at hlt hlen
  have H := Lib.hid h
  have KR1 := Lib.hid hkr
  have C1 := Lib.hid hc1
  have NL := Lib.hid hnl
  have HG := Lib.hid hg
  have HL := Lib.hid hl
  clear h hlook hkr hc1 hnl hg hl
  go_enter Try.func49, Try.ntmps49
  go_wp2
  go_loopg [8, 9, 10] n (LyRel w m t bk now)
  case atStart =>
    refine ⟨_, _, none, Nat.le_of_eq NL.out.symm, KR1.out, fun e _ he => ?_, rfl, rfl, rfl, C1.out⟩
    cases hb : (bk e.key).isSome <;> simp [hb] at he
  case round =>
    obtain ⟨left, cnt, o, hcnt, hkr, hbst, rfl, rfl, rfl, hch⟩ := hrel
    have BST := Lib.hid hbst
    have CH := Lib.hid hch
    have HW := H.out.same hch
    clear hbst hch
    rcases hkr.next 0 with ⟨hdone, hrun⟩ | ⟨k1, b1, w2, cnt2, hl1, hb1, hk1, hrun, hkr2, hlt2, c2, hsz2, hen⟩
    · have hbest := best_is H.out.ok BST.out (fun e he => by
        obtain ⟨b, s, h1, _, _⟩ := H.out.ent e he
        simp [h1, hdone])
      have hld := laid_full HG.out HL.out hbest
      cases o with
      | none =>
        have fin : LaySays tb m t k F w (t.laid k now) (.returned (.pointer none)) wr := by
          rw [hld]; exact ⟨rfl, CH.out⟩
        have FIN := Lib.hid fin
        have hgo : goesV none = .string ⟨#[]⟩ := rfl
        have hle : leastV none = .int .i64 0 := rfl
        rw [hgo, hle]
        clear fin hld hbest hdone hkr HW hgo hle
        go_wp2
        go_ret
        exact FIN.out
      | some g =>
        have hg1 : ∃ e ∈ t.L, e.key = g.key := ⟨g, BST.out.1, rfl⟩
        have hgk : g.key.size ≤ maxLen := (H.out.ok.ents g BST.out.1).key
        have hbg : (bk g.key).isSome = true := by
          obtain ⟨b, s, h1, _, _⟩ := H.out.ent g BST.out.1
          rw [h1]; rfl
        obtain ⟨w3, hdrop, hm3, c3⟩ := hkr.map.drop hgk hbg 0
        have h3 := HW.cut hg1 hm3 c3
        have hlc := filter_len g.key t.L H.out.ok.apart hg1
        have hsz4 := H.out.ok.size
        obtain ⟨w4, hput, h4, c4⟩ := lay_add h3 hk hn (cut_get HG.out) (by show (t.L.filter _).length < 1024; omega)
        obtain ⟨g0', g1', g2', g3', gf'⟩ := cells4 HW.tab
        obtain ⟨q0, q1, q2, q3, qf⟩ := cells4 h3.tab
        have q0 : w3.cell? ⟨tb, 0, none⟩ = some (.float .f64 t.per) := q0
        have q1 : w3.cell? ⟨tb, 1, none⟩ = some (.float .f64 t.burst) := q1
        have htl3 : tb < w3.heap.size := lt_of_block h3.tab
        have hput : (Instr.mapUpdate 45 (.map (some m)) (.string k) (.pointer (some ⟨w3.heap.size, 0, none⟩))).run Try.prog (w3.alloc (.cells #[.float .f64 t.burst, .float .f64 0, .int .i64 now, .int .i64 now] 98)) = .ok () w4 := hput
        have fin : LaySays tb m t k F w (t.laid k now) (.returned (.pointer (some ⟨w3.heap.size, 0, none⟩))) w4 := by
          rw [hld]
          refine ⟨w3.heap.size, _, _, rfl, h4, by simp, ?_, fun i hi => ?_⟩
          · exact ((CH.out.mono (fun _ _ h => h.elim)).trans (c3.mono (fun i _ e => by rw [e]; exact H.out.fm)) (fun _ _ h => h)).trans (c4.mono (fun i _ e => by rw [e]; exact H.out.fm)) (fun _ _ h => h)
          · have e1 := CH.out.size
            have e2 := c3.size
            rcases hi with hi | hi
            · exact .inl hi
            · exact .inr (by omega)
        have FIN := Lib.hid fin
        have hgo : goesV (some g) = .string g.key := rfl
        have hle : leastV (some g) = .int .i64 (last g : Int) := rfl
        rw [hgo, hle]
        clear fin hld hbest hdone hkr HW hgo hle h3 h4 hm3 c3 c4 hlc hsz4 hg1 hgk hbg
        go_wp2
        go_ret
        exact FIN.out
    · have hr0 : w.heap.size < wr.heap.size := hkr.lt
      have ch2 : Chg (fun _ => False) w w2 := CH.out.trans c2 (fun i hi e => by omega)
      have HW2 := H.out.same ch2
      obtain ⟨e, he, hke⟩ := H.out.key k1 b1 hb1
      obtain ⟨b1', s, hb1', hcell, hfs⟩ := HW2.ent e he
      obtain rfl : b1' = b1 := by rw [hke, hb1] at hb1'; injection hb1' with h; exact h.symm
      have heo := H.out.ok.ents e he
      have hbk1 : (bk k1).isSome = true := by rw [hb1]; rfl
      have LV := Lib.hid (fun w' (hs : Sam w2 w') => rt_level w' t H.out.ok e heo s tb b1' m (Chg.obj hs HW2.tab (fun h => h)) (Chg.obj hs hcell (fun h => h)) now hn)
      have tab2 := fun w' (h : Sam w2 w') => (cells4 (Chg.obj h HW2.tab (fun h => h))).2.1
      have tab2 : ∀ w', Sam w2 w' → w'.cell? ⟨tb, 1, none⟩ = some (.float .f64 t.burst) := tab2
      obtain ⟨c0, c1, c2', c3, cf⟩ := cells4 hcell
      have hcmp := lv_full (Nat.le_trans (lvl_le t e now) H.out.ok.burst) H.out.ok.burst
      obtain ⟨q, hq⟩ : ∃ q, q = decide (lvl t e now ≠ t.burst) := ⟨_, rfl⟩
      rw [← hq] at hcmp
      have HQ := Lib.hid hq
      clear hq
      have HC := Lib.hid hcell
      have CH2 := Lib.hid ch2
      have KR2 := Lib.hid hkr2
      have HHE := Lib.hid (And.intro he hke)
      have HLT := Lib.hid hlt2
      have s0 : Sam w2 w2 := Sam.refl w2
      clear hkr HW c2 ch2 HW2 hb1' hcell hfs heo hkr2 he hke hlt2 hb1
      have hseen : ∀ x, ((bk x).isSome && !(left x && !decide (x = k1))) = (((bk x).isSome && !left x) || decide (x = e.key)) := by
        intro x
        rw [HHE.out.2]
        by_cases hx : x = k1
        · subst hx; simp [hbk1]
        · simp [hx]
      have SEEN := Lib.hid hseen
      have hM : MAXT = 253402300799 := rfl
      have hmax : ∀ (z : World) (ts : Array TypeId) (ty : TypeId), (Builtin.max_ ts ty #[.int .i64 (e.since : Int), .int .i64 (e.noted : Int)]).run Try.prog z = .ok (.int .i64 (last e : Int)) z := fun z ts ty => by
        have h1 : ((last e : Nat) : Int) = max (e.since : Int) (e.noted : Int) := by unfold last; omega
        rw [h1]
        simp [Builtin.max_, Builtin.max2]
        omega
      clear hseen hM hbk1
      go_upto_region 9 with (fail)
      as_aux_lemma =>
        go_region_held3 (fun w' => Sam w2 w') (first | assumption | exact Sam.drew (by assumption)) (first
          | (go_at_call 50; refine (LV.out _ (by assumption)).mono ?_; rintro e5 w5 ⟨rfl, ch5⟩; have s5 := Sam.more (w0 := w2) (by assumption) ch5; clear ch5))
        have KR5 := Lib.hid (KR2.out.kept s5 (fun h => h) (fun h => h))
        have CH5 := Lib.hid (CH2.out.trans s5 (fun _ _ h => h))
        obtain ⟨d0, d1, d2, d3, df⟩ := cells4 (Chg.obj s5 HC.out (fun h => h))
        have d2 : w5.cell? ⟨b1', 2, none⟩ = some (.int .i64 (e.since : Int)) := d2
        have d3 : w5.cell? ⟨b1', 3, none⟩ = some (.int .i64 (e.noted : Int)) := d3
        clear s5 tab2 c0 c1 c2' c3 cf s0 d0 d1
        clear hcmp
        cases q
        · have hf : lvl t e now = t.burst := by simpa using HQ.out
          have BB := Lib.hid (BST.out.step H.out.ok HHE.out.1 SEEN.out hf)
          have HF := Lib.hid hf
          clear hf
          go_upto_region 10 with (fail)
          go_big_region
          have K6 := Lib.hid (show KR w5.drew m w.heap.size bk t.L.length _ cnt2 from KR5.out.kept (Chg.drew (Chg.refl (fun _ => False) w5)) (fun h => h) (fun h => h))
          have C6 := Lib.hid (Chg.drew CH5.out)
          generalize w5.drew = w6 at *
          have hke : e.key = k1 := HHE.out.2
          cases o with
          | none =>
            have hgo : goesV none = .string ⟨#[]⟩ := rfl
            have hle : leastV none = .int .i64 0 := rfl
            have his : (none : Option Ent).isSome = false := rfl
            rw [hgo, hle, his]
            have HK := Lib.hid hke
            clear hke hgo hle his
            go_wp2
            go_roundg (gk - 1)
            case measure => have := HLT.out; omega
            case rel => exact ⟨_, cnt2, some e, by have := HLT.out; omega, K6.out, BB.out, by rw [← HK.out]; rfl, rfl, rfl, C6.out⟩
          | some g =>
            have hgo : goesV (some g) = .string g.key := rfl
            have hle : leastV (some g) = .int .i64 (last g : Int) := rfl
            have his : (some g).isSome = true := rfl
            rw [hgo, hle, his]
            have hbe : better (some g) e = if bef e g = true then some e else some g := rfl
            rw [hbe] at BB
            have hbf : bef e g = (decide (last e < last g) || (decide (last e = last g) && Op.bytesLess k1.toList g.key.toList)) := by rw [← hke]; rfl
            have HK := Lib.hid hke
            rcases Nat.lt_trichotomy (last e) (last g) with h1 | h1 | h1
            · have h1' : (last e : Int) < (last g : Int) := by omega
              rw [hbf, decide_eq_true h1, Bool.true_or, if_pos rfl] at BB
              clear hke hgo hle his hbe hbf h1
              go_wp2
              go_roundg (gk - 1)
              case measure => have := HLT.out; omega
              case rel => exact ⟨_, cnt2, some e, by have := HLT.out; omega, K6.out, BB.out, by rw [← HK.out]; rfl, rfl, rfl, C6.out⟩
            · have h1' : ¬ (last e : Int) < (last g : Int) := by omega
              have h2' : ((last e : Int) == (last g : Int)) = true := by rw [h1]; simp
              rw [hbf, decide_eq_false (show ¬ last e < last g by omega), decide_eq_true h1, Bool.false_or, Bool.true_and] at BB
              cases h3 : Op.bytesLess k1.toList g.key.toList
              · rw [h3, if_neg (by simp)] at BB
                clear hke hgo hle his hbe hbf h1
                go_wp2
                go_roundg (gk - 1)
                case measure => have := HLT.out; omega
                case rel => exact ⟨_, cnt2, some g, by have := HLT.out; omega, K6.out, BB.out, rfl, rfl, rfl, C6.out⟩
              · rw [h3, if_pos rfl] at BB
                clear hke hgo hle his hbe hbf h1
                go_wp2
                go_roundg (gk - 1)
                case measure => have := HLT.out; omega
                case rel => exact ⟨_, cnt2, some e, by have := HLT.out; omega, K6.out, BB.out, by rw [← HK.out]; rfl, rfl, rfl, C6.out⟩
            · have h1' : ¬ (last e : Int) < (last g : Int) := by omega
              have h2' : ((last e : Int) == (last g : Int)) = false := by simp; omega
              rw [hbf, decide_eq_false (show ¬ last e < last g by omega), decide_eq_false (show ¬ last e = last g by omega), Bool.false_or, Bool.false_and, if_neg (by simp)] at BB
              clear hke hgo hle his hbe hbf h1
              go_wp2
              go_roundg (gk - 1)
              case measure => have := HLT.out; omega
              case rel => exact ⟨_, cnt2, some g, by have := HLT.out; omega, K6.out, BB.out, rfl, rfl, rfl, C6.out⟩
        · have hf : ¬ lvl t e now = t.burst := by simpa using HQ.out
          have BB := Lib.hid (BST.out.skip H.out.ok HHE.out.1 SEEN.out hf)
          clear hf
          go_wp2
          go_roundg (gk - 1)
          case measure => have := HLT.out; omega
          case rel => exact ⟨_, cnt2, o, by have := HLT.out; omega, KR5.out, BB.out, rfl, rfl, rfl, CH5.out⟩
end Go.Proofs.Ytplkoephgmdgkaa
