/- RateBetween walked. Conditions as stated. -/
import Derived.Test.YtplkoephgmdgkaaRtLd
import Derived.Test.YtplkoephgmdgkaaRtL1
namespace Go.Proofs.Ytplkoephgmdgkaa
open Go Go.RowKit Rt
set_option linter.unusedVariables false
attribute [local go_sem] run_fadd run_fsub run_fmul run_fquo store_f64
theorem Rt.BtI.nums {m : Mn} {l g : Nat} (h : BtI m l g) : l < 2 ^ 64 ∧ g < 2 ^ 64 ∧ isN l = false ∧ isN g = false := by
  rcases h with ⟨_, rfl, rfl⟩ | ⟨_, a, s, _, _, _, bl, bg, _⟩
  · exact ⟨by decide, by decide, by decide, by decide⟩
  · exact ⟨bl.1.1, bg.1.1, num_of bl.1, num_of bg.1⟩
theorem bnd_iff {x : Nat} (hx : x < 2 ^ 64) : (FloatKind.f64.format.order (x % 2 ^ 63) P400 == some .lt || FloatKind.f64.format.order (x % 2 ^ 63) P400 == some .eq) = true ↔ Bnd x := by
  have hp := p400_inf
  have hi := inf_lt
  have h := le_iff (x := x % 2 ^ 63) (a := P400) (by omega) hp
  have hk : key (x % 2 ^ 63) = ((x % 2 ^ 63 : Nat) : Int) := by unfold key; rw [if_pos (by omega), Nat.mod_mod]
  have ka := key_abs (z := x)
  constructor
  · intro g
    have h2 := h.1 g
    rw [hk] at h2
    have h3 := h2.2
    exact ⟨⟨hx, by omega⟩, by omega, by omega⟩
  · intro g
    refine h.2 ⟨?_, ?_⟩
    · rw [Bool.eq_false_iff]; intro e
      have := (isN_iff _).1 e
      have := g.1.2
      omega
    · rw [hk]
      have := g.2.1
      have := g.2.2
      omega
theorem gef {x y : Nat} (hx : x < 2 ^ 64) (hy : y < 2 ^ 64) (nx : isN x = false) (ny : isN y = false) (h : key y ≤ key x) : (FloatKind.f64.format.order x y == some .gt || FloatKind.f64.format.order x y == some .eq) = true := by
  have h' : FloatKind.f64.format.order x y = some (compare (key x) (key y)) := order_key hx hy nx ny
  rw [h']
  rcases Int.lt_or_eq_of_le h with g | g
  · rw [Int.compare_eq_gt.2 g]; rfl
  · rw [Int.compare_eq_eq.2 g.symm]; rfl
theorem lef {x y : Nat} (hx : x < 2 ^ 64) (hy : y < 2 ^ 64) (nx : isN x = false) (ny : isN y = false) (h : key x ≤ key y) : (FloatKind.f64.format.order x y == some .lt || FloatKind.f64.format.order x y == some .eq) = true := by
  have h' : FloatKind.f64.format.order x y = some (compare (key x) (key y)) := order_key hx hy nx ny
  rw [h']
  rcases Int.lt_or_eq_of_le h with g | g
  · rw [Int.compare_eq_lt.2 g]; rfl
  · rw [Int.compare_eq_eq.2 g]; rfl
theorem eqf {x y : Nat} (hx : x < 2 ^ 64) (hy : y < 2 ^ 64) (nx : isN x = false) (ny : isN y = false) : (FloatKind.f64.format.order x y == some .eq) = decide (key x = key y) := eq_iff hx hy nx ny
theorem nef {x y : Nat} (hx : x < 2 ^ 64) (hy : y < 2 ^ 64) (nx : isN x = false) (ny : isN y = false) (h : key x = key y) : (FloatKind.f64.format.order x y != some .eq) = false := by
  have := eqf hx hy nx ny
  rw [decide_eq_true h] at this
  simp only [bne, this, Bool.not_true]
def BwRel (w0 : World) (l : List Nat) (mb : Nat) (g : Nat) (lv gv cv iv : Value) (wr : World) : Prop :=
  ∃ (j : Nat) (m : Mn) (lo hi : Nat), j + g = l.length ∧ iv = .int .i64 j ∧ cv = .int .i64 m.n ∧ m.n ≤ j ∧ lv = .float .f64 lo ∧ gv = .float .f64 hi ∧ BtI m lo hi ∧ MnAt mb m wr ∧ Chg (fun k => k = mb) w0 wr
set_option maxHeartbeats 4000000 in
set_option maxRecDepth 100000 in
theorem bw_walk (W : World) (ao : Option Addr) (cap : Nat) (l : List Nat) (hl : Rd W (.slice ao l.length cap) 1 (fls l)) (hF : ∀ x ∈ l, F64 x) (hlen : l.length ≤ 1048576) :
    Calls Try.prog 12 #[.slice ao l.length cap] W fun r w' => r = .returned (.bool true) ∧ Chg (fun _ => False) W w' := by
  have HL := Lib.hid hl
  have HFF := Lib.hid hF
  clear hl hF
  go_enter Try.func12, Try.ntmps12
  go_wp2_with fail
  refine (rt_newMean W).mono ?_
  rintro e w1 ⟨rfl, h1⟩
  have k1 : w1.heap[W.heap.size]? = some (.cells #[.bool true, .int .i64 0, .float .f64 0, .float .f64 0] 66 (0, 0)) := by rw [h1]; exact heap_alloc_at _ _
  have c1 : Chg (fun _ => False) W w1 := by rw [h1]; exact (Chg.refl _ _).alloc _
  obtain ⟨B, hB⟩ : ∃ B, B = W.heap.size := ⟨_, rfl⟩
  rw [← hB] at k1 ⊢
  have K1 := Lib.hid k1
  have C1 := Lib.hid c1
  have HBW := Lib.hid hB
  clear k1 c1 hB h1
  go_wp2_with fail
  refine (m_Inf w1).mono ?_
  rintro e w' ⟨rfl, h9⟩
  have h9 := h9.symm; subst h9
  go_wp2_with fail
  refine (m_Inf1 w1).mono ?_
  rintro e w' ⟨rfl, h9⟩
  have h9 := h9.symm; subst h9
  go_wp2
  go_loopg [4, 5, 6, 20] (l.length) (BwRel w1 l B)
  case atStart =>
    exact ⟨0, Mn.new, INF, 2 ^ 63 + INF, by omega, rfl, rfl, Nat.zero_le _, rfl, rfl, .inl ⟨rfl, rfl, rfl⟩, ⟨0, 0, K1.out, FS.some (by decide), FS.some (by decide)⟩, Chg.refl _ _⟩
  case round =>
    obtain ⟨j, m, lo, hi, hj, rfl, rfl, hmj, rfl, rfl, hbt, hm, hc⟩ := hrel
    by_cases hg : gk = 0
    · have hlt : ¬ (j : Int) < (l.length : Int) := by omega
      have C2 := Lib.hid (C1.out.trans hc (fun i hi e => by have := HBW.out; omega))
      have hmb : (m.n : Int) ≤ 1048576 := by omega
      have TL := Lib.hid (rt_tell wr B m hm (by omega))
      by_cases h0 : m.n = 0
      · have ht : m.tell = (0, some 0, some 0) := by unfold Mn.tell; rw [if_pos h0]
        rw [ht] at TL
        have hi0 : (m.n : Int) = 0 := by omega
        rw [hi0]
        have q1 : (FloatKind.f64.format.order 0 0 == some .eq) = true := by decide +kernel
        clear hbt hm hc ht hmb h0 hi0 hmj
        go_wp2_with fail
        refine TL.out.mono ?_
        rintro e v3 ⟨⟨a', s', rfl, fa, fs⟩, d3⟩
        have ea : a' = 0 := fa.2
        have es : s' = 0 := fs.2
        subst ea es
        have C3 := Lib.hid (C2.out.trans d3 (fun _ _ h => h))
        clear fa fs d3 TL
        go_wp2_with fail
        refine (rt_wakes _).mono ?_
        rintro e w8 ⟨rfl, d8⟩
        have C4 := Lib.hid (C3.out.trans d8 (fun _ _ h => h))
        clear d8
        go_wp2
        go_ret
        exact ⟨rfl, C4.out⟩
      · obtain ⟨ta, tz, htell, _⟩ := hbt.tell h0 (by omega)
        rw [htell] at TL
        have hpos : (0 : Int) < (m.n : Int) := by omega
        clear hbt hm hc htell hmb h0 hmj
        go_wp2_with fail
        refine TL.out.mono ?_
        rintro e v3 ⟨⟨a', s', rfl, fa, fs⟩, d3⟩
        have C3 := Lib.hid (C2.out.trans d3 (fun _ _ h => h))
        clear fa fs d3 TL
        go_wp2_with fail
        refine (rt_wakes _).mono ?_
        rintro e w8 ⟨rfl, d8⟩
        have C4 := Lib.hid (C3.out.trans d8 (fun _ _ h => h))
        clear d8
        go_wp2
        go_ret
        exact ⟨rfl, C4.out⟩
    · have hlt : (j : Int) < (l.length : Int) := by omega
      have hjl : j < l.length := by omega
      have hc6 := C1.out.trans hc (fun i hi e => by have := HBW.out; omega)
      have hrd := HL.out.kept hc6 (fun _ _ _ h => h)
      obtain ⟨bl, o, rfl, hcell⟩ := hrd.fl j hjl
      have hxl : l[j] < 2 ^ 64 := HFF.out _ (List.getElem_mem hjl)
      have hjb : (j : Int) ≤ 1048576 := by omega
      have hmb : (m.n : Int) ≤ 1048576 := by omega
      generalize l[j] = x at *
      have A1 := Lib.hid (m_Abs x hxl wr)
      have BT := Lib.hid hbt
      have HM := Lib.hid hm
      have HC := Lib.hid hc
      have HX := Lib.hid hxl
      clear hbt hm hc hc6 hrd hxl
      go_wp2_with fail
      refine A1.out.mono ?_
      rintro e v1 ⟨rfl, h9⟩
      have h9 := h9.symm; subst h9
      go_wp2_with fail
      refine (m_Ldexp wr).mono ?_
      rintro e v1 ⟨rfl, d1⟩
      have D1 := Lib.hid (HC.out.trans (d1.mono (T := fun k => k = B) (fun _ _ h => h.elim)) (fun _ _ h => h))
      obtain ⟨a0, s0, hb0, ha0, hs0⟩ := HM.out
      have HM1 := Lib.hid (show MnAt B m v1 from ⟨a0, s0, d1.obj hb0 (fun h => h), ha0, hs0⟩)
      clear d1 HC HM hb0 ha0 hs0 A1
      cases hq : (FloatKind.f64.format.order (x % 2 ^ 63) P400 == some .lt || FloatKind.f64.format.order (x % 2 ^ 63) P400 == some .eq)
      · go_wp2
        go_roundg (gk - 1)
        case measure => omega
        case rel => exact ⟨j + 1, m, lo, hi, by omega, by norm_cast, rfl, by omega, rfl, rfl, BT.out, HM1.out, D1.out⟩
      · have hbx := (bnd_iff HX.out).1 hq
        have nums := BT.out.nums
        have nx := num_of hbx.1
        have ADD := Lib.hid (rt_add v1 B m HM1.out x (some x) (FS.some HX.out) (by omega))
        have hmin : ∀ (z : World) (ts : Array TypeId) (ty : TypeId), (Builtin.min_ ts ty #[.float .f64 lo, .float .f64 x]).run Try.prog z = .ok (.float .f64 (fmn lo x)) z := fun z ts ty => run_fmin z ts ty _ _ nums.1 HX.out nums.2.2.1 nx
        have hmax : ∀ (z : World) (ts : Array TypeId) (ty : TypeId), (Builtin.max_ ts ty #[.float .f64 hi, .float .f64 x]).run Try.prog z = .ok (.float .f64 (fmx hi x)) z := fun z ts ty => run_fmax z ts ty _ _ nums.2.1 HX.out nums.2.2.2 nx
        have bt2 := BT.out.add hbx (by omega) (fmn_lsr nums.1 HX.out nums.2.2.1 nx) (fmx_gtr nums.2.1 HX.out nums.2.2.2 nx)
        have hn2 : (m.add (some x)).n = m.n + 1 := rfl
        have BT2 := Lib.hid bt2
        have HN2 := Lib.hid hn2
        clear hbx nums nx bt2 hn2 hcell BT HM1 HX
        generalize fmn lo x = lo2 at *
        generalize fmx hi x = hi2 at *
        generalize m.add (some x) = m2 at *
        go_wp2_with fail
        refine ADD.out.mono ?_
        rintro e v2 ⟨rfl, hm2, d2⟩
        have TL := Lib.hid (rt_tell v2 B m2 hm2 (by rw [HN2.out]; omega))
        obtain ⟨ta, tz, htell, ba, bl, bg, k1, k2, nz, kz⟩ := BT2.out.tell (by rw [HN2.out]; omega) (by rw [HN2.out]; omega)
        rw [htell] at TL
        have D2 := Lib.hid (D1.out.trans d2 (fun _ _ h => h))
        have HM2 := Lib.hid hm2
        rw [HN2.out] at TL
        have q1 := gef ba.1.1 bl.1.1 (num_of ba.1) (num_of bl.1) k1
        have q2 := lef ba.1.1 bg.1.1 (num_of ba.1) (num_of bg.1) k2
        have q3 := gef nz.1 (show 0 < 2 ^ 64 by decide) nz.2.1 (by decide) (by have := nz.2.2; rw [show key 0 = 0 by decide]; exact this)
        have q4 := eqf bl.1.1 bg.1.1 (num_of bl.1) (num_of bg.1)
        have q5 : key lo2 = key hi2 → (FloatKind.f64.format.order tz 0 != some .eq) = false := fun h => nef nz.1 (by decide) nz.2.1 (by decide) (by rw [kz h]; decide)
        have Q5 := Lib.hid q5
        have hcnt : ((m.n + 1 : Nat) : Int) = (m.n : Int) + 1 := by omega
        have HCNT := Lib.hid hcnt
        clear hm2 d2 htell ba bl bg k1 k2 nz kz q5 ADD D1 hcnt
        go_wp2_with fail
        refine TL.out.mono ?_
        rintro e v3 ⟨⟨a', s', rfl, fa, fs⟩, d3⟩
        have ea : a' = ta := fa.2
        have es : s' = tz := fs.2
        subst ea es
        rw [show ((((m.n + 1, some a', some s') : Nat × Option Nat × Option Nat).1 : Nat) : Int) = (m.n : Int) + 1 from HCNT.out]
        obtain ⟨a0, s0, hb0, ha0, hs0⟩ := HM2.out
        have R := Lib.hid (show BwRel w1 l B (gk - 1) (.float .f64 lo2) (.float .f64 hi2) (.int .i64 ((m.n : Int) + 1)) (.int .i64 ((j : Int) + 1)) v3 from ⟨j + 1, m2, lo2, hi2, by omega, by norm_cast, by rw [HN2.out]; norm_cast, by rw [HN2.out]; omega, rfl, rfl, BT2.out, ⟨a0, s0, d3.obj hb0 (fun h => h), ha0, hs0⟩, D2.out.trans (d3.mono (T := fun k => k = B) (fun _ _ h => h.elim)) (fun _ _ h => h)⟩)
        clear fa fs d3 TL hb0 ha0 hs0 D2 HM2 BT2
        by_cases hk : key lo2 = key hi2
        · rw [decide_eq_true hk] at q4
          have q6 := Q5.out hk
          clear hk
          go_wp2
          go_roundg (gk - 1)
          case measure => omega
          case rel => exact R.out
        · rw [decide_eq_false hk] at q4
          clear hk
          go_wp2
          go_roundg (gk - 1)
          case measure => omega
          case rel => exact R.out
theorem walk_RateBetween {H : Type} {enc : TypeId × Value → H} (W : World) (v0 : Value) (d0 : DataW H) (p0 : List MemPlace)
    (ok0 : ∃ base, Value.okWide Try.prog W .any base 61 v0) (h0 : DataW.Trod enc Try.prog W 0 (fun _ => true) true 61 v0 d0 p0) (hk : Rows.uptoBulkAll [d0] ≤ 1048576) :
    Calls Try.prog 12 #[v0] W fun r w' => r = .returned (.bool true) ∧ Below W.heap.size W w' := by
  obtain ⟨ao, cap, l, rfl, hl, hF, hb⟩ := arg_floats ok0 h0
  have hlen : l.length ≤ 1048576 := by
    simp only [Rows.uptoBulkAll] at hk
    omega
  refine (bw_walk W ao cap l hl hF hlen).mono ?_
  rintro r w' ⟨rfl, c⟩
  exact ⟨rfl, c.below (Nat.le_refl _) (fun _ _ h => h)⟩
end Go.Proofs.Ytplkoephgmdgkaa
