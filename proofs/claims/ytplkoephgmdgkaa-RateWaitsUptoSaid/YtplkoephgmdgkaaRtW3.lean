/- The small functions of the rate table, walked. No condition but what each states. -/
import Derived.Test.YtplkoephgmdgkaaRtW2
import Derived.Test.YtplkoephgmdgkaaRtTab
import Derived.Laws.Cover3
import Derived.Deep.RegionHeld3
namespace Go.Proofs.Ytplkoephgmdgkaa
open Go Go.RowKit Rt
set_option linter.unusedVariables false
attribute [local go_sem] run_fadd run_fsub run_fmul run_fquo store_f64

theorem rt_within (x a b : Nat) (w : World) : Calls Try.prog 51 #[.float .f64 x, .float .f64 a, .float .f64 b] w fun r w' => r = .returned (.bool (withinB x a b)) ∧ w' = w := by
  have HW := Lib.hid (show withinB x a b = ((Ieee.double.order x a == some .gt || Ieee.double.order x a == some .eq) && (Ieee.double.order x b == some .lt || Ieee.double.order x b == some .eq)) from rfl)
  by_cases h : (FloatKind.f64.format.order x a = some .gt ∨ FloatKind.f64.format.order x a = some .eq)
  · have e : (Ieee.double.order x a == some .gt || Ieee.double.order x a == some .eq) = true := by
      rcases h with h | h
      · have h' : Ieee.double.order x a = some .gt := h
        rw [h']; rfl
      · have h' : Ieee.double.order x a = some .eq := h
        rw [h']; rfl
    have E := Lib.hid e
    clear e
    go_enter Try.func51, Try.ntmps51
    go_wp2
    go_ret
    refine ⟨?_, rfl⟩
    rw [HW.out, E.out, Bool.true_and]
    have E' : (FloatKind.f64.format.order x a == some .gt || FloatKind.f64.format.order x a == some .eq) = true := E.out
    first | rfl | (rw [E', Bool.true_and]; rfl)
  · have e : (Ieee.double.order x a == some .gt || Ieee.double.order x a == some .eq) = false := by
      rw [not_or] at h
      have h1 : ¬ Ieee.double.order x a = some .gt := h.1
      have h2 : ¬ Ieee.double.order x a = some .eq := h.2
      simp [h1, h2]
    have E := Lib.hid e
    clear e
    go_enter Try.func51, Try.ntmps51
    go_wp2
    go_ret
    refine ⟨?_, rfl⟩
    rw [HW.out, E.out, Bool.false_and]; rfl
theorem rt_valid (n : Int) (w : World) : Calls Try.prog 48 #[.int .i64 n] w fun r w' => r = .returned (.bool (timely n)) ∧ w' = w := by
  by_cases h : 0 ≤ n
  · have HT := Lib.hid (show timely n = decide (n ≤ 253402300799) by simp [timely, h])
    go_enter Try.func48, Try.ntmps48
    go_wp2
    go_ret
    exact ⟨by rw [HT.out]; rfl, rfl⟩
  · have HT := Lib.hid (show timely n = false by simp [timely, h])
    have h' : n < 0 := by omega
    go_enter Try.func48, Try.ntmps48
    go_wp2
    go_ret
    exact ⟨by rw [HT.out]; rfl, rfl⟩
theorem rt_there0 (w : World) : Calls Try.prog 47 #[.pointer none] w fun r w' => r = .returned (.bool false) ∧ w' = w := by
  go_enter Try.func47, Try.ntmps47
  go_wp2
  go_ret
  exact ⟨rfl, rfl⟩
set_option maxRecDepth 100000 in
theorem rt_there (w : World) (b : Nat) (c0 c1 c2 : Value) (t : TypeId) (m : Option Nat) (h : w.heap[b]? = some (.cells #[c0, c1, c2, .map m] t (0, 0))) : Calls Try.prog 47 #[.pointer (some ⟨b, 0, none⟩)] w fun r w' => r = .returned (.bool m.isSome) ∧ w' = w := by
  obtain ⟨g0, g1, g2, g3, gf⟩ := cells4 h
  have hmt := run_neq_map_nil (P := Try.prog) w 45 _ _ m Try.underlying45
  cases m
  all_goals
    go_enter Try.func47, Try.ntmps47
    go_wp2
    go_ret
    exact ⟨rfl, rfl⟩
/-- An entry's cells. -/
def entC (e : Ent) (s : Nat) : Array Value := #[.float .f64 e.lev, .float .f64 s, .int .i64 e.since, .int .i64 e.noted]
def tabC (t : Tb) (m : Nat) : Array Value := #[.float .f64 t.per, .float .f64 t.burst, .float .f64 t.fade, .map (some m)]
theorem max_now (now since : Nat) : max ((now : Int) - since) 0 = ((now - since : Nat) : Int) := by omega
theorem run_max0 {P : Program} (w : World) (ts : Array TypeId) (ty : TypeId) (x : Int) : (Builtin.max_ ts ty #[.int .i64 x, .int .i64 0]).run P w = .ok (.int .i64 (max x 0)) w := by
  simp [Builtin.max_, Builtin.max2]
  omega
theorem order_pos {x y : Nat} (hx : x < INF) (hy : y ≤ INF) : Ieee.double.order x y = some (compare (x : Int) (y : Int)) := by
  have hi := inf_lt
  have kx : key x = x := by unfold key; rw [if_pos (by omega), Nat.mod_eq_of_lt (by omega)]
  have ky : key y = y := by unfold key; rw [if_pos (by omega), Nat.mod_eq_of_lt (by omega)]
  have nx : isN x = false := by have := isN_iff x; rw [Bool.eq_false_iff]; intro h; have := this.1 h; omega
  have ny : isN y = false := by have := isN_iff y; rw [Bool.eq_false_iff]; intro h; have := this.1 h; omega
  rw [order_key (by omega) (by omega) nx ny, kx, ky]
theorem run_minf {P : Program} (w : World) (ts : Array TypeId) (ty : TypeId) (x y : Nat) (hx : x < INF) (hy : y ≤ INF) : (Builtin.min_ ts ty #[.float .f64 x, .float .f64 y]).run P w = .ok (.float .f64 (min x y)) w := by
  have h : FloatKind.f64.format.order x y = some (compare (x : Int) (y : Int)) := order_pos hx hy
  have hm : (Builtin.min_ ts ty #[.float .f64 x, .float .f64 y]) = Builtin.min2 (.float .f64 x) (.float .f64 y) := by
    simp [Builtin.min_]
  rw [hm]
  unfold Builtin.min2
  simp only [h]
  rcases Int.lt_trichotomy (x : Int) y with g | g | g
  · rw [Int.compare_eq_lt.2 g]
    have : min x y = x := Nat.min_eq_left (by omega)
    simp [this]
  · rw [Int.compare_eq_eq.2 g]
    have e : x = y := by omega
    simp [e]
  · rw [Int.compare_eq_gt.2 g]
    have : min x y = y := Nat.min_eq_right (by omega)
    simp [this]
set_option maxRecDepth 100000 in
theorem rt_level (w : World) (t : Tb) (ht : t.ok) (e : Ent) (he : e.ok t) (s tb eb m : Nat) (h1 : w.heap[tb]? = some (.cells (tabC t m) 47 (0, 0))) (h2 : w.heap[eb]? = some (.cells (entC e s) 98 (0, 0))) (now : Nat) (hn : now ≤ MAXT) :
    Calls Try.prog 50 #[.pointer (some ⟨tb, 0, none⟩), .pointer (some ⟨eb, 0, none⟩), .int .i64 now] w fun r w' => r = .returned (.float .f64 (lvl t e now)) ∧ Chg (fun _ => False) w w' := by
  obtain ⟨g0, g1, g2, g3, gf⟩ := cells4 h1
  obtain ⟨c0, c1, c2, c3, cf⟩ := cells4 h2
  have hs := he.since
  have hM : MAXT = 253402300799 := rfl
  have hw : IntKind.i64.wrap ((now : Int) - e.since) = (now : Int) - e.since := IntWalk.i64_in _ (by omega)
  obtain ⟨mo, su, e1, e2, e3, e4, hsu, hl⟩ := lvl_facts t ht e he now hn
  have hbi : t.burst < INF := Nat.lt_of_le_of_lt ht.burst most_inf
  have e5 : ∀ (z : World) (ts : Array TypeId) (ty : TypeId), (Builtin.min_ ts ty #[.float .f64 t.burst, .float .f64 su]).run Try.prog z = .ok (.float .f64 (lvl t e now)) z := fun z ts ty => by rw [hl]; exact run_minf z ts ty _ _ hbi hsu
  have e6 : ∀ (z : World) (ts : Array TypeId) (ty : TypeId), (Builtin.max_ ts ty #[.int .i64 ((now : Int) - e.since), .int .i64 0]).run Try.prog z = .ok (.int .i64 ((now - e.since : Nat) : Int)) z := fun z ts ty => by rw [run_max0, max_now]
  have hfi : floatOfInt .f64 ((now - e.since : Nat) : Int) = fi (now - e.since) := rfl
  generalize lvl t e now = lv at *
  obtain ⟨per, burst, fade, L⟩ := t
  obtain ⟨key, lev, std, since, noted⟩ := e
  simp only at g0 g1 g2 c0 c1 c2 c3 hw e1 e2 e3 e4 e5 e6 hfi
  generalize fi (now - since) = fd at *
  clear ht he hl hsu hbi h1 h2 hs hn hM
  go_enter Try.func50, Try.ntmps50
  go_upto_region 2 with (fail)
  as_aux_lemma =>
    go_big_region
    as_aux_lemma =>
      go_wp2
      go_ret
      exact ⟨rfl, (Chg.refl _ _).drewN 1⟩
/-- Nothing of the first world was changed. -/
def Sam (w0 w : World) : Prop := Chg (fun _ => False) w0 w
theorem Sam.refl (w : World) : Sam w w := Chg.refl _ w
theorem Sam.drew {w0 w : World} (h : Sam w0 w) : Sam w0 w.drew := Chg.drew h
theorem Sam.alloc {w0 w : World} (h : Sam w0 w) (o : Obj) : Sam w0 (w.alloc o) := Chg.alloc h o
theorem Sam.more {w0 w w' : World} (h : Sam w0 w) (c : Chg (fun _ => False) w w') : Sam w0 w' := Chg.trans h c (fun _ _ h => h)
set_option maxHeartbeats 4000000 in
set_option maxRecDepth 100000 in
theorem rt_standing (w : World) (t : Tb) (ht : t.ok) (e : Ent) (he : e.ok t) (s tb eb m : Nat) (h1 : w.heap[tb]? = some (.cells (tabC t m) 47 (0, 0))) (h2 : w.heap[eb]? = some (.cells (entC e s) 98 (0, 0))) (hfs : FS e.std s) (now : Nat) (hn : now ≤ MAXT) :
    Calls Try.prog 52 #[.pointer (some ⟨tb, 0, none⟩), .pointer (some ⟨eb, 0, none⟩), .int .i64 now] w fun r w' => ∃ y, r = .returned (.float .f64 y) ∧ FS (stn t e now) y ∧ Chg (fun _ => False) w w' := by
  have g2 := fun w' (h : Sam w w') => (cells4 (Chg.obj h h1 (fun h => h))).2.2.1
  have c1 := fun w' (h : Sam w w') => (cells4 (Chg.obj h h2 (fun h => h))).2.1
  have c3 := fun w' (h : Sam w w') => (cells4 (Chg.obj h h2 (fun h => h))).2.2.2.1
  have hs := he.noted
  have hM : MAXT = 253402300799 := rfl
  have hw : IntKind.i64.wrap ((now : Int) - e.noted) = (now : Int) - e.noted := IntWalk.i64_in _ (by omega)
  have hfl : t.fade < 2 ^ 64 := Nat.lt_of_le_of_lt ht.fade (by decide)
  have PW := Lib.hid (fun z => rt_power z s t.fade e.std (some t.fade) ((now : Int) - e.noted) hfs (FS.some hfl) (by omega))
  have SE := Lib.hid (show stn t e now = pw e.std (some t.fade) (((now : Int) - e.noted).toNat) by unfold stn; congr 1; omega)
  generalize stn t e now = sv at *
  obtain ⟨per, burst, fade, L⟩ := t
  obtain ⟨key, lev, std, since, noted⟩ := e
  simp only at g2 c1 c3 hw PW SE
  clear ht he hfs h1 h2 hs hn hM hfl
  have s0 : Sam w w := Sam.refl w
  go_enter Try.func52, Try.ntmps52
  go_upto_region 1 with (fail)
  go_region_held3 (fun w' => Sam w w') (first | assumption | exact Sam.drew (by assumption)) (first
    | (go_at_call 32; refine (PW.out _).mono ?_; rintro e5 w5 ⟨y5, rfl, f5, ch5⟩; have s5 := Sam.more (w0 := w) (by assumption) ch5; have F5 := Lib.hid f5; clear f5 ch5))
  go_wp2
  go_ret
  exact ⟨_, rfl, by rw [SE.out]; exact F5.out, s5⟩
/-- What Check answers. -/
def checkB (per burst fade : Nat) : Bool := withinB per LEAST MOST && withinB burst LEAST MOST && withinB fade 0 ONE
def rateE (b : Bool) : Int := if b = true then 0 else 200
set_option maxHeartbeats 4000000 in
set_option maxRecDepth 100000 in
theorem rt_check (per burst fade : Nat) (w : World) : Calls Try.prog 21 #[.agg #[.float .f64 per, .float .f64 burst, .float .f64 fade]] w fun r w' => r = .returned (.int .i64 (rateE (checkB per burst fade))) ∧ Chg (fun _ => False) w w' := by
  have H := Lib.hid rt_within
  have hc : checkB per burst fade = (withinB per 4517110426252607488 4697254411347427328 && withinB burst 4517110426252607488 4697254411347427328 && withinB fade 0 4607182418800017408) := rfl
  have HC := Lib.hid hc
  clear hc
  have fin : ∀ x : Int, x = (rateE (checkB per burst fade)) → ∀ o, Ending.returned (.int .i64 x) = .returned (.int .i64 (rateE (checkB per burst fade))) ∧ Chg (fun _ => False) w (w.alloc o) := fun x h o => ⟨by rw [h], (Chg.refl _ _).alloc _⟩
  have FIN := Lib.hid fin
  clear fin
  generalize checkB per burst fade = q at *
  cases h1 : withinB per 4517110426252607488 4697254411347427328
  · rw [h1, Bool.false_and, Bool.false_and] at HC
    go_enter Try.func21, Try.ntmps21
    go_wp2_with (go_at_call 51; refine (H.out _ _ _ _).mono ?_; rintro e w' ⟨rfl, rfl⟩)
    go_ret
    exact FIN.out 200 (by rw [HC.out]; rfl) _
  · rw [h1, Bool.true_and] at HC
    cases h2 : withinB burst 4517110426252607488 4697254411347427328
    · rw [h2, Bool.false_and] at HC
      go_enter Try.func21, Try.ntmps21
      go_wp2_with (go_at_call 51; refine (H.out _ _ _ _).mono ?_; rintro e w' ⟨rfl, rfl⟩)
      go_ret
      exact FIN.out 200 (by rw [HC.out]; rfl) _
    · rw [h2, Bool.true_and] at HC
      cases h3 : withinB fade 0 4607182418800017408
      · rw [h3] at HC
        go_enter Try.func21, Try.ntmps21
        go_wp2_with (go_at_call 51; refine (H.out _ _ _ _).mono ?_; rintro e w' ⟨rfl, rfl⟩)
        go_ret
        exact FIN.out 200 (by rw [HC.out]; rfl) _
      · rw [h3] at HC
        go_enter Try.func21, Try.ntmps21
        go_wp2_with (go_at_call 51; refine (H.out _ _ _ _).mono ?_; rintro e w' ⟨rfl, rfl⟩)
        go_ret
        exact FIN.out 0 (by rw [HC.out]; rfl) _
end Go.Proofs.Ytplkoephgmdgkaa
