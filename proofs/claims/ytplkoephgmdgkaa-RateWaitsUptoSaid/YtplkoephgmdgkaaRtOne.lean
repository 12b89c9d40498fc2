/- One rate table beside a block; the keys' names. No condition but what each states. -/
import Derived.Test.YtplkoephgmdgkaaRtL3
import Derived.Test.YtplkoephgmdgkaaRtWt
import Derived.Test.YtplkoephgmdgkaaRtLd
namespace Go.Proofs.Ytplkoephgmdgkaa
open Go Go.RowKit Rt Go.Maps
set_option linter.unusedVariables false
attribute [local go_sem] run_fadd run_fsub run_fmul run_fquo store_f64
/-- A table in memory of its own, all of it behind block B; beside it block X. -/
def OneX (B X tb m : Nat) (T : Tb) (w : World) : Prop := X < w.heap.size ∧ B < w.heap.size ∧ ∃ bk F, TAx tb m T bk F w ∧ (∀ i, F i → B < i) ∧ ¬ F X
theorem OneX.same {B X tb m : Nat} {T : Tb} {w w' : World} (h : OneX B X tb m T w) (c : Chg (fun _ => False) w w') : OneX B X tb m T w' := by
  obtain ⟨hx, hb, bk, F, h1, h2, h3⟩ := h
  exact ⟨c.lt hx, c.lt hb, bk, F, h1.same c, h2, h3⟩
theorem OneX.back {B X tb m : Nat} {T : Tb} {w : World} (h : OneX B X tb m T w) : OneX B B tb m T w := by
  obtain ⟨hx, hb, bk, F, h1, h2, h3⟩ := h
  exact ⟨hb, hb, bk, F, h1, h2, fun e => by have := h2 B e; omega⟩
theorem OneX.put {B X tb m : Nat} {T : Tb} {w : World} (h : OneX B X tb m T w) (o : Obj) : OneX B w.heap.size tb m T (w.alloc o) := by
  obtain ⟨hx, hb, bk, F, h1, h2, h3⟩ := h
  have c := (Chg.refl (fun _ => False) w).alloc o
  exact ⟨by simp, c.lt hb, bk, F, h1.same c, h2, fun e => Nat.lt_irrefl _ (h1.flt _ e)⟩
theorem OneX.ok {B X tb m : Nat} {T : Tb} {w : World} (h : OneX B X tb m T w) : T.ok := by
  obtain ⟨_, _, bk, F, h1, _⟩ := h
  exact h1.ok
theorem OneX.step {B X tb m : Nat} {T' : Tb} {w w' : World} {bk' : ByteArray → Option Nat} {F F' : Nat → Prop} (hx : X < w.heap.size) (hb : B < w.heap.size) (h2 : ∀ i, F i → B < i) (h3 : ¬ F X) (h' : TAx tb m T' bk' F' w') (c : Chg F w w') (hF : ∀ i, F' i → F i ∨ w.heap.size ≤ i) :
    OneX B X tb m T' w' ∧ Chg (fun i => B < i ∧ i ≠ X) w w' := by
  refine ⟨⟨c.lt hx, c.lt hb, bk', F', h', fun i hi => ?_, fun hi => ?_⟩, c.mono (fun i _ e => ⟨h2 i e, fun e2 => h3 (e2 ▸ e)⟩)⟩
  · rcases hF i hi with h | h
    · exact h2 i h
    · omega
  · rcases hF X hi with h | h
    · exact h3 h
    · omega
theorem one_ask {B X tb m : Nat} {T : Tb} {w : World} (h : OneX B X tb m T w) (k : ByteArray) (hk : k.size ≤ maxLen) (now : Int) (c : Nat) (hc : c < 2 ^ 64) :
    Calls Try.prog 16 #[.pointer (some ⟨tb, 0, none⟩), .string k, .int .i64 now, .float .f64 c] w fun r w' => r = .returned (.bool (T.ask k now c).1) ∧ OneX B X tb m (T.ask k now c).2 w' ∧ Chg (fun i => B < i ∧ i ≠ X) w w' := by
  obtain ⟨hx, hb, bk, F, h1, h2, h3⟩ := h
  refine (rt_Ask w tb m T bk F h1 k hk now c hc).mono ?_
  rintro r w' ⟨bk', F', rfl, h', c', hF⟩
  exact ⟨rfl, OneX.step hx hb h2 h3 h' c' hF⟩
theorem one_note {B X tb m : Nat} {T : Tb} {w : World} (h : OneX B X tb m T w) (k : ByteArray) (hk : k.size ≤ maxLen) (now : Int) (c : Nat) (hc : c < 2 ^ 64) :
    Calls Try.prog 18 #[.pointer (some ⟨tb, 0, none⟩), .string k, .int .i64 now, .float .f64 c] w fun r w' => r = .returned (.int .i64 (T.note k now c).1) ∧ OneX B X tb m (T.note k now c).2 w' ∧ Chg (fun i => B < i ∧ i ≠ X) w w' := by
  obtain ⟨hx, hb, bk, F, h1, h2, h3⟩ := h
  refine (rt_Note w tb m T bk F h1 k hk now c hc).mono ?_
  rintro r w' ⟨bk', F', rfl, h', c', hF⟩
  exact ⟨rfl, OneX.step hx hb h2 h3 h' c' hF⟩
theorem one_level {B X tb m : Nat} {T : Tb} {w : World} (h : OneX B X tb m T w) (k : ByteArray) (hk : k.size ≤ maxLen) (now : Int) :
    Calls Try.prog 19 #[.pointer (some ⟨tb, 0, none⟩), .string k, .int .i64 now] w fun r w' => r = .returned (.float .f64 (T.level k now)) ∧ Chg (fun _ => False) w w' := by
  obtain ⟨hx, hb, bk, F, h1, h2, h3⟩ := h
  exact rt_Level w tb m T bk F h1 k hk now
theorem one_standing {B X tb m : Nat} {T : Tb} {w : World} (h : OneX B X tb m T w) (k : ByteArray) (hk : k.size ≤ maxLen) (now : Int) :
    Calls Try.prog 26 #[.pointer (some ⟨tb, 0, none⟩), .string k, .int .i64 now] w fun r w' => ∃ y, r = .returned (.float .f64 y) ∧ FS (T.standing k now) y ∧ Chg (fun _ => False) w w' := by
  obtain ⟨hx, hb, bk, F, h1, h2, h3⟩ := h
  exact rt_Standing w tb m T bk F h1 k hk now
theorem one_keys {B X tb m : Nat} {T : Tb} {w : World} (h : OneX B X tb m T w) : Calls Try.prog 29 #[.pointer (some ⟨tb, 0, none⟩)] w (KeysSays T w) := by
  obtain ⟨hx, hb, bk, F, h1, h2, h3⟩ := h
  exact rt_Keys rt_SC w tb m T bk F h1
/-- The key number n. -/
def nm (n : Nat) : ByteArray := ⟨#[107, UInt8.ofNat (48 + n / 1000 % 10), UInt8.ofNat (48 + n / 100 % 10), UInt8.ofNat (48 + n / 10 % 10), UInt8.ofNat (48 + n % 10)]⟩
theorem nm_size (n : Nat) : (nm n).size ≤ maxLen := by
  have : (nm n).size = 5 := rfl
  rw [this]; decide
set_option maxRecDepth 100000 in
theorem nm_calls (n : Nat) (hn : n ≤ 1000000) (w : World) : Calls Try.prog 17 #[.int .i64 n] w fun r w' => r = .returned (.string (nm n)) ∧ Chg (fun _ => False) w w' := by
  have a3 : (n : Int) / 1000 % 10 = ((n / 1000 % 10 : Nat) : Int) := rfl
  have a2 : (n : Int) / 100 % 10 = ((n / 100 % 10 : Nat) : Int) := rfl
  have a1 : (n : Int) / 10 % 10 = ((n / 10 % 10 : Nat) : Int) := rfl
  have a0 : (n : Int) % 10 = ((n % 10 : Nat) : Int) := rfl
  have hnm : nm n = ⟨[107, UInt8.ofNat (48 + n / 1000 % 10), UInt8.ofNat (48 + n / 100 % 10), UInt8.ofNat (48 + n / 10 % 10), UInt8.ofNat (48 + n % 10)].toArray⟩ := rfl
  have HNM := Lib.hid hnm
  have hn' : (n : Int) ≤ 1000000 := by omega
  obtain ⟨d3, hd3, b3⟩ : ∃ d, n / 1000 % 10 = d ∧ d < 10 := ⟨_, rfl, by omega⟩
  obtain ⟨d2, hd2, b2⟩ : ∃ d, n / 100 % 10 = d ∧ d < 10 := ⟨_, rfl, by omega⟩
  obtain ⟨d1, hd1, b1⟩ : ∃ d, n / 10 % 10 = d ∧ d < 10 := ⟨_, rfl, by omega⟩
  obtain ⟨d0, hd0, b0⟩ : ∃ d, n % 10 = d ∧ d < 10 := ⟨_, rfl, by omega⟩
  rw [hd3, hd2, hd1, hd0] at HNM
  rw [hd3] at a3; rw [hd2] at a2; rw [hd1] at a1; rw [hd0] at a0
  have u3 : ((UInt8.ofNat (48 + d3)).toNat : Int) = 48 + (d3 : Int) := by simp; omega
  have u2 : ((UInt8.ofNat (48 + d2)).toNat : Int) = 48 + (d2 : Int) := by simp; omega
  have u1 : ((UInt8.ofNat (48 + d1)).toNat : Int) = 48 + (d1 : Int) := by simp; omega
  have u0 : ((UInt8.ofNat (48 + d0)).toNat : Int) = 48 + (d0 : Int) := by simp; omega
  have hrd := Rd.fresh w #[.int .u8 107, .int .u8 (48 + (d3 : Int)), .int .u8 (48 + (d2 : Int)), .int .u8 (48 + (d1 : Int)), .int .u8 (48 + (d0 : Int))] 5 (0, 0) 5 5 [107, UInt8.ofNat (48 + d3), UInt8.ofNat (48 + d2), UInt8.ofNat (48 + d1), UInt8.ofNat (48 + d0)] (by simp only [bvs, List.map_cons, List.map_nil, u3, u2, u1, u0]; rfl) rfl (Nat.le_refl _) (by decide)
  have hconv := run_conv_txt hrd 99 9 5 Try.underlying99 Try.underlying5 Try.underlying9
  rw [← HNM.out] at hconv
  generalize nm n = s at *
  clear hd3 hd2 hd1 hd0 u3 u2 u1 u0 hrd hnm HNM hn
  go_enter Try.func17, Try.ntmps17
  go_wp2
  go_ret
  exact ⟨rfl, (Chg.refl _ _).alloc _⟩
end Go.Proofs.Ytplkoephgmdgkaa
