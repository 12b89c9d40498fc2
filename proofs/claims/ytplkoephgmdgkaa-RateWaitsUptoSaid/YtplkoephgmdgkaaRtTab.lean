/- The rate table as a list of entries; what its calls answer. No program in sight. -/
import Derived.Test.YtplkoephgmdgkaaRtFlt
namespace Go.Proofs.Ytplkoephgmdgkaa
open Go
namespace Rt
structure Ent where
  key : ByteArray
  lev : Nat
  std : Option Nat
  since : Nat
  noted : Nat
structure Tb where
  per : Nat
  burst : Nat
  fade : Nat
  L : List Ent
def MAXT : Nat := 253402300799
/-- An entry's level and standing at a time. -/
def lvl (t : Tb) (e : Ent) (now : Nat) : Nat := min t.burst (rung 0 (U e.lev + U (more t.per (now - e.since))))
def stn (t : Tb) (e : Ent) (now : Nat) : Option Nat := pw e.std (some t.fade) (now - e.noted)
def last (e : Ent) : Nat := max e.since e.noted
/-- Which of two goes first. -/
def bef (a b : Ent) : Bool := decide (last a < last b) || (decide (last a = last b) && Op.bytesLess a.key.toList b.key.toList)
def Tb.get (t : Tb) (k : ByteArray) : Option Ent := t.L.find? (fun e => decide (e.key = k))
def timely (now : Int) : Bool := decide (0 ≤ now) && decide (now ≤ 253402300799)
def Tb.level (t : Tb) (k : ByteArray) (now : Int) : Nat := if timely now = true then (match t.get k with | none => t.burst | some e => lvl t e now.toNat) else 0
def Tb.standing (t : Tb) (k : ByteArray) (now : Int) : Option Nat := if timely now = true then (match t.get k with | none => some 0 | some e => stn t e now.toNat) else some 0
def better (o : Option Ent) (e : Ent) : Option Ent := match o with
  | none => some e
  | some g => if bef e g = true then some e else some g
def best (t : Tb) (now : Nat) : Option Ent := t.L.foldl (fun o e => if lvl t e now = t.burst then better o e else o) none
def Tb.new (t : Tb) (k : ByteArray) (now : Nat) : Ent := ⟨k, t.burst, some 0, now, now⟩
def Tb.laid (t : Tb) (k : ByteArray) (now : Nat) : Option Tb := match t.get k with
  | some _ => some t
  | none => if t.L.length < 1024 then some ⟨t.per, t.burst, t.fade, t.L ++ [t.new k now]⟩
    else match best t now with
      | none => none
      | some g => some ⟨t.per, t.burst, t.fade, t.L.filter (fun e => decide (e.key ≠ g.key)) ++ [t.new k now]⟩
def Tb.upd (t : Tb) (k : ByteArray) (f : Ent → Ent) : Tb := ⟨t.per, t.burst, t.fade, t.L.map (fun e => if e.key = k then f e else e)⟩
/-- May a cost be taken out of so much? -/
def payable (c lv : Nat) : Bool := !isN c && decide (0 ≤ key c) && decide (key c ≤ lv)
def subw (x c : Nat) : Nat := if c = 2 ^ 63 then x else rung 0 (U x - U c)
def take (u : Tb) (now c : Nat) (e : Ent) : Ent := ⟨e.key, subw (lvl u e now) c, e.std, max e.since now, e.noted⟩
def Tb.ask (t : Tb) (k : ByteArray) (now : Int) (c : Nat) : Bool × Tb :=
  if timely now = true ∧ payable c (t.level k now) = true then (match t.laid k now.toNat with | none => (false, t) | some u => (true, u.upd k (take u now.toNat c))) else (false, t)
def jot (u : Tb) (now : Nat) (x : Nat) (e : Ent) : Ent := ⟨e.key, e.lev, fo .add (stn u e now) (some x), e.since, max e.noted now⟩
def withinB (x a b : Nat) : Bool := (Ieee.double.order x a == some .gt || Ieee.double.order x a == some .eq) && (Ieee.double.order x b == some .lt || Ieee.double.order x b == some .eq)
def Tb.note (t : Tb) (k : ByteArray) (now : Int) (x : Nat) : Int × Tb :=
  if timely now = false then (5, t)
  else if withinB x (MOST + 2 ^ 63) MOST = false then (2, t)
  else match t.laid k now.toNat with | none => (4, t) | some u => (0, u.upd k (jot u now.toNat x))

/-- What holds of every table that was made. -/
structure Ent.ok (t : Tb) (e : Ent) : Prop where
  lev : e.lev ≤ t.burst
  since : e.since ≤ MAXT
  noted : e.noted ≤ MAXT
  key : e.key.size ≤ maxLen
structure Tb.ok (t : Tb) : Prop where
  per : t.per ≤ MOST
  per0 : LEAST ≤ t.per
  burst : t.burst ≤ MOST
  burst0 : LEAST ≤ t.burst
  fade : t.fade ≤ ONE
  apart : t.L.Pairwise (fun a b => a.key ≠ b.key)
  ents : ∀ e ∈ t.L, e.ok t
  size : t.L.length ≤ 1024

theorem lvl_le (t : Tb) (e : Ent) (now : Nat) : lvl t e now ≤ t.burst := Nat.min_le_left ..
theorem get_some {t : Tb} {k : ByteArray} {e : Ent} (h : t.get k = some e) : e ∈ t.L ∧ e.key = k := by
  unfold Tb.get at h
  exact ⟨List.mem_of_find?_eq_some h, by simpa using List.find?_some h⟩
theorem get_none {t : Tb} {k : ByteArray} (h : t.get k = none) : ∀ e ∈ t.L, e.key ≠ k := by
  unfold Tb.get at h
  intro e he
  have := List.find?_eq_none.1 h e he
  simpa using this
theorem level_le {t : Tb} (k : ByteArray) (now : Int) : t.level k now ≤ t.burst := by
  unfold Tb.level
  split
  · split
    · exact Nat.le_refl _
    · exact lvl_le ..
  · exact Nat.zero_le _
theorem subw_le {x : Nat} (h : x ≤ INF) (c : Nat) : subw x c ≤ x := by
  unfold subw
  split
  · exact Nat.le_refl _
  · exact sub_le h
theorem pay_word {c lv : Nat} (hc : c < 2 ^ 64) (h : payable c lv = true) (hl : lv < INF) : c = 2 ^ 63 ∨ c ≤ lv := by
  have hi := inf_lt
  unfold payable at h
  simp only [Bool.and_eq_true, decide_eq_true_eq] at h
  obtain ⟨⟨_, h1⟩, h2⟩ := h
  unfold Go.Proofs.Ytplkoephgmdgkaa.key at h1 h2
  by_cases hs : c < 2 ^ 63
  · rw [if_pos hs] at h2
    right; omega
  · rw [if_neg hs] at h1
    left; omega
/-- What Ask takes away. -/
theorem pay_sub {c lv : Nat} (hc : c < 2 ^ 64) (h : payable c lv = true) (hl : lv < INF) : floatBits .sub .f64 lv c = some (subw lv c) := by
  rcases pay_word hc h hl with rfl | hle
  · rw [sub_negz hl]; unfold subw; rw [if_pos rfl]
  · have hi := inf_lt
    rw [sub_pos hl hle]; unfold subw; rw [if_neg (by omega)]
theorem fres_some {op : BinOp} {x y r : Nat} (h : floatBits op .f64 x y = some r) (z : World) : fres z op x y = r := by
  unfold fres; rw [h]; rfl
theorem fdr_some {op : BinOp} {x y r : Nat} (h : floatBits op .f64 x y = some r) : fdr op x y = 0 := by
  unfold fdr; rw [h]; rfl
theorem most_inf : MOST < INF := by decide
theorem r58_inf : R58 < INF := by decide
theorem past_small {now since : Nat} (h : now ≤ MAXT) : now - since ≤ 2 ^ 38 := by
  have hM : MAXT = 253402300799 := rfl
  omega
theorem ent_inf {t : Tb} (ht : t.ok) {e : Ent} (he : e.ok t) : e.lev < INF := by
  have h1 := ht.burst
  have h2 := he.lev
  have h3 := most_inf
  omega
theorem more_inf {t : Tb} (ht : t.ok) {now since : Nat} (h : now ≤ MAXT) : more t.per (now - since) < INF :=
  Nat.lt_of_le_of_lt (more_small ht.per (past_small h)) r58_inf
theorem lvl_facts (t : Tb) (ht : t.ok) (e : Ent) (he : e.ok t) (now : Nat) (hn : now ≤ MAXT) :
    ∃ mo su, (∀ z, fres z .mul (fi (now - e.since)) t.per = mo) ∧ fdr .mul (fi (now - e.since)) t.per = 0 ∧ (∀ z, fres z .add e.lev mo = su) ∧ fdr .add e.lev mo = 0 ∧ su ≤ INF ∧ lvl t e now = min t.burst su :=
  ⟨more t.per (now - e.since), rung 0 (U e.lev + U (more t.per (now - e.since))), fres_some (more_eq ht.per (past_small hn)), fdr_some (more_eq ht.per (past_small hn)),
    fres_some (add_pos (ent_inf ht he) (more_inf ht hn)), fdr_some (add_pos (ent_inf ht he) (more_inf ht hn)), rung_le _ _, rfl⟩
end Rt
end Go.Proofs.Ytplkoephgmdgkaa
