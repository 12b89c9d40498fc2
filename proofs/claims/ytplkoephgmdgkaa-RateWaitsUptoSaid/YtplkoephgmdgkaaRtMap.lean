/- The table's map: from keys to the blocks of entries. No condition but what each states. -/
import Derived.Test.YtplkoephgmdgkaaRtW3
import Derived.Maps.OwnSet
import Derived.Maps.RangeWalk
import Derived.Maps.Ext
import Derived.Sort.MapsRangeIn
namespace Go.Proofs.Ytplkoephgmdgkaa
open Go Go.RowKit Rt Go.Maps

def ptrV (o : Option Nat) : Value := .pointer (o.map fun b => ⟨b, 0, none⟩)
def encO : Option Nat → DataW Unit
  | none => .nil
  | some b => .lit (.int .u64 b)
def ptrE : Value → Option (DataW Unit × List MemPlace)
  | .pointer none => some (.nil, [])
  | .pointer (some ⟨b, 0, none⟩) => some (.lit (.int .u64 b), [])
  | _ => none
theorem ptrE_mk (o : Option Nat) : ptrE (ptrV o) = some (encO o, []) := by cases o <;> rfl
theorem ptrE_inv {v : Value} {z : DataW Unit × List MemPlace} (h : ptrE v = some z) : ∃ o, v = ptrV o ∧ z = (encO o, []) := by
  unfold ptrE at h
  split at h
  · cases h; exact ⟨none, rfl, rfl⟩
  · cases h; exact ⟨some _, rfl, rfl⟩
  · cases h
theorem encO_inj {a b : Option Nat} (h : encO a = encO b) : a = b := by
  cases a <;> cases b <;> simp [encO] at h
  · rfl
  · have : ∀ x y : Nat, (x : Int) = y → x = y := fun x y h => by omega
    rw [this _ _ h]
def kl (k : ByteArray) : Lit := .string k.data.toList
theorem kl_inj {a b : ByteArray} (h : kl a = kl b) : a = b := by
  unfold kl at h
  injection h with h
  cases a; cases b
  simp only at h
  exact congrArg ByteArray.mk (Array.toList_inj.1 h)
theorem mlaw : Keyed Try.prog 9 := string_keyed Try.underlying9
theorem mkey {k : ByteArray} (h : k.size ≤ maxLen) : keyOf Try.prog 9 (.string k) = some (kl k) := WideMaps.keyOf_string_mk Try.underlying9 h
theorem zeroE (w : World) : (zeroValue 94).run Try.prog w = .ok (.pointer none) w := by kernel_rfl
theorem mkey_inv {v : Value} {l : Lit} (h : keyOf Try.prog 9 v = some l) : ∃ k : ByteArray, v = .string k ∧ l = kl k ∧ k.size ≤ maxLen :=
  WideMaps.string_of_keyOf Try.underlying9 h
theorem Chg.grown {w w' : World} {m : Nat} (h : w.grownBy w' (some m)) : Chg (· = m) w w' := ⟨h.os, h.tape, h.output, h.size, fun k hk hn => h.block k hk (fun e => hn (by injection e))⟩
theorem Chg.grown0 {w w' : World} (h : w.grownBy w' none) : Chg (fun _ => False) w w' := ⟨h.os, h.tape, h.output, h.size, fun k hk _ => h.block k hk (by simp)⟩

/-- What a map holds at each key. -/
def Rd1 (bk : ByteArray → Option Nat) (D : DataW Unit) : Prop := ∀ k z, D.atKey (kl k) z = (match bk k with | none => z | some b => .lit (.int .u64 b))
theorem rd1_has {bk : ByteArray → Option Nat} {D : DataW Unit} (h : Rd1 bk D) (k : ByteArray) : has D (kl k) = (bk k).isSome := by
  cases e : bk k with
  | none => exact has_false_of_atKey (fun z => by rw [h k z, e])
  | some b => exact has_true_of_atKey (fun z => by rw [h k z, e])
theorem ownsMap_tight {w : World} {P : Program} {k : TypeId} {R : Value → Option (DataW Unit × List MemPlace)} {b n : Nat} {D : DataW Unit} (h : w.ownsMap P k R b n D) : w.ownsMap P k R b (Maps.size D) D := by
  obtain ⟨es, clock, hb, F, hs, rfl⟩ := h
  exact ⟨es, clock, hb, F, by simp [Maps.size, length_sorted], rfl⟩
/-- Block m is a map of n entries, at each key the pointer that bk says. -/
def KM (w : World) (m : Nat) (bk : ByteArray → Option Nat) (n : Nat) : Prop := ∃ D, w.ownsMap Try.prog 9 ptrE m n D ∧ Maps.size D = n ∧ Rd1 bk D
theorem KM.made (w : World) : KM (w.alloc (.map #[] 0)) w.heap.size (fun _ => none) 0 := ⟨.map [], World.ownsMap_made _ _ _ _, rfl, fun _ _ => rfl⟩
theorem KM.lt {w : World} {m n : Nat} {bk : ByteArray → Option Nat} (h : KM w m bk n) : m < w.heap.size := by obtain ⟨D, h, _⟩ := h; exact h.lt
theorem KM.old {w w' : World} {m n : Nat} {bk : ByteArray → Option Nat} (h : KM w m bk n) (e : w'.heap[m]? = w.heap[m]?) : KM w' m bk n := by
  obtain ⟨D, ⟨es, clock, hb, F, hs, hD⟩, hn, hr⟩ := h
  exact ⟨D, ⟨es, clock, e.trans hb, F, hs, hD⟩, hn, hr⟩
theorem KM.kept {S : Nat → Prop} {w w' : World} {m n : Nat} {bk : ByteArray → Option Nat} (h : KM w m bk n) (c : Chg S w w') (hm : ¬ S m) : KM w' m bk n := h.old (c.block m h.lt hm)
theorem KM.look {w : World} {m n : Nat} {bk : ByteArray → Option Nat} (h : KM w m bk n) {k : ByteArray} (hk : k.size ≤ maxLen) : (Instr.lookup 45 (.map (some m)) (.string k) false).run Try.prog w = .ok (ptrV (bk k)) w := by
  obtain ⟨D, ho, _, hr⟩ := h
  obtain ⟨v, ps, hrun, hv⟩ := ho.lookup mlaw Try.underlying45 (zeroE w) (ptrE_mk none) (mkey hk)
  obtain ⟨o, rfl, e⟩ := ptrE_inv hv
  have e1 : D.atKey (kl k) (encO none) = encO o := by injection e
  rw [hr k] at e1
  have : bk k = o := by
    cases hb : bk k with
    | none => rw [hb] at e1; exact encO_inj e1
    | some b => rw [hb] at e1; exact encO_inj (a := some b) e1
  rw [hrun, this]
theorem KM.len {w : World} {m n : Nat} {bk : ByteArray → Option Nat} (h : KM w m bk n) (ty : TypeId) : (Builtin.len_ #[45] ty #[.map (some m)]).run Try.prog w = .ok (.int .i64 n) w := by
  obtain ⟨D, ho, rfl, _⟩ := h
  exact ho.len Try.underlying45 ty
theorem KM.put {w : World} {m n : Nat} {bk : ByteArray → Option Nat} (h : KM w m bk n) (hn : n < maxLen) {k : ByteArray} (hk : k.size ≤ maxLen) (b : Nat) :
    ∃ w', (Instr.mapUpdate 45 (.map (some m)) (.string k) (.pointer (some ⟨b, 0, none⟩))).run Try.prog w = .ok () w' ∧ KM w' m (fun x => if x = k then some b else bk x) (if (bk k).isSome then n else n + 1) ∧ Chg (· = m) w w' := by
  obtain ⟨D, ho, hs, hr⟩ := h
  obtain ⟨w', hrun, ho', hg⟩ := ho.update mlaw Try.underlying45 hn (mkey hk) (ptrE_mk (some b))
  have hsz := size_put (ho.tidy mlaw) (k := kl k) (encO (some b))
  rw [rd1_has hr k, hs] at hsz
  refine ⟨w', hrun, ⟨_, hsz ▸ ownsMap_tight ho', hsz, fun x z => ?_⟩, Chg.grown hg⟩
  simp only
  by_cases e : x = k
  · subst e
    rw [if_pos rfl, atKey_put_same ho.isMap (mlaw.key (mkey hk))]; rfl
  · rw [if_neg e, atKey_put_other (fun h => e (kl_inj h)), hr x z]
theorem KM.drop {w : World} {m n : Nat} {bk : ByteArray → Option Nat} (h : KM w m bk n) {k : ByteArray} (hk : k.size ≤ maxLen) (hb : (bk k).isSome = true) (ty : TypeId) :
    ∃ w', (Builtin.delete_ #[45, 9] ty #[.map (some m), .string k]).run Try.prog w = .ok (.tuple #[]) w' ∧ KM w' m (fun x => if x = k then none else bk x) (n - 1) ∧ Chg (· = m) w w' := by
  obtain ⟨D, ho, hs, hr⟩ := h
  obtain ⟨w', hrun, ho', ht⟩ := ho.drop mlaw Try.underlying45 (mkey hk) ty
  have hsz := size_del (ho.tidy mlaw) (k := kl k)
  rw [rd1_has hr k, hs, hb, if_pos rfl] at hsz
  have hsz' : Maps.size (D.del (kl k)) = n - 1 := by omega
  refine ⟨w', hrun, ⟨_, hsz' ▸ ownsMap_tight ho', hsz', fun x z => ?_⟩, Chg.grown ht.grown⟩
  simp only
  by_cases e : x = k
  · subst e
    rw [if_pos rfl, atKey_del_same]
  · rw [if_neg e, atKey_del_other (fun h => e (kl_inj h)), hr x z]
/-- A range over the map is under way: which keys are left. -/
def KR (w : World) (m r : Nat) (bk : ByteArray → Option Nat) (n : Nat) (left : ByteArray → Bool) (cnt : Nat) : Prop :=
  ∃ D lf, w.ranges Try.prog 9 ptrE m r n D lf cnt ∧ Maps.size D = n ∧ Rd1 bk D ∧ ∀ k, lf (kl k) = left k
theorem KR.map {w : World} {m r n cnt : Nat} {bk : ByteArray → Option Nat} {left : ByteArray → Bool} (h : KR w m r bk n left cnt) : KM w m bk n := by
  obtain ⟨D, lf, hr, hs, h1, _⟩ := h
  exact ⟨D, hr.owns, hs, h1⟩
theorem KR.lt {w : World} {m r n cnt : Nat} {bk : ByteArray → Option Nat} {left : ByteArray → Bool} (h : KR w m r bk n left cnt) : r < w.heap.size := by
  obtain ⟨D, lf, hr, hs, h1, _⟩ := h
  exact hr.lt
theorem KR.old {w w' : World} {m r n cnt : Nat} {bk : ByteArray → Option Nat} {left : ByteArray → Bool} (h : KR w m r bk n left cnt) (e1 : w'.heap[m]? = w.heap[m]?) (e2 : w'.heap[r]? = w.heap[r]?) : KR w' m r bk n left cnt := by
  obtain ⟨D, lf, ⟨es, clock, since, seen, c0, hb, F, hs, hD, hr, hrest⟩, hn, h1, h2⟩ := h
  exact ⟨D, lf, ⟨es, clock, since, seen, c0, e1.trans hb, F, hs, hD, e2.trans hr, hrest⟩, hn, h1, h2⟩
theorem KR.kept {S : Nat → Prop} {w w' : World} {m r n cnt : Nat} {bk : ByteArray → Option Nat} {left : ByteArray → Bool} (h : KR w m r bk n left cnt) (c : Chg S w w') (hm : ¬ S m) (hr : ¬ S r) : KR w' m r bk n left cnt :=
  h.old (c.block m h.map.lt hm) (c.block r h.lt hr)
theorem KM.range {w : World} {m n : Nat} {bk : ByteArray → Option Nat} (h : KM w m bk n) :
    ∃ w', (Instr.range 45 (.map (some m))).run Try.prog w = .ok (.pointer (some ⟨w.heap.size, 0, none⟩)) w' ∧ KR w' m w.heap.size bk n (fun k => (bk k).isSome) n ∧ Chg (fun _ => False) w w' ∧ w'.heap.size = w.heap.size + 1 := by
  obtain ⟨D, ho, hs, hr⟩ := h
  obtain ⟨w', hrun, h1, h2, h3⟩ := ho.range mlaw Try.underlying45
  exact ⟨w', hrun, ⟨D, has D, hs ▸ (by rw [hs]; exact hs ▸ h1), hs, hr, rd1_has hr⟩, Chg.grown0 h2, h3⟩
theorem KR.next {w : World} {m r n cnt : Nat} {bk : ByteArray → Option Nat} {left : ByteArray → Bool} (h : KR w m r bk n left cnt) (ty : TypeId) :
    ((∀ k, left k = false) ∧ (Instr.next (.pointer (some ⟨r, 0, none⟩)) false ty).run Try.prog w = .ok (.tuple #[.bool false]) w) ∨
    ∃ k b w' cnt', left k = true ∧ bk k = some b ∧ k.size ≤ maxLen ∧ (Instr.next (.pointer (some ⟨r, 0, none⟩)) false ty).run Try.prog w = .ok (.tuple #[.bool true, .string k, .pointer (some ⟨b, 0, none⟩)]) w' ∧
      KR w' m r bk n (fun x => left x && !decide (x = k)) cnt' ∧ cnt' < cnt ∧ Chg (· = r) w w' ∧ w'.heap.size = w.heap.size ∧ (Instr.entry (.pointer (some ⟨r, 0, none⟩))).run Try.prog w' = .ok (.tuple #[.string k, .pointer (some ⟨b, 0, none⟩)]) w' := by
  obtain ⟨D, lf, hr, hs, h1, h2⟩ := h
  rcases hr.next mlaw ty with ⟨_, hl, hrun⟩ | ⟨key, v, kl', y, w', cnt', hkey, hl, hv, hat, hrun, hr', hlt, hg, hsz, hen⟩
  · exact .inl ⟨fun k => by rw [← h2]; exact hl _, hrun⟩
  · obtain ⟨k, rfl, rfl, hk⟩ := mkey_inv hkey
    obtain ⟨o, rfl, rfl⟩ := ptrE_inv hv
    obtain ⟨b, hb⟩ : ∃ b, bk k = some b := by
      cases e : bk k with
      | some b => exact ⟨b, rfl⟩
      | none =>
        have a1 := hat (.nil)
        have a2 := hat (.lit (.bool true))
        rw [h1 k, e] at a1 a2
        rw [← a1] at a2
        cases a2
    have ho : o = some b := by
      have a1 := hat .nil
      rw [h1 k, hb] at a1
      exact (encO_inj (a := some b) a1).symm
    subst ho
    refine .inr ⟨k, b, w', cnt', by rw [← h2]; exact hl, hb, hk, hrun, ⟨D, _, hr', hs, h1, fun x => ?_⟩, hlt, Chg.grown hg, hsz, hen⟩
    have e1 : (kl x).sameKey (kl k) = decide (x = k) := by
      by_cases e : x = k
      · rw [e, WideAt.sameKey_self (mlaw.key (mkey hk)), decide_eq_true rfl]
      · rw [sameKey_ne (fun h => e (kl_inj h)), decide_eq_false e]
    show (lf (kl x) && !(kl x).sameKey (kl k)) = (left x && !decide (x = k))
    rw [h2 x, e1]
end Go.Proofs.Ytplkoephgmdgkaa
