/- The law's own map: which keys a script names. No condition but what each states. -/
import Derived.Test.YtplkoephgmdgkaaRtL3
import Derived.Test.YtplkoephgmdgkaaRtAp
namespace Go.Proofs.Ytplkoephgmdgkaa
open Go Go.RowKit Rt Go.Maps
set_option linter.unusedVariables false
theorem mapT : Try.prog.underlying 78 = some (.map 9 3) := Try.underlying78
theorem zeroI (w : World) : (zeroValue 3).run Try.prog w = .ok (.int .i64 0) w := by kernel_rfl
/-- Block m is a map with just these keys. -/
def KI (w : World) (m : Nat) (K : ByteArray → Prop) (n : Nat) : Prop := ∃ D : DataW Unit, w.ownsMap Try.prog 9 (plainElem Try.prog 3) m n D ∧ ∀ k, has D (kl k) = true ↔ K k
theorem KI.made (w : World) : KI (w.alloc (.map #[] 0)) w.heap.size (fun _ => False) 0 := ⟨.map [], World.ownsMap_made _ _ _ _, fun k => by simp [has]⟩
theorem KI.lt {w : World} {m n : Nat} {K : ByteArray → Prop} (h : KI w m K n) : m < w.heap.size := by obtain ⟨D, h, _⟩ := h; exact h.lt
theorem KI.old {w w' : World} {m n : Nat} {K : ByteArray → Prop} (h : KI w m K n) (e : w'.heap[m]? = w.heap[m]?) : KI w' m K n := by
  obtain ⟨D, ⟨es, clock, hb, F, hs, hD⟩, hn⟩ := h
  exact ⟨D, ⟨es, clock, e.trans hb, F, hs, hD⟩, hn⟩
theorem KI.kept {S : Nat → Prop} {w w' : World} {m n : Nat} {K : ByteArray → Prop} (h : KI w m K n) (c : Chg S w w') (hm : ¬ S m) : KI w' m K n := h.old (c.block m h.lt hm)
theorem KI.put {w : World} {m n : Nat} {K : ByteArray → Prop} (h : KI w m K n) (hn : n < maxLen) {k : ByteArray} (hk : k.size ≤ maxLen) :
    ∃ w', (Instr.mapUpdate 78 (.map (some m)) (.string k) (.int .i64 1)).run Try.prog w = .ok () w' ∧ KI w' m (fun x => K x ∨ x = k) (n + 1) ∧ Chg (· = m) w w' := by
  obtain ⟨D, ho, hr⟩ := h
  obtain ⟨w', hrun, ho', hg⟩ := ho.update mlaw mapT hn (mkey hk) (plainElem_int (H := Unit) Try.underlying3 (a := 1) (by decide))
  refine ⟨w', hrun, ⟨_, ho', fun x => ?_⟩, Chg.grown hg⟩
  by_cases e : x = k
  · subst e
    rw [has_put_same ho.isMap (mlaw.key (mkey hk))]; simp
  · rw [has_put_other (fun h => e (kl_inj h)), hr x]; simp [e]
theorem nodup_len {α : Type} : ∀ (l es : List α), l.Nodup → (∀ x ∈ l, x ∈ es) → l.length ≤ es.length
  | [], _, _, _ => Nat.zero_le _
  | x :: r, es, hn, hm => by
    classical
    obtain ⟨h1, h2⟩ := List.nodup_cons.1 hn
    have hx := hm x (List.mem_cons_self ..)
    have := nodup_len r (es.erase x) h2 (fun y hy => (List.mem_erase_of_ne (fun (e : y = x) => h1 (by rw [← e]; exact hy))).2 (hm y (List.mem_cons_of_mem _ hy)))
    rw [List.length_erase_of_mem hx] at this
    have hp := List.length_pos_of_mem hx
    simp only [List.length_cons]
    omega
theorem KI.len {w : World} {m n : Nat} {K : ByteArray → Prop} (h : KI w m K n) : ∃ z : Nat, (∀ ty, (Builtin.len_ #[78] ty #[.map (some m)]).run Try.prog w = .ok (.int .i64 z) w) ∧ (z ≤ 1024 → Few K) := by
  obtain ⟨D, ho, hr⟩ := h
  refine ⟨_, fun ty => ho.len mapT ty, fun hz l hn hl => ?_⟩
  obtain ⟨es, hD, _⟩ := ho.tidy mlaw
  subst hD
  have h1 : (l.map kl).Nodup := by
    refine List.pairwise_map.2 (List.Pairwise.imp ?_ hn)
    intro a b hab e
    exact hab (kl_inj e)
  have h2 := nodup_len (l.map kl) (es.map (fun p => p.1)) h1 (fun x hx => by
    obtain ⟨k, hk, rfl⟩ := List.mem_map.1 hx
    have h3 := (hr k).2 (hl k hk)
    rw [has_eq] at h3
    obtain ⟨p, hp, hpk⟩ := List.any_eq_true.1 h3
    exact List.mem_map.2 ⟨p, hp, WideAt.sameKey_eq hpk⟩)
  rw [List.length_map, List.length_map] at h2
  have h4 : size (DataW.map es : DataW Unit) = es.length := rfl
  omega
theorem few_one (key : ByteArray) : Few (fun k => k = key) := fun l hn hl => by
  have := nodup_len l [key] hn (fun x hx => by rw [hl x hx]; exact List.mem_cons_self ..)
  simp only [List.length_cons, List.length_nil] at this
  omega
end Go.Proofs.Ytplkoephgmdgkaa
