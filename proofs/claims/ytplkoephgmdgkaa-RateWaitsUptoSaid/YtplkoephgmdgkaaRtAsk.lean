/- What Ask and Note do to a table; that it stays a table. No program in sight. -/
import Derived.Test.YtplkoephgmdgkaaRtBest
namespace Go.Proofs.Ytplkoephgmdgkaa
open Go
namespace Rt
theorem key_pos {x : Nat} (h : x < INF) : Go.Proofs.Ytplkoephgmdgkaa.key x = x := by
  have hi := inf_lt
  unfold Go.Proofs.Ytplkoephgmdgkaa.key
  rw [if_pos (by omega), Nat.mod_eq_of_lt (by omega)]
theorem num_pos {x : Nat} (h : x < INF) : isN x = false := by
  have hi := inf_lt
  rw [Bool.eq_false_iff]
  intro h1
  have := (isN_iff x).1 h1
  omega
theorem ge0_iff {c : Nat} (hc : c < 2 ^ 64) : (Ieee.double.order c 0 = some .gt ∨ Ieee.double.order c 0 = some .eq) ↔ (isN c = false ∧ 0 ≤ Go.Proofs.Ytplkoephgmdgkaa.key c) := by
  cases hn : isN c
  · rw [order_key hc (by decide) hn (by decide)]
    have k0 : Go.Proofs.Ytplkoephgmdgkaa.key 0 = 0 := by decide
    rw [k0]
    simp only [Option.some.injEq, Int.compare_eq_gt, Int.compare_eq_eq, true_and]
    omega
  · rw [order_nan_left 0 hn]
    simp
theorem gt_lv {c lv : Nat} (hc : c < 2 ^ 64) (hn : isN c = false) (hl : lv < INF) : (Ieee.double.order c lv == some .gt) = decide ((lv : Int) < Go.Proofs.Ytplkoephgmdgkaa.key c) := by
  have hi := inf_lt
  rw [order_key hc (by omega) hn (num_pos hl), key_pos hl]
  by_cases h : (lv : Int) < Go.Proofs.Ytplkoephgmdgkaa.key c
  · rw [Int.compare_eq_gt.2 h, decide_eq_true h]; rfl
  · rw [decide_eq_false h]
    have : compare (Go.Proofs.Ytplkoephgmdgkaa.key c) (lv : Int) ≠ .gt := fun e => h (Int.compare_eq_gt.1 e)
    simpa using this
theorem pay_iff {c lv : Nat} : payable c lv = true ↔ isN c = false ∧ 0 ≤ Go.Proofs.Ytplkoephgmdgkaa.key c ∧ ¬ (lv : Int) < Go.Proofs.Ytplkoephgmdgkaa.key c := by
  unfold payable
  simp only [Bool.and_eq_true, decide_eq_true_eq, Bool.not_eq_true']
  constructor
  · rintro ⟨⟨h1, h2⟩, h3⟩; exact ⟨h1, h2, by omega⟩
  · rintro ⟨h1, h2, h3⟩; exact ⟨⟨h1, h2⟩, by omega⟩
theorem lvl_new (t : Tb) (h : t.ok) (k : ByteArray) (now : Nat) : lvl t (t.new k now) now = t.burst := by
  unfold lvl
  exact Nat.min_eq_left (add_ge (Nat.le_of_lt (Nat.lt_of_le_of_lt h.burst most_inf)))
theorem find_own {l : List Ent} (hp : l.Pairwise (fun a b => a.key ≠ b.key)) {e : Ent} (he : e ∈ l) {k : ByteArray} (hk : e.key = k) : l.find? (fun e => decide (e.key = k)) = some e := by
  induction l with
  | nil => cases he
  | cons x r ih =>
    rw [List.pairwise_cons] at hp
    rcases List.mem_cons.1 he with rfl | he
    · rw [List.find?_cons_of_pos (by simpa using hk)]
    · rw [List.find?_cons_of_neg (by have := hp.1 e he; simp only [decide_eq_true_eq]; rw [← hk]; exact this)]
      exact ih hp.2 he
/-- Where an entry was laid, its level is what the key's was. -/
theorem laid_level {t u : Tb} (ht : t.ok) {k : ByteArray} {now : Nat} (hn : now ≤ MAXT) (hl : t.laid k now = some u) {e : Ent} (he : e ∈ u.L) (hk : e.key = k) : lvl u e now = t.level k now ∧ u.per = t.per ∧ u.burst = t.burst ∧ u.fade = t.fade := by
  have htm : timely (now : Int) = true := by
    have hM : MAXT = 253402300799 := rfl
    unfold timely
    simp; omega
  unfold Tb.laid at hl
  unfold Tb.level
  rw [if_pos htm]
  cases hg : t.get k with
  | some x =>
    rw [hg] at hl
    injection hl with hl
    subst hl
    have : t.get k = some e := find_own ht.apart he hk
    rw [this] at hg
    injection hg with hg
    subst hg
    exact ⟨rfl, rfl, rfl, rfl⟩
  | none =>
    rw [hg] at hl
    simp only at hl
    have hnot : ∀ x ∈ t.L, x.key ≠ k := get_none hg
    split at hl
    · injection hl with hl
      subst hl
      rcases List.mem_append.1 he with he | he
      · exact absurd hk (hnot e he)
      · obtain rfl := List.mem_singleton.1 he
        exact ⟨lvl_new t ht k now, rfl, rfl, rfl⟩
    · split at hl
      · cases hl
      · injection hl with hl
        subst hl
        rcases List.mem_append.1 he with he | he
        · exact absurd hk (hnot e (List.mem_filter.1 he).1)
        · obtain rfl := List.mem_singleton.1 he
          exact ⟨lvl_new t ht k now, rfl, rfl, rfl⟩
theorem take_ok {u : Tb} (hu : u.ok) {e : Ent} (he : e.ok u) {now c : Nat} (hn : now ≤ MAXT) : (take u now c e).ok u :=
  ⟨Nat.le_trans (subw_le (Nat.le_trans (lvl_le u e now) (Nat.le_of_lt (Nat.lt_of_le_of_lt hu.burst most_inf))) c) (lvl_le u e now), by
    show max e.since now ≤ MAXT
    have := he.since; omega, he.noted, he.key⟩
theorem jot_ok {u : Tb} {e : Ent} (he : e.ok u) {now x : Nat} (hn : now ≤ MAXT) : (jot u now x e).ok u :=
  ⟨he.lev, he.since, by
    show max e.noted now ≤ MAXT
    have := he.noted; omega, he.key⟩
theorem upd_ok {u : Tb} (hu : u.ok) {k : ByteArray} {f : Ent → Ent} (hf : ∀ e, e.ok u → (f e).ok u) (hk : ∀ e, (f e).key = e.key) : (u.upd k f).ok :=
  ⟨hu.per, hu.per0, hu.burst, hu.burst0, hu.fade, by
    refine List.pairwise_map.2 (hu.apart.imp fun {a b} h => ?_)
    have e1 : ∀ x : Ent, (if x.key = k then f x else x).key = x.key := fun x => by split <;> simp [hk]
    rw [e1, e1]; exact h, fun x hx => by
    obtain ⟨y, hy, rfl⟩ := List.mem_map.1 hx
    have := hu.ents y hy
    split
    · have := hf y this; exact ⟨this.lev, this.since, this.noted, this.key⟩
    · exact ⟨this.lev, this.since, this.noted, this.key⟩, by
    show (u.L.map _).length ≤ 1024
    rw [List.length_map]; exact hu.size⟩
end Rt
end Go.Proofs.Ytplkoephgmdgkaa
