/- One key's answers hang on its own calls, while there is room. No program in sight. -/
import Derived.Test.YtplkoephgmdgkaaRtKn
namespace Go.Proofs.Ytplkoephgmdgkaa
open Go
namespace Rt
/-- The keys of a script: no more of them than there is room for. -/
def Few (K : ByteArray → Prop) : Prop := ∀ l : List ByteArray, l.Nodup → (∀ k ∈ l, K k) → l.length ≤ 1024
def Within (K : ByteArray → Prop) (T : Tb) : Prop := ∀ e ∈ T.L, K e.key
theorem keys_nodup {T : Tb} (h : T.ok) : (T.L.map (fun e => e.key)).Nodup := List.pairwise_map.2 h.apart
theorem room_of {K : ByteArray → Prop} (hK : Few K) {T : Tb} (h : T.ok) (hin : Within K T) {k : ByteArray} (hk : K k) (hg : T.get k = none) : T.L.length < 1024 := by
  have h1 : (k :: T.L.map (fun e => e.key)).Nodup := List.nodup_cons.2 ⟨fun hm => by
    obtain ⟨e, he, h2⟩ := List.mem_map.1 hm
    exact get_none hg e he h2, keys_nodup h⟩
  have := hK _ h1 (fun x hx => by
    rcases List.mem_cons.1 hx with rfl | hx
    · exact hk
    · obtain ⟨e, he, rfl⟩ := List.mem_map.1 hx
      exact hin e he)
  simp at this
  omega
/-- The table with an entry for a key, where there is room. -/
def withE (T : Tb) (k : ByteArray) (n : Nat) : Tb := match T.get k with
  | some _ => T
  | none => ⟨T.per, T.burst, T.fade, T.L ++ [T.new k n]⟩
theorem laid_with {T : Tb} {k : ByteArray} {n : Nat} (h : T.get k = none → T.L.length < 1024) : T.laid k n = some (withE T k n) := by
  unfold Tb.laid withE
  cases hg : T.get k with
  | some _ => rfl
  | none => simp only; rw [if_pos (h hg)]
theorem get_app {T : Tb} {e : Ent} {k : ByteArray} : (⟨T.per, T.burst, T.fade, T.L ++ [e]⟩ : Tb).get k = match T.get k with | some x => some x | none => if e.key = k then some e else none := by
  unfold Tb.get
  rw [List.find?_append]
  cases h : T.L.find? (fun e => decide (e.key = k)) with
  | some x => rfl
  | none =>
    simp only [Option.none_or]
    by_cases hk : e.key = k
    · rw [if_pos hk, List.find?_cons_of_pos (by simpa using hk)]
    · rw [if_neg hk, List.find?_cons_of_neg (by simpa using hk)]; rfl
theorem withE_same {T : Tb} {k : ByteArray} {n : Nat} : (withE T k n).get k = some ((T.get k).getD (T.new k n)) := by
  unfold withE
  cases hg : T.get k with
  | some x => simp only; rw [hg]; rfl
  | none => simp only; rw [get_app, hg]; simp [Tb.new]
theorem withE_other {T : Tb} {k key : ByteArray} {n : Nat} (h : k ≠ key) : (withE T k n).get key = T.get key := by
  unfold withE
  cases hg : T.get k with
  | some x => rfl
  | none =>
    simp only
    rw [get_app]
    cases T.get key with
    | some x => rfl
    | none => simp [Tb.new, h]
theorem find_map {f : Ent → Ent} (hf : ∀ e, (f e).key = e.key) (k key : ByteArray) : ∀ l : List Ent, (l.map (fun e => if e.key = k then f e else e)).find? (fun e => decide (e.key = key)) = (l.find? (fun e => decide (e.key = key))).map (fun e => if e.key = k then f e else e)
  | [] => rfl
  | x :: r => by
    have hx : (if x.key = k then f x else x).key = x.key := by split <;> simp [hf]
    rw [List.map_cons]
    by_cases h : x.key = key
    · rw [List.find?_cons_of_pos (by simpa [hx] using h), List.find?_cons_of_pos (by simpa using h)]; rfl
    · rw [List.find?_cons_of_neg (by simpa [hx] using h), List.find?_cons_of_neg (by simpa using h), find_map hf k key r]
theorem upd_same {T : Tb} {k : ByteArray} {f : Ent → Ent} (hf : ∀ e, (f e).key = e.key) : (T.upd k f).get k = (T.get k).map f := by
  have h := find_map hf k k T.L
  show List.find? _ (T.L.map _) = _
  rw [h]
  show (T.get k).map _ = _
  cases hg : T.get k with
  | none => rfl
  | some e => simp [(get_some hg).2]
theorem upd_other {T : Tb} {k key : ByteArray} {f : Ent → Ent} (hf : ∀ e, (f e).key = e.key) (hne : k ≠ key) : (T.upd k f).get key = T.get key := by
  have h := find_map hf k key T.L
  show List.find? _ (T.L.map _) = _
  rw [h]
  show (T.get key).map _ = _
  cases hg : T.get key with
  | none => rfl
  | some e => simp [(get_some hg).2, Ne.symm hne]
/-- Two tables say the same of a key. -/
structure Alk (T U : Tb) (key : ByteArray) : Prop where
  per : T.per = U.per
  burst : T.burst = U.burst
  fade : T.fade = U.fade
  get : T.get key = U.get key
theorem lvl_par {T U : Tb} (hp : T.per = U.per) (hb : T.burst = U.burst) (e : Ent) (n : Nat) : lvl T e n = lvl U e n := by unfold lvl; rw [hp, hb]
theorem stn_par {T U : Tb} (hf : T.fade = U.fade) (e : Ent) (n : Nat) : stn T e n = stn U e n := by unfold stn; rw [hf]
theorem Alk.level {T U : Tb} {key : ByteArray} (h : Alk T U key) (now : Int) : T.level key now = U.level key now := by
  unfold Tb.level
  rw [h.get, h.burst]
  cases U.get key with
  | none => rfl
  | some e => simp only; rw [lvl_par h.per h.burst]
theorem Alk.standing {T U : Tb} {key : ByteArray} (h : Alk T U key) (now : Int) : T.standing key now = U.standing key now := by
  unfold Tb.standing
  rw [h.get]
  cases U.get key with
  | none => rfl
  | some e => simp only; rw [stn_par h.fade]
theorem withE_par (T : Tb) (k : ByteArray) (n : Nat) : (withE T k n).per = T.per ∧ (withE T k n).burst = T.burst ∧ (withE T k n).fade = T.fade := by
  unfold withE; split <;> exact ⟨rfl, rfl, rfl⟩
theorem ask_with {T : Tb} {k : ByteArray} (hr : T.get k = none → T.L.length < 1024) (now : Int) (c : Nat) :
    T.ask k now c = if timely now = true ∧ payable c (T.level k now) = true then (true, (withE T k now.toNat).upd k (take (withE T k now.toNat) now.toNat c)) else (false, T) := by
  unfold Tb.ask
  rw [laid_with hr]
theorem note_with {T : Tb} {k : ByteArray} (hr : T.get k = none → T.L.length < 1024) (now : Int) (x : Nat) :
    T.note k now x = if timely now = false then (5, T) else if withinB x (MOST + 2 ^ 63) MOST = false then (2, T) else (0, (withE T k now.toNat).upd k (jot (withE T k now.toNat) now.toNat x)) := by
  unfold Tb.note
  rw [laid_with hr]
theorem take_key (u : Tb) (n c : Nat) : ∀ e, (take u n c e).key = e.key := fun _ => rfl
theorem jot_key (u : Tb) (n x : Nat) : ∀ e, (jot u n x e).key = e.key := fun _ => rfl
/-- The key's own call. -/
theorem Alk.ask {T U : Tb} {key : ByteArray} (h : Alk T U key) (hT : T.get key = none → T.L.length < 1024) (hU : U.get key = none → U.L.length < 1024) (now : Int) (c : Nat) :
    (T.ask key now c).1 = (U.ask key now c).1 ∧ Alk (T.ask key now c).2 (U.ask key now c).2 key := by
  rw [ask_with hT, ask_with hU, h.level now]
  have pT := withE_par T key now.toNat
  have pU := withE_par U key now.toNat
  split
  · refine ⟨rfl, ⟨?_, ?_, ?_, ?_⟩⟩
    · show (withE T key now.toNat).per = (withE U key now.toNat).per; rw [pT.1, pU.1, h.per]
    · show (withE T key now.toNat).burst = (withE U key now.toNat).burst; rw [pT.2.1, pU.2.1, h.burst]
    · show (withE T key now.toNat).fade = (withE U key now.toNat).fade; rw [pT.2.2, pU.2.2, h.fade]
    · simp only
      rw [upd_same (take_key _ _ _), upd_same (take_key _ _ _), withE_same, withE_same, h.get]
      have hn : T.new key now.toNat = U.new key now.toNat := by unfold Tb.new; rw [h.burst]
      rw [hn]
      simp only [Option.map_some, take]
      rw [lvl_par (T := withE T key now.toNat) (U := withE U key now.toNat) (by rw [pT.1, pU.1, h.per]) (by rw [pT.2.1, pU.2.1, h.burst])]
  · exact ⟨rfl, h⟩
theorem Alk.note {T U : Tb} {key : ByteArray} (h : Alk T U key) (hT : T.get key = none → T.L.length < 1024) (hU : U.get key = none → U.L.length < 1024) (now : Int) (x : Nat) :
    (T.note key now x).1 = (U.note key now x).1 ∧ Alk (T.note key now x).2 (U.note key now x).2 key := by
  rw [note_with hT, note_with hU]
  have pT := withE_par T key now.toNat
  have pU := withE_par U key now.toNat
  split
  · exact ⟨rfl, h⟩
  · split
    · exact ⟨rfl, h⟩
    · refine ⟨rfl, ⟨?_, ?_, ?_, ?_⟩⟩
      · show (withE T key now.toNat).per = (withE U key now.toNat).per; rw [pT.1, pU.1, h.per]
      · show (withE T key now.toNat).burst = (withE U key now.toNat).burst; rw [pT.2.1, pU.2.1, h.burst]
      · show (withE T key now.toNat).fade = (withE U key now.toNat).fade; rw [pT.2.2, pU.2.2, h.fade]
      · simp only
        rw [upd_same (jot_key _ _ _), upd_same (jot_key _ _ _), withE_same, withE_same, h.get]
        have hn : T.new key now.toNat = U.new key now.toNat := by unfold Tb.new; rw [h.burst]
        rw [hn]
        simp only [Option.map_some, jot]
        rw [stn_par (T := withE T key now.toNat) (U := withE U key now.toNat) (by rw [pT.2.2, pU.2.2, h.fade])]
/-- Another key's call. -/
theorem Alk.askO {T U : Tb} {k key : ByteArray} (h : Alk T U key) (hT : T.get k = none → T.L.length < 1024) (hne : k ≠ key) (now : Int) (c : Nat) : Alk (T.ask k now c).2 U key := by
  rw [ask_with hT]
  have pT := withE_par T k now.toNat
  split
  · exact ⟨pT.1.trans h.per, pT.2.1.trans h.burst, pT.2.2.trans h.fade, by
      simp only
      rw [upd_other (take_key _ _ _) hne, withE_other hne, h.get]⟩
  · exact h
theorem Alk.noteO {T U : Tb} {k key : ByteArray} (h : Alk T U key) (hT : T.get k = none → T.L.length < 1024) (hne : k ≠ key) (now : Int) (x : Nat) : Alk (T.note k now x).2 U key := by
  rw [note_with hT]
  have pT := withE_par T k now.toNat
  split
  · exact h
  · split
    · exact h
    · exact ⟨pT.1.trans h.per, pT.2.1.trans h.burst, pT.2.2.trans h.fade, by
        simp only
        rw [upd_other (jot_key _ _ _) hne, withE_other hne, h.get]⟩
theorem withE_in {K : ByteArray → Prop} {T : Tb} (h : Within K T) {k : ByteArray} (hk : K k) (n : Nat) : Within K (withE T k n) := by
  unfold withE
  split
  · exact h
  · intro e he
    rcases List.mem_append.1 he with he | he
    · exact h e he
    · rw [List.mem_singleton.1 he]; exact hk
theorem upd_in {K : ByteArray → Prop} {T : Tb} (h : Within K T) {k : ByteArray} {f : Ent → Ent} (hf : ∀ e, (f e).key = e.key) : Within K (T.upd k f) := by
  intro e he
  obtain ⟨y, hy, rfl⟩ := List.mem_map.1 he
  split
  · rw [hf]; exact h y hy
  · exact h y hy
theorem ask_in' {K : ByteArray → Prop} {T : Tb} (h : Within K T) {k : ByteArray} (hk : K k) (hT : T.get k = none → T.L.length < 1024) (now : Int) (c : Nat) : Within K (T.ask k now c).2 := by
  rw [ask_with hT]
  split
  · exact upd_in (withE_in h hk _) (take_key _ _ _)
  · exact h
theorem note_in' {K : ByteArray → Prop} {T : Tb} (h : Within K T) {k : ByteArray} (hk : K k) (hT : T.get k = none → T.L.length < 1024) (now : Int) (x : Nat) : Within K (T.note k now x).2 := by
  rw [note_with hT]
  split
  · exact h
  · split
    · exact h
    · exact upd_in (withE_in h hk _) (jot_key _ _ _)
end Rt
end Go.Proofs.Ytplkoephgmdgkaa
