/- What a stream comes to, byte by byte, with turns behind its items: a relation that hangs on the bytes alone. No condition but what each states. -/
import Derived.Test.YtnjloldhmjadoaaFrSpec
namespace Go.Proofs.Ytnjloldhmjadoaa.Pl
open Ln Dt Fr

/-- A turn: what is called behind an item (1 Data, 2 Chunk). -/
structure Tn where
  kind : Int
  n : Int
  room : Int
/-- What is under way, the items told (bodies side by side as one), how many turns there were. -/
structure PS where
  m : FM
  out : List It
  t : Nat
def PS.new : PS := ⟨FM.new, [], 0⟩
def addB (out : List It) (b : List UInt8) : List It :=
  if b = [] then out else
  match out.getLast? with
  | none => [It.body b]
  | some y => if y.kind = 3 then out.dropLast ++ [{ y with bytes := y.bytes ++ b }] else out ++ [It.body b]
theorem addB_nil (out : List It) : addB out [] = out := by simp [addB]
theorem addB_add (out : List It) (a b : List UInt8) : addB (addB out a) b = addB out (a ++ b) := by
  by_cases ha : a = []
  · subst ha; simp [addB_nil]
  · by_cases hb : b = []
    · subst hb; simp [addB_nil]
    · rcases List.eq_nil_or_concat out with rfl | ⟨l, y, rfl⟩
      · simp [addB, ha, hb, It.body]
      · by_cases h3 : y.kind = 3
        · simp [addB, ha, hb, h3, List.concat_eq_append]
        · simp [addB, ha, hb, h3, List.concat_eq_append, It.body]
/-- What a turn makes of what is under way. -/
def Tn.act (o : Tn) (m : FM) : FM := if o.kind = 1 then m.data?.2 else if o.kind = 2 then (m.chunk? (max 0 o.n) (max 0 o.room)).2 else m
def turnAt (ts : List Tn) (t : Nat) : Tn := ts.getD (t % ts.length) ⟨0, 0, 0⟩
def turned (ts : List Tn) (S : PS) : PS := if ts = [] then S else ⟨(turnAt ts S.t).act S.m, S.out, S.t + 1⟩
/-- An item is told: a body, or another one. -/
def tell (ts : List Tn) (S : PS) (x : It) (m' : FM) : PS := if x.kind = 3 then ⟨m', addB S.out x.bytes, S.t⟩ else turned ts ⟨m', S.out ++ [x], S.t⟩
/-- An end is told without a byte. -/
def pend : FM → Bool
  | .data r => r.waits
  | .chunk left _ => left == 0
  | .lines _ _ => false
def pendIt (L : Lim) : FM → It
  | .data r => r.d.end L.all
  | _ => ⟨4, [], [], 0, false⟩
def byte (L : Lim) (ts : List Tn) (S : PS) (c : UInt8) : PS :=
  match S.m with
  | .lines ls _ => if ls.ends c then tell ts S (ofItm ls.item) FM.new else ⟨.lines (ls.next L.line c) true, S.out, S.t⟩
  | .data r => ⟨.data ⟨(r.d.step L.text c).1, decide ((r.d.step L.text c).1.st = 5)⟩, addB S.out ((r.d.step L.text c).2.take (L.all - r.d.size)), S.t⟩
  | .chunk left room => if 0 < room then ⟨.chunk (left - 1) (room - 1), addB S.out [c], S.t⟩ else ⟨.chunk (left - 1) 0, S.out, S.t⟩
inductive Run (L : Lim) (ts : List Tn) : PS → List UInt8 → PS → Prop
  | done {S : PS} (h : pend S.m = false) : Run L ts S [] S
  | pend {S S' : PS} {bs : List UInt8} (h : pend S.m = true) (r : Run L ts (tell ts S (pendIt L S.m) FM.new) bs S') : Run L ts S bs S'
  | byte {S S' : PS} {c : UInt8} {bs : List UInt8} (h : pend S.m = false) (r : Run L ts (byte L ts S c) bs S') : Run L ts S (c :: bs) S'
theorem Run.det {L : Lim} {ts : List Tn} {S S1 S2 : PS} {bs : List UInt8} (h : Run L ts S bs S1) (k : Run L ts S bs S2) : S1 = S2 := by
  induction h with
  | done h =>
    cases k with
    | done _ => rfl
    | pend h' _ => rw [h] at h'; cases h'
  | pend h _ ih =>
    cases k with
    | done h' => rw [h] at h'; cases h'
    | pend _ r => exact ih r
    | byte h' _ => rw [h] at h'; cases h'
  | byte h _ ih =>
    cases k with
    | pend h' _ => rw [h] at h'; cases h'
    | byte _ r => exact ih r
theorem Run.app {L : Lim} {ts : List Tn} {S S1 S2 : PS} {a b : List UInt8} (h : Run L ts S a S1) (k : Run L ts S1 b S2) : Run L ts S (a ++ b) S2 := by
  induction h with
  | done h => exact k
  | pend h _ ih => exact .pend h (ih k)
  | byte h _ ih => exact .byte h (ih k)

/-- What can be under way: the end of a body waits to be told as soon as it has come. -/
def good : FM → Prop
  | .data r => r.waits = decide (r.d.st = 5)
  | _ => True
theorem lines_run {L : Lim} {ts : List Tn} {S' : PS} : ∀ (p : List UInt8) (ls : LS) (bg : Bool) (out : List It) (t : Nat),
    ((Ln.take L.line ls p).2.1.kind = 0 → Run L ts ⟨.lines ls bg, out, t⟩ p ⟨.lines (Ln.take L.line ls p).2.2 (bg || decide (0 < (Ln.take L.line ls p).1)), out, t⟩) ∧
    ((Ln.take L.line ls p).2.1.kind ≠ 0 → Run L ts (tell ts ⟨.lines ls bg, out, t⟩ (ofItm (Ln.take L.line ls p).2.1) FM.new) (p.drop (Ln.take L.line ls p).1) S' → Run L ts ⟨.lines ls bg, out, t⟩ p S')
  | [], ls, bg, out, t => by
    simp only [Ln.take, Itm.none]
    exact ⟨fun _ => by simpa using Run.done rfl, fun h => absurd rfl h⟩
  | c :: r, ls, bg, out, t => by
    have hi : ls.item.kind ≠ 0 := by unfold LS.item; split <;> simp
    by_cases he : ls.ends c = true
    · rw [Ln.take, if_pos he]
      refine ⟨fun h => absurd h hi, fun _ k => .byte rfl ?_⟩
      simp only [List.drop_succ_cons, List.drop_zero] at k
      show Run L ts (byte L ts ⟨.lines ls bg, out, t⟩ c) r S'
      simp only [byte, he, if_true]
      exact k
    · obtain ⟨i1, i2⟩ := lines_run (L := L) (ts := ts) (S' := S') r (ls.next L.line c) true out t
      rw [Ln.take, if_neg he]
      refine ⟨fun h => .byte rfl ?_, fun h k => .byte rfl ?_⟩
      · have := i1 h
        simp only [byte, he, Bool.false_eq_true, if_false]
        simpa using this
      · simp only [byte, he, Bool.false_eq_true, if_false]
        refine i2 h ?_
        simpa [tell, turned] using k
theorem take_addB (a r : List UInt8) (k : Nat) : (a ++ r).take k = a.take k ++ r.take (k - a.length) := List.take_append
theorem data_run {L : Lim} {ts : List Tn} {S' : PS} : ∀ (p : List UInt8) (d : DS) (out : List It) (t : Nat), d.st ≠ 5 →
    Run L ts ⟨.data ⟨(feed L.text d p).2.1, decide ((feed L.text d p).2.1.st = 5)⟩, addB out ((feed L.text d p).2.2.take (L.all - d.size)), t⟩ (p.drop (feed L.text d p).1) S' →
    Run L ts ⟨.data ⟨d, false⟩, out, t⟩ p S'
  | [], d, out, t, h, k => by
    simpa [feed, addB_nil, h] using k
  | c :: r, d, out, t, h, k => by
    refine .byte rfl ?_
    show Run L ts ⟨.data ⟨(d.step L.text c).1, decide ((d.step L.text c).1.st = 5)⟩, addB out ((d.step L.text c).2.take (L.all - d.size)), t⟩ r S'
    rw [feed, if_neg h] at k
    simp only [List.drop_succ_cons] at k
    have hs := d.step_size L.text c
    rw [take_addB, ← addB_add] at k
    by_cases h5 : (d.step L.text c).1.st = 5
    · rw [feed_ended _ _ _ h5] at k
      simpa [addB_nil] using k
    · have e : decide ((d.step L.text c).1.st = 5) = false := by simpa using h5
      rw [e]
      refine data_run r _ _ t h5 ?_
      rw [show L.all - (d.step L.text c).1.size = L.all - d.size - (d.step L.text c).2.length from by omega]
      exact k
theorem chunk_run {L : Lim} {ts : List Tn} {S' : PS} : ∀ (p : List UInt8) (left room : Nat) (out : List It) (t : Nat),
    Run L ts ⟨.chunk (left - min p.length left) (room - min (min p.length left) room), addB out (p.take (min (min p.length left) room)), t⟩ (p.drop (min p.length left)) S' →
    Run L ts ⟨.chunk left room, out, t⟩ p S'
  | [], left, room, out, t, k => by simpa [addB_nil] using k
  | c :: r, 0, room, out, t, k => by simpa [addB_nil] using k
  | c :: r, left + 1, room, out, t, k => by
    refine .byte (by simp [pend]) ?_
    have e1 : min (r.length + 1) (left + 1) = min r.length left + 1 := by omega
    simp only [List.length_cons, e1, List.drop_succ_cons] at k
    cases room with
    | zero =>
      show Run L ts ⟨.chunk left 0, out, t⟩ r S'
      refine chunk_run r left 0 out t ?_
      simpa [addB_nil] using k
    | succ room =>
      show Run L ts ⟨.chunk left room, addB out [c], t⟩ r S'
      refine chunk_run r left room _ t ?_
      have e2 : min (min r.length left + 1) (room + 1) = min (min r.length left) room + 1 := by omega
      rw [e2, List.take_succ_cons] at k
      rw [addB_add]
      have e3 : left + 1 - (min r.length left + 1) = left - min r.length left := by omega
      have e4 : room + 1 - (min (min r.length left) room + 1) = room - min (min r.length left) room := by omega
      rw [e3, e4] at k
      exact k
/-- One Take. -/
theorem take_run {L : Lim} {ts : List Tn} {S' : PS} (m : FM) (out : List It) (t : Nat) (p : List UInt8) (hg : good m) :
    ((FM.take L m p).2.1.kind = 0 → (FM.take L m p).1 = p.length ∧ Run L ts ⟨m, out, t⟩ p ⟨(FM.take L m p).2.2, out, t⟩) ∧
    ((FM.take L m p).2.1.kind ≠ 0 → Run L ts (tell ts ⟨m, out, t⟩ (FM.take L m p).2.1 (FM.take L m p).2.2) (p.drop (FM.take L m p).1) S' → Run L ts ⟨m, out, t⟩ p S') := by
  cases m with
  | lines ls bg =>
    obtain ⟨i1, i2⟩ := lines_run (L := L) (ts := ts) (S' := S') p ls bg out t
    simp only [FM.take, ofItm]
    refine ⟨fun h => ⟨take_none _ _ _ h, ?_⟩, fun h k => ?_⟩
    · have := i1 h
      rw [h]; simpa using this
    · refine i2 h ?_
      have hn := take_item_new L.line p ls h
      rw [hn] at k
      have e : ((Ln.take L.line ls p).2.1.kind == 0) = false := by simpa using h
      rw [e] at k
      exact k
  | data r =>
    obtain ⟨d, wt⟩ := r
    have hg' : wt = decide (d.st = 5) := hg
    by_cases h5 : d.st = 5
    · rw [decide_eq_true h5] at hg'
      subst hg'
      have e : FM.take L (.data ⟨d, true⟩) p = (0, d.end L.all, FM.new) := by simp [FM.take, RS.take, DS.end]
      rw [e]
      exact ⟨fun h => absurd h (by simp [DS.end]), fun _ k => .pend rfl k⟩
    · rw [decide_eq_false h5] at hg'
      subst hg'
      have hr := data_run (L := L) (ts := ts) (S' := S') p d out t h5
      have hr2 := fun S' => data_run (L := L) (ts := ts) (S' := S') p d out t h5
      by_cases ht : (feed L.text d p).2.2.take (L.all - d.size) = []
      · rw [ht, addB_nil] at hr
        simp only [ht, addB_nil] at hr2
        by_cases ho : (feed L.text d p).2.1.st = 5
        · have e : FM.take L (.data ⟨d, false⟩) p = ((feed L.text d p).1, (feed L.text d p).2.1.end L.all, FM.new) := by
            simp [FM.take, RS.take, ht, ho, h5, DS.end]
          rw [e]
          refine ⟨fun h => absurd h (by simp [DS.end]), fun _ k => hr (.pend (by simp [pend, ho]) ?_)⟩
          simpa [tell, DS.end, turned, pendIt] using k
        · have e : FM.take L (.data ⟨d, false⟩) p = ((feed L.text d p).1, It.none, .data ⟨(feed L.text d p).2.1, false⟩) := by
            simp [FM.take, RS.take, ht, ho, It.none]
          have ha := feed_all L.text p d ho
          rw [e]
          refine ⟨fun _ => ⟨ha, ?_⟩, fun h => absurd rfl h⟩
          have e2 : decide ((feed L.text d p).2.1.st = 5) = false := by simpa using ho
          have := hr2 ⟨.data ⟨(feed L.text d p).2.1, false⟩, out, t⟩
          rw [e2, ha, List.drop_length] at this
          exact this (.done rfl)
      · have e : FM.take L (.data ⟨d, false⟩) p = ((feed L.text d p).1, It.body ((feed L.text d p).2.2.take (L.all - d.size)), .data ⟨(feed L.text d p).2.1, decide ((feed L.text d p).2.1.st = 5)⟩) := by
          simp [FM.take, RS.take, ht, h5, It.body]
        rw [e]
        refine ⟨fun h => absurd h (by simp [It.body]), fun _ k => hr ?_⟩
        simpa [tell, It.body] using k
  | chunk left room =>
    have hr := chunk_run (L := L) (ts := ts) (S' := S') p left room out t
    have hr2 := fun S' => chunk_run (L := L) (ts := ts) (S' := S') p left room out t
    simp only [FM.take]
    split
    · rename_i h0
      refine ⟨fun h => absurd h (by simp [It.body]), fun _ k => hr ?_⟩
      simpa [tell, It.body] using k
    · rename_i h0
      have e0 : min (min p.length left) room = 0 := by omega
      rw [e0] at hr
      simp only [e0] at hr2
      split
      · rename_i h1
        refine ⟨fun h => absurd h (by simp), fun _ k => hr ?_⟩
        rw [h1]
        refine .pend (by simp [pend]) ?_
        simpa [tell, turned, pendIt, addB_nil] using k
      · rename_i h1
        have e1 : min p.length left = p.length := by omega
        refine ⟨fun _ => ⟨e1, ?_⟩, fun h => absurd rfl h⟩
        have := hr2 ⟨.chunk (left - min p.length left) (room - 0), out, t⟩
        rw [e0]
        refine this ?_
        rw [e1, List.drop_length]
        simp only [List.take_zero, addB_nil]
        exact .done (by simp [pend]; omega)
theorem good_take {L : Lim} (m : FM) (p : List UInt8) (hg : good m) : good (FM.take L m p).2.2 := by
  cases m with
  | lines ls bg => simp [FM.take, good]
  | data r =>
    obtain ⟨d, wt⟩ := r
    have hg' : wt = decide (d.st = 5) := hg
    subst hg'
    by_cases h5 : d.st = 5
    · simp [FM.take, RS.take, h5, DS.end, good, FM.new]
    · have hd : decide (d.st = 5) = false := by simpa using h5
      simp only [FM.take, RS.take, hd]
      by_cases ht : (feed L.text d p).2.2.take (L.all - d.size) = []
      · by_cases ho : (feed L.text d p).2.1.st = 5
        · simp [ht, ho, h5, DS.end, good, FM.new]
        · simp [ht, ho, good, It.none]
      · simp [ht, h5, It.body, good]
  | chunk left room =>
    simp only [FM.take]
    split
    · trivial
    · split <;> trivial
theorem good_act (o : Tn) (m : FM) (hg : good m) : good (o.act m) := by
  unfold Tn.act
  split
  · unfold FM.data?
    split
    · show false = decide ((0 : Nat) = 5); rfl
    · exact hg
  · split
    · unfold FM.chunk?
      split
      · split <;> trivial
      · split <;> exact hg
    · exact hg
theorem good_new : good FM.new := trivial
/-- What an item leaves: a body that goes on, or nothing under way. -/
theorem take_kind {L : Lim} (m : FM) (p : List UInt8) (h0 : (FM.take L m p).2.1.kind ≠ 0) (h3 : (FM.take L m p).2.1.kind ≠ 3) : (FM.take L m p).2.2 = FM.new ∧ (FM.take L m p).2.1.bytes = [] := by
  cases m with
  | lines ls bg =>
    have hn := take_item_new L.line p ls h0
    have h0' : (Ln.take L.line ls p).2.1.kind ≠ 0 := h0
    have e : ((Ln.take L.line ls p).2.1.kind == 0) = false := by simpa using h0'
    refine ⟨?_, rfl⟩
    simp only [FM.take]
    rw [hn, e]; rfl
  | data r =>
    simp only [FM.take, RS.take] at h0 h3 ⊢
    split
    · exact ⟨by simp [DS.end], rfl⟩
    · rename_i hw
      rw [if_neg hw] at h0 h3
      split
      · rename_i ht; rw [if_pos ht] at h3; exact absurd rfl h3
      · rename_i ht
        rw [if_neg ht] at h0 h3
        split
        · exact ⟨by simp [DS.end], rfl⟩
        · rename_i ho; rw [if_neg ho] at h0; exact absurd rfl h0
  | chunk left room =>
    simp only [FM.take] at h0 h3 ⊢
    split
    · rename_i h; rw [if_pos h] at h3; exact absurd rfl h3
    · rename_i h
      rw [if_neg h] at h0
      split
      · exact ⟨rfl, rfl⟩
      · rename_i h1; rw [if_neg h1] at h0; exact absurd rfl h0
def phi : FM → Nat
  | .data r => if r.waits then 1 else 0
  | .chunk _ _ => 1
  | .lines _ _ => 0
theorem step_end {text : Nat} {d : DS} {c : UInt8} (h : d.st ≠ 5) (h5 : (d.step text c).1.st = 5) : (d.step text c).2 = [] := by
  unfold DS.step at h5 ⊢
  repeat' split
  all_goals first | rfl | skip
  all_goals simp_all [DS.fin, DS.put]
  all_goals (split at h5 <;> omega)
theorem feed_two {text : Nat} {d : DS} {p : List UInt8} (h : d.st ≠ 5) (ht : (feed text d p).2.2 ≠ []) (h5 : (feed text d p).2.1.st = 5) : 2 ≤ (feed text d p).1 := by
  cases p with
  | nil => simp [feed] at ht
  | cons c r =>
    rw [feed, if_neg h] at ht h5 ⊢
    by_cases e : (d.step text c).1.st = 5
    · rw [feed_ended _ _ _ e] at ht
      simp [step_end h e] at ht
    · cases r with
      | nil => simp [feed, e] at h5
      | cons c2 r2 => rw [feed, if_neg e]; simp
/-- How an item is paid for: by bytes, or by an end that waits. -/
theorem take_pay {L : Lim} (m : FM) (p : List UInt8) (hg : good m) (h0 : (FM.take L m p).2.1.kind ≠ 0) : phi (FM.take L m p).2.2 + 1 ≤ (FM.take L m p).1 + phi m ∧ (pend m = false → 1 ≤ (FM.take L m p).1) ∧ (FM.take L m p).1 ≤ p.length := by
  cases m with
  | lines ls bg =>
    have hp : p ≠ [] := by rintro rfl; simp [FM.take, ofItm, Ln.take, Itm.none] at h0
    have := take_pos L.line p ls hp
    have := take_le L.line p ls
    simp only [FM.take, phi]
    omega
  | data r =>
    obtain ⟨d, wt⟩ := r
    have hg' : wt = decide (d.st = 5) := hg
    subst hg'
    by_cases h5 : d.st = 5
    · simp [FM.take, RS.take, h5, DS.end, phi, FM.new, pend]
    · have hd : decide (d.st = 5) = false := by simpa using h5
      have hle := feed_le L.text p d
      have hpos : (feed L.text d p).2.1.st = 5 → 1 ≤ (feed L.text d p).1 := fun e => by
        cases p with
        | nil => simp [feed, h5] at e
        | cons c r => rw [feed, if_neg h5]; simp
      simp only [FM.take, RS.take, hd] at h0 ⊢
      by_cases ht : (feed L.text d p).2.2.take (L.all - d.size) = []
      · by_cases ho : (feed L.text d p).2.1.st = 5
        · have := hpos ho
          simp [ht, ho, h5, DS.end, phi, FM.new]; omega
        · simp [ht, ho, It.none] at h0
      · have h2 : (feed L.text d p).2.2 ≠ [] := by intro e; rw [e] at ht; simp at ht
        have h1 : 1 ≤ (feed L.text d p).1 := by
          cases p with
          | nil => simp [feed] at h2
          | cons c r => rw [feed, if_neg h5]; simp
        by_cases ho : (feed L.text d p).2.1.st = 5
        · have := feed_two h5 h2 ho
          simp [ht, ho, h5, It.body, phi]; omega
        · simp [ht, ho, h5, It.body, phi]; omega
  | chunk left room =>
    simp only [FM.take] at h0 ⊢
    split
    · rename_i h; simp only [phi]; omega
    · rename_i h
      rw [if_neg h] at h0
      split
      · simp only [phi, pend, FM.new]
        refine ⟨by omega, fun e => ?_, by omega⟩
        have : left ≠ 0 := by simpa using e
        omega
      · rename_i h1; rw [if_neg h1] at h0; exact absurd rfl h0
theorem phi_le (m : FM) : phi m ≤ 1 := by
  cases m <;> simp only [phi]
  · omega
  · split <;> omega
  · omega
end Go.Proofs.Ytnjloldhmjadoaa.Pl
