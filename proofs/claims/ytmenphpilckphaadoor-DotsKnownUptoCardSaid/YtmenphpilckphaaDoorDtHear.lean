/- What comes of a stream that is handed to a reader in pieces: plain. No condition but what each states. -/
import Derived.Test.YtmenphpilckphaaDoorDtRef
namespace Go.Proofs.YtmenphpilckphaaDoor.Dt

/-- Where a hearing stands: what was told, how many bytes were taken, the end. -/
structure Hd where
  told : List UInt8
  taken : Nat
  ended : Bool
  fin : It
def fed (text : Nat) (P : List UInt8) : Nat × DS × List UInt8 := feed text DS.new P
/-- What a stream comes to. -/
def hd (text all : Nat) (P : List UInt8) : Hd := ⟨(fed text P).2.2.take all, (fed text P).1, decide ((fed text P).2.1.st = 5), if (fed text P).2.1.st = 5 then (fed text P).2.1.end all else It.none⟩
def rs (text : Nat) (P : List UInt8) : RS := ⟨(fed text P).2.1, false⟩

theorem hd_nil (text all : Nat) : hd text all [] = ⟨[], 0, false, It.none⟩ := by simp [hd, fed, feed, DS.new]
theorem rs_nil (text : Nat) : rs text [] = RS.new := by simp [rs, fed, feed, RS.new]
theorem fed_size (text : Nat) (P : List UInt8) : (fed text P).2.1.size = (fed text P).2.2.length := by
  unfold fed; rw [feed_size]; simp [DS.new]
theorem hd_ended {text all : Nat} {P : List UInt8} : (hd text all P).ended = true ↔ (fed text P).2.1.st = 5 := by simp [hd]
theorem fed_more {text : Nat} {P : List UInt8} (p : List UInt8) (h : (fed text P).2.1.st ≠ 5) : fed text (P ++ p) = (P.length + (feed text (fed text P).2.1 p).1, (feed text (fed text P).2.1 p).2.1, (fed text P).2.2 ++ (feed text (fed text P).2.1 p).2.2) := feed_append text P p DS.new h
theorem fed_done {text : Nat} {P : List UInt8} (p : List UInt8) (h : (fed text P).2.1.st = 5) : fed text (P ++ p) = fed text P := feed_append_end text P p DS.new h
theorem fed_all {text : Nat} {P : List UInt8} (h : (fed text P).2.1.st ≠ 5) : (fed text P).1 = P.length := feed_all text P DS.new h
theorem hd_done {text all : Nat} {P : List UInt8} (p : List UInt8) (h : (hd text all P).ended = true) : hd text all (P ++ p) = hd text all P := by
  unfold hd; rw [fed_done p (hd_ended.1 h)]
theorem rs_done {text all : Nat} {P : List UInt8} (p : List UInt8) (h : (hd text all P).ended = true) : rs text (P ++ p) = rs text P := by
  unfold rs; rw [fed_done p (hd_ended.1 h)]

/-- What a hearing has when Take has told bytes of a piece: all but the end. -/
def hdMid (text all : Nat) (P p : List UInt8) : Hd := ⟨(hd text all (P ++ p)).told, (hd text all (P ++ p)).taken, false, It.none⟩
theorem told_more {text all : Nat} {P : List UInt8} (p : List UInt8) (h : (fed text P).2.1.st ≠ 5) : (hd text all (P ++ p)).told = (hd text all P).told ++ (feed text (fed text P).2.1 p).2.2.take (all - (fed text P).2.1.size) := by
  unfold hd; rw [fed_more p h]; simp only; rw [List.take_append, fed_size]
theorem taken_more {text all : Nat} {P : List UInt8} (p : List UInt8) (h : (fed text P).2.1.st ≠ 5) : (hd text all (P ++ p)).taken = (hd text all P).taken + (feed text (fed text P).2.1 p).1 := by
  unfold hd; rw [fed_more p h]; simp only; rw [fed_all h]
theorem hd_open {text all : Nat} {P : List UInt8} (h : (hd text all P).ended = false) : (fed text P).2.1.st ≠ 5 ∧ (hd text all P).fin = It.none := by
  have : ¬ (fed text P).2.1.st = 5 := by simpa [hd] using h
  exact ⟨this, by simp [hd, this]⟩

/-- The first Take of a piece: it tells bytes, .. -/
theorem take_body {text all : Nat} {P : List UInt8} (p : List UInt8) (h : (hd text all P).ended = false) {n : Nat} {x : It} {r : RS} (ht : RS.take text all (rs text P) p = (n, x, r)) (hk : x.kind = 3) :
    n = (feed text (fed text P).2.1 p).1 ∧ x = It.body x.bytes ∧ x.bytes ≠ [] ∧ (hd text all (P ++ p)).told = (hd text all P).told ++ x.bytes ∧ (hd text all (P ++ p)).taken = (hd text all P).taken + n ∧ r = ⟨(fed text (P ++ p)).2.1, (hd text all (P ++ p)).ended⟩ := by
  obtain ⟨h5, -⟩ := hd_open h
  have hf := fed_more p h5
  unfold RS.take rs at ht
  simp only [Bool.false_eq_true, if_false] at ht
  split at ht
  · rename_i hne
    simp only [Prod.mk.injEq] at ht
    obtain ⟨rfl, rfl, rfl⟩ := ht
    refine ⟨rfl, rfl, hne, told_more p h5, taken_more p h5, ?_⟩
    rw [hf]; simp [hd, hf, h5]
  · split at ht
    · simp only [Prod.mk.injEq] at ht; obtain ⟨rfl, rfl, rfl⟩ := ht; simp [DS.end] at hk
    · simp only [Prod.mk.injEq] at ht; obtain ⟨rfl, rfl, rfl⟩ := ht; simp [It.none] at hk
/-- .. or doesn't. -/
theorem take_quiet {text all : Nat} {P : List UInt8} (p : List UInt8) (h : (hd text all P).ended = false) {n : Nat} {x : It} {r : RS} (ht : RS.take text all (rs text P) p = (n, x, r)) (hk : x.kind ≠ 3) :
    n = (feed text (fed text P).2.1 p).1 ∧ (hd text all (P ++ p)).told = (hd text all P).told ∧ (hd text all (P ++ p)).taken = (hd text all P).taken + n ∧ r = rs text (P ++ p) ∧
    ((x.kind = 4 ∧ (hd text all (P ++ p)).ended = true ∧ (hd text all (P ++ p)).fin = x) ∨ (x = It.none ∧ (hd text all (P ++ p)).ended = false ∧ n = p.length)) := by
  obtain ⟨h5, -⟩ := hd_open h
  have hf := fed_more p h5
  unfold RS.take rs at ht
  simp only [Bool.false_eq_true, if_false] at ht
  split at ht
  · simp only [Prod.mk.injEq] at ht; obtain ⟨rfl, rfl, rfl⟩ := ht; simp [It.body] at hk
  · rename_i hnil
    have hnil' : (feed text (fed text P).2.1 p).2.2.take (all - (fed text P).2.1.size) = [] := Decidable.not_not.1 hnil
    have ht1 : (hd text all (P ++ p)).told = (hd text all P).told := by rw [told_more p h5, hnil', List.append_nil]
    split at ht
    · rename_i ho
      simp only [decide_eq_true_eq] at ho
      simp only [Prod.mk.injEq] at ht
      obtain ⟨rfl, rfl, rfl⟩ := ht
      refine ⟨rfl, ht1, taken_more p h5, by simp [rs, hf], .inl ⟨rfl, ?_, ?_⟩⟩
      · simp [hd, hf, ho.1]
      · simp [hd, hf, ho.1]
    · rename_i ho
      have ho' : ¬ (feed text (fed text P).2.1 p).2.1.st = 5 := by simpa [h5] using ho
      simp only [Prod.mk.injEq] at ht
      obtain ⟨rfl, rfl, rfl⟩ := ht
      refine ⟨rfl, ht1, taken_more p h5, by simp [rs, hf], .inr ⟨rfl, ?_, feed_all text p _ ho'⟩⟩
      simp [hd, hf, ho']
/-- The second Take of a piece, when the end was reached: it tells the end. -/
theorem take_second_end {text all : Nat} {Q : List UInt8} (b : List UInt8) (h : (hd text all Q).ended = true) : RS.take text all ⟨(fed text Q).2.1, true⟩ b = (0, (hd text all Q).fin, rs text Q) ∧ (hd text all Q).fin.kind = 4 := by
  have h5 := hd_ended.1 h
  refine ⟨?_, ?_⟩
  · simp [RS.take, hd, h5, rs]
  · simp [hd, h5, DS.end]
/-- .. and when it wasn't: nothing. -/
theorem take_second_none {text all : Nat} {Q : List UInt8} (h : (hd text all Q).ended = false) : RS.take text all ⟨(fed text Q).2.1, false⟩ [] = (0, It.none, rs text Q) := by
  obtain ⟨h5, -⟩ := hd_open h
  simp [RS.take, feed, h5, rs]
/-- Where a piece that doesn't end the body is taken whole. -/
theorem take_whole {text all : Nat} {P : List UInt8} (p : List UInt8) (h : (hd text all P).ended = false) (h' : (hd text all (P ++ p)).ended = false) : (feed text (fed text P).2.1 p).1 = p.length := by
  obtain ⟨h5, -⟩ := hd_open h
  obtain ⟨h6, -⟩ := hd_open h'
  rw [fed_more p h5] at h6
  exact feed_all text p _ h6
theorem feed_le' {text : Nat} {P : List UInt8} (p : List UInt8) : (feed text (fed text P).2.1 p).1 ≤ p.length := feed_le _ _ _
theorem fed_size_le (text : Nat) : ∀ (bs : List UInt8) (s : DS), (feed text s bs).2.2.length ≤ 2 * bs.length
  | [], s => by simp [feed]
  | c :: r, s => by
    unfold feed; split
    · simp
    · have := fed_size_le text r (s.step text c).1
      have h2 : (s.step text c).2.length ≤ 2 := by
        unfold DS.step
        repeat' split
        all_goals simp
      simp; omega
theorem rs_size (text : Nat) (P : List UInt8) : (rs text P).d.size ≤ 2 * P.length := by
  show (fed text P).2.1.size ≤ _
  rw [fed_size]; exact fed_size_le text P DS.new
theorem hd_told_le (text all : Nat) (P : List UInt8) : (hd text all P).told.length ≤ 2 * P.length ∧ (hd text all P).taken ≤ P.length := by
  refine ⟨?_, feed_le text P DS.new⟩
  unfold hd
  have := fed_size_le text P DS.new
  simp only [List.length_take]
  unfold fed
  omega
/-- A stream that is not ended is taken whole. -/
theorem hd_taken (text all : Nat) (P : List UInt8) : (hd text all P).ended = true ∨ (hd text all P).taken = P.length := by
  by_cases h : (fed text P).2.1.st = 5
  · exact .inl (hd_ended.2 h)
  · exact .inr (fed_all h)
end Go.Proofs.YtmenphpilckphaaDoor.Dt
