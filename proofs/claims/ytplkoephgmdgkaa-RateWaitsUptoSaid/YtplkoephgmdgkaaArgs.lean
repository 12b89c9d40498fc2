/- The arguments of a law, opened: an integer, bytes, integers, as the walks want them. No condition. -/
import Derived.Test.YtplkoephgmdgkaaRows
import Derived.Test.YtplkoephgmdgkaaMem
import Derived.ProofKit
import Derived.OpenShut
import Derived.Deep.Slices
namespace Go.Proofs.Ytplkoephgmdgkaa
open Go Go.RowKit Go.ChangeShapes Go.WideShapes Go.ChangeAt

theorem bulk_one {H : Type} (d : DataW H) : 1 ≤ Rows.uptoBulk d := by
  cases d with
  | lit l => cases l <;> simp [Rows.uptoBulk]
  | nil => simp [Rows.uptoBulk]
  | ptr d => simp [Rows.uptoBulk]
  | slice elems spare => simp [Rows.uptoBulk]
  | agg parts => simp [Rows.uptoBulk]
  | iface t d => simp [Rows.uptoBulk]
  | map entries => simp [Rows.uptoBulk]
  | held h => simp [Rows.uptoBulk]
theorem bulk_length {H : Type} (l : List (DataW H)) : l.length ≤ Rows.uptoBulkAll l := by
  induction l with
  | nil => simp [Rows.uptoBulkAll]
  | cons x r ih => have := bulk_one x; simp only [Rows.uptoBulkAll, List.length_cons]; omega
theorem bulk_append {H : Type} (l r : List (DataW H)) : Rows.uptoBulkAll (l ++ r) = Rows.uptoBulkAll l + Rows.uptoBulkAll r := by
  induction l with
  | nil => simp [Rows.uptoBulkAll]
  | cons x l ih => simp only [List.cons_append, Rows.uptoBulkAll, ih]; omega

/-- An integer's bounds. -/
theorem i64_bounds {n : Int} (h : (Lit.int .i64 n).wf = true) : -9223372036854775808 ≤ n ∧ n ≤ 9223372036854775807 := by
  simpa [Lit.wf, IntKind.min, IntKind.max, IntKind.signed, IntKind.bits] using h
theorem u8_bounds {n : Int} (h : (Lit.int .u8 n).wf = true) : 0 ≤ n ∧ n ≤ 255 := by
  simpa [Lit.wf, IntKind.min, IntKind.max, IntKind.signed, IntKind.bits] using h

section
variable {H : Type} {enc : TypeId × Value → H} {P : Program} {W : World} {v : Value} {d : DataW H} {p : List MemPlace}

theorem arg_i64 {T : TypeId} (ht : P.underlying T = some (.int .i64)) (ok : ∃ base, Value.okWide P W .any base T v) (h : DataW.Trod enc P W 0 (fun _ => true) true T v d p) :
    ∃ n : Int, v = .int .i64 n ∧ -9223372036854775808 ≤ n ∧ n ≤ 9223372036854775807 := by
  obtain ⟨base, ok⟩ := ok
  obtain ⟨n, rfl, _, _, hw⟩ := open_int ht ok h
  exact ⟨n, rfl, i64_bounds hw⟩

/-- A slice of integers of a kind. -/
theorem arg_ints_at {T E : TypeId} {k : IntKind} (ht : P.underlying T = some (.slice E)) (he : P.underlying E = some (.int k)) (hc : P.cellsOf E = 1) {sp : Nat → Bool} {m : Nat} {cs : List Value} {x : DataW H × List MemPlace} (h : DataW.trod enc P W 0 sp true m T cs = some x) :
    ∃ (ao : Option Addr) (n cap : Nat) (zs : List Int), cs = [.slice ao n cap] ∧ Rd W (.slice ao n cap) 1 (zs.map (Value.int k)) ∧ (∀ z ∈ zs, (Lit.int k z).wf = true) ∧ zs.length + 1 ≤ Rows.uptoBulk x.1 := by
  rcases open_ints ht he hc h with ⟨rfl, rfl⟩ | ⟨a, len, cap, zs, rfl, _, hl, hm, hz, rfl, hcell, hwz⟩
  · exact ⟨none, 0, 0, [], rfl, ⟨none, 0, 0, rfl, by simp, by simp, by simp [maxLen], fun _ => ⟨rfl, rfl⟩, fun a h => by cases h⟩, by simp, by simp [Rows.uptoBulk]⟩
  · have hlen : len ≤ zs.length := by rw [hz]; split <;> omega
    refine ⟨some a, len, cap, zs.take len, rfl, ⟨_, len, cap, rfl, by simp [List.length_take]; omega, hl, hm, (fun h => by cases h), ?_⟩, fun z hz' => hwz z (List.mem_of_mem_take hz'), ?_⟩
    · intro a' ha hx
      injection ha with ha; subst ha
      have hpos : 0 < len := by
        rcases Nat.eq_zero_or_pos len with h | h
        · subst h; simp at hx
        · exact h
      have hsp : a.spot = none := by
        have h0 := hcell 0 (by omega)
        unfold World.cell? at h0
        simp only [Addr.add, if_true] at h0
        split at h0
        · cases hs : a.spot with
          | none => rfl
          | some s => simp [hs] at h0
        · cases h0
      obtain ⟨b, o, s⟩ := a
      simp only at hsp; subst hsp
      refine ⟨rfl, fun i hi => ?_⟩
      simp only [List.length_map, List.length_take] at hi
      have := hcell i (by omega)
      rw [Addr.add_none] at this
      rw [this]
      simp [List.getD, List.getElem?_eq_getElem (show i < zs.length by omega)]
    · simp only [Rows.uptoBulk]
      have h1 := bulk_length (H := H) (lits k (zs.take len))
      have e1 : (lits (H := H) k (zs.take len)).length = (zs.take len).length := by simp [lits]
      omega

theorem arg_ints {T E : TypeId} {k : IntKind} (ht : P.underlying T = some (.slice E)) (he : P.underlying E = some (.int k)) (hc : P.cellsOf E = 1) (ok : ∃ base, Value.okWide P W .any base T v) (h : DataW.Trod enc P W 0 (fun _ => true) true T v d p) :
    ∃ zs : List Int, Rd W v 1 (zs.map (Value.int k)) ∧ (∀ z ∈ zs, (Lit.int k z).wf = true) ∧ zs.length + 1 ≤ Rows.uptoBulk d := by
  obtain ⟨base, ok⟩ := ok
  obtain ⟨a0, len, cap, rfl⟩ := okWide_slice ht ok
  obtain ⟨m, hm⟩ := h
  obtain ⟨ao, n, cap', zs, hcs, hrd, hw, hb⟩ := arg_ints_at ht he hc hm
  simp only [Value.cells, List.cons.injEq, and_true] at hcs
  rw [hcs]
  exact ⟨zs, hrd, hw, hb⟩

/-- Bytes, out of the integers that they are. -/
theorem bytes_of (zs : List Int) (h : ∀ z ∈ zs, (Lit.int .u8 z).wf = true) : ∃ l : List UInt8, zs.map (Value.int .u8) = bvs l ∧ l.length = zs.length := by
  refine ⟨zs.map fun z => UInt8.ofNat z.toNat, ?_, by simp⟩
  unfold bvs
  rw [List.map_map]
  apply List.map_congr_left
  intro z hz
  have := u8_bounds (h z hz)
  simp only [Function.comp]
  congr 1
  rw [UInt8.toNat_ofNat']
  omega
theorem arg_bytes {T E : TypeId} (ht : P.underlying T = some (.slice E)) (he : P.underlying E = some (.int .u8)) (hc : P.cellsOf E = 1) (ok : ∃ base, Value.okWide P W .any base T v) (h : DataW.Trod enc P W 0 (fun _ => true) true T v d p) :
    ∃ l : List UInt8, Rd W v 1 (bvs l) ∧ l.length + 1 ≤ Rows.uptoBulk d := by
  obtain ⟨zs, h1, h2, h3⟩ := arg_ints ht he hc ok h
  obtain ⟨l, e, hl⟩ := bytes_of zs h2
  rw [e] at h1
  exact ⟨l, h1, by omega⟩
end

theorem Try.cellsByte : Try.prog.cellsOf 5 = 1 := by kernel_rfl
theorem Try.cellsInt : Try.prog.cellsOf 3 = 1 := by kernel_rfl

end Go.Proofs.Ytplkoephgmdgkaa
