/- The law DotsKnown: what it wants beside the walk. No condition but what is stated. -/
import Derived.Test.YtmenphpilckphaaDoorDtL1
import Derived.ChangeMaps5
import Derived.Laws.IdiomStrings
namespace Go.Proofs.YtmenphpilckphaaDoor
set_option linter.unusedVariables false
open Go Go.RowKit Go.ChangeShapes Go.WideShapes Go.ChangeAt Dt

/-- '[]byte(s)' of a string. -/
theorem run_str_bytes {P : Program} (src dst e : TypeId) (l : List UInt8) (hl : l.length ≤ maxLen) (hs : P.underlying src = some .string) (hd : P.underlying dst = some (.slice e)) (he : P.underlying e = some (.int .u8)) :
    ∃ (cap : World → Nat) (o : World → Obj), (∀ w : World, (convert src dst (.string ⟨l.toArray⟩)).run P w = .ok (.slice (some ⟨w.heap.size, 0, none⟩) l.length (cap w)) (w.drew.alloc (o w))) ∧ ∀ w u : World, Rd (w.alloc (o u)) (.slice (some ⟨w.heap.size, 0, none⟩) l.length (cap u)) 1 (bvs l) := by
  refine ⟨_, _, fun w => run_bytes_of_string w src dst e _ hs hd he, fun w u => ?_⟩
  have hge := grownCap_ge u l.length 0 e
  have hle := grownCap_le_maxLen u l.length 0 e hl
  refine ⟨_, _, _, rfl, by rw [bvs_length, Nat.mul_one], hge, hle, (fun h => by cases h), ?_⟩
  intro a ha hx
  injection ha with ha; subst ha
  refine ⟨rfl, fun i hi => ?_⟩
  rw [bvs_length] at hi
  have := heap_alloc_at w (.cells (bytesRow ⟨l.toArray⟩ (grownCap u l.length 0 e)) e ((bytesRow ⟨l.toArray⟩ (grownCap u l.length 0 e)).size, (bytesRow ⟨l.toArray⟩ (grownCap u l.length 0 e)).size + 1))
  have h2 := cell_of_blk this i
  show World.cell? _ ⟨w.heap.size, 0 + i, none⟩ = _
  rw [Nat.zero_add]
  refine h2.trans ?_
  rw [bytesRow_at _ _ _ (by simpa using hi)]
  simp [bvs]
def Sam (w0 w : World) : Prop := Chg (fun _ => False) w0 w
theorem Sam.refl (w : World) : Sam w w := Chg.refl _ w
theorem Sam.drew {w0 w : World} (h : Sam w0 w) : Sam w0 w.drew := Chg.drew h
theorem Sam.alloc {w0 w : World} (h : Sam w0 w) (o : Obj) : Sam w0 (w.alloc o) := Chg.alloc h o
theorem Sam.more {w0 w w' : World} (h : Sam w0 w) (c : Chg (fun _ => False) w w') : Sam w0 w' := Chg.trans h c (fun _ _ h => h)
def k1C : Array Value := #[.string ⟨#[]⟩, .int .i64 1, .int .i64 0, .string ⟨#[97, 98, 13, 10]⟩, .int .i64 2, .int .i64 0,
  .string ⟨#[97, 98, 99, 13, 10]⟩, .int .i64 2, .int .i64 140, .string ⟨#[97, 98]⟩, .int .i64 9, .int .i64 141,
  .string ⟨#[97, 10, 98, 13, 10]⟩, .int .i64 9, .int .i64 130, .string ⟨#[97, 98, 13, 10, 13]⟩, .int .i64 9, .int .i64 130,
  .string ⟨#[97, 13, 10]⟩, .int .i64 0, .int .i64 2, .string ⟨#[97, 13, 10]⟩, .int .i64 16777217, .int .i64 2, .string ⟨#[97, 13, 10]⟩, .int .i64 16777216, .int .i64 0]
theorem k1_at (i : Nat) (h : i < 9) : ∃ (b : List UInt8) (t : Int), k1C[i * 3]? = some (.string ⟨b.toArray⟩) ∧ k1C[i * 3 + 1]? = some (.int .i64 t) ∧ k1C[i * 3 + 2]? = some (.int .i64 (checkP b t)) ∧ b.length ≤ 5 := by
  rcases (by omega : i = 0 ∨ i = 1 ∨ i = 2 ∨ i = 3 ∨ i = 4 ∨ i = 5 ∨ i = 6 ∨ i = 7 ∨ i = 8) with rfl | rfl | rfl | rfl | rfl | rfl | rfl | rfl | rfl
  · exact ⟨[], 1, rfl, rfl, congrArg some (congrArg (Value.int .i64) (by decide)), by decide⟩
  · exact ⟨[97, 98, 13, 10], 2, rfl, rfl, congrArg some (congrArg (Value.int .i64) (by decide)), by decide⟩
  · exact ⟨[97, 98, 99, 13, 10], 2, rfl, rfl, congrArg some (congrArg (Value.int .i64) (by decide)), by decide⟩
  · exact ⟨[97, 98], 9, rfl, rfl, congrArg some (congrArg (Value.int .i64) (by decide)), by decide⟩
  · exact ⟨[97, 10, 98, 13, 10], 9, rfl, rfl, congrArg some (congrArg (Value.int .i64) (by decide)), by decide⟩
  · exact ⟨[97, 98, 13, 10, 13], 9, rfl, rfl, congrArg some (congrArg (Value.int .i64) (by decide)), by decide⟩
  · exact ⟨[97, 13, 10], 0, rfl, rfl, congrArg some (congrArg (Value.int .i64) (by decide)), by decide⟩
  · exact ⟨[97, 13, 10], 16777217, rfl, rfl, congrArg some (congrArg (Value.int .i64) (by decide)), by decide⟩
  · exact ⟨[97, 13, 10], 16777216, rfl, rfl, congrArg some (congrArg (Value.int .i64) (by decide)), by decide⟩
theorem kn_stuff : lookP [46, 97, 13, 10, 98, 13, 10, 13, 10, 46, 46, 13, 10] = 0 ∧ stuffP [46, 97, 13, 10, 98, 13, 10, 13, 10, 46, 46, 13, 10] = [46, 46, 97, 13, 10, 98, 13, 10, 13, 10, 46, 46, 46, 13, 10, 46, 13, 10] := by decide
def Far (r : Nat) (y : Value) : Prop := ∀ k, y.ownBlock = some k → k ≠ r
/-- The second table: what comes in, what Take answers. -/
structure K2Row where
  inp : List UInt8
  n : Nat
  it : It
  held : Int
  next : RS
def k2R : List K2Row := [⟨[97, 98, 13, 10, 46, 46], 6, It.body [97, 98, 13, 10, 46], 0, ⟨⟨3, 1, 5, false, false, false⟩, false⟩⟩, ⟨[99, 13], 2, It.body [99, 13], 0, ⟨⟨4, 3, 7, false, false, false⟩, false⟩⟩,
  ⟨[10, 46], 2, It.body [10], 1, ⟨⟨1, 0, 8, false, false, false⟩, false⟩⟩, ⟨[13], 1, ⟨0, [], [], 0, false⟩, 2, ⟨⟨2, 0, 8, false, false, false⟩, false⟩⟩,
  ⟨[10, 81, 85, 73, 84, 13, 10], 1, ⟨4, [], [], 0, false⟩, 0, ⟨⟨5, 0, 8, false, false, false⟩, false⟩⟩, ⟨[120], 0, ⟨0, [], [], 0, false⟩, 0, ⟨⟨5, 0, 8, false, false, false⟩, false⟩⟩]
def k2S (i : Nat) : RS := if i = 0 then ⟨DS.new, false⟩ else (k2R.getD (i - 1) ⟨[], 0, ⟨0, [], [], 0, false⟩, 0, ⟨DS.new, false⟩⟩).next
def k2C (u v x : Value) : Array Value := #[.string ⟨#[97, 98, 13, 10, 46, 46]⟩, .int .i64 6, .int .i64 3, .string ⟨#[]⟩, u, .int .i64 0, .bool false, .int .i64 0,
  .string ⟨#[99, 13]⟩, .int .i64 2, .int .i64 3, .string ⟨#[]⟩, v, .int .i64 0, .bool false, .int .i64 0,
  .string ⟨#[10, 46]⟩, .int .i64 2, .int .i64 3, .string ⟨#[]⟩, x, .int .i64 0, .bool false, .int .i64 1,
  .string ⟨#[13]⟩, .int .i64 1, .int .i64 0, .string ⟨#[]⟩, .slice none 0 0, .int .i64 0, .bool false, .int .i64 2,
  .string ⟨#[10, 81, 85, 73, 84, 13, 10]⟩, .int .i64 1, .int .i64 4, .string ⟨#[]⟩, .slice none 0 0, .int .i64 0, .bool false, .int .i64 0,
  .string ⟨#[120]⟩, .int .i64 0, .int .i64 0, .string ⟨#[]⟩, .slice none 0 0, .int .i64 0, .bool false, .int .i64 0]
theorem k2_at (w : World) (u v x : Value) (hu : Rd w u 1 (bvs [97, 98, 13, 10, 46])) (hv : Rd w v 1 (bvs [99, 13])) (hx : Rd w x 1 (bvs [10])) (i : Nat) (h : i < 6) :
    ∃ (b : List UInt8) (n : Nat) (it : It) (y : Value), (k2C u v x)[i * 8]? = some (.string ⟨b.toArray⟩) ∧ (k2C u v x)[i * 8 + 1]? = some (.int .i64 n) ∧ (k2C u v x)[i * 8 + 2]? = some (.int .i64 it.kind) ∧ (k2C u v x)[i * 8 + 3]? = some (.string ⟨it.text.toArray⟩) ∧ (k2C u v x)[i * 8 + 4]? = some y ∧ (k2C u v x)[i * 8 + 5]? = some (.int .i64 it.why) ∧ (k2C u v x)[i * 8 + 6]? = some (.bool it.high) ∧ (k2C u v x)[i * 8 + 7]? = some (.int .i64 (RS.held (k2S (i + 1)))) ∧ b.length ≤ 7 ∧ RS.take 9 99 (k2S i) b = (n, it, k2S (i + 1)) ∧ Rd w y 1 (bvs it.bytes) ∧ (k2S i).d.size ≤ 8 ∧ ∀ r, Far r u → Far r v → Far r x → Far r y := by
  rcases (by omega : i = 0 ∨ i = 1 ∨ i = 2 ∨ i = 3 ∨ i = 4 ∨ i = 5) with rfl | rfl | rfl | rfl | rfl | rfl
  · exact ⟨[97, 98, 13, 10, 46, 46], 6, It.body [97, 98, 13, 10, 46], u, rfl, rfl, rfl, rfl, rfl, rfl, rfl, rfl, by decide, by rfl, hu, by decide, fun r h _ _ => h⟩
  · exact ⟨[99, 13], 2, It.body [99, 13], v, rfl, rfl, rfl, rfl, rfl, rfl, rfl, rfl, by decide, by rfl, hv, by decide, fun r _ h _ => h⟩
  · exact ⟨[10, 46], 2, It.body [10], x, rfl, rfl, rfl, rfl, rfl, rfl, rfl, rfl, by decide, by rfl, hx, by decide, fun r _ _ h => h⟩
  · exact ⟨[13], 1, ⟨0, [], [], 0, false⟩, _, rfl, rfl, rfl, rfl, rfl, rfl, rfl, rfl, by decide, by rfl, (Own.nil w).rd, by decide, fun r _ _ _ k hk => absurd (show (none : Option Nat) = some k from hk) (fun h => by cases h)⟩
  · exact ⟨[10, 81, 85, 73, 84, 13, 10], 1, ⟨4, [], [], 0, false⟩, _, rfl, rfl, rfl, rfl, rfl, rfl, rfl, rfl, by decide, by rfl, (Own.nil w).rd, by decide, fun r _ _ _ k hk => absurd (show (none : Option Nat) = some k from hk) (fun h => by cases h)⟩
  · exact ⟨[120], 0, ⟨0, [], [], 0, false⟩, _, rfl, rfl, rfl, rfl, rfl, rfl, rfl, rfl, by decide, by rfl, (Own.nil w).rd, by decide, fun r _ _ _ k hk => absurd (show (none : Option Nat) = some k from hk) (fun h => by cases h)⟩
end Go.Proofs.YtmenphpilckphaaDoor
