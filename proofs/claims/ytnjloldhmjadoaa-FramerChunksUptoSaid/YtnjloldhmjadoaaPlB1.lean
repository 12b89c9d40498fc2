/- played: what the declarations of its walk share: the loops' bodies, the relations at their heads. No condition but what each states. -/
import Derived.Test.YtnjloldhmjadoaaPlC
import Derived.IntWalk
import Derived.Deep.QuietTactic
import Derived.BigQuiet
namespace Go.Proofs.Ytnjloldhmjadoaa
set_option linter.unusedVariables false
open Go Go.RowKit Ln Dt Fr Pl

theorem Try.elemB : Try.prog.elem 24 = 5 := by kernel_rfl
def firstLoop : Code → Option Code
  | .loop c => some c
  | .seq a b => match firstLoop a with
    | some c => some c
    | none => firstLoop b
  | .block _ c => firstLoop c
  | .scope c => firstLoop c
  | .cond _ a b => match firstLoop a with
    | some c => some c
    | none => firstLoop b
  | _ => none
noncomputable def oBody : Code := ((Try.f23.body.bind firstLoop).getD .skip)
noncomputable def iBody : Code := ((firstLoop oBody).getD .skip)
/-- The outer loop's head. -/
def ORel (W : World) (p : Nat) (L : Lim) (b cs : List UInt8) (ts : List Tn) (g : Nat) (bv ov iv tv : Value) (wr : World) : Prop :=
  ∃ (S : PS) (X : Nat → Prop) (i : Nat) (b0 rest : List UInt8) (ro : Option Addr) (rc : Nat), g = rest.length * cs.length + dzc cs i ∧ bv = .slice ro rest.length rc ∧ iv = .int .i64 i ∧ tv = .int .i64 S.t ∧ Rd W (.slice ro rest.length rc) 1 (bvs rest) ∧
    b = b0 ++ rest ∧ Run L ts PS.new b0 S ∧ pend S.m = false ∧ Ctx W wr X p L S.m S.out ov ∧ PInv b.length ts S rest.length ∧ i + g ≤ b.length * cs.length + cs.length ∧ ∃ oa on oc, ov = .slice oa on oc
/-- The inner loop's head: S as the piece pp began; q is left of it, then come r bytes. -/
structure IAt (W w : World) (p : Nat) (L : Lim) (N : Nat) (ts : List Tn) (S : PS) (pp : List UInt8) (r g : Nat) (S2 : PS) (X2 : Nat → Prop) (q : List UInt8) (qo : Option Addr) (qc st : Nat) (ov : Value) : Prop where
  gh : g = mu ts S2 q.length
  rd : Rd w (.slice qo q.length qc) 1 (bvs q)
  own : ∀ k, (Value.slice qo q.length qc).ownBlock = some k → X2 k ∧ ov.ownBlock ≠ some k
  steps : st + phi S2.m + q.length ≤ pp.length + 1
  run : ∀ S', Run L ts S2 q S' → Run L ts S pp S'
  ctx : Ctx W w X2 p L S2.m S2.out ov
  inv : PInv N ts S2 (q.length + r)
def IRel (W : World) (p : Nat) (L : Lim) (N : Nat) (ts : List Tn) (S : PS) (pp : List UInt8) (r : Nat) (g : Nat) (ov tv pv sv : Value) (wr : World) : Prop :=
  ∃ (S2 : PS) (X2 : Nat → Prop) (q : List UInt8) (qo : Option Addr) (qc st : Nat) (oa : Option Addr) (on oc : Nat), pv = .slice qo q.length qc ∧ tv = .int .i64 S2.t ∧ sv = .int .i64 st ∧ ov = .slice oa on oc ∧ IAt W wr p L N ts S pp r g S2 X2 q qo qc st ov
theorem IRel.mk {W : World} {p : Nat} {L : Lim} {N : Nat} {ts : List Tn} {S : PS} {pp : List UInt8} {r : Nat} (S2 : PS) (X2 : Nat → Prop) (q : List UInt8) (qo : Option Addr) (qc st : Nat) {oa : Option Addr} {on oc : Nat} {wr : World}
    (h1 : Rd wr (.slice qo q.length qc) 1 (bvs q)) (h2 : ∀ k, (Value.slice qo q.length qc).ownBlock = some k → X2 k ∧ (Value.slice oa on oc).ownBlock ≠ some k) (h3 : st + phi S2.m + q.length ≤ pp.length + 1) (h4 : ∀ S', Run L ts S2 q S' → Run L ts S pp S')
    (h5 : Ctx W wr X2 p L S2.m S2.out (.slice oa on oc)) (h6 : PInv N ts S2 (q.length + r)) : IRel W p L N ts S pp r (mu ts S2 q.length) (.slice oa on oc) (.int .i64 S2.t) (.slice qo q.length qc) (.int .i64 st) wr :=
  ⟨S2, X2, q, qo, qc, st, oa, on, oc, rfl, rfl, rfl, rfl, rfl, h1, h2, h3, h4, h5, h6⟩
/-- A piece is taken. -/
def XRel (W : World) (p : Nat) (L : Lim) (N : Nat) (ts : List Tn) (S : PS) (pp : List UInt8) (r : Nat) (ov tv : Value) (wr : World) : Prop :=
  ∃ (S3 : PS) (X : Nat → Prop), tv = .int .i64 S3.t ∧ Run L ts S pp S3 ∧ pend S3.m = false ∧ Ctx W wr X p L S3.m S3.out ov ∧ PInv N ts S3 r ∧ ∃ oa on oc, ov = .slice oa on oc
/-- All is played. -/
def RRel (W : World) (L : Lim) (ts : List Tn) (b : List UInt8) (ov mv fv : Value) (w' : World) : Prop :=
  ∃ (S : PS) (oa : Option Addr) (on oc : Nat), ov = .slice oa on oc ∧ mv = .int .i64 S.m.mode ∧ fv = .bool true ∧ Run L ts PS.new b S ∧ RdIts w' (.slice oa on oc) on S.out ∧ on ≤ 1099511627776 ∧ Chg (fun _ => False) W w'
end Go.Proofs.Ytnjloldhmjadoaa
