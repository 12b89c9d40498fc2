/- Small facts on bytes and byte slices of the program (the part of the liner's texts that speaks of no liner). No condition but what each states. -/
import Derived.Test.YtmenphpilckphaaDoorProg
import Derived.Test.YtmenphpilckphaaDoorMem
import Derived.Outline
import Derived.KernelRfl
import Derived.BigRegion
import Derived.Deep.QuietTactic
import Derived.BigQuiet
import Derived.ChangeAlike
import Derived.Laws.BytesArg
import Derived.Deep.LoopGhost
import Derived.Deep.DeepMust
import Derived.Scope
namespace Go.Proofs.YtmenphpilckphaaDoor
open Go Go.RowKit

theorem Tryd.infoByte : (Tryd.prog.info? 5).map (fun i => (i.zero, i.size, i.bytes)) = some (some (.int .u8 0), 1, 1) := by kernel_rfl
/-- One byte laid for an append. -/
theorem src_byte {w : World} {b : Nat} {c : UInt8} (h : w.cell? ⟨b, 0, none⟩ = some (.int .u8 c.toNat)) : Src Tryd.prog 1 22 (.slice (some ⟨b, 0, none⟩) 1 1) 1 (bvs [c]) w :=
  Src.ofSlice w Tryd.underlying22 _ 1 1 (bvs [c]) (by simp [bvs]) (fun j u hu => by
    have hj := (List.getElem?_eq_some_iff.1 hu).1
    have : j = 0 := by simp [bvs] at hj; exact hj
    subst this
    simp [bvs] at hu; subst hu
    rw [Addr.add_none]; exact h) (bvs_one _)
theorem byte_ne {c : UInt8} (h : ¬ c = 10) : ((c.toNat : Int) == 10) = false := by
  simp only [beq_eq_false_iff_ne, ne_eq]
  intro e; apply h; apply UInt8.toNat_inj.1; simpa using (by omega : c.toNat = 10)
theorem byte_ne13 {c : UInt8} (h : ¬ c = 13) : ((c.toNat : Int) == 13) = false := by
  simp only [beq_eq_false_iff_ne, ne_eq]
  intro e; apply h; apply UInt8.toNat_inj.1; simpa using (by omega : c.toNat = 13)
theorem byte_eq13 (c : UInt8) : ((c.toNat : Int) == 13) = (c == 13) := by
  by_cases h : c = 13
  · subst h; rfl
  · rw [byte_ne13 h]; simpa using h
end Go.Proofs.YtmenphpilckphaaDoor
