/- What each law of the liner asks first: wakes; and bound. No condition but what is stated. -/
import Derived.Test.YtccmickmcpfapaaLnW2
import Derived.Lib.SlBytesConst
namespace Go.Proofs.Ytccmickmcpfapaa
open Go Go.RowKit Ln

theorem run_const {P : Program} (w : World) (b : Nat) (hb : b = w.heap.size) (t e : TypeId) (C : Array Value) (n c : Nat) (ht : P.underlying t = some (.slice e)) (he : P.underlying e = some (.int .u8)) :
    (convert t t (.slice (some ⟨b, 0, none⟩) n c)).run P (w.alloc (.cells C e)) = .ok (.slice (some ⟨b, 0, none⟩) n c) (w.alloc (.cells C e (C.size, C.size + 1))) := by
  subst hb; exact Lib.run_convert_bytes_const w t e C n c ht he

theorem line_wakes (w : World) : Calls Try.prog 9 #[] w fun r w' => r = .returned (.bool true) ∧ Chg (fun _ => False) w w' := by
  have kc := fun (w : World) (b : Nat) (hb : b = w.heap.size) (C : Array Value) (n c : Nat) => run_const (P := Try.prog) w b hb 22 5 C n c Try.underlying22 Try.underlying5
  go_enter Try.func9, Try.ntmps9
  go_wp2_with fail
  refine (line_new _ _ (by omega) (by omega)).mono ?_
  rintro e w1 ⟨rfl, h1, hc1⟩
  have e1 : take 3 LS.new [97, 98, 99, 13, 10, 97, 98, 99, 100, 13, 10] = (5, ⟨1, [97, 98, 99], 0⟩, LS.new) := by decide
  have e2 : take 3 LS.new [97, 98, 99, 100, 13, 10] = (6, ⟨2, [], 131⟩, LS.new) := by decide
  have HE1 := Lib.hid e1
  have HE2 := Lib.hid e2
  have HL := Lib.hid h1
  have HC := Lib.hid hc1
  have hlt := lt_of_block h1.blk
  clear h1 hc1 e1 e2
  go_wp2_with fail
  refine (line_take _ _ _ _ _ (HL.out.alloc _) (by omega) (by omega) (LS.ok_new (by omega)) _ _ (Rd.fresh _ _ _ _ _ _ [97, 98, 99, 13, 10, 97, 98, 99, 100, 13, 10] (by rfl) (by rfl) (by decide) (by decide)) (sep_fresh HL.out _ _)).mono ?_
  rw [HE1.out]
  rintro e w2 ⟨rfl, v2, h2, ho2, hc2⟩
  have HO2 := Lib.hid (ho2.up (B := w.heap.size) (by simp; omega) (fun k hk => by simp [Value.ownBlock] at hk))
  have HL2 := Lib.hid h2
  have HC2 := Lib.hid hc2
  have hlt2 := hc2.size
  have hlt3 := lt_of_block h2.blk
  unfold itmV
  simp only [World.size_alloc] at hlt2
  clear h2 hc2 ho2
  go_wp2_with fail
  refine (line_take _ _ _ _ _ ((HL2.out.alloc _).alloc _) (by omega) (by omega) (LS.ok_new (by omega)) _ _ (Rd.fresh' _ _ (by simp) _ _ _ _ _ [97, 98, 99, 100, 13, 10] (by rfl) (by rfl) (by decide) (by decide)) (sep_fresh' HL2.out (by omega) _ _)).mono ?_
  rw [HE2.out]
  rintro e w3 ⟨rfl, v3, h3, _, hc3⟩
  have hd := (hc3.obj (b := w2.heap.size) (heap_alloc_lt _ _ (heap_alloc_at _ _)) (fun e => e.elim (fun e => by omega) (fun e => by have := HL2.out.arr.lt _ e.symm; omega)))
  have d0 := cell_of_blk hd 0
  have d1 := cell_of_blk hd 1
  simp only [List.getElem?_toArray, List.getElem?_cons_zero, List.getElem?_cons_succ] at d0 d1
  have hlt4 := hc3.size
  have HC3 := Lib.hid hc3
  simp only [World.size_alloc] at hlt4
  have hlt5 : w2.heap.size < w3.heap.size := by omega
  unfold itmV
  clear h3 hc3 hd
  go_wp2
  go_ret
  refine ⟨rfl, ?_⟩
  refine Chg.alloc (((((HC.out.alloc _).trans HC2.out ?_).alloc _).alloc _).trans HC3.out ?_) _
  · rintro i hi (e | e)
    · omega
    · simp [Value.ownBlock] at e
  · rintro i hi (e | e)
    · omega
    · have := HO2.out _ e.symm; omega

end Go.Proofs.Ytccmickmcpfapaa
