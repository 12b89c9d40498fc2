/- What 'all' of the liner's laws tells: the items of the whole row of bytes, however it is cut. Its bytes are at most 2^20. -/
import Derived.Test.YtccmickmcpfapaaLnL2
import Derived.Deep.DeepCutAuto
namespace Go.Proofs.Ytccmickmcpfapaa
open Go Go.RowKit Ln

/-- A told item's cells. -/
def toldV (x : Itm × Nat) : List Value := [.int .i64 x.1.kind, .string ⟨x.1.text.toArray⟩, .int .i64 x.1.why, .int .i64 x.2]
def toldsV (l : List (Itm × Nat)) : List Value := l.flatMap toldV
theorem toldsV_length (l : List (Itm × Nat)) : (toldsV l).length = l.length * 4 := by
  unfold toldsV
  induction l with
  | nil => rfl
  | cons x r ih => simp only [List.flatMap_cons, List.length_append, ih, toldV, List.length_cons, List.length_nil]; omega
theorem toldsV_append (a b : List (Itm × Nat)) : toldsV (a ++ b) = toldsV a ++ toldsV b := by simp [toldsV]
theorem toldsV_one (l : List (Itm × Nat)) : ∀ u ∈ toldsV l, u.oneCell' = true := by
  intro u hu
  simp only [toldsV, List.mem_flatMap] at hu
  obtain ⟨x, _, hx⟩ := hu
  simp only [toldV, List.mem_cons, List.not_mem_nil, or_false] at hx
  rcases hx with rfl | rfl | rfl | rfl <;> rfl
theorem Try.infoTold : (Try.prog.info? 31).map (fun i => (i.zero, i.size, i.bytes)) = some (some (.agg #[.int .i64 0, .string ⟨#[]⟩, .int .i64 0, .int .i64 0]), 4, 40) := by kernel_rfl

theorem src_told {w : World} {b : Nat} {x : Itm × Nat} (h : ∀ (i : Nat) (hi : i < (toldV x).length), w.cell? ⟨b, i, none⟩ = some (toldV x)[i]) : Src Try.prog 4 26 (.slice (some ⟨b, 0, none⟩) 1 1) 1 (toldsV [x]) w :=
  Src.ofSlice w Try.underlying26 _ 1 1 (toldsV [x]) (by simp [toldsV, toldV]) (fun j u hu => by
    obtain ⟨hj, rfl⟩ := List.getElem?_eq_some_iff.1 hu
    rw [Addr.add_none, Nat.zero_add]
    have e : toldsV [x] = toldV x := by simp [toldsV]
    simp only [e] at hj ⊢
    exact h j hj) (toldsV_one _)

theorem src_told' {w0 : World} {b : Nat} (hb : b = w0.heap.size) (it : Itm) (n : Nat) (z : Int) (hz : z = n) : Src Try.prog 4 26 (.slice (some ⟨b, 0, none⟩) 1 1) 1 (toldsV [(it, n)])
    (w0.alloc (.cells #[.int .i64 it.kind, .string ⟨it.text.toArray⟩, .int .i64 it.why, .int .i64 z] 31)) := by
  subst hz
  refine src_told (fun i hi => cell_alloc_eq hb ?_)
  simp only [List.getElem?_toArray]
  exact List.getElem?_eq_getElem hi
theorem Arr.alloc {w : World} {e : TypeId} {sz : Nat} {v : Value} {xs : List Value} (h : Arr w e sz v xs) (o : Obj) : Arr (w.alloc o) e sz v xs :=
  h.kept ((Chg.refl (fun _ => False) w).alloc o) (fun _ _ h => h)

/-- The inner loop's head: of the bytes up to at2 those from k on are to come. -/
def AIn (W : World) (b : Nat) (m : Int) (bs : List UInt8) (at2 : Nat) (g : Nat) (ov sv pv : Value) (wr : World) : Prop :=
  ∃ (k : Nat) (items : List (Itm × Nat)) (s : LS) (since : Nat) (ao : Option Addr) (n cap : Nat), k ≤ at2 ∧ at2 ≤ bs.length ∧ at2 - k ≤ g ∧ pv = .slice ao n cap ∧ Rd W (.slice ao n cap) 1 (bvs ((bs.take at2).drop k)) ∧
    sv = .int .i64 since ∧ run m LS.new 0 (bs.take k) = (items, s, since) ∧ Arr wr 31 4 ov (toldsV items) ∧ (∀ i, ov.ownBlock = some i → W.heap.size ≤ i) ∧ Own W wr b m s
/-- The outer loop's head. -/
def AOut (W : World) (b : Nat) (m : Int) (bs : List UInt8) (nc : Nat) (g : Nat) (ov av sv iv : Value) (wr : World) : Prop :=
  ∃ (i at_ : Nat) (items : List (Itm × Nat)) (s : LS) (since : Nat), i + g = nc + 1 ∧ at_ ≤ bs.length ∧ (nc < i → at_ = bs.length) ∧ iv = .int .i64 i ∧ av = .int .i64 at_ ∧ sv = .int .i64 since ∧ run m LS.new 0 (bs.take at_) = (items, s, since) ∧
    Arr wr 31 4 ov (toldsV items) ∧ (∀ i, ov.ownBlock = some i → W.heap.size ≤ i) ∧ Own W wr b m s

set_option maxHeartbeats 2000000 in
set_option maxRecDepth 100000 in
theorem line_all (W : World) (m : Int) (hm0 : 1 ≤ m) (hm1 : m ≤ 64) (bv cv : Value) (bs : List UInt8) (cuts : List Int) (hbs : Rd W bv 1 (bvs bs)) (hcs : Rd W cv 1 (cuts.map (Value.int .i64))) (hlen : bs.length ≤ 1048576) (hcl : cuts.length ≤ 1048576) :
    Calls Try.prog 11 #[.int .i64 m, bv, cv] W fun e w' => ∃ v, e = .returned (.tuple #[v, .int .i64 (run m LS.new 0 bs).2.2, .bool true]) ∧ Arr w' 31 4 v (toldsV (run m LS.new 0 bs).1) ∧ (∀ k, v.ownBlock = some k → W.heap.size ≤ k) ∧ Chg (fun k => W.heap.size ≤ k) W w' := by
  obtain ⟨i0, hi0, _, hz0, _⟩ := info_parts Try.infoByte
  obtain ⟨i1, hi1, hy0, hy1, hy2⟩ := info_parts Try.infoTold
  obtain ⟨bo, bn, bc, rfl, _⟩ := hbs.shape
  obtain rfl : bs.length = bn := hbs.len.symm
  obtain ⟨co, cn, cc, rfl, _⟩ := hcs.shape
  obtain rfl : cuts.length = cn := by have := hcs.num; simpa using this
  have HB := Lib.hid hbs
  have HCU := Lib.hid hcs
  clear hbs hcs
  go_enter Try.func11, Try.ntmps11
  go_wp2_with fail
  refine (line_new _ _ hm0 (by omega)).mono ?_
  rintro e w2 ⟨rfl, h2, hc2⟩
  have hown : Own W w2 W.heap.size m LS.new := ⟨_, h2, fun k hk => by simp [Value.ownBlock] at hk, Nat.le_refl _, hc2.mono (fun _ _ h => h.elim), LS.ok_new (by omega)⟩
  have HO := Lib.hid hown
  clear h2 hc2 hown
  go_wp2_with fail
  go_loopg [11, 12, 13, 14] (cuts.length + 1) (AOut W W.heap.size m bs cuts.length)
  case atStart => exact ⟨0, 0, [], LS.new, 0, by omega, by omega, by omega, rfl, rfl, rfl, by simp [run], Arr.nil _ _ _, fun i hi => by simp [Value.ownBlock] at hi, HO.out⟩
  case round =>
    obtain ⟨i, at_, items, s, since, hig, hat, hlast, rfl, rfl, rfl, hrun, harr, hob, hown⟩ := hrel
    have HRUN := Lib.hid hrun
    have HARR := Lib.hid harr
    have HOB := Lib.hid hob
    have HOW := Lib.hid hown
    have HLAST := Lib.hid hlast
    clear hrun harr hob hown hlast
    by_cases hg0 : gk = 0
    · have hle : ¬ (i : Int) ≤ cuts.length := by omega
      have e := HRUN.out
      rw [HLAST.out (by omega), List.take_length] at e
      have HE := Lib.hid e
      clear e
      go_wp2
      go_ret3
      obtain ⟨vt, _, _, _, g4, _⟩ := HOW.out
      refine ⟨u11, ?_, by rw [HE.out]; exact HARR.out, HOB.out, g4⟩
      show Ending.returned (.tuple #[u11, .int .i64 since, .bool true]) = _
      rw [HE.out]
    · have hle : (i : Int) ≤ cuts.length := by omega
      have hat' : (at_ : Int) ≤ bs.length := by omega
      go_upto_if 37 with (fail)
      go_cut [15] (fun nv wx => wr = wx ∧ ∃ n : Nat, nv = .int .i64 n ∧ at_ + n ≤ bs.length ∧ Hid (¬ i < cuts.length → at_ + n = bs.length))
      case first =>
        by_cases hic : i < cuts.length
        · have hx : cuts.map (Value.int .i64) ≠ [] := by intro h; simp at h; subst h; simp at hic
          obtain ⟨bl, o, rfl, hcell⟩ := HCU.out.at hx
          have hc1 := hcell i (by simpa using hic)
          have hic' : (i : Int) < cuts.length := by omega
          simp only [List.getElem_map] at hc1
          obtain ⟨vt, g1, g2, g3, g4, g5⟩ := HOW.out
          have hc2 := g4.cell hc1 (by have := World.block_lt_of_cell? _ _ hc1; simp at this ⊢; omega)
          generalize cuts[i] = cu at *
          have h9 : -9 < cu.tmod 9 ∧ cu.tmod 9 < 9 := ⟨Int.lt_tmod_of_pos _ (by decide), Int.tmod_lt_of_pos _ (by decide)⟩
          clear hcell hc1 g1 g2 g3 g4 g5 hx
          go_wp2
          all_goals
            go_meet
            generalize cu.tmod 9 = c9 at *
            have hif : c9 ≤ (if 0 < c9 then c9 else 0) := by split <;> omega
            first
              | exact ⟨rfl, 0, rfl, by omega, Lib.hid (fun h => absurd hic h)⟩
              | exact ⟨rfl, bs.length - at_, by congr 1; omega, by omega, Lib.hid (fun h => absurd hic h)⟩
              | exact ⟨rfl, c9.toNat, by rw [Int.toNat_of_nonneg (by omega)], by omega, Lib.hid (fun h => absurd hic h)⟩
        · have hic' : ¬ (i : Int) < cuts.length := by omega
          go_wp2
          go_meet
          exact ⟨rfl, bs.length - at_, by congr 1; omega, by omega, Lib.hid (fun _ => by omega)⟩
      case rest =>
        obtain ⟨rfl, n, rfl, hn, hnl⟩ := hcut
        obtain ⟨pa, pn, pc, hsl, hprd⟩ := HB.out.mid (P := Try.prog) Try.underlying22 Try.elemBytes hi0 hz0 at_ (at_ + n) (by omega) hn
        have HP := Lib.hid hprd
        have ecast : ((at_ + n : Nat) : Int) = (at_ : Int) + n := by omega
        rw [ecast] at hsl
        clear hprd ecast
        go_wp2_with fail
        clear hsl
        obtain ⟨wo, hwo⟩ : ∃ wo : World, wo = wr := ⟨_, rfl⟩
        subst hwo
        obtain ⟨go, hgo⟩ : ∃ go : Nat, go = gk := ⟨_, rfl⟩
        subst hgo
        go_loopg [11, 13, 16] n (AIn W W.heap.size m bs (at_ + n))
        case atStart => exact ⟨at_, items, s, since, pa, pn, pc, by omega, hn, by omega, rfl, HP.out, rfl, HRUN.out, HARR.out, HOB.out, HOW.out⟩
        case round =>
          obtain ⟨k, items1, s1, since1, ao, n1, cap, hk1, hk2, hk3, rfl, hrd, rfl, hrun, harr, hob, hown⟩ := hrel
          obtain ⟨l, hl⟩ : ∃ l, l = (bs.take (at_ + n)).drop k := ⟨_, rfl⟩
          have hll : l.length = at_ + n - k := by rw [hl, List.length_drop, List.length_take]; omega
          rw [← hl] at hrd
          obtain rfl : l.length = n1 := hrd.len.symm
          have HL := Lib.hid hl
          have HR := Lib.hid hrd
          have HARR1 := Lib.hid harr
          have HOB1 := Lib.hid hob
          have HOW1 := Lib.hid hown
          have HRUN1 := Lib.hid hrun
          have HLL := Lib.hid hll
          clear hl hrd harr hob hown hrun hll
          by_cases hl0 : l.length = 0
          · have hgt : ¬ (0 : Int) < l.length := by omega
            have hke : k = at_ + n := by have := HLL.out; omega
            have HK := Lib.hid hke
            clear hl0 hke
            go_wp2
            go_roundg (go - 1)
            case measure => omega
            case rel =>
              have e := HRUN1.out
              rw [HK.out] at e
              exact ⟨i + 1, at_ + n, items1, s1, since1, by omega, hn, fun h => hnl.out (by omega), by go_num, by go_num, rfl, e, HARR1.out, HOB1.out, HOW1.out⟩
          · have hgt : (0 : Int) < l.length := by omega
            clear hl0
            go_wp2_with fail
            refine (own_take HOW1.out hm0 (by omega) _ l HR.out).mono ?_
            rintro e w3 ⟨rfl, ho, hot⟩
            have hn1 := take_pos m l s1 (by rintro rfl; simp at hgt)
            have hn2 := take_le m l s1
            have hnone := take_none m l s1
            have hstep := run_step m bs (at_ + n) k items1 s1 since1 HRUN1.out
            have hs1 : since1 ≤ bs.length := by
              have := (run_since m (bs.take k) LS.new 0).1
              rw [HRUN1.out, List.length_take] at this; simp only at this; omega
            have hit : items1.length ≤ bs.length := by
              have := (run_since m (bs.take k) LS.new 0).2
              rw [HRUN1.out, List.length_take] at this; simp only at this; omega
            rw [← HL.out] at hstep
            obtain ⟨ao', n', cap', hsl, hrd'⟩ := HR.out.tail (P := Try.prog) Try.underlying22 Try.elemBytes hi0 hz0 (take m s1 l).1 hn2
            unfold itmV
            generalize (take m s1 l).2.1 = it at *
            generalize (take m s1 l).2.2 = s2 at *
            generalize (take m s1 l).1 = nn at *
            have HO4 := Lib.hid ho
            have HR' := Lib.hid hrd'
            have HS := Lib.hid hstep
            have HOT := Lib.hid hot
            have hsz : W.heap.size < w3.heap.size := by obtain ⟨v4, q1, _⟩ := ho; exact lt_of_block q1.blk
            clear ho hrd' hstep hot
            have hs2 : since1 ≤ 1048576 := by omega
            have hn3 : nn ≤ 1048576 := by have := HLL.out; omega
            by_cases hk : it.kind = 0
            · have hk' : (it.kind == 0) = true := by simp [hk]
              have hk'' : (it.kind != 0) = false := by simp [hk]
              have hnl' := hnone hk
              have hfull : ¬ (nn : Int) < l.length := by omega
              have HK := Lib.hid hk
              clear hk hnone hnl'
              go_wp2
              go_roundg (gk - 1)
              case measure => have := HLL.out; omega
              case rel =>
                have e := HS.out
                rw [if_pos HK.out, if_pos HK.out, List.append_nil] at e
                have hd : l.drop nn = (bs.take (at_ + n)).drop (k + nn) := by rw [HL.out, List.drop_drop]
                have hr := HR'.out
                rw [hd] at hr
                have := HLL.out
                exact ⟨k + nn, items1, s2, since1 + nn, ao', n', cap', by omega, hk2, by omega, rfl, hr, by go_num, e, (HOT.out.arr (by decide) (by decide) HARR1.out).alloc _, HOB1.out, HO4.out.alloc _⟩
            · have hk' : (it.kind == 0) = false := by simp [hk]
              have hk'' : (it.kind != 0) = true := by simp [hk]
              have HK := Lib.hid hk
              clear hk hnone
              have HA := HOT.out.arr (by decide) (by decide) HARR1.out
              have hxl : (toldsV items1).length / 4 = items1.length := by rw [toldsV_length]; omega
              have HB1 : Hid ((toldsV items1).length / 4 + 1 ≤ maxLen) := Lib.hid (by rw [hxl]; unfold maxLen; omega)
              have HB2 : Hid (((toldsV items1).length / 4 + 1) * 40 ≤ 140737488355328) := Lib.hid (by rw [hxl]; omega)
              have HAA := Lib.hid HA
              clear hxl HA
              go_wp2_with (at_builtin; refine wpList_append_arr _ rfl _ _ 26 26 rfl 31 i1 _ 4 40 Try.underlying26 hi1 hy0 hy1 hy2 rfl (by decide) _ _ rfl ((HAA.out.alloc _).alloc _) _ rfl 1 (toldsV [(it, since1 + nn)]) (src_told' (by simp) it (since1 + nn) _ (by omega)) HB1.out HB2.out ?s4)
              case s4 =>
                intro v2 w4 ha hc ho
                have HA4 := Lib.hid ha
                have HC4 := Lib.hid hc
                have HO5 := Lib.hid ho
                clear ha hc ho
                go_wp2
                go_roundg (gk - 1)
                case measure => have := HLL.out; omega
                case rel =>
                  have e := HS.out
                  rw [if_neg HK.out, if_neg HK.out] at e
                  have hd : l.drop nn = (bs.take (at_ + n)).drop (k + nn) := by rw [HL.out, List.drop_drop]
                  have hr := HR'.out
                  rw [hd] at hr
                  have := HLL.out
                  refine ⟨k + nn, _, s2, 0, ao', n', cap', by omega, hk2, by omega, rfl, hr, rfl, e, ?_, ?_, Own.other ((HO4.out.alloc _).alloc _) (by decide) (by decide) ((HAA.out.alloc _).alloc _) HOB1.out HC4.out⟩
                  · rw [toldsV_append]; exact HA4.out
                  · intro i hi
                    rcases HO5.out with e5 | e5
                    · rw [e5] at hi; exact HOB1.out i hi
                    · rw [e5] at hi; injection hi with hi; omega

end Go.Proofs.Ytccmickmcpfapaa
