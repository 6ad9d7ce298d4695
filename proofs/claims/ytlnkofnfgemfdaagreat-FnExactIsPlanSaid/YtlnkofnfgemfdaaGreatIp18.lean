/- Part 18 of the texts of this claim: The walks of StockOf; Planned: its cells, and the walks of the laws' own helpers on lists of it. -/
import Derived.Test.YtlnkofnfgemfdaaGreatIp16
import Derived.Test.YtlnkofnfgemfdaaGreatIp17
import Derived.Test.YtlnkofnfgemfdaaGreatIp2
import Derived.StillTailTactics
/- The walks of StockOf. -/
namespace Go.Proofs.YtlnkofnfgemfdaaGreat
open Go.RowKit
/-- What lies there of an item, by the first row that names it. -/
def stkOf (st : List Nd) (s : ByteArray) : Int := match st.find? (fun x => x.1.toList == s.toList) with
  | some x => x.2
  | none => 0
def stockOf (p : Pt) (s : ByteArray) : Int := if isPlant p = true then stkOf p.st s else 0
theorem stockOf_no {p : Pt} {s : ByteArray} (h : isPlant p = false) : stockOf p s = 0 := by unfold stockOf; rw [if_neg (by rw [h]; decide)]
theorem stkOf_hit {st : List Nd} {s : ByteArray} {k : Nat} (hk : k < st.length) (h : ∀ j (hj : j < st.length), j < k → (st[j].1.toList == s.toList) = false) (he : (st[k].1.toList == s.toList) = true) : stkOf st s = st[k].2 := by
  have : st.find? (fun x => x.1.toList == s.toList) = some st[k] := by
    rw [List.find?_eq_some_iff_getElem]
    exact ⟨he, k, hk, rfl, fun j hj => by rw [h j (by omega) hj]; rfl⟩
  unfold stkOf; rw [this]
theorem stkOf_miss {st : List Nd} {s : ByteArray} (h : ∀ j (hj : j < st.length), (st[j].1.toList == s.toList) = false) : stkOf st s = 0 := by
  have : st.find? (fun x => x.1.toList == s.toList) = none := by
    rw [List.find?_eq_none]
    intro x hx
    obtain ⟨k, hk, rfl⟩ := List.getElem_of_mem hx
    rw [h k hk]; decide
  unfold stkOf; rw [this]
theorem stockOf_hit {p : Pt} {s : ByteArray} (hp : isPlant p = true) {k : Nat} (hk : k < p.st.length) (h : ∀ j (hj : j < p.st.length), j < k → (p.st[j].1.toList == s.toList) = false) (he : (p.st[k].1.toList == s.toList) = true) : stockOf p s = p.st[k].2 := by
  unfold stockOf; rw [if_pos hp, stkOf_hit hk h he]
theorem stockOf_miss {p : Pt} {s : ByteArray} (hp : isPlant p = true) (h : ∀ j (hj : j < p.st.length), (p.st[j].1.toList == s.toList) = false) : stockOf p s = 0 := by
  unfold stockOf; rw [if_pos hp, stkOf_miss h]
theorem isPlant_parts {p : Pt} (h : isPlant p = true) : isBills p.it p.ls = true ∧ isCal p.wk p.ex = true ∧ p.st.length ≤ 12 ∧ p.rc.length ≤ 16 ∧ (∀ k (hk : k < p.st.length), 0 ≤ findIt p.it p.st[k].1 ∧ 0 ≤ p.st[k].2 ∧ p.st[k].2 ≤ 100000) ∧ (∀ k (hk : k < p.rc.length), 0 ≤ findIt p.it p.rc[k].1 ∧ (1 ≤ p.rc[k].2.2 ∧ p.rc[k].2.2 ≤ 100000) ∧ 0 ≤ p.rc[k].2.1 ∧ p.rc[k].2.1 ≤ 999) := by
  simp only [isPlant, Bool.and_eq_true, decide_eq_true_eq, List.all_eq_true, List.mem_range] at h
  obtain ⟨⟨h1, h2, h3, h4⟩, h5, h6⟩ := h
  refine ⟨h1, h2, by omega, by omega, fun k hk => ?_, fun k hk => ?_⟩
  · have := h5 k hk
    rw [okStk_of hk] at this
    simp only [Bool.and_eq_true, decide_eq_true_eq, inB_iff] at this
    exact ⟨this.1, this.2.1⟩
  · have := h6 _ (List.getElem_mem hk)
    simp only [okRcp, Bool.and_eq_true, decide_eq_true_eq, inB_iff] at this
    exact ⟨this.1, this.2.1, this.2.2⟩
theorem stockOf_bd (p : Pt) (s : ByteArray) : 0 ≤ stockOf p s ∧ stockOf p s ≤ 100000 := by
  unfold stockOf
  split
  · next h =>
    unfold stkOf
    split
    · next x hx =>
      have hm := List.mem_of_find?_eq_some hx
      obtain ⟨k, hk, rfl⟩ := List.getElem_of_mem hm
      exact ((isPlant_parts h).2.2.2.2.1 k hk).2
    · omega
  · omega
set_option maxRecDepth 100000 in
set_option maxHeartbeats 4000000 in
theorem specStockOf_any (r : PtR) (p : Pt) (s : ByteArray) (w : World) (hp : PlantIn w r p) (hok : okPt p) (_hs : s.size ≤ 9223372036854775807) :
    Calls Tryz.prog 41 #[.agg #[.slice r.i.a r.i.n r.i.c, .slice r.l.a r.l.n r.l.c, .slice r.w.a r.w.n r.w.c, .slice r.e.a r.e.n r.e.c, .slice r.p.a r.p.n r.p.c, .slice r.s.a r.s.n r.s.c, .slice r.q.a r.q.n r.q.c], .string s] w fun e w' => e = .returned (.int .i64 (stockOf p s)) ∧ Below w.heap.size w w' := by
  obtain ⟨⟨a0, n0, c0⟩, ⟨a1, n1, c1⟩, ⟨a2, n2, c2⟩, ⟨a3, n3, c3⟩, ⟨a4, n4, c4⟩, ⟨a5, n5, c5⟩, ⟨a6, n6, c6⟩⟩ := r
  have HNS := Lib.hid hp.st.1
  have HNR := Lib.hid hp.rc.1
  dsimp only at HNS HNR ⊢
  obtain rfl := HNS.out
  obtain rfl := HNR.out
  clear HNS HNR
  have hls := hp.st.len
  have hlr := hp.rc.len
  have HP := Lib.hid hp
  have HQ5 := Lib.hid hp.st
  have HQ6 := Lib.hid hp.rc
  have HQ0 := Lib.hid hp.it
  dsimp only at HQ5 HQ6 HQ0
  have HO := Lib.hid hok
  clear hp hok
  have hb := below_alloc w (.cells #[.slice a0 n0 c0, .slice a1 n1 c1, .slice a2 n2 c2, .slice a3 n3 c3, .slice a4 n4 c4, .slice a5 p.st.length c5, .slice a6 p.rc.length c6] 48)
  have B0 : BoxOf (w.alloc (.cells #[.slice a0 n0 c0, .slice a1 n1 c1, .slice a2 n2 c2, .slice a3 n3 c3, .slice a4 n4 c4, .slice a5 p.st.length c5, .slice a6 p.rc.length c6] 48)) w.heap.size [.slice a0 n0 c0, .slice a1 n1 c1, .slice a2 n2 c2, .slice a3 n3 c3, .slice a4 n4 c4, .slice a5 p.st.length c5, .slice a6 p.rc.length c6] := boxOf_alloc w #[.slice a0 n0 c0, .slice a1 n1 c1, .slice a2 n2 c2, .slice a3 n3 c3, .slice a4 n4 c4, .slice a5 p.st.length c5, .slice a6 p.rc.length c6] 48
  cases g : isPlant p
  · have HN : Hid (stockOf p s = 0) := stockOf_no g
    by_cases h0 : 0 < p.st.length
    · go_enter Tryz.func41, Tryz.ntmps41
      go_wp2_with fail
      generalize (w.alloc (.cells #[.slice a0 n0 c0, .slice a1 n1 c1, .slice a2 n2 c2, .slice a3 n3 c3, .slice a4 n4 c4, .slice a5 p.st.length c5, .slice a6 p.rc.length c6] 48)) = V at *
      refine wp_loop_rounds 1 ?_
      rw [rounds_succ]
      obtain ⟨b0, b1, b2, b3, b4, b5, b6, bl⟩ := B0.seven
      go_wp2_with fail
      clear b0 b1 b2 b3 b4 b5 b6 bl
      refine (specIsPlant_any ⟨⟨a0, n0, c0⟩, ⟨a1, n1, c1⟩, ⟨a2, n2, c2⟩, ⟨a3, n3, c3⟩, ⟨a4, n4, c4⟩, ⟨a5, p.st.length, c5⟩, ⟨a6, p.rc.length, c6⟩⟩ p _ (HP.out.keep hb) HO.out).mono ?_
      rintro e V1 ⟨rfl, hs⟩
      rw [g]
      replace hb := below_on hb hs
      replace B0 := B0.keep hs
      clear hs
      go_wp2_with fail
      go_ret
      exact ⟨ret_int HN.out.symm, hb⟩
    · have hz : ¬ ((0 : Int) < (p.st.length : Int)) := by omega
      go_enter Tryz.func41, Tryz.ntmps41
      go_wp2_with fail
      generalize (w.alloc (.cells #[.slice a0 n0 c0, .slice a1 n1 c1, .slice a2 n2 c2, .slice a3 n3 c3, .slice a4 n4 c4, .slice a5 p.st.length c5, .slice a6 p.rc.length c6] 48)) = V at *
      refine wp_loop_rounds 1 ?_
      rw [rounds_succ]
      obtain ⟨b0, b1, b2, b3, b4, b5, b6, bl⟩ := B0.seven
      go_wp2_with fail
      go_ret
      exact ⟨ret_int HN.out.symm, hb⟩
  go_enter Tryz.func41, Tryz.ntmps41
  go_wp2_with fail
  generalize (w.alloc (.cells #[.slice a0 n0 c0, .slice a1 n1 c1, .slice a2 n2 c2, .slice a3 n3 c3, .slice a4 n4 c4, .slice a5 p.st.length c5, .slice a6 p.rc.length c6] 48)) = V at *
  go_loopw [5] (fun i wr => ∃ k : Nat, k ≤ p.st.length ∧ i = .int .i64 k ∧ Hid (∀ j (hj : j < p.st.length), j < k → (p.st[j].1.toList == s.toList) = false) ∧ BoxOf wr w.heap.size [.slice a0 n0 c0, .slice a1 n1 c1, .slice a2 n2 c2, .slice a3 n3 c3, .slice a4 n4 c4, .slice a5 p.st.length c5, .slice a6 p.rc.length c6] ∧ Below w.heap.size w wr) (fun i _ => p.st.length - (intOf i).toNat)
  case atStart => exact ⟨0, by omega, rfl, fun j _ h => absurd h (by omega), B0, hb⟩
  case round =>
    clear B0 hb
    obtain ⟨k, hk, rfl, HI, B0, hb⟩ := hrel
    by_cases hlt : k < p.st.length
    · obtain ⟨b0, b1, b2, b3, b4, b5, b6, bl⟩ := B0.seven
      go_wp2_with fail
      clear b0 b1 b2 b3 b4 b5 b6 bl
      refine (specIsPlant_any ⟨⟨a0, n0, c0⟩, ⟨a1, n1, c1⟩, ⟨a2, n2, c2⟩, ⟨a3, n3, c3⟩, ⟨a4, n4, c4⟩, ⟨a5, p.st.length, c5⟩, ⟨a6, p.rc.length, c6⟩⟩ p _ (HP.out.keep hb) HO.out).mono ?_
      rintro e V1 ⟨rfl, hs⟩
      rw [g]
      replace hb := below_on hb hs
      replace B0 := B0.keep hs
      clear hs
      obtain ⟨b, o, rfl, hbl, hc0, hc1⟩ := need_at (HQ5.out.keep hb) hlt
      obtain ⟨b0, b1, b2, b3, b4, b5, b6, bl⟩ := B0.seven
      cases he : (p.st[k].1.toList == s.toList)
      · have HX : Hid (∀ j (hj : j < p.st.length), j < k + 1 → (p.st[j].1.toList == s.toList) = false) := fun j hj hjk => by
          rcases Nat.lt_or_ge j k with h1 | h1
          · exact HI.out j hj h1
          · obtain rfl : j = k := by omega
            exact he
        go_wp2_with fail
        go_roundw
        case rel => exact ⟨k + 1, by omega, by go_num, HX.out, B0, hb⟩
        case measure => simp [intOf]; omega
      · have HF := Lib.hid (stockOf_hit g hlt HI.out he)
        go_wp2_with fail
        go_ret
        exact ⟨ret_int HF.out.symm, hb⟩
    · obtain rfl : k = p.st.length := by omega
      have HF := Lib.hid (stockOf_miss (s := s) g (fun j hj => HI.out j hj hj))
      obtain ⟨b0, b1, b2, b3, b4, b5, b6, bl⟩ := B0.seven
      go_wp2_with fail
      go_ret
      exact ⟨ret_int HF.out.symm, hb⟩
set_option maxRecDepth 100000 in
set_option maxHeartbeats 4000000 in
theorem implStockOf_any (r : PtR) (p : Pt) (s : ByteArray) (w : World) (hp : PlantIn w r p) (hok : okPt p) (_hs : s.size ≤ 9223372036854775807) :
    Calls Tryz.prog 57 #[.agg #[.slice r.i.a r.i.n r.i.c, .slice r.l.a r.l.n r.l.c, .slice r.w.a r.w.n r.w.c, .slice r.e.a r.e.n r.e.c, .slice r.p.a r.p.n r.p.c, .slice r.s.a r.s.n r.s.c, .slice r.q.a r.q.n r.q.c], .string s] w fun e w' => e = .returned (.int .i64 (stockOf p s)) ∧ Below w.heap.size w w' := by
  obtain ⟨⟨a0, n0, c0⟩, ⟨a1, n1, c1⟩, ⟨a2, n2, c2⟩, ⟨a3, n3, c3⟩, ⟨a4, n4, c4⟩, ⟨a5, n5, c5⟩, ⟨a6, n6, c6⟩⟩ := r
  have HNS := Lib.hid hp.st.1
  have HNR := Lib.hid hp.rc.1
  dsimp only at HNS HNR ⊢
  obtain rfl := HNS.out
  obtain rfl := HNR.out
  clear HNS HNR
  have hls := hp.st.len
  have hlr := hp.rc.len
  have HP := Lib.hid hp
  have HQ5 := Lib.hid hp.st
  have HQ6 := Lib.hid hp.rc
  have HQ0 := Lib.hid hp.it
  dsimp only at HQ5 HQ6 HQ0
  have HO := Lib.hid hok
  clear hp hok
  have hb := below_alloc w (.cells #[.slice a0 n0 c0, .slice a1 n1 c1, .slice a2 n2 c2, .slice a3 n3 c3, .slice a4 n4 c4, .slice a5 p.st.length c5, .slice a6 p.rc.length c6] 48)
  have B0 : BoxOf (w.alloc (.cells #[.slice a0 n0 c0, .slice a1 n1 c1, .slice a2 n2 c2, .slice a3 n3 c3, .slice a4 n4 c4, .slice a5 p.st.length c5, .slice a6 p.rc.length c6] 48)) w.heap.size [.slice a0 n0 c0, .slice a1 n1 c1, .slice a2 n2 c2, .slice a3 n3 c3, .slice a4 n4 c4, .slice a5 p.st.length c5, .slice a6 p.rc.length c6] := boxOf_alloc w #[.slice a0 n0 c0, .slice a1 n1 c1, .slice a2 n2 c2, .slice a3 n3 c3, .slice a4 n4 c4, .slice a5 p.st.length c5, .slice a6 p.rc.length c6] 48
  cases g : isPlant p
  · have HN : Hid (stockOf p s = 0) := stockOf_no g
    go_enter Tryz.func57, Tryz.ntmps57
    go_wp2_with fail
    generalize (w.alloc (.cells #[.slice a0 n0 c0, .slice a1 n1 c1, .slice a2 n2 c2, .slice a3 n3 c3, .slice a4 n4 c4, .slice a5 p.st.length c5, .slice a6 p.rc.length c6] 48)) = V at *
    refine (implIsPlant_any ⟨⟨a0, n0, c0⟩, ⟨a1, n1, c1⟩, ⟨a2, n2, c2⟩, ⟨a3, n3, c3⟩, ⟨a4, n4, c4⟩, ⟨a5, p.st.length, c5⟩, ⟨a6, p.rc.length, c6⟩⟩ p _ (HP.out.keep hb) HO.out).mono ?_
    rintro e V1 ⟨rfl, hs⟩
    rw [g]
    replace hb := below_on hb hs
    replace B0 := B0.keep hs
    clear hs
    go_wp2_with fail
    go_ret
    exact ⟨ret_int HN.out.symm, hb⟩
  go_enter Tryz.func57, Tryz.ntmps57
  go_wp2_with fail
  generalize (w.alloc (.cells #[.slice a0 n0 c0, .slice a1 n1 c1, .slice a2 n2 c2, .slice a3 n3 c3, .slice a4 n4 c4, .slice a5 p.st.length c5, .slice a6 p.rc.length c6] 48)) = V at *
  refine (implIsPlant_any ⟨⟨a0, n0, c0⟩, ⟨a1, n1, c1⟩, ⟨a2, n2, c2⟩, ⟨a3, n3, c3⟩, ⟨a4, n4, c4⟩, ⟨a5, p.st.length, c5⟩, ⟨a6, p.rc.length, c6⟩⟩ p _ (HP.out.keep hb) HO.out).mono ?_
  rintro e V1 ⟨rfl, hs⟩
  rw [g]
  replace hb := below_on hb hs
  replace B0 := B0.keep hs
  clear hs
  obtain ⟨b0, b1, b2, b3, b4, b5, b6, bl⟩ := B0.seven
  go_wp2_with fail
  clear b0 b1 b2 b3 b4 b5 b6 bl
  go_loopw [13] (fun i wr => ∃ k : Nat, k ≤ p.st.length ∧ i = .int .i64 k ∧ Hid (∀ j (hj : j < p.st.length), j < k → (p.st[j].1.toList == s.toList) = false) ∧ BoxOf wr w.heap.size [.slice a0 n0 c0, .slice a1 n1 c1, .slice a2 n2 c2, .slice a3 n3 c3, .slice a4 n4 c4, .slice a5 p.st.length c5, .slice a6 p.rc.length c6] ∧ Below w.heap.size w wr) (fun i _ => p.st.length - (intOf i).toNat)
  case atStart => exact ⟨0, by omega, rfl, fun j _ h => absurd h (by omega), B0, hb⟩
  case round =>
    clear B0 hb
    obtain ⟨k, hk, rfl, HI, B0, hb⟩ := hrel
    by_cases hlt : k < p.st.length
    · obtain ⟨b, o, rfl, hbl, hc0, hc1⟩ := need_at (HQ5.out.keep hb) hlt
      have hs := below_alloc wr (.cells #[.string p.st[k].1, .int .i64 p.st[k].2] 152)
      have hb1 := below_on hb hs
      have B1 := B0.keep hs
      clear hs
      cases he : (p.st[k].1.toList == s.toList)
      · have HX : Hid (∀ j (hj : j < p.st.length), j < k + 1 → (p.st[j].1.toList == s.toList) = false) := fun j hj hjk => by
          rcases Nat.lt_or_ge j k with h1 | h1
          · exact HI.out j hj h1
          · obtain rfl : j = k := by omega
            exact he
        go_wp2_with fail
        go_roundw
        case rel => exact ⟨k + 1, by omega, by go_num, HX.out, B1, hb1⟩
        case measure => simp [intOf]; omega
      · have HF := Lib.hid (stockOf_hit g hlt HI.out he)
        go_wp2_with fail
        go_ret
        exact ⟨ret_int HF.out.symm, hb1⟩
    · obtain rfl : k = p.st.length := by omega
      have HF := Lib.hid (stockOf_miss (s := s) g (fun j hj => HI.out j hj hj))
      go_wp2_with fail
      go_ret
      exact ⟨ret_int HF.out.symm, hb⟩
end Go.Proofs.YtlnkofnfgemfdaaGreat
/- Planned: its cells, and the walks of the laws' own helpers on lists of it. -/
namespace Go.Proofs.YtlnkofnfgemfdaaGreat
open Go.RowKit

abbrev Pl := ByteArray × Int × Int × Int × Bool
def plF : Flat Pl := ⟨fun f => [.string (f.1), .int .i64 (f.2.1), .int .i64 (f.2.2.1), .int .i64 (f.2.2.2.1), .bool (f.2.2.2.2)], 5, fun _ => rfl⟩
abbrev PlannedsIn (w : World) (A : Option Addr) (n : Nat) (l : List Pl) : Prop := RowsIn plF w A n l
theorem planned_at {w : World} {A : Option Addr} {n : Nat} {l : List Pl} (h : PlannedsIn w A n l) {k : Nat} (hk : k < l.length) :
    ∃ b o, A = some ⟨b, o, none⟩ ∧ b < w.heap.size ∧ w.cell? ⟨b, o + k * 5, none⟩ = some (.string (l[k].1)) ∧ w.cell? ⟨b, o + k * 5 + 1, none⟩ = some (.int .i64 (l[k].2.1)) ∧ w.cell? ⟨b, o + k * 5 + 2, none⟩ = some (.int .i64 (l[k].2.2.1)) ∧ w.cell? ⟨b, o + k * 5 + 3, none⟩ = some (.int .i64 (l[k].2.2.2.1)) ∧ w.cell? ⟨b, o + k * 5 + 4, none⟩ = some (.bool (l[k].2.2.2.2)) := by
  obtain ⟨b, o, e, hlt, hc⟩ := h.at_ hk
  exact ⟨b, o, e, hlt, hc 0 _ rfl, hc 1 _ rfl, hc 2 _ rfl, hc 3 _ rfl, hc 4 _ rfl⟩
theorem plannedInfo : (Tryz.prog.info? 93).map (fun i => (i.zero, i.size, i.bytes)) = some (some (.agg #[.string ByteArray.empty, .int .i64 0, .int .i64 0, .int .i64 0, .bool false]), 5, 48) := by kernel_rfl
theorem plannedElem : ElemOk plF 36 93 := by
  obtain ⟨i, h1, h2, h3, h4⟩ := info_parts plannedInfo
  exact ⟨i, _, 48, Tryz.underlying36, h1, h2, h3, h4, rfl, by decide, by omega⟩
theorem toPlanned_any (x0 : ByteArray) (x1 : Int) (x2 : Int) (x3 : Int) (x4 : Bool) (w : World) : Calls Tryz.prog 84 #[.agg #[.string (x0), .int .i64 (x1), .int .i64 (x2), .int .i64 (x3), .bool (x4)]] w fun e w' => e = .returned (.agg #[.string (x0), .int .i64 (x1), .int .i64 (x2), .int .i64 (x3), .bool (x4)]) ∧ Below w.heap.size w w' := by
  go_enter Tryz.func84, Tryz.ntmps84
  go_wp2
  refine bodyPost_ret (v := .agg #[.string (x0), .int .i64 (x1), .int .i64 (x2), .int .i64 (x3), .bool (x4)]) (by simp [results, Tryz.results84, go_sem]) rfl ⟨rfl, ?_⟩
  exact (((Below.refl _ _).alloc (Nat.le_refl _) _).alloc (by simp) _).alloc (by simp; omega) _
set_option maxRecDepth 100000 in
set_option maxHeartbeats 2000000 in
theorem toPlannedS_any (A : Option Addr) (n c : Nat) (l : List Pl) (w : World) (hl : PlannedsIn w A n l) :
    Calls Tryz.prog 24 #[.slice A n c] w fun e w' => ∃ A', e = .returned (.slice A' n n) ∧ OwnRows plF 93 w' w.heap.size A' n n l ∧ Below w.heap.size w w' := by
  obtain ⟨i0, hi0, hz0, hz1, hz2⟩ := info_parts plannedInfo
  have hn := hl.len
  obtain rfl := hl.1
  go_enter Tryz.func24, Tryz.ntmps24
  go_wp2_with (at_make; refine wpList_make_full _ rfl (.tmp 6) (.tmp 6) _ rfl w.heap.size 93 i0 _ 5 Tryz.underlying36 hi0 hz0 hz1 .i64 .i64 _ _ l.length rfl rfl rfl rfl (by rw [hz2]; omega) (by unfold maxLen; omega) (Nat.le_refl _) ?_; intro w1 hown hg)
  have hb1 := below_none hg
  generalize hzs : (madeCells (Value.agg #[.string ByteArray.empty, .int .i64 0, .int .i64 0, .int .i64 0, .bool false]).cells (l.length * 5)).toList = zs at hown
  have hzl : zs.length = (l.flatMap plF.enc).length := by rw [flatMap_len plF.enc 5 plF.len, hown.1]
  clear hg hzs
  have HZ := Lib.hid hzl; clear hzl
  have hown1 : w1.ownsRow w.heap.size 93 5 (.slice (some ⟨w.heap.size, 0, none⟩) l.length l.length) l.length (fillC zs (l.flatMap plF.enc) 0) := by
    rw [fillC_zero]; exact hown
  clear hown
  go_loopw [4] (fun i wr => ∃ k : Nat, k ≤ l.length ∧ i = .int .i64 k ∧ wr.ownsRow w.heap.size 93 5 (.slice (some ⟨w.heap.size, 0, none⟩) l.length l.length) l.length (fillC zs (l.flatMap plF.enc) (k * 5)) ∧ Below w.heap.size w wr) (fun i _ => l.length - (intOf i).toNat)
  case atStart => exact ⟨0, by omega, rfl, by rw [Nat.zero_mul]; exact hown1, hb1⟩
  case round =>
    obtain ⟨k, hk, rfl, hown, hb⟩ := hrel
    by_cases hlt : k < l.length
    · obtain ⟨b, o, rfl, _, hc0, hc1, hc2, hc3, hc4⟩ := planned_at (hl.keep hb) hlt
      go_wp2_with fail
      refine (toPlanned_any _ _ _ _ _ _).mono ?_
      rintro e w2 ⟨rfl, hb2⟩
      have ho := own_keep hown hb2
      have hlen : (l.flatMap plF.enc).length = l.length * 5 := flatMap_len plF.enc 5 plF.len l
      have hz := HZ.out
      have e0 : (l.flatMap plF.enc)[k * 5]? = some (.string (l[k].1)) := flatMap_at plF.enc 5 plF.len l k 0 hlt (by omega)
      obtain ⟨u0, c0, f0⟩ := own_cell ho (k * 5) (by omega)
      have e1 : (l.flatMap plF.enc)[k * 5 + 1]? = some (.int .i64 (l[k].2.1)) := flatMap_at plF.enc 5 plF.len l k 1 hlt (by omega)
      obtain ⟨u1, c1, f1⟩ := own_cell ho (k * 5 + 1) (by omega)
      have e2 : (l.flatMap plF.enc)[k * 5 + 2]? = some (.int .i64 (l[k].2.2.1)) := flatMap_at plF.enc 5 plF.len l k 2 hlt (by omega)
      obtain ⟨u2, c2, f2⟩ := own_cell ho (k * 5 + 2) (by omega)
      have e3 : (l.flatMap plF.enc)[k * 5 + 3]? = some (.int .i64 (l[k].2.2.2.1)) := flatMap_at plF.enc 5 plF.len l k 3 hlt (by omega)
      obtain ⟨u3, c3, f3⟩ := own_cell ho (k * 5 + 3) (by omega)
      have e4 : (l.flatMap plF.enc)[k * 5 + 4]? = some (.bool (l[k].2.2.2.2)) := flatMap_at plF.enc 5 plF.len l k 4 hlt (by omega)
      obtain ⟨u4, c4, f4⟩ := own_cell ho (k * 5 + 4) (by omega)
      have s0 := (ho.stored (k * 5) (.string (l[k].1))).1
      rw [fillC_set _ _ _ _ e0 hz] at s0
      have s1 := (s0.stored (k * 5 + 1) (.int .i64 (l[k].2.1))).1
      rw [fillC_set _ _ _ _ e1 hz] at s1
      have s2 := (s1.stored (k * 5 + 2) (.int .i64 (l[k].2.2.1))).1
      rw [fillC_set _ _ _ _ e2 hz] at s2
      have s3 := (s2.stored (k * 5 + 3) (.int .i64 (l[k].2.2.2.1))).1
      rw [fillC_set _ _ _ _ e3 hz] at s3
      have s4 := (s3.stored (k * 5 + 4) (.bool (l[k].2.2.2.2))).1
      rw [fillC_set _ _ _ _ e4 hz] at s4
      have hb3 : Below w.heap.size w w2 := hb.trans (hb2.mono hb.size)
      have S2 := Lib.hid s4
      clear ho e0 e1 e2 e3 e4 s0 s1 s2 s3 s4 hown hz hlen hb hb2
      go_wp2
      go_roundw
      case rel => exact ⟨k + 1, by omega, by go_num, by rw [show (k + 1) * 5 = k * 5 + 1 + 1 + 1 + 1 + 1 by omega]; exact S2.out, (((((hb3.setCell (Nat.le_refl _) _).setCell (Nat.le_refl _) _).setCell (Nat.le_refl _) _).setCell (Nat.le_refl _) _).setCell (Nat.le_refl _) _)⟩
      case measure => simp [intOf]; omega
    · obtain rfl : k = l.length := by omega
      go_wp2
      go_ret
      refine ⟨_, rfl, ⟨rfl, ?_⟩, hb⟩
      have h2 : (l.flatMap plF.enc).length = l.length * 5 := flatMap_len plF.enc 5 plF.len l
      rw [← h2, fillC_all _ _ HZ.out] at hown
      exact hown
theorem eqPlanned_yes (x0 : ByteArray) (x1 : Int) (x2 : Int) (x3 : Int) (x4 : Bool) (w : World) : Calls Tryz.prog 62 #[.agg #[.string (x0), .int .i64 (x1), .int .i64 (x2), .int .i64 (x3), .bool (x4)], .agg #[.string (x0), .int .i64 (x1), .int .i64 (x2), .int .i64 (x3), .bool (x4)]] w fun e w' => e = .returned (.bool true) ∧ Below w.heap.size w w' := by
  go_enter Tryz.func62, Tryz.ntmps62
  go_wp2
  go_ret
  exact ⟨rfl, ((Below.refl _ _).alloc (Nat.le_refl _) _).alloc (by simp) _⟩
set_option maxRecDepth 100000 in
set_option maxHeartbeats 2000000 in
theorem eqPlannedS_yes (A B : Option Addr) (n m c d : Nat) (l : List Pl) (w : World) (ha : PlannedsIn w A n l) (hb : PlannedsIn w B m l) :
    Calls Tryz.prog 13 #[.slice A n c, .slice B m d] w fun e w' => e = .returned (.bool true) ∧ Below w.heap.size w w' := by
  have hn := ha.len
  obtain rfl := ha.1
  obtain rfl := hb.1
  go_enter Tryz.func13, Tryz.ntmps13
  go_wp2
  go_loopw [5] (fun i wr => ∃ k : Nat, k ≤ l.length ∧ i = .int .i64 k ∧ Below w.heap.size w wr) (fun i _ => l.length - (intOf i).toNat)
  case atStart => exact ⟨0, by omega, rfl, Below.refl _ _⟩
  case round =>
    obtain ⟨k, hk, rfl, HD⟩ := hrel
    by_cases hlt : k < l.length
    · obtain ⟨b1, o1, rfl, _, hc0, hc1, hc2, hc3, hc4⟩ := planned_at (ha.keep HD) hlt
      obtain ⟨b2, o2, rfl, _, hd0, hd1, hd2, hd3, hd4⟩ := planned_at (hb.keep HD) hlt
      go_wp2
      go_still_tail 8, (by kernel_rfl)
      change wpList _ _ _ _ _ wr.drew
      have HE : Below w.heap.size w wr.drew := HD.drew
      generalize wr.drew = w2 at *
      go_wp2_with (go_at_call 62; refine (eqPlanned_yes _ _ _ _ _ _).mono ?_; rintro e w3 ⟨rfl, hb3⟩)
      go_roundw
      case rel => exact ⟨k + 1, by omega, by go_num, HE.trans (hb3.mono HE.size)⟩
      case measure => simp [intOf]; omega
    · obtain rfl : k = l.length := by omega
      go_wp2
      go_ret
      exact ⟨rfl, HD⟩
def okPl (x : Pl) : Prop := x.1.size ≤ 9223372036854775807
theorem szPlanned_any (x0 : ByteArray) (x1 : Int) (x2 : Int) (x3 : Int) (x4 : Bool) (left : Int) (w : World) (h0 : 0 ≤ left) (h1 : left ≤ 1048576) (hs : x0.size ≤ 9223372036854775807) :
    Calls Tryz.prog 78 #[.agg #[.string (x0), .int .i64 (x1), .int .i64 (x2), .int .i64 (x3), .bool (x4)], .int .i64 left] w fun e w' => e = .returned (.int .i64 (if left < (x0.size : Int) then -1 else left - x0.size)) ∧ Below w.heap.size w w' := by
  by_cases hlt : left < (x0.size : Int)
  · go_enter Tryz.func78, Tryz.ntmps78
    go_wp2
    go_ret
    exact ⟨rfl, below_alloc _ _⟩
  · go_enter Tryz.func78, Tryz.ntmps78
    go_wp2
    go_ret
    exact ⟨rfl, below_alloc _ _⟩
theorem szPlannedS_big (A : Option Addr) (n c : Nat) (left : Int) (w : World) (h : left < (n : Int)) (h0 : 0 ≤ left) (hn : n ≤ 9223372036854775807) :
    Calls Tryz.prog 21 #[.slice A n c, .int .i64 left] w fun e w' => e = .returned (.int .i64 (-1)) ∧ w = w' := by
  go_enter Tryz.func21, Tryz.ntmps21
  go_wp2
  go_ret
  exact ⟨rfl, rfl⟩
set_option maxRecDepth 100000 in
set_option maxHeartbeats 2000000 in
theorem szPlannedS_any (A : Option Addr) (n c : Nat) (l : List Pl) (left : Int) (w : World) (h : (n : Int) ≤ left) (hl : left ≤ 1048576) (ha : PlannedsIn w A n l) (hok : ∀ x ∈ l, okPl x) :
    Calls Tryz.prog 21 #[.slice A n c, .int .i64 left] w fun e w' => ∃ r : Int, e = .returned (.int .i64 r) ∧ -1 ≤ r ∧ r ≤ 1048576 ∧ Below w.heap.size w w' := by
  have hn := ha.len
  obtain rfl := ha.1
  have HO := Lib.hid hok
  clear hok
  go_enter Tryz.func21, Tryz.ntmps21
  go_wp2
  go_loopw [1, 5] (fun r i wr => ∃ (k : Nat) (x : Int), k ≤ l.length ∧ i = .int .i64 k ∧ r = .int .i64 x ∧ 0 ≤ x ∧ x ≤ 1048576 ∧ Below w.heap.size w wr) (fun _ i _ => l.length - (intOf i).toNat)
  case atStart => exact ⟨0, _, by omega, rfl, rfl, by omega, by omega, Below.refl _ _⟩
  case round =>
    obtain ⟨k, x, hk, rfl, rfl, x0, x1, HR⟩ := hrel
    by_cases hlt : k < l.length
    · obtain ⟨b, o, rfl, _, hc0, hc1, hc2, hc3, hc4⟩ := planned_at (ha.keep HR) hlt
      have hs := HO.out _ (List.getElem_mem hlt)
      unfold okPl at hs
      by_cases hneg : x < (l[k].1.size : Int)
      · go_wp2_with fail
        refine (szPlanned_any _ _ _ _ _ _ _ x0 x1 hs).mono ?_
        rintro e v ⟨rfl, hb⟩
        rw [if_pos (by omega)]
        go_wp2_with fail
        go_ret
        exact ⟨-1, rfl, by omega, by omega, below_on HR hb⟩
      · go_wp2_with fail
        refine (szPlanned_any _ _ _ _ _ _ _ x0 x1 hs).mono ?_
        rintro e v ⟨rfl, hb⟩
        rw [if_neg (by omega)]
        go_wp2_with fail
        go_roundw
        case rel => exact ⟨k + 1, _, by omega, by go_num, rfl, by omega, by omega, below_on HR hb⟩
        case measure => simp [intOf]; omega
    · obtain rfl : k = l.length := by omega
      go_wp2
      go_ret
      exact ⟨x, rfl, by omega, by omega, HR⟩
end Go.Proofs.YtlnkofnfgemfdaaGreat
