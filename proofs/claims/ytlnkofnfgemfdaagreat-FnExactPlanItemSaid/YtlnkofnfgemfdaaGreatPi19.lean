/- Part 19 of the texts of this claim: The walks of StockOf; The walks of the functions on flows that all later ones use; Plain facts on sums of flows: no program in sight. -/
import Derived.Test.YtlnkofnfgemfdaaGreatPi17
import Derived.Test.YtlnkofnfgemfdaaGreatPi18
import Derived.Test.YtlnkofnfgemfdaaGreatPi1
import Derived.StillTailTactics
/- The walks of StockOf. -/
namespace Go.Proofs.YtlnkofnfgemfdaaGreat
open Go.RowKit
/-- What lies there of an item, by the first row that names it. -/
def stkOf (st : List Nd) (s : ByteArray) : Int := match st.find? (fun x => x.1.toList == s.toList) with
  | some x => x.2
  | none => 0
def stockOf (p : Pt) (s : ByteArray) : Int := if isPlant p = true then stkOf p.st s else 0
theorem stockOf_no {p : Pt} {s : ByteArray} (h : isPlant p = false) : stockOf p s = 0 := by unfold stockOf; rw [if_neg (by rw [h]; decide)]
theorem stkOf_hit {st : List Nd} {s : ByteArray} {k : Nat} (hk : k < st.length) (h : ∀ j (hj : j < st.length), j < k → (st[j].1.toList == s.toList) = false) (he : (st[k].1.toList == s.toList) = true) : stkOf st s = st[k].2 := by
  have : st.find? (fun x => x.1.toList == s.toList) = some st[k] := by
    rw [List.find?_eq_some_iff_getElem]
    exact ⟨he, k, hk, rfl, fun j hj => by rw [h j (by omega) hj]; rfl⟩
  unfold stkOf; rw [this]
theorem stkOf_miss {st : List Nd} {s : ByteArray} (h : ∀ j (hj : j < st.length), (st[j].1.toList == s.toList) = false) : stkOf st s = 0 := by
  have : st.find? (fun x => x.1.toList == s.toList) = none := by
    rw [List.find?_eq_none]
    intro x hx
    obtain ⟨k, hk, rfl⟩ := List.getElem_of_mem hx
    rw [h k hk]; decide
  unfold stkOf; rw [this]
theorem stockOf_hit {p : Pt} {s : ByteArray} (hp : isPlant p = true) {k : Nat} (hk : k < p.st.length) (h : ∀ j (hj : j < p.st.length), j < k → (p.st[j].1.toList == s.toList) = false) (he : (p.st[k].1.toList == s.toList) = true) : stockOf p s = p.st[k].2 := by
  unfold stockOf; rw [if_pos hp, stkOf_hit hk h he]
theorem stockOf_miss {p : Pt} {s : ByteArray} (hp : isPlant p = true) (h : ∀ j (hj : j < p.st.length), (p.st[j].1.toList == s.toList) = false) : stockOf p s = 0 := by
  unfold stockOf; rw [if_pos hp, stkOf_miss h]
theorem isPlant_parts {p : Pt} (h : isPlant p = true) : isBills p.it p.ls = true ∧ isCal p.wk p.ex = true ∧ p.st.length ≤ 12 ∧ p.rc.length ≤ 16 ∧ (∀ k (hk : k < p.st.length), 0 ≤ findIt p.it p.st[k].1 ∧ 0 ≤ p.st[k].2 ∧ p.st[k].2 ≤ 100000) ∧ (∀ k (hk : k < p.rc.length), 0 ≤ findIt p.it p.rc[k].1 ∧ (1 ≤ p.rc[k].2.2 ∧ p.rc[k].2.2 ≤ 100000) ∧ 0 ≤ p.rc[k].2.1 ∧ p.rc[k].2.1 ≤ 999) := by
  simp only [isPlant, Bool.and_eq_true, decide_eq_true_eq, List.all_eq_true, List.mem_range] at h
  obtain ⟨⟨h1, h2, h3, h4⟩, h5, h6⟩ := h
  refine ⟨h1, h2, by omega, by omega, fun k hk => ?_, fun k hk => ?_⟩
  · have := h5 k hk
    rw [okStk_of hk] at this
    simp only [Bool.and_eq_true, decide_eq_true_eq, inB_iff] at this
    exact ⟨this.1, this.2.1⟩
  · have := h6 _ (List.getElem_mem hk)
    simp only [okRcp, Bool.and_eq_true, decide_eq_true_eq, inB_iff] at this
    exact ⟨this.1, this.2.1, this.2.2⟩
theorem stockOf_bd (p : Pt) (s : ByteArray) : 0 ≤ stockOf p s ∧ stockOf p s ≤ 100000 := by
  unfold stockOf
  split
  · next h =>
    unfold stkOf
    split
    · next x hx =>
      have hm := List.mem_of_find?_eq_some hx
      obtain ⟨k, hk, rfl⟩ := List.getElem_of_mem hm
      exact ((isPlant_parts h).2.2.2.2.1 k hk).2
    · omega
  · omega
set_option maxRecDepth 100000 in
set_option maxHeartbeats 4000000 in
theorem specStockOf_any (r : PtR) (p : Pt) (s : ByteArray) (w : World) (hp : PlantIn w r p) (hok : okPt p) (_hs : s.size ≤ 9223372036854775807) :
    Calls Tryz.prog 41 #[.agg #[.slice r.i.a r.i.n r.i.c, .slice r.l.a r.l.n r.l.c, .slice r.w.a r.w.n r.w.c, .slice r.e.a r.e.n r.e.c, .slice r.p.a r.p.n r.p.c, .slice r.s.a r.s.n r.s.c, .slice r.q.a r.q.n r.q.c], .string s] w fun e w' => e = .returned (.int .i64 (stockOf p s)) ∧ Below w.heap.size w w' := by
  obtain ⟨⟨a0, n0, c0⟩, ⟨a1, n1, c1⟩, ⟨a2, n2, c2⟩, ⟨a3, n3, c3⟩, ⟨a4, n4, c4⟩, ⟨a5, n5, c5⟩, ⟨a6, n6, c6⟩⟩ := r
  have HNS := Lib.hid hp.st.1
  have HNR := Lib.hid hp.rc.1
  dsimp only at HNS HNR ⊢
  obtain rfl := HNS.out
  obtain rfl := HNR.out
  clear HNS HNR
  have hls := hp.st.len
  have hlr := hp.rc.len
  have HP := Lib.hid hp
  have HQ5 := Lib.hid hp.st
  have HQ6 := Lib.hid hp.rc
  have HQ0 := Lib.hid hp.it
  dsimp only at HQ5 HQ6 HQ0
  have HO := Lib.hid hok
  clear hp hok
  have hb := below_alloc w (.cells #[.slice a0 n0 c0, .slice a1 n1 c1, .slice a2 n2 c2, .slice a3 n3 c3, .slice a4 n4 c4, .slice a5 p.st.length c5, .slice a6 p.rc.length c6] 48)
  have B0 : BoxOf (w.alloc (.cells #[.slice a0 n0 c0, .slice a1 n1 c1, .slice a2 n2 c2, .slice a3 n3 c3, .slice a4 n4 c4, .slice a5 p.st.length c5, .slice a6 p.rc.length c6] 48)) w.heap.size [.slice a0 n0 c0, .slice a1 n1 c1, .slice a2 n2 c2, .slice a3 n3 c3, .slice a4 n4 c4, .slice a5 p.st.length c5, .slice a6 p.rc.length c6] := boxOf_alloc w #[.slice a0 n0 c0, .slice a1 n1 c1, .slice a2 n2 c2, .slice a3 n3 c3, .slice a4 n4 c4, .slice a5 p.st.length c5, .slice a6 p.rc.length c6] 48
  cases g : isPlant p
  · have HN : Hid (stockOf p s = 0) := stockOf_no g
    by_cases h0 : 0 < p.st.length
    · go_enter Tryz.func41, Tryz.ntmps41
      go_wp2_with fail
      generalize (w.alloc (.cells #[.slice a0 n0 c0, .slice a1 n1 c1, .slice a2 n2 c2, .slice a3 n3 c3, .slice a4 n4 c4, .slice a5 p.st.length c5, .slice a6 p.rc.length c6] 48)) = V at *
      refine wp_loop_rounds 1 ?_
      rw [rounds_succ]
      obtain ⟨b0, b1, b2, b3, b4, b5, b6, bl⟩ := B0.seven
      go_wp2_with fail
      clear b0 b1 b2 b3 b4 b5 b6 bl
      refine (specIsPlant_any ⟨⟨a0, n0, c0⟩, ⟨a1, n1, c1⟩, ⟨a2, n2, c2⟩, ⟨a3, n3, c3⟩, ⟨a4, n4, c4⟩, ⟨a5, p.st.length, c5⟩, ⟨a6, p.rc.length, c6⟩⟩ p _ (HP.out.keep hb) HO.out).mono ?_
      rintro e V1 ⟨rfl, hs⟩
      rw [g]
      replace hb := below_on hb hs
      replace B0 := B0.keep hs
      clear hs
      go_wp2_with fail
      go_ret
      exact ⟨ret_int HN.out.symm, hb⟩
    · have hz : ¬ ((0 : Int) < (p.st.length : Int)) := by omega
      go_enter Tryz.func41, Tryz.ntmps41
      go_wp2_with fail
      generalize (w.alloc (.cells #[.slice a0 n0 c0, .slice a1 n1 c1, .slice a2 n2 c2, .slice a3 n3 c3, .slice a4 n4 c4, .slice a5 p.st.length c5, .slice a6 p.rc.length c6] 48)) = V at *
      refine wp_loop_rounds 1 ?_
      rw [rounds_succ]
      obtain ⟨b0, b1, b2, b3, b4, b5, b6, bl⟩ := B0.seven
      go_wp2_with fail
      go_ret
      exact ⟨ret_int HN.out.symm, hb⟩
  go_enter Tryz.func41, Tryz.ntmps41
  go_wp2_with fail
  generalize (w.alloc (.cells #[.slice a0 n0 c0, .slice a1 n1 c1, .slice a2 n2 c2, .slice a3 n3 c3, .slice a4 n4 c4, .slice a5 p.st.length c5, .slice a6 p.rc.length c6] 48)) = V at *
  go_loopw [5] (fun i wr => ∃ k : Nat, k ≤ p.st.length ∧ i = .int .i64 k ∧ Hid (∀ j (hj : j < p.st.length), j < k → (p.st[j].1.toList == s.toList) = false) ∧ BoxOf wr w.heap.size [.slice a0 n0 c0, .slice a1 n1 c1, .slice a2 n2 c2, .slice a3 n3 c3, .slice a4 n4 c4, .slice a5 p.st.length c5, .slice a6 p.rc.length c6] ∧ Below w.heap.size w wr) (fun i _ => p.st.length - (intOf i).toNat)
  case atStart => exact ⟨0, by omega, rfl, fun j _ h => absurd h (by omega), B0, hb⟩
  case round =>
    clear B0 hb
    obtain ⟨k, hk, rfl, HI, B0, hb⟩ := hrel
    by_cases hlt : k < p.st.length
    · obtain ⟨b0, b1, b2, b3, b4, b5, b6, bl⟩ := B0.seven
      go_wp2_with fail
      clear b0 b1 b2 b3 b4 b5 b6 bl
      refine (specIsPlant_any ⟨⟨a0, n0, c0⟩, ⟨a1, n1, c1⟩, ⟨a2, n2, c2⟩, ⟨a3, n3, c3⟩, ⟨a4, n4, c4⟩, ⟨a5, p.st.length, c5⟩, ⟨a6, p.rc.length, c6⟩⟩ p _ (HP.out.keep hb) HO.out).mono ?_
      rintro e V1 ⟨rfl, hs⟩
      rw [g]
      replace hb := below_on hb hs
      replace B0 := B0.keep hs
      clear hs
      obtain ⟨b, o, rfl, hbl, hc0, hc1⟩ := need_at (HQ5.out.keep hb) hlt
      obtain ⟨b0, b1, b2, b3, b4, b5, b6, bl⟩ := B0.seven
      cases he : (p.st[k].1.toList == s.toList)
      · have HX : Hid (∀ j (hj : j < p.st.length), j < k + 1 → (p.st[j].1.toList == s.toList) = false) := fun j hj hjk => by
          rcases Nat.lt_or_ge j k with h1 | h1
          · exact HI.out j hj h1
          · obtain rfl : j = k := by omega
            exact he
        go_wp2_with fail
        go_roundw
        case rel => exact ⟨k + 1, by omega, by go_num, HX.out, B0, hb⟩
        case measure => simp [intOf]; omega
      · have HF := Lib.hid (stockOf_hit g hlt HI.out he)
        go_wp2_with fail
        go_ret
        exact ⟨ret_int HF.out.symm, hb⟩
    · obtain rfl : k = p.st.length := by omega
      have HF := Lib.hid (stockOf_miss (s := s) g (fun j hj => HI.out j hj hj))
      obtain ⟨b0, b1, b2, b3, b4, b5, b6, bl⟩ := B0.seven
      go_wp2_with fail
      go_ret
      exact ⟨ret_int HF.out.symm, hb⟩
set_option maxRecDepth 100000 in
set_option maxHeartbeats 4000000 in
theorem implStockOf_any (r : PtR) (p : Pt) (s : ByteArray) (w : World) (hp : PlantIn w r p) (hok : okPt p) (_hs : s.size ≤ 9223372036854775807) :
    Calls Tryz.prog 57 #[.agg #[.slice r.i.a r.i.n r.i.c, .slice r.l.a r.l.n r.l.c, .slice r.w.a r.w.n r.w.c, .slice r.e.a r.e.n r.e.c, .slice r.p.a r.p.n r.p.c, .slice r.s.a r.s.n r.s.c, .slice r.q.a r.q.n r.q.c], .string s] w fun e w' => e = .returned (.int .i64 (stockOf p s)) ∧ Below w.heap.size w w' := by
  obtain ⟨⟨a0, n0, c0⟩, ⟨a1, n1, c1⟩, ⟨a2, n2, c2⟩, ⟨a3, n3, c3⟩, ⟨a4, n4, c4⟩, ⟨a5, n5, c5⟩, ⟨a6, n6, c6⟩⟩ := r
  have HNS := Lib.hid hp.st.1
  have HNR := Lib.hid hp.rc.1
  dsimp only at HNS HNR ⊢
  obtain rfl := HNS.out
  obtain rfl := HNR.out
  clear HNS HNR
  have hls := hp.st.len
  have hlr := hp.rc.len
  have HP := Lib.hid hp
  have HQ5 := Lib.hid hp.st
  have HQ6 := Lib.hid hp.rc
  have HQ0 := Lib.hid hp.it
  dsimp only at HQ5 HQ6 HQ0
  have HO := Lib.hid hok
  clear hp hok
  have hb := below_alloc w (.cells #[.slice a0 n0 c0, .slice a1 n1 c1, .slice a2 n2 c2, .slice a3 n3 c3, .slice a4 n4 c4, .slice a5 p.st.length c5, .slice a6 p.rc.length c6] 48)
  have B0 : BoxOf (w.alloc (.cells #[.slice a0 n0 c0, .slice a1 n1 c1, .slice a2 n2 c2, .slice a3 n3 c3, .slice a4 n4 c4, .slice a5 p.st.length c5, .slice a6 p.rc.length c6] 48)) w.heap.size [.slice a0 n0 c0, .slice a1 n1 c1, .slice a2 n2 c2, .slice a3 n3 c3, .slice a4 n4 c4, .slice a5 p.st.length c5, .slice a6 p.rc.length c6] := boxOf_alloc w #[.slice a0 n0 c0, .slice a1 n1 c1, .slice a2 n2 c2, .slice a3 n3 c3, .slice a4 n4 c4, .slice a5 p.st.length c5, .slice a6 p.rc.length c6] 48
  cases g : isPlant p
  · have HN : Hid (stockOf p s = 0) := stockOf_no g
    go_enter Tryz.func57, Tryz.ntmps57
    go_wp2_with fail
    generalize (w.alloc (.cells #[.slice a0 n0 c0, .slice a1 n1 c1, .slice a2 n2 c2, .slice a3 n3 c3, .slice a4 n4 c4, .slice a5 p.st.length c5, .slice a6 p.rc.length c6] 48)) = V at *
    refine (implIsPlant_any ⟨⟨a0, n0, c0⟩, ⟨a1, n1, c1⟩, ⟨a2, n2, c2⟩, ⟨a3, n3, c3⟩, ⟨a4, n4, c4⟩, ⟨a5, p.st.length, c5⟩, ⟨a6, p.rc.length, c6⟩⟩ p _ (HP.out.keep hb) HO.out).mono ?_
    rintro e V1 ⟨rfl, hs⟩
    rw [g]
    replace hb := below_on hb hs
    replace B0 := B0.keep hs
    clear hs
    go_wp2_with fail
    go_ret
    exact ⟨ret_int HN.out.symm, hb⟩
  go_enter Tryz.func57, Tryz.ntmps57
  go_wp2_with fail
  generalize (w.alloc (.cells #[.slice a0 n0 c0, .slice a1 n1 c1, .slice a2 n2 c2, .slice a3 n3 c3, .slice a4 n4 c4, .slice a5 p.st.length c5, .slice a6 p.rc.length c6] 48)) = V at *
  refine (implIsPlant_any ⟨⟨a0, n0, c0⟩, ⟨a1, n1, c1⟩, ⟨a2, n2, c2⟩, ⟨a3, n3, c3⟩, ⟨a4, n4, c4⟩, ⟨a5, p.st.length, c5⟩, ⟨a6, p.rc.length, c6⟩⟩ p _ (HP.out.keep hb) HO.out).mono ?_
  rintro e V1 ⟨rfl, hs⟩
  rw [g]
  replace hb := below_on hb hs
  replace B0 := B0.keep hs
  clear hs
  obtain ⟨b0, b1, b2, b3, b4, b5, b6, bl⟩ := B0.seven
  go_wp2_with fail
  clear b0 b1 b2 b3 b4 b5 b6 bl
  go_loopw [13] (fun i wr => ∃ k : Nat, k ≤ p.st.length ∧ i = .int .i64 k ∧ Hid (∀ j (hj : j < p.st.length), j < k → (p.st[j].1.toList == s.toList) = false) ∧ BoxOf wr w.heap.size [.slice a0 n0 c0, .slice a1 n1 c1, .slice a2 n2 c2, .slice a3 n3 c3, .slice a4 n4 c4, .slice a5 p.st.length c5, .slice a6 p.rc.length c6] ∧ Below w.heap.size w wr) (fun i _ => p.st.length - (intOf i).toNat)
  case atStart => exact ⟨0, by omega, rfl, fun j _ h => absurd h (by omega), B0, hb⟩
  case round =>
    clear B0 hb
    obtain ⟨k, hk, rfl, HI, B0, hb⟩ := hrel
    by_cases hlt : k < p.st.length
    · obtain ⟨b, o, rfl, hbl, hc0, hc1⟩ := need_at (HQ5.out.keep hb) hlt
      have hs := below_alloc wr (.cells #[.string p.st[k].1, .int .i64 p.st[k].2] 152)
      have hb1 := below_on hb hs
      have B1 := B0.keep hs
      clear hs
      cases he : (p.st[k].1.toList == s.toList)
      · have HX : Hid (∀ j (hj : j < p.st.length), j < k + 1 → (p.st[j].1.toList == s.toList) = false) := fun j hj hjk => by
          rcases Nat.lt_or_ge j k with h1 | h1
          · exact HI.out j hj h1
          · obtain rfl : j = k := by omega
            exact he
        go_wp2_with fail
        go_roundw
        case rel => exact ⟨k + 1, by omega, by go_num, HX.out, B1, hb1⟩
        case measure => simp [intOf]; omega
      · have HF := Lib.hid (stockOf_hit g hlt HI.out he)
        go_wp2_with fail
        go_ret
        exact ⟨ret_int HF.out.symm, hb1⟩
    · obtain rfl : k = p.st.length := by omega
      have HF := Lib.hid (stockOf_miss (s := s) g (fun j hj => HI.out j hj hj))
      go_wp2_with fail
      go_ret
      exact ⟨ret_int HF.out.symm, hb⟩
end Go.Proofs.YtlnkofnfgemfdaaGreat
/- The walks of the functions on flows that all later ones use. -/
namespace Go.Proofs.YtlnkofnfgemfdaaGreat
open Go.RowKit

/-- A flow: its day and its quantity. -/
abbrev Fl := Int × Int
def flF : Flat Fl := ⟨fun f => [.int .i64 f.1, .int .i64 f.2], 2, fun _ => rfl⟩
abbrev FlowsIn (w : World) (A : Option Addr) (n : Nat) (l : List Fl) : Prop := RowsIn flF w A n l
theorem flow_at {w : World} {A : Option Addr} {n : Nat} {l : List Fl} (h : FlowsIn w A n l) {k : Nat} (hk : k < l.length) :
    ∃ b o, A = some ⟨b, o, none⟩ ∧ b < w.heap.size ∧ w.cell? ⟨b, o + k * 2, none⟩ = some (.int .i64 l[k].1) ∧ w.cell? ⟨b, o + k * 2 + 1, none⟩ = some (.int .i64 l[k].2) := by
  obtain ⟨b, o, e, hlt, hc⟩ := h.at_ hk
  exact ⟨b, o, e, hlt, hc 0 _ rfl, hc 1 _ rfl⟩

def okFlow (l : List Fl) (k : Nat) : Bool :=
  inB (l.getD k (0, 0)).1 0 999 && (inB (l.getD k (0, 0)).2 1 1000000000 && (decide (k = 0) || decide ((l.getD (k - 1) (0, 0)).1 < (l.getD k (0, 0)).1)))
def areFlows (l : List Fl) : Bool := (List.range l.length).all (okFlow l) && decide ((l.length : Int) ≤ 40)
theorem areFlows_no {l : List Fl} {k : Nat} (hk : k < l.length) (h : okFlow l k = false) : areFlows l = false := by
  unfold areFlows
  have : (List.range l.length).all (okFlow l) = false := by rw [List.all_eq_false]; exact ⟨k, by simpa using hk, by simp [h]⟩
  simp [this]
theorem areFlows_end {l : List Fl} (h : ∀ j < l.length, okFlow l j = true) : areFlows l = decide ((l.length : Int) ≤ 40) := by
  unfold areFlows
  have : (List.range l.length).all (okFlow l) = true := by rw [List.all_eq_true]; intro x hx; exact h x (by simpa using hx)
  simp [this]
theorem getD_at {α : Type} (l : List α) (k : Nat) (d : α) (h : k < l.length) : l.getD k d = l[k] := by
  rw [List.getD_eq_getElem?_getD, List.getElem?_eq_getElem h]; rfl


set_option maxRecDepth 100000 in
set_option maxHeartbeats 1000000 in
theorem specAreFlows_any (A : Option Addr) (n c : Nat) (l : List Fl) (w : World) (hl : FlowsIn w A n l) :
    Calls Tryz.prog 39 #[.slice A n c] w fun e w' => e = .returned (.bool (areFlows l)) ∧ Drew w w' := by
  have hn := hl.len
  obtain rfl := hl.1
  go_enter Tryz.func39, Tryz.ntmps39
  go_wp2
  go_loopw [3] (fun i wr => ∃ k : Nat, k ≤ l.length ∧ i = .int .i64 k ∧ Hid (∀ j < k, okFlow l j = true) ∧ Drew w wr) (fun i _ => l.length - (intOf i).toNat)
  case atStart => exact ⟨0, by omega, rfl, fun j h => absurd h (by omega), Drew.refl _⟩
  case round =>
    obtain ⟨k, hk, rfl, HI, HD⟩ := hrel
    by_cases hlt : k < l.length
    · obtain ⟨b, o, rfl, _, hc1, hc2⟩ := flow_at (hl.keep (HD.below _)) hlt
      have HG : Hid (l.getD k (0, 0) = l[k]) := getD_at _ _ _ hlt
      cases hd : inB l[k].1 0 999
      · go_wp2
        go_quiet ((go_at_call 101; exact quietS (l1In_any _ _ _)))
        go_wp2
        go_ret
        exact ⟨ret_bool (areFlows_no hlt (by unfold okFlow; rw [HG.out, hd]; rfl)).symm, HD.more _⟩
      cases hq : inB l[k].2 1 1000000000
      · go_wp2
        go_quiet ((go_at_call 101; exact quietS (l1In_any _ _ _)))
        go_wp2
        go_ret
        exact ⟨ret_bool (areFlows_no hlt (by unfold okFlow; rw [HG.out, hd, hq]; rfl)).symm, HD.more _⟩
      have hnext : ∀ hb : okFlow l k = true, ∀ j < k + 1, okFlow l j = true := fun hb j hj => by
        rcases Nat.lt_or_ge j k with h1 | h1
        · exact HI.out j h1
        · rw [show j = k by omega]; exact hb
      have HX := Lib.hid hnext; clear hnext
      by_cases h0 : k = 0
      · have hz1 : decide (0 < k) = false := by simp; omega
        have hz2 : decide ((0 : Int) < (k : Int)) = false := by simp; omega
        have H0 := Lib.hid h0; clear h0
        go_wp2
        go_quiet ((go_at_call 101; exact quietS (l1In_any _ _ _)))
        go_wp2
        go_roundw
        case rel => exact ⟨k + 1, by omega, by go_num, HX.out (by unfold okFlow; rw [HG.out, hd, hq]; simp [H0.out]), HD.more _⟩
        case measure => simp [intOf]; omega
      · have hlt2 : k - 1 < l.length := by omega
        obtain ⟨b2, o2, e2, _, hc3, _⟩ := flow_at (hl.keep (HD.below _)) hlt2
        obtain ⟨rfl, rfl⟩ : b = b2 ∧ o = o2 := by simpa using e2
        have hz1 : decide (0 < k) = true := by simp; omega
        have hz2 : decide ((0 : Int) < (k : Int)) = true := by simp; omega
        have hi1 : (0 : Int) ≤ (k : Int) - 1 := by omega
        have hi2 : (k : Int) - 1 < (l.length : Int) := by omega
        have hi3 : ((k : Int) - 1).toNat = k - 1 := by omega
        have HG2 : Hid (l.getD (k - 1) (0, 0) = l[k - 1]) := getD_at _ _ _ hlt2
        by_cases hge : l[k - 1].1 < l[k].1
        · have hz3 : decide (l[k].1 ≤ l[k - 1].1) = false := by simp; omega
          go_wp2
          go_quiet ((go_at_call 101; exact quietS (l1In_any _ _ _)))
          go_wp2
          go_roundw
          case rel => exact ⟨k + 1, by omega, by go_num, HX.out (by unfold okFlow; rw [HG.out, HG2.out, hd, hq]; simp; exact .inr (by assumption)), HD.more _⟩
          case measure => simp [intOf]; omega
        · have hge2 : l[k].1 ≤ l[k - 1].1 := by omega
          have hz3 : decide (l[k].1 ≤ l[k - 1].1) = true := by simp; omega
          go_wp2
          go_quiet ((go_at_call 101; exact quietS (l1In_any _ _ _)))
          go_wp2
          go_ret
          exact ⟨ret_bool (areFlows_no hlt (by unfold okFlow; rw [HG.out, HG2.out, hd, hq]; simp; omega)).symm, HD.more _⟩
    · obtain rfl : k = l.length := by omega
      go_wp2
      go_ret
      exact ⟨ret_bool (areFlows_end HI.out).symm, HD⟩

set_option maxRecDepth 100000 in
set_option maxHeartbeats 1000000 in
theorem implAreFlows_any (A : Option Addr) (n c : Nat) (l : List Fl) (w : World) (hl : FlowsIn w A n l) :
    Calls Tryz.prog 55 #[.slice A n c] w fun e w' => e = .returned (.bool (areFlows l)) ∧ Below w.heap.size w w' := by
  have hn := hl.len
  obtain rfl := hl.1
  go_enter Tryz.func55, Tryz.ntmps55
  go_wp2
  go_loopw [7] (fun i wr => ∃ k : Nat, k ≤ l.length ∧ i = .int .i64 k ∧ Hid (∀ j < k, okFlow l j = true) ∧ Below w.heap.size w wr) (fun i _ => l.length - (intOf i).toNat)
  case atStart => exact ⟨0, by omega, rfl, fun j h => absurd h (by omega), Below.refl _ _⟩
  case round =>
    obtain ⟨k, hk, rfl, HI, HD⟩ := hrel
    by_cases hlt : k < l.length
    · obtain ⟨b, o, rfl, hb, hc1, hc2⟩ := flow_at (hl.keep HD) hlt
      have hsz := HD.size
      have HG : Hid (l.getD k (0, 0) = l[k]) := getD_at _ _ _ hlt
      cases hd : inB l[k].1 0 999
      · go_wp2
        go_quiet ((go_at_call 117; exact quietS (in_any _ _ _)))
        go_wp2
        go_ret
        exact ⟨ret_bool (areFlows_no hlt (by unfold okFlow; rw [HG.out, hd]; rfl)).symm, below_drewN (HD.alloc (by omega) _) _⟩
      cases hq : inB l[k].2 1 1000000000
      · go_wp2
        go_quiet ((go_at_call 117; exact quietS (in_any _ _ _)))
        go_wp2
        go_ret
        exact ⟨ret_bool (areFlows_no hlt (by unfold okFlow; rw [HG.out, hd, hq]; rfl)).symm, below_drewN (HD.alloc (by omega) _) _⟩
      have hnext : ∀ hb : okFlow l k = true, ∀ j < k + 1, okFlow l j = true := fun hb j hj => by
        rcases Nat.lt_or_ge j k with h1 | h1
        · exact HI.out j h1
        · rw [show j = k by omega]; exact hb
      have HX := Lib.hid hnext; clear hnext
      by_cases h0 : k = 0
      · have hz1 : decide (0 < k) = false := by simp; omega
        have hz2 : decide ((0 : Int) < (k : Int)) = false := by simp; omega
        have H0 := Lib.hid h0; clear h0
        go_wp2
        go_quiet ((go_at_call 117; exact quietS (in_any _ _ _)))
        go_wp2
        go_roundw
        case rel => exact ⟨k + 1, by omega, by go_num, HX.out (by unfold okFlow; rw [HG.out, hd, hq]; simp [H0.out]), below_drewN (HD.alloc (by omega) _) _⟩
        case measure => simp [intOf]; omega
      · have hlt2 : k - 1 < l.length := by omega
        obtain ⟨b2, o2, e2, _, hc3, _⟩ := flow_at (hl.keep HD) hlt2
        obtain ⟨rfl, rfl⟩ : b = b2 ∧ o = o2 := by simpa using e2
        have hz1 : decide (0 < k) = true := by simp; omega
        have hz2 : decide ((0 : Int) < (k : Int)) = true := by simp; omega
        have hi1 : (0 : Int) ≤ (k : Int) - 1 := by omega
        have hi2 : (k : Int) - 1 < (l.length : Int) := by omega
        have hi3 : ((k : Int) - 1).toNat = k - 1 := by omega
        have HG2 : Hid (l.getD (k - 1) (0, 0) = l[k - 1]) := getD_at _ _ _ hlt2
        have hc4 := World.cell?_alloc_lt wr (.cells #[.int .i64 l[k].1, .int .i64 l[k].2] 90) ⟨b, o + (k - 1) * 2, none⟩ hb
        rw [hc3] at hc4
        by_cases hge : l[k - 1].1 < l[k].1
        · have hz3 : decide (l[k].1 ≤ l[k - 1].1) = false := by simp; omega
          go_wp2
          go_quiet ((go_at_call 117; exact quietS (in_any _ _ _)))
          go_wp2
          go_roundw
          case rel => exact ⟨k + 1, by omega, by go_num, HX.out (by unfold okFlow; rw [HG.out, HG2.out, hd, hq]; simp; exact .inr (by assumption)), below_drewN (HD.alloc (by omega) _) _⟩
          case measure => simp [intOf]; omega
        · have hge2 : l[k].1 ≤ l[k - 1].1 := by omega
          have hz3 : decide (l[k].1 ≤ l[k - 1].1) = true := by simp; omega
          go_wp2
          go_quiet ((go_at_call 117; exact quietS (in_any _ _ _)))
          go_wp2
          go_ret
          exact ⟨ret_bool (areFlows_no hlt (by unfold okFlow; rw [HG.out, HG2.out, hd, hq]; simp; omega)).symm, below_drewN (HD.alloc (by omega) _) _⟩
    · obtain rfl : k = l.length := by omega
      go_wp2
      go_ret
      exact ⟨ret_bool (areFlows_end HI.out).symm, HD⟩
end Go.Proofs.YtlnkofnfgemfdaaGreat
/- Plain facts on sums of flows: no program in sight. -/
namespace Go.Proofs.YtlnkofnfgemfdaaGreat

/-- What the flows bring up to a day. -/
def upTo : List Fl → Int → Int
  | [], _ => 0
  | f :: t, d => (if f.1 ≤ d then f.2 else 0) + upTo t d
theorem upTo_append (a b : List Fl) (d : Int) : upTo (a ++ b) d = upTo a d + upTo b d := by
  induction a with
  | nil => simp [upTo]
  | cons f t ih => simp only [List.cons_append, upTo, ih]; omega
theorem upTo_take (l : List Fl) (d : Int) (k : Nat) (h : k < l.length) : upTo (l.take (k + 1)) d = upTo (l.take k) d + if l[k].1 ≤ d then l[k].2 else 0 := by
  rw [List.take_succ_eq_append_getElem h, upTo_append]; simp [upTo]
theorem upTo_bd (l : List Fl) (d : Int) (h : ∀ f ∈ l, 1 ≤ f.2 ∧ f.2 ≤ 1000000000) : 0 ≤ upTo l d ∧ upTo l d ≤ 1000000000 * l.length := by
  induction l with
  | nil => simp [upTo]
  | cons f t ih =>
    obtain ⟨h1, h2⟩ := ih (fun g hg => h g (List.mem_cons_of_mem _ hg))
    have h3 := h f List.mem_cons_self
    simp only [upTo, List.length_cons]
    split <;> omega
def flowUpTo (l : List Fl) (d : Int) : Int := if areFlows l then upTo l d else 0
theorem areFlows_parts {l : List Fl} (h : areFlows l = true) : (∀ j < l.length, okFlow l j = true) ∧ l.length ≤ 40 := by
  simp only [areFlows, Bool.and_eq_true, List.all_eq_true, List.mem_range, decide_eq_true_eq] at h
  exact ⟨h.1, by omega⟩
theorem areFlows_mem {l : List Fl} (h : areFlows l = true) : ∀ f ∈ l, (0 ≤ f.1 ∧ f.1 ≤ 999) ∧ 1 ≤ f.2 ∧ f.2 ≤ 1000000000 := by
  intro f hf
  obtain ⟨j, hj, rfl⟩ := List.getElem_of_mem hf
  have := (areFlows_parts h).1 j hj
  simp only [okFlow, getD_at _ _ _ hj, Bool.and_eq_true, inB_iff] at this
  exact ⟨this.1, this.2.1⟩
theorem areFlows_bd {l : List Fl} (h : areFlows l = true) (d : Int) (k : Nat) : 0 ≤ upTo (l.take k) d ∧ upTo (l.take k) d ≤ 40000000000 := by
  obtain ⟨h1, h2⟩ := upTo_bd (l.take k) d (fun f hf => (areFlows_mem h f (List.mem_of_mem_take hf)).2)
  have h3 := (areFlows_parts h).2
  have h4 : (l.take k).length ≤ 40 := by simp; omega
  exact ⟨h1, by omega⟩
theorem flowUpTo_bd (l : List Fl) (d : Int) : 0 ≤ flowUpTo l d ∧ flowUpTo l d ≤ 40000000000 := by
  unfold flowUpTo
  cases h : areFlows l
  · simp
  · have := areFlows_bd h d l.length
    rw [List.take_length] at this
    simpa using this
theorem flowUpTo_yes {l : List Fl} (h : areFlows l = true) (d : Int) : flowUpTo l d = upTo l d := by simp [flowUpTo, h]
theorem flowUpTo_no {l : List Fl} (h : areFlows l = false) (d : Int) : flowUpTo l d = 0 := by simp [flowUpTo, h]

def spareOn (needs lots : List Fl) (d : Int) : Int := if areFlows needs && areFlows lots then flowUpTo lots d - flowUpTo needs d else 0

/-- The greatest excess of demands over supplies up to one of the first k demands' days. -/
def lackTo (dem sup : List Fl) : Nat → Int
  | 0 => 0
  | k + 1 => max (lackTo dem sup k) (flowUpTo dem (dem.getD k (0, 0)).1 - flowUpTo sup (dem.getD k (0, 0)).1)
theorem lackTo_bd (dem sup : List Fl) (k : Nat) : 0 ≤ lackTo dem sup k ∧ lackTo dem sup k ≤ 40000000000 := by
  induction k with
  | zero => simp [lackTo]
  | succ k ih =>
    have h1 := flowUpTo_bd dem (dem.getD k (0, 0)).1
    have h2 := flowUpTo_bd sup (dem.getD k (0, 0)).1
    simp only [lackTo]
    omega
def lackOf (dem sup : List Fl) : Int × Bool := if areFlows dem && areFlows sup then (lackTo dem sup dem.length, true) else (0, false)
/-- Whether no more has been promised up to the day of any promise than is there. -/
def isKept (sup prom : List Fl) : Bool :=
  areFlows sup && (areFlows prom && (List.range prom.length).all fun k => decide (flowUpTo prom (prom.getD k (0, 0)).1 ≤ flowUpTo sup (prom.getD k (0, 0)).1))
theorem lackTo_zero (dem sup : List Fl) (k : Nat) : lackTo dem sup k = 0 ↔ ∀ j < k, flowUpTo dem (dem.getD j (0, 0)).1 ≤ flowUpTo sup (dem.getD j (0, 0)).1 := by
  induction k with
  | zero => simp [lackTo]
  | succ k ih =>
    have h1 := (lackTo_bd dem sup k).1
    simp only [lackTo]
    constructor
    · intro h j hj
      rcases Nat.lt_or_ge j k with h2 | h2
      · exact (ih.1 (by omega)) j h2
      · rw [show j = k by omega]; omega
    · intro h
      have h2 := ih.2 (fun j hj => h j (by omega))
      have h3 := h k (by omega)
      omega
theorem isKept_lack (sup prom : List Fl) : isKept sup prom = ((lackOf prom sup).2 && decide ((lackOf prom sup).1 = 0)) := by
  unfold isKept lackOf
  cases h1 : areFlows sup <;> cases h2 : areFlows prom <;> simp
  rw [Bool.eq_iff_iff, List.all_eq_true, decide_eq_true_eq, lackTo_zero]
  simp
theorem isKept_no {sup prom : List Fl} {k : Nat} (hk : k < prom.length) (h : flowUpTo sup prom[k].1 < flowUpTo prom prom[k].1) : isKept sup prom = false := by
  unfold isKept
  have : ((List.range prom.length).all fun k => decide (flowUpTo prom (prom.getD k (0, 0)).1 ≤ flowUpTo sup (prom.getD k (0, 0)).1)) = false := by
    rw [List.all_eq_false]
    exact ⟨k, by simpa using hk, by rw [getD_at _ _ _ hk]; simp; omega⟩
  rw [this]; simp
theorem isKept_yes {sup prom : List Fl} (h1 : areFlows sup = true) (h2 : areFlows prom = true) (h : ∀ k (hk : k < prom.length), flowUpTo prom prom[k].1 ≤ flowUpTo sup prom[k].1) : isKept sup prom = true := by
  unfold isKept
  have : ((List.range prom.length).all fun k => decide (flowUpTo prom (prom.getD k (0, 0)).1 ≤ flowUpTo sup (prom.getD k (0, 0)).1)) = true := by
    rw [List.all_eq_true]
    intro k hk
    simp at hk
    rw [getD_at _ _ _ hk]
    simpa using h k hk
  rw [this, h1, h2]; rfl
theorem isKept_parts {sup prom : List Fl} (h : isKept sup prom = true) : areFlows sup = true ∧ areFlows prom = true := by
  simp only [isKept, Bool.and_eq_true] at h
  exact ⟨h.1, h.2.1⟩
/-- How much more can be promised for a day, looking at the first k promises. -/
def openTo (sup prom : List Fl) (d : Int) : Nat → Int
  | 0 => flowUpTo sup d - flowUpTo prom d
  | k + 1 => if d < (prom.getD k (0, 0)).1 then min (openTo sup prom d k) (flowUpTo sup (prom.getD k (0, 0)).1 - flowUpTo prom (prom.getD k (0, 0)).1) else openTo sup prom d k
theorem openTo_bd (sup prom : List Fl) (d : Int) (k : Nat) : -40000000000 ≤ openTo sup prom d k ∧ openTo sup prom d k ≤ 40000000000 := by
  induction k with
  | zero =>
    have h1 := flowUpTo_bd sup d
    have h2 := flowUpTo_bd prom d
    simp only [openTo]; omega
  | succ k ih =>
    have h1 := flowUpTo_bd sup (prom.getD k (0, 0)).1
    have h2 := flowUpTo_bd prom (prom.getD k (0, 0)).1
    simp only [openTo]
    split <;> omega
def openOn (sup prom : List Fl) (d : Int) : Int := if isKept sup prom && inB d 0 999 then openTo sup prom d prom.length else 0
/-- The first of the days from 'd' on, n of them, at which so much is open. -/
def firstOpen (sup prom : List Fl) (q : Int) : Nat → Int → Int × Bool
  | 0, _ => (0, false)
  | n + 1, d => if q ≤ openOn sup prom d then (d, true) else firstOpen sup prom q n (d + 1)
def promiseDay (sup prom : List Fl) (q d : Int) : Int × Bool :=
  if isKept sup prom && (inB q 1 1000000000 && inB d 0 999) then firstOpen sup prom q (1000 - d.toNat) d else (0, false)
end Go.Proofs.YtlnkofnfgemfdaaGreat
