/- Part 23 of the texts of this claim: The walks of StockOf; The walks of the functions on flows that all later ones use. -/
import Derived.Test.YtajlfdofjegdjaaRf21
import Derived.Test.YtajlfdofjegdjaaRf22
import Derived.Test.YtajlfdofjegdjaaRf1
import Derived.StillTailTactics
/- The walks of StockOf. -/
namespace Go.Proofs.Ytajlfdofjegdjaa
open Go.RowKit
/-- What lies there of an item, by the first row that names it. -/
def stkOf (st : List Nd) (s : ByteArray) : Int := match st.find? (fun x => x.1.toList == s.toList) with
  | some x => x.2
  | none => 0
def stockOf (p : Pt) (s : ByteArray) : Int := if isPlant p = true then stkOf p.st s else 0
theorem stockOf_no {p : Pt} {s : ByteArray} (h : isPlant p = false) : stockOf p s = 0 := by unfold stockOf; rw [if_neg (by rw [h]; decide)]
theorem stkOf_hit {st : List Nd} {s : ByteArray} {k : Nat} (hk : k < st.length) (h : ∀ j (hj : j < st.length), j < k → (st[j].1.toList == s.toList) = false) (he : (st[k].1.toList == s.toList) = true) : stkOf st s = st[k].2 := by
  have : st.find? (fun x => x.1.toList == s.toList) = some st[k] := by
    rw [List.find?_eq_some_iff_getElem]
    exact ⟨he, k, hk, rfl, fun j hj => by rw [h j (by omega) hj]; rfl⟩
  unfold stkOf; rw [this]
theorem stkOf_miss {st : List Nd} {s : ByteArray} (h : ∀ j (hj : j < st.length), (st[j].1.toList == s.toList) = false) : stkOf st s = 0 := by
  have : st.find? (fun x => x.1.toList == s.toList) = none := by
    rw [List.find?_eq_none]
    intro x hx
    obtain ⟨k, hk, rfl⟩ := List.getElem_of_mem hx
    rw [h k hk]; decide
  unfold stkOf; rw [this]
theorem stockOf_hit {p : Pt} {s : ByteArray} (hp : isPlant p = true) {k : Nat} (hk : k < p.st.length) (h : ∀ j (hj : j < p.st.length), j < k → (p.st[j].1.toList == s.toList) = false) (he : (p.st[k].1.toList == s.toList) = true) : stockOf p s = p.st[k].2 := by
  unfold stockOf; rw [if_pos hp, stkOf_hit hk h he]
theorem stockOf_miss {p : Pt} {s : ByteArray} (hp : isPlant p = true) (h : ∀ j (hj : j < p.st.length), (p.st[j].1.toList == s.toList) = false) : stockOf p s = 0 := by
  unfold stockOf; rw [if_pos hp, stkOf_miss h]
theorem isPlant_parts {p : Pt} (h : isPlant p = true) : isBills p.it p.ls = true ∧ isCal p.wk p.ex = true ∧ p.st.length ≤ 12 ∧ p.rc.length ≤ 16 ∧ (∀ k (hk : k < p.st.length), 0 ≤ findIt p.it p.st[k].1 ∧ 0 ≤ p.st[k].2 ∧ p.st[k].2 ≤ 100000) ∧ (∀ k (hk : k < p.rc.length), 0 ≤ findIt p.it p.rc[k].1 ∧ (1 ≤ p.rc[k].2.2 ∧ p.rc[k].2.2 ≤ 100000) ∧ 0 ≤ p.rc[k].2.1 ∧ p.rc[k].2.1 ≤ 999) := by
  simp only [isPlant, Bool.and_eq_true, decide_eq_true_eq, List.all_eq_true, List.mem_range] at h
  obtain ⟨⟨h1, h2, h3, h4⟩, h5, h6⟩ := h
  refine ⟨h1, h2, by omega, by omega, fun k hk => ?_, fun k hk => ?_⟩
  · have := h5 k hk
    rw [okStk_of hk] at this
    simp only [Bool.and_eq_true, decide_eq_true_eq, inB_iff] at this
    exact ⟨this.1, this.2.1⟩
  · have := h6 _ (List.getElem_mem hk)
    simp only [okRcp, Bool.and_eq_true, decide_eq_true_eq, inB_iff] at this
    exact ⟨this.1, this.2.1, this.2.2⟩
theorem stockOf_bd (p : Pt) (s : ByteArray) : 0 ≤ stockOf p s ∧ stockOf p s ≤ 100000 := by
  unfold stockOf
  split
  · next h =>
    unfold stkOf
    split
    · next x hx =>
      have hm := List.mem_of_find?_eq_some hx
      obtain ⟨k, hk, rfl⟩ := List.getElem_of_mem hm
      exact ((isPlant_parts h).2.2.2.2.1 k hk).2
    · omega
  · omega
set_option maxRecDepth 100000 in
set_option maxHeartbeats 4000000 in
theorem specStockOf_any (r : PtR) (p : Pt) (s : ByteArray) (w : World) (hp : PlantIn w r p) (hok : okPt p) (_hs : s.size ≤ 9223372036854775807) :
    Calls Try.prog 13 #[.agg #[.slice r.i.a r.i.n r.i.c, .slice r.l.a r.l.n r.l.c, .slice r.w.a r.w.n r.w.c, .slice r.e.a r.e.n r.e.c, .slice r.p.a r.p.n r.p.c, .slice r.s.a r.s.n r.s.c, .slice r.q.a r.q.n r.q.c], .string s] w fun e w' => e = .returned (.int .i64 (stockOf p s)) ∧ Below w.heap.size w w' := by
  obtain ⟨⟨a0, n0, c0⟩, ⟨a1, n1, c1⟩, ⟨a2, n2, c2⟩, ⟨a3, n3, c3⟩, ⟨a4, n4, c4⟩, ⟨a5, n5, c5⟩, ⟨a6, n6, c6⟩⟩ := r
  have HNS := Lib.hid hp.st.1
  have HNR := Lib.hid hp.rc.1
  dsimp only at HNS HNR ⊢
  obtain rfl := HNS.out
  obtain rfl := HNR.out
  clear HNS HNR
  have hls := hp.st.len
  have hlr := hp.rc.len
  have HP := Lib.hid hp
  have HQ5 := Lib.hid hp.st
  have HQ6 := Lib.hid hp.rc
  have HQ0 := Lib.hid hp.it
  dsimp only at HQ5 HQ6 HQ0
  have HO := Lib.hid hok
  clear hp hok
  have hb := below_alloc w (.cells #[.slice a0 n0 c0, .slice a1 n1 c1, .slice a2 n2 c2, .slice a3 n3 c3, .slice a4 n4 c4, .slice a5 p.st.length c5, .slice a6 p.rc.length c6] 44)
  have B0 : BoxOf (w.alloc (.cells #[.slice a0 n0 c0, .slice a1 n1 c1, .slice a2 n2 c2, .slice a3 n3 c3, .slice a4 n4 c4, .slice a5 p.st.length c5, .slice a6 p.rc.length c6] 44)) w.heap.size [.slice a0 n0 c0, .slice a1 n1 c1, .slice a2 n2 c2, .slice a3 n3 c3, .slice a4 n4 c4, .slice a5 p.st.length c5, .slice a6 p.rc.length c6] := boxOf_alloc w #[.slice a0 n0 c0, .slice a1 n1 c1, .slice a2 n2 c2, .slice a3 n3 c3, .slice a4 n4 c4, .slice a5 p.st.length c5, .slice a6 p.rc.length c6] 44
  cases g : isPlant p
  · have HN : Hid (stockOf p s = 0) := stockOf_no g
    by_cases h0 : 0 < p.st.length
    · go_enter Try.func13, Try.ntmps13
      go_wp2_with fail
      generalize (w.alloc (.cells #[.slice a0 n0 c0, .slice a1 n1 c1, .slice a2 n2 c2, .slice a3 n3 c3, .slice a4 n4 c4, .slice a5 p.st.length c5, .slice a6 p.rc.length c6] 44)) = V at *
      refine wp_loop_rounds 1 ?_
      rw [rounds_succ]
      obtain ⟨b0, b1, b2, b3, b4, b5, b6, bl⟩ := B0.seven
      go_wp2_with fail
      clear b0 b1 b2 b3 b4 b5 b6 bl
      refine (specIsPlant_any ⟨⟨a0, n0, c0⟩, ⟨a1, n1, c1⟩, ⟨a2, n2, c2⟩, ⟨a3, n3, c3⟩, ⟨a4, n4, c4⟩, ⟨a5, p.st.length, c5⟩, ⟨a6, p.rc.length, c6⟩⟩ p _ (HP.out.keep hb) HO.out).mono ?_
      rintro e V1 ⟨rfl, hs⟩
      rw [g]
      replace hb := below_on hb hs
      replace B0 := B0.keep hs
      clear hs
      go_wp2_with fail
      go_ret
      exact ⟨ret_int HN.out.symm, hb⟩
    · have hz : ¬ ((0 : Int) < (p.st.length : Int)) := by omega
      go_enter Try.func13, Try.ntmps13
      go_wp2_with fail
      generalize (w.alloc (.cells #[.slice a0 n0 c0, .slice a1 n1 c1, .slice a2 n2 c2, .slice a3 n3 c3, .slice a4 n4 c4, .slice a5 p.st.length c5, .slice a6 p.rc.length c6] 44)) = V at *
      refine wp_loop_rounds 1 ?_
      rw [rounds_succ]
      obtain ⟨b0, b1, b2, b3, b4, b5, b6, bl⟩ := B0.seven
      go_wp2_with fail
      go_ret
      exact ⟨ret_int HN.out.symm, hb⟩
  go_enter Try.func13, Try.ntmps13
  go_wp2_with fail
  generalize (w.alloc (.cells #[.slice a0 n0 c0, .slice a1 n1 c1, .slice a2 n2 c2, .slice a3 n3 c3, .slice a4 n4 c4, .slice a5 p.st.length c5, .slice a6 p.rc.length c6] 44)) = V at *
  go_loopw [5] (fun i wr => ∃ k : Nat, k ≤ p.st.length ∧ i = .int .i64 k ∧ Hid (∀ j (hj : j < p.st.length), j < k → (p.st[j].1.toList == s.toList) = false) ∧ BoxOf wr w.heap.size [.slice a0 n0 c0, .slice a1 n1 c1, .slice a2 n2 c2, .slice a3 n3 c3, .slice a4 n4 c4, .slice a5 p.st.length c5, .slice a6 p.rc.length c6] ∧ Below w.heap.size w wr) (fun i _ => p.st.length - (intOf i).toNat)
  case atStart => exact ⟨0, by omega, rfl, fun j _ h => absurd h (by omega), B0, hb⟩
  case round =>
    clear B0 hb
    obtain ⟨k, hk, rfl, HI, B0, hb⟩ := hrel
    by_cases hlt : k < p.st.length
    · obtain ⟨b0, b1, b2, b3, b4, b5, b6, bl⟩ := B0.seven
      go_wp2_with fail
      clear b0 b1 b2 b3 b4 b5 b6 bl
      refine (specIsPlant_any ⟨⟨a0, n0, c0⟩, ⟨a1, n1, c1⟩, ⟨a2, n2, c2⟩, ⟨a3, n3, c3⟩, ⟨a4, n4, c4⟩, ⟨a5, p.st.length, c5⟩, ⟨a6, p.rc.length, c6⟩⟩ p _ (HP.out.keep hb) HO.out).mono ?_
      rintro e V1 ⟨rfl, hs⟩
      rw [g]
      replace hb := below_on hb hs
      replace B0 := B0.keep hs
      clear hs
      obtain ⟨b, o, rfl, hbl, hc0, hc1⟩ := need_at (HQ5.out.keep hb) hlt
      obtain ⟨b0, b1, b2, b3, b4, b5, b6, bl⟩ := B0.seven
      cases he : (p.st[k].1.toList == s.toList)
      · have HX : Hid (∀ j (hj : j < p.st.length), j < k + 1 → (p.st[j].1.toList == s.toList) = false) := fun j hj hjk => by
          rcases Nat.lt_or_ge j k with h1 | h1
          · exact HI.out j hj h1
          · obtain rfl : j = k := by omega
            exact he
        go_wp2_with fail
        go_roundw
        case rel => exact ⟨k + 1, by omega, by go_num, HX.out, B0, hb⟩
        case measure => simp [intOf]; omega
      · have HF := Lib.hid (stockOf_hit g hlt HI.out he)
        go_wp2_with fail
        go_ret
        exact ⟨ret_int HF.out.symm, hb⟩
    · obtain rfl : k = p.st.length := by omega
      have HF := Lib.hid (stockOf_miss (s := s) g (fun j hj => HI.out j hj hj))
      obtain ⟨b0, b1, b2, b3, b4, b5, b6, bl⟩ := B0.seven
      go_wp2_with fail
      go_ret
      exact ⟨ret_int HF.out.symm, hb⟩
set_option maxRecDepth 100000 in
set_option maxHeartbeats 4000000 in
theorem implStockOf_any (r : PtR) (p : Pt) (s : ByteArray) (w : World) (hp : PlantIn w r p) (hok : okPt p) (_hs : s.size ≤ 9223372036854775807) :
    Calls Try.prog 14 #[.agg #[.slice r.i.a r.i.n r.i.c, .slice r.l.a r.l.n r.l.c, .slice r.w.a r.w.n r.w.c, .slice r.e.a r.e.n r.e.c, .slice r.p.a r.p.n r.p.c, .slice r.s.a r.s.n r.s.c, .slice r.q.a r.q.n r.q.c], .string s] w fun e w' => e = .returned (.int .i64 (stockOf p s)) ∧ Below w.heap.size w w' := by
  obtain ⟨⟨a0, n0, c0⟩, ⟨a1, n1, c1⟩, ⟨a2, n2, c2⟩, ⟨a3, n3, c3⟩, ⟨a4, n4, c4⟩, ⟨a5, n5, c5⟩, ⟨a6, n6, c6⟩⟩ := r
  have HNS := Lib.hid hp.st.1
  have HNR := Lib.hid hp.rc.1
  dsimp only at HNS HNR ⊢
  obtain rfl := HNS.out
  obtain rfl := HNR.out
  clear HNS HNR
  have hls := hp.st.len
  have hlr := hp.rc.len
  have HP := Lib.hid hp
  have HQ5 := Lib.hid hp.st
  have HQ6 := Lib.hid hp.rc
  have HQ0 := Lib.hid hp.it
  dsimp only at HQ5 HQ6 HQ0
  have HO := Lib.hid hok
  clear hp hok
  have hb := below_alloc w (.cells #[.slice a0 n0 c0, .slice a1 n1 c1, .slice a2 n2 c2, .slice a3 n3 c3, .slice a4 n4 c4, .slice a5 p.st.length c5, .slice a6 p.rc.length c6] 44)
  have B0 : BoxOf (w.alloc (.cells #[.slice a0 n0 c0, .slice a1 n1 c1, .slice a2 n2 c2, .slice a3 n3 c3, .slice a4 n4 c4, .slice a5 p.st.length c5, .slice a6 p.rc.length c6] 44)) w.heap.size [.slice a0 n0 c0, .slice a1 n1 c1, .slice a2 n2 c2, .slice a3 n3 c3, .slice a4 n4 c4, .slice a5 p.st.length c5, .slice a6 p.rc.length c6] := boxOf_alloc w #[.slice a0 n0 c0, .slice a1 n1 c1, .slice a2 n2 c2, .slice a3 n3 c3, .slice a4 n4 c4, .slice a5 p.st.length c5, .slice a6 p.rc.length c6] 44
  cases g : isPlant p
  · have HN : Hid (stockOf p s = 0) := stockOf_no g
    go_enter Try.func14, Try.ntmps14
    go_wp2_with fail
    generalize (w.alloc (.cells #[.slice a0 n0 c0, .slice a1 n1 c1, .slice a2 n2 c2, .slice a3 n3 c3, .slice a4 n4 c4, .slice a5 p.st.length c5, .slice a6 p.rc.length c6] 44)) = V at *
    refine (implIsPlant_any ⟨⟨a0, n0, c0⟩, ⟨a1, n1, c1⟩, ⟨a2, n2, c2⟩, ⟨a3, n3, c3⟩, ⟨a4, n4, c4⟩, ⟨a5, p.st.length, c5⟩, ⟨a6, p.rc.length, c6⟩⟩ p _ (HP.out.keep hb) HO.out).mono ?_
    rintro e V1 ⟨rfl, hs⟩
    rw [g]
    replace hb := below_on hb hs
    replace B0 := B0.keep hs
    clear hs
    go_wp2_with fail
    go_ret
    exact ⟨ret_int HN.out.symm, hb⟩
  go_enter Try.func14, Try.ntmps14
  go_wp2_with fail
  generalize (w.alloc (.cells #[.slice a0 n0 c0, .slice a1 n1 c1, .slice a2 n2 c2, .slice a3 n3 c3, .slice a4 n4 c4, .slice a5 p.st.length c5, .slice a6 p.rc.length c6] 44)) = V at *
  refine (implIsPlant_any ⟨⟨a0, n0, c0⟩, ⟨a1, n1, c1⟩, ⟨a2, n2, c2⟩, ⟨a3, n3, c3⟩, ⟨a4, n4, c4⟩, ⟨a5, p.st.length, c5⟩, ⟨a6, p.rc.length, c6⟩⟩ p _ (HP.out.keep hb) HO.out).mono ?_
  rintro e V1 ⟨rfl, hs⟩
  rw [g]
  replace hb := below_on hb hs
  replace B0 := B0.keep hs
  clear hs
  obtain ⟨b0, b1, b2, b3, b4, b5, b6, bl⟩ := B0.seven
  go_wp2_with fail
  clear b0 b1 b2 b3 b4 b5 b6 bl
  go_loopw [13] (fun i wr => ∃ k : Nat, k ≤ p.st.length ∧ i = .int .i64 k ∧ Hid (∀ j (hj : j < p.st.length), j < k → (p.st[j].1.toList == s.toList) = false) ∧ BoxOf wr w.heap.size [.slice a0 n0 c0, .slice a1 n1 c1, .slice a2 n2 c2, .slice a3 n3 c3, .slice a4 n4 c4, .slice a5 p.st.length c5, .slice a6 p.rc.length c6] ∧ Below w.heap.size w wr) (fun i _ => p.st.length - (intOf i).toNat)
  case atStart => exact ⟨0, by omega, rfl, fun j _ h => absurd h (by omega), B0, hb⟩
  case round =>
    clear B0 hb
    obtain ⟨k, hk, rfl, HI, B0, hb⟩ := hrel
    by_cases hlt : k < p.st.length
    · obtain ⟨b, o, rfl, hbl, hc0, hc1⟩ := need_at (HQ5.out.keep hb) hlt
      have hs := below_alloc wr (.cells #[.string p.st[k].1, .int .i64 p.st[k].2] 90)
      have hb1 := below_on hb hs
      have B1 := B0.keep hs
      clear hs
      cases he : (p.st[k].1.toList == s.toList)
      · have HX : Hid (∀ j (hj : j < p.st.length), j < k + 1 → (p.st[j].1.toList == s.toList) = false) := fun j hj hjk => by
          rcases Nat.lt_or_ge j k with h1 | h1
          · exact HI.out j hj h1
          · obtain rfl : j = k := by omega
            exact he
        go_wp2_with fail
        go_roundw
        case rel => exact ⟨k + 1, by omega, by go_num, HX.out, B1, hb1⟩
        case measure => simp [intOf]; omega
      · have HF := Lib.hid (stockOf_hit g hlt HI.out he)
        go_wp2_with fail
        go_ret
        exact ⟨ret_int HF.out.symm, hb1⟩
    · obtain rfl : k = p.st.length := by omega
      have HF := Lib.hid (stockOf_miss (s := s) g (fun j hj => HI.out j hj hj))
      go_wp2_with fail
      go_ret
      exact ⟨ret_int HF.out.symm, hb⟩
end Go.Proofs.Ytajlfdofjegdjaa
/- The walks of the functions on flows that all later ones use. -/
namespace Go.Proofs.Ytajlfdofjegdjaa
open Go.RowKit

/-- A flow: its day and its quantity. -/
abbrev Fl := Int × Int
def flF : Flat Fl := ⟨fun f => [.int .i64 f.1, .int .i64 f.2], 2, fun _ => rfl⟩
abbrev FlowsIn (w : World) (A : Option Addr) (n : Nat) (l : List Fl) : Prop := RowsIn flF w A n l
theorem flow_at {w : World} {A : Option Addr} {n : Nat} {l : List Fl} (h : FlowsIn w A n l) {k : Nat} (hk : k < l.length) :
    ∃ b o, A = some ⟨b, o, none⟩ ∧ b < w.heap.size ∧ w.cell? ⟨b, o + k * 2, none⟩ = some (.int .i64 l[k].1) ∧ w.cell? ⟨b, o + k * 2 + 1, none⟩ = some (.int .i64 l[k].2) := by
  obtain ⟨b, o, e, hlt, hc⟩ := h.at_ hk
  exact ⟨b, o, e, hlt, hc 0 _ rfl, hc 1 _ rfl⟩

def okFlow (l : List Fl) (k : Nat) : Bool :=
  inB (l.getD k (0, 0)).1 0 999 && (inB (l.getD k (0, 0)).2 1 1000000000 && (decide (k = 0) || decide ((l.getD (k - 1) (0, 0)).1 < (l.getD k (0, 0)).1)))
def areFlows (l : List Fl) : Bool := (List.range l.length).all (okFlow l) && decide ((l.length : Int) ≤ 40)
theorem areFlows_no {l : List Fl} {k : Nat} (hk : k < l.length) (h : okFlow l k = false) : areFlows l = false := by
  unfold areFlows
  have : (List.range l.length).all (okFlow l) = false := by rw [List.all_eq_false]; exact ⟨k, by simpa using hk, by simp [h]⟩
  simp [this]
theorem areFlows_end {l : List Fl} (h : ∀ j < l.length, okFlow l j = true) : areFlows l = decide ((l.length : Int) ≤ 40) := by
  unfold areFlows
  have : (List.range l.length).all (okFlow l) = true := by rw [List.all_eq_true]; intro x hx; exact h x (by simpa using hx)
  simp [this]
theorem getD_at {α : Type} (l : List α) (k : Nat) (d : α) (h : k < l.length) : l.getD k d = l[k] := by
  rw [List.getD_eq_getElem?_getD, List.getElem?_eq_getElem h]; rfl


set_option maxRecDepth 100000 in
set_option maxHeartbeats 1000000 in
theorem specAreFlows_any (A : Option Addr) (n c : Nat) (l : List Fl) (w : World) (hl : FlowsIn w A n l) :
    Calls Try.prog 69 #[.slice A n c] w fun e w' => e = .returned (.bool (areFlows l)) ∧ Drew w w' := by
  have hn := hl.len
  obtain rfl := hl.1
  go_enter Try.func69, Try.ntmps69
  go_wp2
  go_loopw [3] (fun i wr => ∃ k : Nat, k ≤ l.length ∧ i = .int .i64 k ∧ Hid (∀ j < k, okFlow l j = true) ∧ Drew w wr) (fun i _ => l.length - (intOf i).toNat)
  case atStart => exact ⟨0, by omega, rfl, fun j h => absurd h (by omega), Drew.refl _⟩
  case round =>
    obtain ⟨k, hk, rfl, HI, HD⟩ := hrel
    by_cases hlt : k < l.length
    · obtain ⟨b, o, rfl, _, hc1, hc2⟩ := flow_at (hl.keep (HD.below _)) hlt
      have HG : Hid (l.getD k (0, 0) = l[k]) := getD_at _ _ _ hlt
      cases hd : inB l[k].1 0 999
      · go_wp2
        go_quiet ((go_at_call 43; exact quietS (l1In_any _ _ _)))
        go_wp2
        go_ret
        exact ⟨ret_bool (areFlows_no hlt (by unfold okFlow; rw [HG.out, hd]; rfl)).symm, HD.more _⟩
      cases hq : inB l[k].2 1 1000000000
      · go_wp2
        go_quiet ((go_at_call 43; exact quietS (l1In_any _ _ _)))
        go_wp2
        go_ret
        exact ⟨ret_bool (areFlows_no hlt (by unfold okFlow; rw [HG.out, hd, hq]; rfl)).symm, HD.more _⟩
      have hnext : ∀ hb : okFlow l k = true, ∀ j < k + 1, okFlow l j = true := fun hb j hj => by
        rcases Nat.lt_or_ge j k with h1 | h1
        · exact HI.out j h1
        · rw [show j = k by omega]; exact hb
      have HX := Lib.hid hnext; clear hnext
      by_cases h0 : k = 0
      · have hz1 : decide (0 < k) = false := by simp; omega
        have hz2 : decide ((0 : Int) < (k : Int)) = false := by simp; omega
        have H0 := Lib.hid h0; clear h0
        go_wp2
        go_quiet ((go_at_call 43; exact quietS (l1In_any _ _ _)))
        go_wp2
        go_roundw
        case rel => exact ⟨k + 1, by omega, by go_num, HX.out (by unfold okFlow; rw [HG.out, hd, hq]; simp [H0.out]), HD.more _⟩
        case measure => simp [intOf]; omega
      · have hlt2 : k - 1 < l.length := by omega
        obtain ⟨b2, o2, e2, _, hc3, _⟩ := flow_at (hl.keep (HD.below _)) hlt2
        obtain ⟨rfl, rfl⟩ : b = b2 ∧ o = o2 := by simpa using e2
        have hz1 : decide (0 < k) = true := by simp; omega
        have hz2 : decide ((0 : Int) < (k : Int)) = true := by simp; omega
        have hi1 : (0 : Int) ≤ (k : Int) - 1 := by omega
        have hi2 : (k : Int) - 1 < (l.length : Int) := by omega
        have hi3 : ((k : Int) - 1).toNat = k - 1 := by omega
        have HG2 : Hid (l.getD (k - 1) (0, 0) = l[k - 1]) := getD_at _ _ _ hlt2
        by_cases hge : l[k - 1].1 < l[k].1
        · have hz3 : decide (l[k].1 ≤ l[k - 1].1) = false := by simp; omega
          go_wp2
          go_quiet ((go_at_call 43; exact quietS (l1In_any _ _ _)))
          go_wp2
          go_roundw
          case rel => exact ⟨k + 1, by omega, by go_num, HX.out (by unfold okFlow; rw [HG.out, HG2.out, hd, hq]; simp; exact .inr (by assumption)), HD.more _⟩
          case measure => simp [intOf]; omega
        · have hge2 : l[k].1 ≤ l[k - 1].1 := by omega
          have hz3 : decide (l[k].1 ≤ l[k - 1].1) = true := by simp; omega
          go_wp2
          go_quiet ((go_at_call 43; exact quietS (l1In_any _ _ _)))
          go_wp2
          go_ret
          exact ⟨ret_bool (areFlows_no hlt (by unfold okFlow; rw [HG.out, HG2.out, hd, hq]; simp; omega)).symm, HD.more _⟩
    · obtain rfl : k = l.length := by omega
      go_wp2
      go_ret
      exact ⟨ret_bool (areFlows_end HI.out).symm, HD⟩

set_option maxRecDepth 100000 in
set_option maxHeartbeats 1000000 in
theorem implAreFlows_any (A : Option Addr) (n c : Nat) (l : List Fl) (w : World) (hl : FlowsIn w A n l) :
    Calls Try.prog 64 #[.slice A n c] w fun e w' => e = .returned (.bool (areFlows l)) ∧ Below w.heap.size w w' := by
  have hn := hl.len
  obtain rfl := hl.1
  go_enter Try.func64, Try.ntmps64
  go_wp2
  go_loopw [7] (fun i wr => ∃ k : Nat, k ≤ l.length ∧ i = .int .i64 k ∧ Hid (∀ j < k, okFlow l j = true) ∧ Below w.heap.size w wr) (fun i _ => l.length - (intOf i).toNat)
  case atStart => exact ⟨0, by omega, rfl, fun j h => absurd h (by omega), Below.refl _ _⟩
  case round =>
    obtain ⟨k, hk, rfl, HI, HD⟩ := hrel
    by_cases hlt : k < l.length
    · obtain ⟨b, o, rfl, hb, hc1, hc2⟩ := flow_at (hl.keep HD) hlt
      have hsz := HD.size
      have HG : Hid (l.getD k (0, 0) = l[k]) := getD_at _ _ _ hlt
      cases hd : inB l[k].1 0 999
      · go_wp2
        go_quiet ((go_at_call 53; exact quietS (in_any _ _ _)))
        go_wp2
        go_ret
        exact ⟨ret_bool (areFlows_no hlt (by unfold okFlow; rw [HG.out, hd]; rfl)).symm, below_drewN (HD.alloc (by omega) _) _⟩
      cases hq : inB l[k].2 1 1000000000
      · go_wp2
        go_quiet ((go_at_call 53; exact quietS (in_any _ _ _)))
        go_wp2
        go_ret
        exact ⟨ret_bool (areFlows_no hlt (by unfold okFlow; rw [HG.out, hd, hq]; rfl)).symm, below_drewN (HD.alloc (by omega) _) _⟩
      have hnext : ∀ hb : okFlow l k = true, ∀ j < k + 1, okFlow l j = true := fun hb j hj => by
        rcases Nat.lt_or_ge j k with h1 | h1
        · exact HI.out j h1
        · rw [show j = k by omega]; exact hb
      have HX := Lib.hid hnext; clear hnext
      by_cases h0 : k = 0
      · have hz1 : decide (0 < k) = false := by simp; omega
        have hz2 : decide ((0 : Int) < (k : Int)) = false := by simp; omega
        have H0 := Lib.hid h0; clear h0
        go_wp2
        go_quiet ((go_at_call 53; exact quietS (in_any _ _ _)))
        go_wp2
        go_roundw
        case rel => exact ⟨k + 1, by omega, by go_num, HX.out (by unfold okFlow; rw [HG.out, hd, hq]; simp [H0.out]), below_drewN (HD.alloc (by omega) _) _⟩
        case measure => simp [intOf]; omega
      · have hlt2 : k - 1 < l.length := by omega
        obtain ⟨b2, o2, e2, _, hc3, _⟩ := flow_at (hl.keep HD) hlt2
        obtain ⟨rfl, rfl⟩ : b = b2 ∧ o = o2 := by simpa using e2
        have hz1 : decide (0 < k) = true := by simp; omega
        have hz2 : decide ((0 : Int) < (k : Int)) = true := by simp; omega
        have hi1 : (0 : Int) ≤ (k : Int) - 1 := by omega
        have hi2 : (k : Int) - 1 < (l.length : Int) := by omega
        have hi3 : ((k : Int) - 1).toNat = k - 1 := by omega
        have HG2 : Hid (l.getD (k - 1) (0, 0) = l[k - 1]) := getD_at _ _ _ hlt2
        have hc4 := World.cell?_alloc_lt wr (.cells #[.int .i64 l[k].1, .int .i64 l[k].2] 70) ⟨b, o + (k - 1) * 2, none⟩ hb
        rw [hc3] at hc4
        by_cases hge : l[k - 1].1 < l[k].1
        · have hz3 : decide (l[k].1 ≤ l[k - 1].1) = false := by simp; omega
          go_wp2
          go_quiet ((go_at_call 53; exact quietS (in_any _ _ _)))
          go_wp2
          go_roundw
          case rel => exact ⟨k + 1, by omega, by go_num, HX.out (by unfold okFlow; rw [HG.out, HG2.out, hd, hq]; simp; exact .inr (by assumption)), below_drewN (HD.alloc (by omega) _) _⟩
          case measure => simp [intOf]; omega
        · have hge2 : l[k].1 ≤ l[k - 1].1 := by omega
          have hz3 : decide (l[k].1 ≤ l[k - 1].1) = true := by simp; omega
          go_wp2
          go_quiet ((go_at_call 53; exact quietS (in_any _ _ _)))
          go_wp2
          go_ret
          exact ⟨ret_bool (areFlows_no hlt (by unfold okFlow; rw [HG.out, HG2.out, hd, hq]; simp; omega)).symm, below_drewN (HD.alloc (by omega) _) _⟩
    · obtain rfl : k = l.length := by omega
      go_wp2
      go_ret
      exact ⟨ret_bool (areFlows_end HI.out).symm, HD⟩
end Go.Proofs.Ytajlfdofjegdjaa
