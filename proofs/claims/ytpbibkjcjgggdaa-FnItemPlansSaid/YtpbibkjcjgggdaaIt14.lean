/- Part 14 of the texts of this claim: The walks of StockOf; The walks of ReceiptFlows; A cell of a row of numbers, with getD. -/
import Derived.Test.YtpbibkjcjgggdaaIt12
import Derived.Test.YtpbibkjcjgggdaaIt13
import Derived.Test.YtpbibkjcjgggdaaIt4
import Derived.Test.YtpbibkjcjgggdaaIt6
/- The walks of StockOf. -/
namespace Go.Proofs.Ytpbibkjcjgggdaa
open Go.RowKit
/-- What lies there of an item, by the first row that names it. -/
def stkOf (st : List Nd) (s : ByteArray) : Int := match st.find? (fun x => x.1.toList == s.toList) with
  | some x => x.2
  | none => 0
def stockOf (p : Pt) (s : ByteArray) : Int := if isPlant p = true then stkOf p.st s else 0
theorem stockOf_no {p : Pt} {s : ByteArray} (h : isPlant p = false) : stockOf p s = 0 := by unfold stockOf; rw [if_neg (by rw [h]; decide)]
theorem stkOf_hit {st : List Nd} {s : ByteArray} {k : Nat} (hk : k < st.length) (h : ∀ j (hj : j < st.length), j < k → (st[j].1.toList == s.toList) = false) (he : (st[k].1.toList == s.toList) = true) : stkOf st s = st[k].2 := by
  have : st.find? (fun x => x.1.toList == s.toList) = some st[k] := by
    rw [List.find?_eq_some_iff_getElem]
    exact ⟨he, k, hk, rfl, fun j hj => by rw [h j (by omega) hj]; rfl⟩
  unfold stkOf; rw [this]
theorem stkOf_miss {st : List Nd} {s : ByteArray} (h : ∀ j (hj : j < st.length), (st[j].1.toList == s.toList) = false) : stkOf st s = 0 := by
  have : st.find? (fun x => x.1.toList == s.toList) = none := by
    rw [List.find?_eq_none]
    intro x hx
    obtain ⟨k, hk, rfl⟩ := List.getElem_of_mem hx
    rw [h k hk]; decide
  unfold stkOf; rw [this]
theorem stockOf_hit {p : Pt} {s : ByteArray} (hp : isPlant p = true) {k : Nat} (hk : k < p.st.length) (h : ∀ j (hj : j < p.st.length), j < k → (p.st[j].1.toList == s.toList) = false) (he : (p.st[k].1.toList == s.toList) = true) : stockOf p s = p.st[k].2 := by
  unfold stockOf; rw [if_pos hp, stkOf_hit hk h he]
theorem stockOf_miss {p : Pt} {s : ByteArray} (hp : isPlant p = true) (h : ∀ j (hj : j < p.st.length), (p.st[j].1.toList == s.toList) = false) : stockOf p s = 0 := by
  unfold stockOf; rw [if_pos hp, stkOf_miss h]
theorem isPlant_parts {p : Pt} (h : isPlant p = true) : isBills p.it p.ls = true ∧ isCal p.wk p.ex = true ∧ p.st.length ≤ 12 ∧ p.rc.length ≤ 16 ∧ (∀ k (hk : k < p.st.length), 0 ≤ findIt p.it p.st[k].1 ∧ 0 ≤ p.st[k].2 ∧ p.st[k].2 ≤ 100000) ∧ (∀ k (hk : k < p.rc.length), 0 ≤ findIt p.it p.rc[k].1 ∧ (1 ≤ p.rc[k].2.2 ∧ p.rc[k].2.2 ≤ 100000) ∧ 0 ≤ p.rc[k].2.1 ∧ p.rc[k].2.1 ≤ 999) := by
  simp only [isPlant, Bool.and_eq_true, decide_eq_true_eq, List.all_eq_true, List.mem_range] at h
  obtain ⟨⟨h1, h2, h3, h4⟩, h5, h6⟩ := h
  refine ⟨h1, h2, by omega, by omega, fun k hk => ?_, fun k hk => ?_⟩
  · have := h5 k hk
    rw [okStk_of hk] at this
    simp only [Bool.and_eq_true, decide_eq_true_eq, inB_iff] at this
    exact ⟨this.1, this.2.1⟩
  · have := h6 _ (List.getElem_mem hk)
    simp only [okRcp, Bool.and_eq_true, decide_eq_true_eq, inB_iff] at this
    exact ⟨this.1, this.2.1, this.2.2⟩
theorem stockOf_bd (p : Pt) (s : ByteArray) : 0 ≤ stockOf p s ∧ stockOf p s ≤ 100000 := by
  unfold stockOf
  split
  · next h =>
    unfold stkOf
    split
    · next x hx =>
      have hm := List.mem_of_find?_eq_some hx
      obtain ⟨k, hk, rfl⟩ := List.getElem_of_mem hm
      exact ((isPlant_parts h).2.2.2.2.1 k hk).2
    · omega
  · omega
set_option maxRecDepth 100000 in
set_option maxHeartbeats 4000000 in
theorem specStockOf_any (r : PtR) (p : Pt) (s : ByteArray) (w : World) (hp : PlantIn w r p) (hok : okPt p) (_hs : s.size ≤ 9223372036854775807) :
    Calls Try.prog 14 #[.agg #[.slice r.i.a r.i.n r.i.c, .slice r.l.a r.l.n r.l.c, .slice r.w.a r.w.n r.w.c, .slice r.e.a r.e.n r.e.c, .slice r.p.a r.p.n r.p.c, .slice r.s.a r.s.n r.s.c, .slice r.q.a r.q.n r.q.c], .string s] w fun e w' => e = .returned (.int .i64 (stockOf p s)) ∧ Below w.heap.size w w' := by
  obtain ⟨⟨a0, n0, c0⟩, ⟨a1, n1, c1⟩, ⟨a2, n2, c2⟩, ⟨a3, n3, c3⟩, ⟨a4, n4, c4⟩, ⟨a5, n5, c5⟩, ⟨a6, n6, c6⟩⟩ := r
  have HNS := Lib.hid hp.st.1
  have HNR := Lib.hid hp.rc.1
  dsimp only at HNS HNR ⊢
  obtain rfl := HNS.out
  obtain rfl := HNR.out
  clear HNS HNR
  have hls := hp.st.len
  have hlr := hp.rc.len
  have HP := Lib.hid hp
  have HQ5 := Lib.hid hp.st
  have HQ6 := Lib.hid hp.rc
  have HQ0 := Lib.hid hp.it
  dsimp only at HQ5 HQ6 HQ0
  have HO := Lib.hid hok
  clear hp hok
  have hb := below_alloc w (.cells #[.slice a0 n0 c0, .slice a1 n1 c1, .slice a2 n2 c2, .slice a3 n3 c3, .slice a4 n4 c4, .slice a5 p.st.length c5, .slice a6 p.rc.length c6] 34)
  have B0 : BoxOf (w.alloc (.cells #[.slice a0 n0 c0, .slice a1 n1 c1, .slice a2 n2 c2, .slice a3 n3 c3, .slice a4 n4 c4, .slice a5 p.st.length c5, .slice a6 p.rc.length c6] 34)) w.heap.size [.slice a0 n0 c0, .slice a1 n1 c1, .slice a2 n2 c2, .slice a3 n3 c3, .slice a4 n4 c4, .slice a5 p.st.length c5, .slice a6 p.rc.length c6] := boxOf_alloc w #[.slice a0 n0 c0, .slice a1 n1 c1, .slice a2 n2 c2, .slice a3 n3 c3, .slice a4 n4 c4, .slice a5 p.st.length c5, .slice a6 p.rc.length c6] 34
  cases g : isPlant p
  · have HN : Hid (stockOf p s = 0) := stockOf_no g
    by_cases h0 : 0 < p.st.length
    · go_enter Try.func14, Try.ntmps14
      go_wp2_with fail
      generalize (w.alloc (.cells #[.slice a0 n0 c0, .slice a1 n1 c1, .slice a2 n2 c2, .slice a3 n3 c3, .slice a4 n4 c4, .slice a5 p.st.length c5, .slice a6 p.rc.length c6] 34)) = V at *
      refine wp_loop_rounds 1 ?_
      rw [rounds_succ]
      obtain ⟨b0, b1, b2, b3, b4, b5, b6, bl⟩ := B0.seven
      go_wp2_with fail
      clear b0 b1 b2 b3 b4 b5 b6 bl
      refine (specIsPlant_any ⟨⟨a0, n0, c0⟩, ⟨a1, n1, c1⟩, ⟨a2, n2, c2⟩, ⟨a3, n3, c3⟩, ⟨a4, n4, c4⟩, ⟨a5, p.st.length, c5⟩, ⟨a6, p.rc.length, c6⟩⟩ p _ (HP.out.keep hb) HO.out).mono ?_
      rintro e V1 ⟨rfl, hs⟩
      rw [g]
      replace hb := below_on hb hs
      replace B0 := B0.keep hs
      clear hs
      go_wp2_with fail
      go_ret
      exact ⟨ret_int HN.out.symm, hb⟩
    · have hz : ¬ ((0 : Int) < (p.st.length : Int)) := by omega
      go_enter Try.func14, Try.ntmps14
      go_wp2_with fail
      generalize (w.alloc (.cells #[.slice a0 n0 c0, .slice a1 n1 c1, .slice a2 n2 c2, .slice a3 n3 c3, .slice a4 n4 c4, .slice a5 p.st.length c5, .slice a6 p.rc.length c6] 34)) = V at *
      refine wp_loop_rounds 1 ?_
      rw [rounds_succ]
      obtain ⟨b0, b1, b2, b3, b4, b5, b6, bl⟩ := B0.seven
      go_wp2_with fail
      go_ret
      exact ⟨ret_int HN.out.symm, hb⟩
  go_enter Try.func14, Try.ntmps14
  go_wp2_with fail
  generalize (w.alloc (.cells #[.slice a0 n0 c0, .slice a1 n1 c1, .slice a2 n2 c2, .slice a3 n3 c3, .slice a4 n4 c4, .slice a5 p.st.length c5, .slice a6 p.rc.length c6] 34)) = V at *
  go_loopw [5] (fun i wr => ∃ k : Nat, k ≤ p.st.length ∧ i = .int .i64 k ∧ Hid (∀ j (hj : j < p.st.length), j < k → (p.st[j].1.toList == s.toList) = false) ∧ BoxOf wr w.heap.size [.slice a0 n0 c0, .slice a1 n1 c1, .slice a2 n2 c2, .slice a3 n3 c3, .slice a4 n4 c4, .slice a5 p.st.length c5, .slice a6 p.rc.length c6] ∧ Below w.heap.size w wr) (fun i _ => p.st.length - (intOf i).toNat)
  case atStart => exact ⟨0, by omega, rfl, fun j _ h => absurd h (by omega), B0, hb⟩
  case round =>
    clear B0 hb
    obtain ⟨k, hk, rfl, HI, B0, hb⟩ := hrel
    by_cases hlt : k < p.st.length
    · obtain ⟨b0, b1, b2, b3, b4, b5, b6, bl⟩ := B0.seven
      go_wp2_with fail
      clear b0 b1 b2 b3 b4 b5 b6 bl
      refine (specIsPlant_any ⟨⟨a0, n0, c0⟩, ⟨a1, n1, c1⟩, ⟨a2, n2, c2⟩, ⟨a3, n3, c3⟩, ⟨a4, n4, c4⟩, ⟨a5, p.st.length, c5⟩, ⟨a6, p.rc.length, c6⟩⟩ p _ (HP.out.keep hb) HO.out).mono ?_
      rintro e V1 ⟨rfl, hs⟩
      rw [g]
      replace hb := below_on hb hs
      replace B0 := B0.keep hs
      clear hs
      obtain ⟨b, o, rfl, hbl, hc0, hc1⟩ := need_at (HQ5.out.keep hb) hlt
      obtain ⟨b0, b1, b2, b3, b4, b5, b6, bl⟩ := B0.seven
      cases he : (p.st[k].1.toList == s.toList)
      · have HX : Hid (∀ j (hj : j < p.st.length), j < k + 1 → (p.st[j].1.toList == s.toList) = false) := fun j hj hjk => by
          rcases Nat.lt_or_ge j k with h1 | h1
          · exact HI.out j hj h1
          · obtain rfl : j = k := by omega
            exact he
        go_wp2_with fail
        go_roundw
        case rel => exact ⟨k + 1, by omega, by go_num, HX.out, B0, hb⟩
        case measure => simp [intOf]; omega
      · have HF := Lib.hid (stockOf_hit g hlt HI.out he)
        go_wp2_with fail
        go_ret
        exact ⟨ret_int HF.out.symm, hb⟩
    · obtain rfl : k = p.st.length := by omega
      have HF := Lib.hid (stockOf_miss (s := s) g (fun j hj => HI.out j hj hj))
      obtain ⟨b0, b1, b2, b3, b4, b5, b6, bl⟩ := B0.seven
      go_wp2_with fail
      go_ret
      exact ⟨ret_int HF.out.symm, hb⟩
set_option maxRecDepth 100000 in
set_option maxHeartbeats 4000000 in
theorem implStockOf_any (r : PtR) (p : Pt) (s : ByteArray) (w : World) (hp : PlantIn w r p) (hok : okPt p) (_hs : s.size ≤ 9223372036854775807) :
    Calls Try.prog 13 #[.agg #[.slice r.i.a r.i.n r.i.c, .slice r.l.a r.l.n r.l.c, .slice r.w.a r.w.n r.w.c, .slice r.e.a r.e.n r.e.c, .slice r.p.a r.p.n r.p.c, .slice r.s.a r.s.n r.s.c, .slice r.q.a r.q.n r.q.c], .string s] w fun e w' => e = .returned (.int .i64 (stockOf p s)) ∧ Below w.heap.size w w' := by
  obtain ⟨⟨a0, n0, c0⟩, ⟨a1, n1, c1⟩, ⟨a2, n2, c2⟩, ⟨a3, n3, c3⟩, ⟨a4, n4, c4⟩, ⟨a5, n5, c5⟩, ⟨a6, n6, c6⟩⟩ := r
  have HNS := Lib.hid hp.st.1
  have HNR := Lib.hid hp.rc.1
  dsimp only at HNS HNR ⊢
  obtain rfl := HNS.out
  obtain rfl := HNR.out
  clear HNS HNR
  have hls := hp.st.len
  have hlr := hp.rc.len
  have HP := Lib.hid hp
  have HQ5 := Lib.hid hp.st
  have HQ6 := Lib.hid hp.rc
  have HQ0 := Lib.hid hp.it
  dsimp only at HQ5 HQ6 HQ0
  have HO := Lib.hid hok
  clear hp hok
  have hb := below_alloc w (.cells #[.slice a0 n0 c0, .slice a1 n1 c1, .slice a2 n2 c2, .slice a3 n3 c3, .slice a4 n4 c4, .slice a5 p.st.length c5, .slice a6 p.rc.length c6] 34)
  have B0 : BoxOf (w.alloc (.cells #[.slice a0 n0 c0, .slice a1 n1 c1, .slice a2 n2 c2, .slice a3 n3 c3, .slice a4 n4 c4, .slice a5 p.st.length c5, .slice a6 p.rc.length c6] 34)) w.heap.size [.slice a0 n0 c0, .slice a1 n1 c1, .slice a2 n2 c2, .slice a3 n3 c3, .slice a4 n4 c4, .slice a5 p.st.length c5, .slice a6 p.rc.length c6] := boxOf_alloc w #[.slice a0 n0 c0, .slice a1 n1 c1, .slice a2 n2 c2, .slice a3 n3 c3, .slice a4 n4 c4, .slice a5 p.st.length c5, .slice a6 p.rc.length c6] 34
  cases g : isPlant p
  · have HN : Hid (stockOf p s = 0) := stockOf_no g
    go_enter Try.func13, Try.ntmps13
    go_wp2_with fail
    generalize (w.alloc (.cells #[.slice a0 n0 c0, .slice a1 n1 c1, .slice a2 n2 c2, .slice a3 n3 c3, .slice a4 n4 c4, .slice a5 p.st.length c5, .slice a6 p.rc.length c6] 34)) = V at *
    refine (implIsPlant_any ⟨⟨a0, n0, c0⟩, ⟨a1, n1, c1⟩, ⟨a2, n2, c2⟩, ⟨a3, n3, c3⟩, ⟨a4, n4, c4⟩, ⟨a5, p.st.length, c5⟩, ⟨a6, p.rc.length, c6⟩⟩ p _ (HP.out.keep hb) HO.out).mono ?_
    rintro e V1 ⟨rfl, hs⟩
    rw [g]
    replace hb := below_on hb hs
    replace B0 := B0.keep hs
    clear hs
    go_wp2_with fail
    go_ret
    exact ⟨ret_int HN.out.symm, hb⟩
  go_enter Try.func13, Try.ntmps13
  go_wp2_with fail
  generalize (w.alloc (.cells #[.slice a0 n0 c0, .slice a1 n1 c1, .slice a2 n2 c2, .slice a3 n3 c3, .slice a4 n4 c4, .slice a5 p.st.length c5, .slice a6 p.rc.length c6] 34)) = V at *
  refine (implIsPlant_any ⟨⟨a0, n0, c0⟩, ⟨a1, n1, c1⟩, ⟨a2, n2, c2⟩, ⟨a3, n3, c3⟩, ⟨a4, n4, c4⟩, ⟨a5, p.st.length, c5⟩, ⟨a6, p.rc.length, c6⟩⟩ p _ (HP.out.keep hb) HO.out).mono ?_
  rintro e V1 ⟨rfl, hs⟩
  rw [g]
  replace hb := below_on hb hs
  replace B0 := B0.keep hs
  clear hs
  obtain ⟨b0, b1, b2, b3, b4, b5, b6, bl⟩ := B0.seven
  go_wp2_with fail
  clear b0 b1 b2 b3 b4 b5 b6 bl
  go_loopw [13] (fun i wr => ∃ k : Nat, k ≤ p.st.length ∧ i = .int .i64 k ∧ Hid (∀ j (hj : j < p.st.length), j < k → (p.st[j].1.toList == s.toList) = false) ∧ BoxOf wr w.heap.size [.slice a0 n0 c0, .slice a1 n1 c1, .slice a2 n2 c2, .slice a3 n3 c3, .slice a4 n4 c4, .slice a5 p.st.length c5, .slice a6 p.rc.length c6] ∧ Below w.heap.size w wr) (fun i _ => p.st.length - (intOf i).toNat)
  case atStart => exact ⟨0, by omega, rfl, fun j _ h => absurd h (by omega), B0, hb⟩
  case round =>
    clear B0 hb
    obtain ⟨k, hk, rfl, HI, B0, hb⟩ := hrel
    by_cases hlt : k < p.st.length
    · obtain ⟨b, o, rfl, hbl, hc0, hc1⟩ := need_at (HQ5.out.keep hb) hlt
      have hs := below_alloc wr (.cells #[.string p.st[k].1, .int .i64 p.st[k].2] 74)
      have hb1 := below_on hb hs
      have B1 := B0.keep hs
      clear hs
      cases he : (p.st[k].1.toList == s.toList)
      · have HX : Hid (∀ j (hj : j < p.st.length), j < k + 1 → (p.st[j].1.toList == s.toList) = false) := fun j hj hjk => by
          rcases Nat.lt_or_ge j k with h1 | h1
          · exact HI.out j hj h1
          · obtain rfl : j = k := by omega
            exact he
        go_wp2_with fail
        go_roundw
        case rel => exact ⟨k + 1, by omega, by go_num, HX.out, B1, hb1⟩
        case measure => simp [intOf]; omega
      · have HF := Lib.hid (stockOf_hit g hlt HI.out he)
        go_wp2_with fail
        go_ret
        exact ⟨ret_int HF.out.symm, hb1⟩
    · obtain rfl : k = p.st.length := by omega
      have HF := Lib.hid (stockOf_miss (s := s) g (fun j hj => HI.out j hj hj))
      go_wp2_with fail
      go_ret
      exact ⟨ret_int HF.out.symm, hb⟩
end Go.Proofs.Ytpbibkjcjgggdaa
/- The walks of ReceiptFlows. -/
namespace Go.Proofs.Ytpbibkjcjgggdaa
open Go.RowKit
theorem addS_days (l : List Fl) (d q : Int) (h : ∀ f ∈ l, 0 ≤ f.1 ∧ f.1 ≤ 999) (hd : 0 ≤ d ∧ d ≤ 999) : ∀ f ∈ addS l d q, 0 ≤ f.1 ∧ f.1 ≤ 999 := by
  induction l with
  | nil => intro f hf; simp [addS] at hf; rw [hf]; exact hd
  | cons g t ih =>
    have hg := h g List.mem_cons_self
    have ht := ih (fun f hf => h f (List.mem_cons_of_mem _ hf))
    intro f hf
    simp only [addS] at hf
    split at hf
    · rcases List.mem_cons.1 hf with rfl | hf
      · exact hg
      · exact ht f hf
    · split at hf
      · rcases List.mem_cons.1 hf with rfl | hf
        · exact hg
        · exact h f (List.mem_cons_of_mem _ hf)
      · rcases List.mem_cons.1 hf with rfl | hf
        · exact hd
        · exact h f hf
theorem addS_one (l : List Fl) (d q : Int) (h : ∀ f ∈ l, 1 ≤ f.2) (hq : 1 ≤ q) : ∀ f ∈ addS l d q, 1 ≤ f.2 := by
  induction l with
  | nil => intro f hf; simp [addS] at hf; rw [hf]; exact hq
  | cons g t ih =>
    have hg := h g List.mem_cons_self
    have ht := ih (fun f hf => h f (List.mem_cons_of_mem _ hf))
    intro f hf
    simp only [addS] at hf
    split at hf
    · rcases List.mem_cons.1 hf with rfl | hf
      · exact hg
      · exact ht f hf
    · split at hf
      · rcases List.mem_cons.1 hf with rfl | hf
        · simp only; omega
        · exact h f (List.mem_cons_of_mem _ hf)
      · rcases List.mem_cons.1 hf with rfl | hf
        · exact hq
        · exact h f hf
def rcStep (item : ByteArray) (o : List Fl) (d : Rc) : List Fl := if d.1.toList == item.toList then addS o d.2.1 d.2.2 else o
def rcTo (l : List Rc) (item : ByteArray) (k : Nat) : List Fl := (l.take k).foldl (rcStep item) []
theorem rcTo_succ (l : List Rc) (item : ByteArray) (k : Nat) (h : k < l.length) : rcTo l item (k + 1) = rcStep item (rcTo l item k) l[k] := foldl_take _ _ _ _ h
theorem rcTo_parts (p : Pt) (item : ByteArray) (h : isPlant p = true) (k : Nat) (hk : k ≤ p.rc.length) : ascends (rcTo p.rc item k) ∧ (rcTo p.rc item k).length ≤ k ∧ ∀ f ∈ rcTo p.rc item k, (0 ≤ f.1 ∧ f.1 ≤ 999) ∧ 1 ≤ f.2 ∧ f.2 ≤ 100000 * k := by
  induction k with
  | zero => exact ⟨fun i j hj => by simp [rcTo] at hj, by simp [rcTo], fun f hf => by simp [rcTo] at hf⟩
  | succ k ih =>
    obtain ⟨h1, h2, h3⟩ := ih (by omega)
    obtain ⟨_, hm, hd⟩ := (isPlant_parts h).2.2.2.2.2 k (by omega)
    rw [rcTo_succ p.rc item k (by omega)]
    unfold rcStep
    split
    · refine ⟨addS_ascends _ _ _ h1, by have := addS_len (rcTo p.rc item k) p.rc[k].2.1 p.rc[k].2.2; omega, fun f hf => ?_⟩
      have hb := addS_bd (rcTo p.rc item k) p.rc[k].2.1 p.rc[k].2.2 0 (100000 * k) 0 100000 (fun f hf => by have := h3 f hf; omega) (by omega) (by omega) (by omega) (by omega) (by omega) f hf
      have hp1 := addS_one (rcTo p.rc item k) p.rc[k].2.1 p.rc[k].2.2 (fun f hf => (h3 f hf).2.1) (by omega) f hf
      have hdd := addS_days (rcTo p.rc item k) p.rc[k].2.1 p.rc[k].2.2 (fun f hf => (h3 f hf).1) hd f hf
      exact ⟨hdd, by omega, by omega⟩
    · exact ⟨h1, by omega, fun f hf => by have := h3 f hf; omega⟩
def receiptFlows (p : Pt) (item : ByteArray) : List Fl := if isPlant p = true then rcTo p.rc item p.rc.length else []
theorem receiptFlows_no {p : Pt} {item : ByteArray} (h : isPlant p = false) : receiptFlows p item = [] := by unfold receiptFlows; rw [if_neg (by rw [h]; decide)]
theorem receiptFlows_yes {p : Pt} {item : ByteArray} (h : isPlant p = true) : receiptFlows p item = rcTo p.rc item p.rc.length := by unfold receiptFlows; rw [if_pos h]
theorem receiptFlows_len (p : Pt) (item : ByteArray) : (receiptFlows p item).length ≤ 16 := by
  cases h : isPlant p
  · rw [receiptFlows_no h]; simp
  · rw [receiptFlows_yes h]
    have := (rcTo_parts p item h p.rc.length (Nat.le_refl _)).2.1
    have := (isPlant_parts h).2.2.2.1
    omega
set_option maxRecDepth 100000 in
set_option maxHeartbeats 4000000 in
theorem specReceiptFlows_any (r : PtR) (p : Pt) (s : ByteArray) (w : World) (hp : PlantIn w r p) (hok : okPt p) (_hs : s.size ≤ 9223372036854775807) :
    Calls Try.prog 9 #[.agg #[.slice r.i.a r.i.n r.i.c, .slice r.l.a r.l.n r.l.c, .slice r.w.a r.w.n r.w.c, .slice r.e.a r.e.n r.e.c, .slice r.p.a r.p.n r.p.c, .slice r.s.a r.s.n r.s.c, .slice r.q.a r.q.n r.q.c], .string s] w (OneRow w (receiptFlows p s)) := by
  obtain ⟨⟨a0, n0, c0⟩, ⟨a1, n1, c1⟩, ⟨a2, n2, c2⟩, ⟨a3, n3, c3⟩, ⟨a4, n4, c4⟩, ⟨a5, n5, c5⟩, ⟨a6, n6, c6⟩⟩ := r
  have HNS := Lib.hid hp.st.1
  have HNR := Lib.hid hp.rc.1
  dsimp only at HNS HNR ⊢
  obtain rfl := HNS.out
  obtain rfl := HNR.out
  clear HNS HNR
  have hls := hp.st.len
  have hlr := hp.rc.len
  have HP := Lib.hid hp
  have HQ5 := Lib.hid hp.st
  have HQ6 := Lib.hid hp.rc
  have HQ0 := Lib.hid hp.it
  dsimp only at HQ5 HQ6 HQ0
  have HO := Lib.hid hok
  clear hp hok
  have hb0 := below_alloc w (.cells #[.slice a0 n0 c0, .slice a1 n1 c1, .slice a2 n2 c2, .slice a3 n3 c3, .slice a4 n4 c4, .slice a5 p.st.length c5, .slice a6 p.rc.length c6] 34)
  have hb : Below w.heap.size w ((w.alloc (.cells #[.slice a0 n0 c0, .slice a1 n1 c1, .slice a2 n2 c2, .slice a3 n3 c3, .slice a4 n4 c4, .slice a5 p.st.length c5, .slice a6 p.rc.length c6] 34)).alloc (.cells #[] 53)) := below_on hb0 (below_alloc _ _)
  have B0 : BoxOf ((w.alloc (.cells #[.slice a0 n0 c0, .slice a1 n1 c1, .slice a2 n2 c2, .slice a3 n3 c3, .slice a4 n4 c4, .slice a5 p.st.length c5, .slice a6 p.rc.length c6] 34)).alloc (.cells #[] 53)) w.heap.size [.slice a0 n0 c0, .slice a1 n1 c1, .slice a2 n2 c2, .slice a3 n3 c3, .slice a4 n4 c4, .slice a5 p.st.length c5, .slice a6 p.rc.length c6] := (boxOf_alloc w #[.slice a0 n0 c0, .slice a1 n1 c1, .slice a2 n2 c2, .slice a3 n3 c3, .slice a4 n4 c4, .slice a5 p.st.length c5, .slice a6 p.rc.length c6] 34).keep (below_alloc _ _)
  have hr : RowVal flF 53 ((w.alloc (.cells #[.slice a0 n0 c0, .slice a1 n1 c1, .slice a2 n2 c2, .slice a3 n3 c3, .slice a4 n4 c4, .slice a5 p.st.length c5, .slice a6 p.rc.length c6] 34)).alloc (.cells #[] 53)) w.heap.size (.slice (some ⟨w.heap.size + 1, 0, none⟩) 0 0) [] := empty_row (by simp) hb0.size
  clear hb0
  cases g : isPlant p
  · have HN : Hid (receiptFlows p s = []) := receiptFlows_no g
    by_cases h0 : 0 < p.rc.length
    · go_enter Try.func9, Try.ntmps9
      go_wp2_with fail
      generalize ((w.alloc (.cells #[.slice a0 n0 c0, .slice a1 n1 c1, .slice a2 n2 c2, .slice a3 n3 c3, .slice a4 n4 c4, .slice a5 p.st.length c5, .slice a6 p.rc.length c6] 34)).alloc (.cells #[] 53)) = V at *
      refine wp_loop_rounds 1 ?_
      rw [rounds_succ]
      obtain ⟨b0, b1, b2, b3, b4, b5, b6, bl⟩ := B0.seven
      go_wp2_with fail
      clear b0 b1 b2 b3 b4 b5 b6 bl
      refine (specIsPlant_any ⟨⟨a0, n0, c0⟩, ⟨a1, n1, c1⟩, ⟨a2, n2, c2⟩, ⟨a3, n3, c3⟩, ⟨a4, n4, c4⟩, ⟨a5, p.st.length, c5⟩, ⟨a6, p.rc.length, c6⟩⟩ p _ (HP.out.keep hb) HO.out).mono ?_
      rintro e V1 ⟨rfl, hs⟩
      rw [g]
      replace hb := below_on hb hs
      replace B0 := B0.keep hs
      replace hr := hr.keep hs
      clear hs
      go_wp2_with fail
      go_ret
      rw [HN.out]
      exact oneRow_mk hr hb
    · have hz : ¬ ((0 : Int) < (p.rc.length : Int)) := by omega
      go_enter Try.func9, Try.ntmps9
      go_wp2_with fail
      generalize ((w.alloc (.cells #[.slice a0 n0 c0, .slice a1 n1 c1, .slice a2 n2 c2, .slice a3 n3 c3, .slice a4 n4 c4, .slice a5 p.st.length c5, .slice a6 p.rc.length c6] 34)).alloc (.cells #[] 53)) = V at *
      refine wp_loop_rounds 1 ?_
      rw [rounds_succ]
      obtain ⟨b0, b1, b2, b3, b4, b5, b6, bl⟩ := B0.seven
      go_wp2_with fail
      go_ret
      rw [HN.out]
      exact oneRow_mk hr hb
  have HPR := Lib.hid (rcTo_parts p s g)
  have HM := Lib.hid (isPlant_parts g).2.2.2.2.2
  have hl16 := (isPlant_parts g).2.2.2.1
  go_enter Try.func9, Try.ntmps9
  go_wp2_with fail
  generalize ((w.alloc (.cells #[.slice a0 n0 c0, .slice a1 n1 c1, .slice a2 n2 c2, .slice a3 n3 c3, .slice a4 n4 c4, .slice a5 p.st.length c5, .slice a6 p.rc.length c6] 34)).alloc (.cells #[] 53)) = V at *
  go_loopw [5, 6] (fun v i wr => ∃ k : Nat, k ≤ p.rc.length ∧ i = .int .i64 k ∧ RowVal flF 53 wr w.heap.size v (rcTo p.rc s k) ∧ BoxOf wr w.heap.size [.slice a0 n0 c0, .slice a1 n1 c1, .slice a2 n2 c2, .slice a3 n3 c3, .slice a4 n4 c4, .slice a5 p.st.length c5, .slice a6 p.rc.length c6] ∧ Below w.heap.size w wr) (fun _ i _ => p.rc.length - (intOf i).toNat)
  case atStart => exact ⟨0, by omega, rfl, hr, B0, hb⟩
  case round =>
    clear hr B0 hb
    obtain ⟨k, hk, rfl, hrow, B0, hb⟩ := hrel
    obtain ⟨p1, p2, p3⟩ := HPR.out k hk
    obtain ⟨A2, c9, rfl, ho⟩ := hrow.form
    obtain ⟨k1, k2⟩ := own_cap ho
    clear hrow
    have HPA := Lib.hid p1
    clear p1
    by_cases hlt : k < p.rc.length
    · have HS := Lib.hid (rcTo_succ p.rc s k hlt)
      obtain ⟨_, ⟨m1, m2⟩, m3, m4⟩ := HM.out k hlt
      have HQ : Hid (∀ f ∈ rcTo p.rc s k, -1000000000000 ≤ f.2 ∧ f.2 ≤ 1000000000000) := fun f hf => by have := p3 f hf; omega
      clear p3
      obtain ⟨b0, b1, b2, b3, b4, b5, b6, bl⟩ := B0.seven
      go_wp2_with fail
      clear b0 b1 b2 b3 b4 b5 b6 bl
      refine (specIsPlant_any ⟨⟨a0, n0, c0⟩, ⟨a1, n1, c1⟩, ⟨a2, n2, c2⟩, ⟨a3, n3, c3⟩, ⟨a4, n4, c4⟩, ⟨a5, p.st.length, c5⟩, ⟨a6, p.rc.length, c6⟩⟩ p _ (HP.out.keep hb) HO.out).mono ?_
      rintro e V1 ⟨rfl, hs⟩
      rw [g]
      replace hb := below_on hb hs
      replace B0 := B0.keep hs
      replace ho := ho.keep hs
      clear hs
      obtain ⟨b, o, rfl, hbl, hc0, hc1, hc2⟩ := receipt_at (HQ6.out.keep hb) hlt
      obtain ⟨b0, b1, b2, b3, b4, b5, b6, bl⟩ := B0.seven
      cases heq : (p.rc[k].1.toList == s.toList)
      · have HE : Hid (rcStep s (rcTo p.rc s k) p.rc[k] = rcTo p.rc s k) := by show _ = _; unfold rcStep; rw [heq]; rfl
        go_wp2_with fail
        go_roundw
        case rel => exact ⟨k + 1, by omega, by go_num, by rw [HS.out, HE.out]; exact ho.val, B0, hb⟩
        case measure => simp [intOf]; omega
      · have HE : Hid (rcStep s (rcTo p.rc s k) p.rc[k] = addS (rcTo p.rc s k) p.rc[k].2.1 p.rc[k].2.2) := by show _ = _; unfold rcStep; rw [heq]; rfl
        go_wp2_with fail
        go_still_tail 13, (by kernel_rfl)
        change wpList _ _ _ _ _ V1.drew
        have HE2 : Below w.heap.size w V1.drew := hb.drew
        have ho2 : OwnRows flF 53 V1.drew w.heap.size A2 (rcTo p.rc s k).length c9 (rcTo p.rc s k) := ho
        have B2 := B0.keep (Below.refl V1.heap.size V1).drew
        clear ho hb hc0 hc1 hc2 B0 b0 b1 b2 b3 b4 b5 b6 bl
        generalize V1.drew = w2 at *
        go_wp2_with fail
        refine (l14Add_any _ _ _ (rcTo p.rc s k) _ _ _ (ho2.rows (by omega)) k1 (by unfold maxLen at k2; omega) (by omega) HQ.out (by omega)).mono ?_
        rintro e w3 ⟨A3, c3, rfl, ho3, hb3⟩
        rw [← HE.out, ← HS.out] at ho3
        rw [← HE.out, ← HS.out]
        go_wp2_with fail
        go_roundw
        case rel => exact ⟨k + 1, by omega, by go_num, (ho3.lower HE2.size).val, B2.keep hb3, below_on HE2 hb3⟩
        case measure => simp [intOf]; omega
    · obtain rfl : k = p.rc.length := by omega
      have HY := Lib.hid (receiptFlows_yes (item := s) g)
      clear p3
      obtain ⟨b0, b1, b2, b3, b4, b5, b6, bl⟩ := B0.seven
      go_wp2_with fail
      go_ret
      rw [HY.out]
      exact oneRow_mk ho.val hb
set_option maxRecDepth 100000 in
set_option maxHeartbeats 4000000 in
theorem implReceiptFlows_any (r : PtR) (p : Pt) (s : ByteArray) (w : World) (hp : PlantIn w r p) (hok : okPt p) (_hs : s.size ≤ 9223372036854775807) :
    Calls Try.prog 24 #[.agg #[.slice r.i.a r.i.n r.i.c, .slice r.l.a r.l.n r.l.c, .slice r.w.a r.w.n r.w.c, .slice r.e.a r.e.n r.e.c, .slice r.p.a r.p.n r.p.c, .slice r.s.a r.s.n r.s.c, .slice r.q.a r.q.n r.q.c], .string s] w (OneRow w (receiptFlows p s)) := by
  obtain ⟨⟨a0, n0, c0⟩, ⟨a1, n1, c1⟩, ⟨a2, n2, c2⟩, ⟨a3, n3, c3⟩, ⟨a4, n4, c4⟩, ⟨a5, n5, c5⟩, ⟨a6, n6, c6⟩⟩ := r
  have HNS := Lib.hid hp.st.1
  have HNR := Lib.hid hp.rc.1
  dsimp only at HNS HNR ⊢
  obtain rfl := HNS.out
  obtain rfl := HNR.out
  clear HNS HNR
  have hls := hp.st.len
  have hlr := hp.rc.len
  have HP := Lib.hid hp
  have HQ5 := Lib.hid hp.st
  have HQ6 := Lib.hid hp.rc
  have HQ0 := Lib.hid hp.it
  dsimp only at HQ5 HQ6 HQ0
  have HO := Lib.hid hok
  clear hp hok
  have hb0 := below_alloc w (.cells #[.slice a0 n0 c0, .slice a1 n1 c1, .slice a2 n2 c2, .slice a3 n3 c3, .slice a4 n4 c4, .slice a5 p.st.length c5, .slice a6 p.rc.length c6] 34)
  have hb : Below w.heap.size w ((w.alloc (.cells #[.slice a0 n0 c0, .slice a1 n1 c1, .slice a2 n2 c2, .slice a3 n3 c3, .slice a4 n4 c4, .slice a5 p.st.length c5, .slice a6 p.rc.length c6] 34)).alloc (.cells #[] 53)) := below_on hb0 (below_alloc _ _)
  have B0 : BoxOf ((w.alloc (.cells #[.slice a0 n0 c0, .slice a1 n1 c1, .slice a2 n2 c2, .slice a3 n3 c3, .slice a4 n4 c4, .slice a5 p.st.length c5, .slice a6 p.rc.length c6] 34)).alloc (.cells #[] 53)) w.heap.size [.slice a0 n0 c0, .slice a1 n1 c1, .slice a2 n2 c2, .slice a3 n3 c3, .slice a4 n4 c4, .slice a5 p.st.length c5, .slice a6 p.rc.length c6] := (boxOf_alloc w #[.slice a0 n0 c0, .slice a1 n1 c1, .slice a2 n2 c2, .slice a3 n3 c3, .slice a4 n4 c4, .slice a5 p.st.length c5, .slice a6 p.rc.length c6] 34).keep (below_alloc _ _)
  have hr : RowVal flF 53 ((w.alloc (.cells #[.slice a0 n0 c0, .slice a1 n1 c1, .slice a2 n2 c2, .slice a3 n3 c3, .slice a4 n4 c4, .slice a5 p.st.length c5, .slice a6 p.rc.length c6] 34)).alloc (.cells #[] 53)) w.heap.size (.slice (some ⟨w.heap.size + 1, 0, none⟩) 0 0) [] := empty_row (by simp) hb0.size
  clear hb0
  cases g : isPlant p
  · have HN : Hid (receiptFlows p s = []) := receiptFlows_no g
    go_enter Try.func24, Try.ntmps24
    go_wp2_with fail
    generalize ((w.alloc (.cells #[.slice a0 n0 c0, .slice a1 n1 c1, .slice a2 n2 c2, .slice a3 n3 c3, .slice a4 n4 c4, .slice a5 p.st.length c5, .slice a6 p.rc.length c6] 34)).alloc (.cells #[] 53)) = V at *
    refine (implIsPlant_any ⟨⟨a0, n0, c0⟩, ⟨a1, n1, c1⟩, ⟨a2, n2, c2⟩, ⟨a3, n3, c3⟩, ⟨a4, n4, c4⟩, ⟨a5, p.st.length, c5⟩, ⟨a6, p.rc.length, c6⟩⟩ p _ (HP.out.keep hb) HO.out).mono ?_
    rintro e V1 ⟨rfl, hs⟩
    rw [g]
    replace hb := below_on hb hs
    replace B0 := B0.keep hs
    replace hr := hr.keep hs
    clear hs
    go_wp2_with fail
    go_ret
    rw [HN.out]
    exact oneRow_mk hr hb
  have HPR := Lib.hid (rcTo_parts p s g)
  have HM := Lib.hid (isPlant_parts g).2.2.2.2.2
  have hl16 := (isPlant_parts g).2.2.2.1
  go_enter Try.func24, Try.ntmps24
  go_wp2_with fail
  generalize ((w.alloc (.cells #[.slice a0 n0 c0, .slice a1 n1 c1, .slice a2 n2 c2, .slice a3 n3 c3, .slice a4 n4 c4, .slice a5 p.st.length c5, .slice a6 p.rc.length c6] 34)).alloc (.cells #[] 53)) = V at *
  refine (implIsPlant_any ⟨⟨a0, n0, c0⟩, ⟨a1, n1, c1⟩, ⟨a2, n2, c2⟩, ⟨a3, n3, c3⟩, ⟨a4, n4, c4⟩, ⟨a5, p.st.length, c5⟩, ⟨a6, p.rc.length, c6⟩⟩ p _ (HP.out.keep hb) HO.out).mono ?_
  rintro e V1 ⟨rfl, hs⟩
  rw [g]
  replace hb := below_on hb hs
  replace B0 := B0.keep hs
  replace hr := hr.keep hs
  clear hs
  obtain ⟨b0, b1, b2, b3, b4, b5, b6, bl⟩ := B0.seven
  go_wp2_with fail
  clear b0 b1 b2 b3 b4 b5 b6 bl
  go_loopw [5, 16] (fun v i wr => ∃ k : Nat, k ≤ p.rc.length ∧ i = .int .i64 k ∧ RowVal flF 53 wr w.heap.size v (rcTo p.rc s k) ∧ BoxOf wr w.heap.size [.slice a0 n0 c0, .slice a1 n1 c1, .slice a2 n2 c2, .slice a3 n3 c3, .slice a4 n4 c4, .slice a5 p.st.length c5, .slice a6 p.rc.length c6] ∧ Below w.heap.size w wr) (fun _ i _ => p.rc.length - (intOf i).toNat)
  case atStart => exact ⟨0, by omega, rfl, hr, B0, hb⟩
  case round =>
    clear hr B0 hb
    obtain ⟨k, hk, rfl, hrow, B0, hb⟩ := hrel
    obtain ⟨p1, p2, p3⟩ := HPR.out k hk
    obtain ⟨A2, c9, rfl, ho⟩ := hrow.form
    obtain ⟨k1, k2⟩ := own_cap ho
    clear hrow
    have HPA := Lib.hid p1
    clear p1
    by_cases hlt : k < p.rc.length
    · have HS := Lib.hid (rcTo_succ p.rc s k hlt)
      obtain ⟨_, ⟨m1, m2⟩, m3, m4⟩ := HM.out k hlt
      have HQ : Hid (∀ f ∈ rcTo p.rc s k, -1000000000000 ≤ f.2 ∧ f.2 ≤ 1000000000000) := fun f hf => by have := p3 f hf; omega
      clear p3
      obtain ⟨b, o, rfl, hbl, hc0, hc1, hc2⟩ := receipt_at (HQ6.out.keep hb) hlt
      have hs := below_alloc wr (.cells #[.string p.rc[k].1, .int .i64 p.rc[k].2.1, .int .i64 p.rc[k].2.2] 67)
      have HA := below_on hb hs
      have ho2 := ho.keep hs
      have B2 := B0.keep hs
      clear hs
      cases heq : (p.rc[k].1.toList == s.toList)
      · have HE : Hid (rcStep s (rcTo p.rc s k) p.rc[k] = rcTo p.rc s k) := by show _ = _; unfold rcStep; rw [heq]; rfl
        go_wp2_with fail
        go_roundw
        case rel => exact ⟨k + 1, by omega, by go_num, by rw [HS.out, HE.out]; exact ho2.val, B2, HA⟩
        case measure => simp [intOf]; omega
      · have HE : Hid (rcStep s (rcTo p.rc s k) p.rc[k] = addS (rcTo p.rc s k) p.rc[k].2.1 p.rc[k].2.2) := by show _ = _; unfold rcStep; rw [heq]; rfl
        go_wp2_with fail
        refine (addFlow_any _ _ _ (rcTo p.rc s k) _ _ _ (ho2.rows (by omega)) (by omega) HQ.out (by omega)).mono ?_
        rintro e w3 ⟨A3, c3, rfl, ho3, hb3⟩
        rw [addI_eq _ _ _ HPA.out, ← HE.out, ← HS.out] at ho3
        rw [addI_eq _ _ _ HPA.out, ← HE.out, ← HS.out]
        go_wp2_with fail
        go_roundw
        case rel => exact ⟨k + 1, by omega, by go_num, (ho3.lower HA.size).val, B2.keep hb3, below_on HA hb3⟩
        case measure => simp [intOf]; omega
    · obtain rfl : k = p.rc.length := by omega
      have HY := Lib.hid (receiptFlows_yes (item := s) g)
      clear p3
      go_wp2_with fail
      go_ret
      rw [HY.out]
      exact oneRow_mk ho.val hb
end Go.Proofs.Ytpbibkjcjgggdaa
/- A cell of a row of numbers, with getD. -/
namespace Go.Proofs.Ytpbibkjcjgggdaa
open Go.RowKit
theorem getD_cell {l : List Int} {j : Nat} (h : j < l.length) : l.getD j 0 = l[j] := by rw [List.getD_eq_getElem?_getD, List.getElem?_eq_getElem h]; rfl
theorem NumRow.cellD {w : World} {lo g n c : Nat} {l : List Int} (h : NumRow w lo g n c l) {j : Nat} (hj : j < l.length) : w.cell? ⟨g, j, none⟩ = some (.int .i64 (l.getD j 0)) := by rw [getD_cell hj]; exact h.cell hj
end Go.Proofs.Ytpbibkjcjgggdaa
