/- Part 11 of the texts of this claim: The walks of ArePlanned; What is taken of an item on each day (plain); The walks of ReceiptFlows; A cell of a row of numbers, with getD; The walks of the hours of a day and of what machines can work on it. -/
import Derived.Test.YtlkolehdikfddaaTr10
import Derived.Test.YtlkolehdikfddaaTr6
import Derived.Test.YtlkolehdikfddaaTr7
import Derived.Test.YtlkolehdikfddaaTr8
import Derived.Test.YtlkolehdikfddaaTr4
import Derived.Test.YtlkolehdikfddaaTr9
/- The walks of ArePlanned. -/
namespace Go.Proofs.Ytlkolehdikfddaa
open Go.RowKit
def okPlan (it : List It) (x : Pl) : Bool :=
  decide (0 ≤ findIt it x.1) && ((!((it.getD (findIt it x.1).toNat itNone).2.2.1 == 2)) && (inB x.2.1 1 100000 && (inB x.2.2.2.1 0 999 && inB x.2.2.1 0 x.2.2.2.1)))
def arePlanned (p : Pt) (l : List Pl) : Bool := l.all (okPlan p.it) && (isPlant p && decide ((l.length : Int) ≤ 500))
theorem arePlanned_bad {p : Pt} {l : List Pl} {k : Nat} (hk : k < l.length) (h : okPlan p.it l[k] = false) : arePlanned p l = false := by unfold arePlanned; rw [all_false l _ k hk h]; rfl
theorem arePlanned_end {p : Pt} {l : List Pl} (h : (l.take l.length).all (okPlan p.it) = true) : arePlanned p l = (isPlant p && decide ((l.length : Int) ≤ 500)) := by
  rw [List.take_length] at h
  unfold arePlanned; rw [h]; rfl
theorem arePlanned_no {p : Pt} {l : List Pl} (h : (isPlant p && decide ((l.length : Int) ≤ 500)) = false) : arePlanned p l = false := by unfold arePlanned; rw [h]; simp
theorem okPlan_eq {it : List It} {x : Pl} {q : Nat} {b1 b2 b3 b4 : Bool} (hq : findIt it x.1 = (q : Int)) (hq1 : q < it.length) (h1 : (it[q].2.2.1 == 2) = b1) (h2 : inB x.2.1 1 100000 = b2) (h3 : inB x.2.2.2.1 0 999 = b3) (h4 : inB x.2.2.1 0 x.2.2.2.1 = b4) : okPlan it x = (!b1 && (b2 && (b3 && b4))) := by
  unfold okPlan
  rw [hq, h2, h3, h4, decide_eq_true (by omega), Int.toNat_natCast, it_getD _ _ hq1, h1]; rfl
theorem arePlanned_parts {p : Pt} {l : List Pl} (h : arePlanned p l = true) : isPlant p = true ∧ l.length ≤ 500 ∧ ∀ k (hk : k < l.length), 0 ≤ findIt p.it l[k].1 ∧ (p.it.getD (findIt p.it l[k].1).toNat itNone).2.2.1 ≠ 2 ∧ (1 ≤ l[k].2.1 ∧ l[k].2.1 ≤ 100000) ∧ (0 ≤ l[k].2.2.2.1 ∧ l[k].2.2.2.1 ≤ 999) ∧ (0 ≤ l[k].2.2.1 ∧ l[k].2.2.1 ≤ l[k].2.2.2.1) := by
  simp only [arePlanned, Bool.and_eq_true, decide_eq_true_eq, List.all_eq_true] at h
  obtain ⟨h1, h2, h3⟩ := h
  refine ⟨h2, by omega, fun k hk => ?_⟩
  have := h1 _ (List.getElem_mem hk)
  simp only [okPlan, Bool.and_eq_true, decide_eq_true_eq, inB_iff, Bool.not_eq_true', beq_eq_false_iff_ne] at this
  exact this
set_option maxRecDepth 100000 in
set_option maxHeartbeats 4000000 in
theorem specArePlanned_any (r : PtR) (p : Pt) (A : Option Addr) (n c : Nat) (l : List Pl) (w : World) (hp : PlantIn w r p) (hok : okPt p) (hl : PlannedsIn w A n l) (hokl : ∀ x ∈ l, okPl x) :
    Calls Try.prog 20 #[.agg #[.slice r.i.a r.i.n r.i.c, .slice r.l.a r.l.n r.l.c, .slice r.w.a r.w.n r.w.c, .slice r.e.a r.e.n r.e.c, .slice r.p.a r.p.n r.p.c, .slice r.s.a r.s.n r.s.c, .slice r.q.a r.q.n r.q.c], .slice A n c] w fun e w' => e = .returned (.bool (arePlanned p l)) ∧ Below w.heap.size w w' := by
  obtain ⟨⟨a0, n0, c0⟩, ⟨a1, n1, c1⟩, ⟨a2, n2, c2⟩, ⟨a3, n3, c3⟩, ⟨a4, n4, c4⟩, ⟨a5, n5, c5⟩, ⟨a6, n6, c6⟩⟩ := r
  have HNS := Lib.hid hp.st.1
  have HNR := Lib.hid hp.rc.1
  dsimp only at HNS HNR ⊢
  obtain rfl := HNS.out
  obtain rfl := HNR.out
  clear HNS HNR
  have hls := hp.st.len
  have hlr := hp.rc.len
  have HP := Lib.hid hp
  have HQ5 := Lib.hid hp.st
  have HQ6 := Lib.hid hp.rc
  have HQ0 := Lib.hid hp.it
  dsimp only at HQ5 HQ6 HQ0
  have HO := Lib.hid hok
  clear hp hok
  have hn := hl.len
  obtain rfl := hl.1
  have HOL := Lib.hid hokl
  clear hokl
  have hb := below_alloc w (.cells #[.slice a0 n0 c0, .slice a1 n1 c1, .slice a2 n2 c2, .slice a3 n3 c3, .slice a4 n4 c4, .slice a5 p.st.length c5, .slice a6 p.rc.length c6] 34)
  have B0 : BoxOf (w.alloc (.cells #[.slice a0 n0 c0, .slice a1 n1 c1, .slice a2 n2 c2, .slice a3 n3 c3, .slice a4 n4 c4, .slice a5 p.st.length c5, .slice a6 p.rc.length c6] 34)) w.heap.size [.slice a0 n0 c0, .slice a1 n1 c1, .slice a2 n2 c2, .slice a3 n3 c3, .slice a4 n4 c4, .slice a5 p.st.length c5, .slice a6 p.rc.length c6] := boxOf_alloc w #[.slice a0 n0 c0, .slice a1 n1 c1, .slice a2 n2 c2, .slice a3 n3 c3, .slice a4 n4 c4, .slice a5 p.st.length c5, .slice a6 p.rc.length c6] 34
  go_enter Try.func20, Try.ntmps20
  go_wp2_with fail
  generalize (w.alloc (.cells #[.slice a0 n0 c0, .slice a1 n1 c1, .slice a2 n2 c2, .slice a3 n3 c3, .slice a4 n4 c4, .slice a5 p.st.length c5, .slice a6 p.rc.length c6] 34)) = V at *
  go_loopw [5] (fun i wr => ∃ k : Nat, k ≤ l.length ∧ i = .int .i64 k ∧ Hid ((l.take k).all (okPlan p.it) = true) ∧ BoxOf wr w.heap.size [.slice a0 n0 c0, .slice a1 n1 c1, .slice a2 n2 c2, .slice a3 n3 c3, .slice a4 n4 c4, .slice a5 p.st.length c5, .slice a6 p.rc.length c6] ∧ Below w.heap.size w wr) (fun i _ => l.length - (intOf i).toNat)
  case atStart => exact ⟨0, by omega, rfl, rfl, B0, hb⟩
  case round =>
    clear B0 hb
    obtain ⟨k, hk, rfl, HI, B0, hb⟩ := hrel
    by_cases hlt : k < l.length
    · obtain ⟨b, o, rfl, hbl, hc0, hc1, hc2, hc3, hc4⟩ := planned_at (hl.keep hb) hlt
      obtain ⟨f3, f3b⟩ := findIt_bd p.it l[k].1
      have HIT := Lib.hid (HQ0.out.keep hb)
      obtain ⟨b0, b1, b2, b3, b4, b5, b6, bl⟩ := B0.seven
      go_wp2_with fail
      go_quiet ((go_at_call 10; refine (specFindItem_any _ _ _ p.it _ _ (HIT.out.keep (below_drewN (Below.refl _ _) _))).mono ?_; rintro e w' ⟨rfl, rfl⟩; exact ⟨rfl, _, rfl⟩))
      replace hb := below_drewN hb nq
      replace B0 := B0.keep (below_drewN (Below.refl wr.heap.size wr) nq)
      clear b0 b1 b2 b3 b4 b5 b6 bl
      generalize hWq : wr.drewN nq = wq at *
      obtain ⟨_, _, e9, hbl2, d0, d1, d2, d3, d4⟩ := planned_at (hl.keep hb) hlt
      obtain ⟨rfl, rfl⟩ : b = _ ∧ o = _ := by simpa using e9
      clear e9 hc0 hc1 hc2 hc3 hc4 hbl HIT hWq
      obtain ⟨b0, b1, b2, b3, b4, b5, b6, bl⟩ := B0.seven
      by_cases f1 : 0 ≤ findIt p.it l[k].1
      case neg =>
        have HF : Hid (arePlanned p l = false) := arePlanned_bad hlt (by unfold okPlan; rw [decide_eq_false f1]; rfl)
        have f5 : findIt p.it l[k].1 < 0 := by omega
        have f6 : decide (findIt p.it l[k].1 < 0) = true := decide_eq_true f5
        clear f3 f3b f1
        go_wp2_with fail
        go_quiet ((go_at_call 42; exact quietS (l1In_any _ _ _)))
        go_wp2
        go_ret
        exact ⟨ret_bool HF.out.symm, below_drewN hb _⟩
      obtain ⟨qn, hqn⟩ : ∃ qn : Nat, findIt p.it l[k].1 = (qn : Int) := ⟨(findIt p.it l[k].1).toNat, by omega⟩
      have q1 : qn < p.it.length := by omega
      have q2 : (qn : Int) < (p.it.length : Int) := by omega
      have q3 : (0 : Int) ≤ (qn : Int) := by omega
      have q4 : decide ((qn : Int) < 0) = false := decide_eq_false (by omega)
      have hn0 := HQ0.out.1
      obtain ⟨bi, oi, e0, _, _, _, hk2, _⟩ := item_at (HQ0.out.keep hb) q1
      subst e0
      subst hn0
      rw [hqn]
      have HQN := Lib.hid hqn
      clear f1 f3 f3b hqn
      cases g1 : (p.it[qn].2.2.1 == 2)
      case true =>
        have HF : Hid (arePlanned p l = false) := arePlanned_bad hlt ((okPlan_eq HQN.out q1 g1 rfl rfl rfl).trans (by simp))
        go_wp2_with fail
        go_quiet ((go_at_call 42; exact quietS (l1In_any _ _ _)))
        go_wp2
        go_ret
        exact ⟨ret_bool HF.out.symm, below_drewN hb _⟩
      cases g2 : inB l[k].2.1 1 100000
      case false =>
        have HF : Hid (arePlanned p l = false) := arePlanned_bad hlt ((okPlan_eq HQN.out q1 g1 g2 rfl rfl).trans (by simp))
        go_wp2_with fail
        go_quiet ((go_at_call 42; exact quietS (l1In_any _ _ _)))
        go_wp2
        go_ret
        exact ⟨ret_bool HF.out.symm, below_drewN hb _⟩
      cases g3 : inB l[k].2.2.2.1 0 999
      case false =>
        have HF : Hid (arePlanned p l = false) := arePlanned_bad hlt ((okPlan_eq HQN.out q1 g1 g2 g3 rfl).trans (by simp))
        go_wp2_with fail
        go_quiet ((go_at_call 42; exact quietS (l1In_any _ _ _)))
        go_wp2
        go_ret
        exact ⟨ret_bool HF.out.symm, below_drewN hb _⟩
      cases g4 : inB l[k].2.2.1 0 l[k].2.2.2.1
      case false =>
        have HF : Hid (arePlanned p l = false) := arePlanned_bad hlt ((okPlan_eq HQN.out q1 g1 g2 g3 g4).trans (by simp))
        go_wp2_with fail
        go_quiet ((go_at_call 42; exact quietS (l1In_any _ _ _)))
        go_wp2
        go_ret
        exact ⟨ret_bool HF.out.symm, below_drewN hb _⟩
      have HF : Hid ((l.take (k + 1)).all (okPlan p.it) = true) := by
        show _ = _
        rw [all_take l _ k hlt, HI.out, okPlan_eq HQN.out q1 g1 g2 g3 g4]; rfl
      go_wp2_with fail
      go_quiet ((go_at_call 42; exact quietS (l1In_any _ _ _)))
      go_wp2
      go_roundw
      case rel => exact ⟨k + 1, by omega, by go_num, HF.out, B0.keep (below_drewN (Below.refl _ _) _), below_drewN hb _⟩
      case measure => simp [intOf]; omega
    · obtain rfl : k = l.length := by omega
      have HE := Lib.hid (arePlanned_end HI.out)
      cases g : isPlant p
      · obtain ⟨b0, b1, b2, b3, b4, b5, b6, bl⟩ := B0.seven
        go_wp2_with fail
        refine (specIsPlant_any ⟨⟨a0, n0, c0⟩, ⟨a1, n1, c1⟩, ⟨a2, n2, c2⟩, ⟨a3, n3, c3⟩, ⟨a4, n4, c4⟩, ⟨a5, p.st.length, c5⟩, ⟨a6, p.rc.length, c6⟩⟩ p _ (HP.out.keep hb) HO.out).mono ?_
        rintro e V1 ⟨rfl, hs⟩
        rw [g]
        replace hb := below_on hb hs
        replace B0 := B0.keep hs
        clear hs
        go_wp2_with fail
        go_ret
        exact ⟨ret_bool (by rw [HE.out, g, Bool.false_and]), hb⟩
      by_cases h5 : (l.length : Int) ≤ 500
      · have HF : Hid (arePlanned p l = true) := by show _ = _; rw [HE.out, g, decide_eq_true h5]; rfl
        obtain ⟨b0, b1, b2, b3, b4, b5, b6, bl⟩ := B0.seven
        go_wp2_with fail
        refine (specIsPlant_any ⟨⟨a0, n0, c0⟩, ⟨a1, n1, c1⟩, ⟨a2, n2, c2⟩, ⟨a3, n3, c3⟩, ⟨a4, n4, c4⟩, ⟨a5, p.st.length, c5⟩, ⟨a6, p.rc.length, c6⟩⟩ p _ (HP.out.keep hb) HO.out).mono ?_
        rintro e V1 ⟨rfl, hs⟩
        rw [g]
        replace hb := below_on hb hs
        replace B0 := B0.keep hs
        clear hs
        go_wp2_with fail
        go_ret
        exact ⟨ret_bool (by first | exact HF.out.symm | (rw [HF.out]; exact decide_eq_false (by omega))), hb⟩
      · have HF : Hid (arePlanned p l = false) := by show _ = _; rw [HE.out, g, decide_eq_false h5]; rfl
        obtain ⟨b0, b1, b2, b3, b4, b5, b6, bl⟩ := B0.seven
        go_wp2_with fail
        refine (specIsPlant_any ⟨⟨a0, n0, c0⟩, ⟨a1, n1, c1⟩, ⟨a2, n2, c2⟩, ⟨a3, n3, c3⟩, ⟨a4, n4, c4⟩, ⟨a5, p.st.length, c5⟩, ⟨a6, p.rc.length, c6⟩⟩ p _ (HP.out.keep hb) HO.out).mono ?_
        rintro e V1 ⟨rfl, hs⟩
        rw [g]
        replace hb := below_on hb hs
        replace B0 := B0.keep hs
        clear hs
        go_wp2_with fail
        go_ret
        exact ⟨ret_bool (by first | exact HF.out.symm | (rw [HF.out]; exact decide_eq_false (by omega))), hb⟩
set_option maxRecDepth 100000 in
set_option maxHeartbeats 4000000 in
theorem implArePlanned_any (r : PtR) (p : Pt) (A : Option Addr) (n c : Nat) (l : List Pl) (w : World) (hp : PlantIn w r p) (hok : okPt p) (hl : PlannedsIn w A n l) (hokl : ∀ x ∈ l, okPl x) :
    Calls Try.prog 16 #[.agg #[.slice r.i.a r.i.n r.i.c, .slice r.l.a r.l.n r.l.c, .slice r.w.a r.w.n r.w.c, .slice r.e.a r.e.n r.e.c, .slice r.p.a r.p.n r.p.c, .slice r.s.a r.s.n r.s.c, .slice r.q.a r.q.n r.q.c], .slice A n c] w fun e w' => e = .returned (.bool (arePlanned p l)) ∧ Below w.heap.size w w' := by
  obtain ⟨⟨a0, n0, c0⟩, ⟨a1, n1, c1⟩, ⟨a2, n2, c2⟩, ⟨a3, n3, c3⟩, ⟨a4, n4, c4⟩, ⟨a5, n5, c5⟩, ⟨a6, n6, c6⟩⟩ := r
  have HNS := Lib.hid hp.st.1
  have HNR := Lib.hid hp.rc.1
  dsimp only at HNS HNR ⊢
  obtain rfl := HNS.out
  obtain rfl := HNR.out
  clear HNS HNR
  have hls := hp.st.len
  have hlr := hp.rc.len
  have HP := Lib.hid hp
  have HQ5 := Lib.hid hp.st
  have HQ6 := Lib.hid hp.rc
  have HQ0 := Lib.hid hp.it
  dsimp only at HQ5 HQ6 HQ0
  have HO := Lib.hid hok
  clear hp hok
  have hn := hl.len
  obtain rfl := hl.1
  have HOL := Lib.hid hokl
  clear hokl
  have hb := below_alloc w (.cells #[.slice a0 n0 c0, .slice a1 n1 c1, .slice a2 n2 c2, .slice a3 n3 c3, .slice a4 n4 c4, .slice a5 p.st.length c5, .slice a6 p.rc.length c6] 34)
  have B0 : BoxOf (w.alloc (.cells #[.slice a0 n0 c0, .slice a1 n1 c1, .slice a2 n2 c2, .slice a3 n3 c3, .slice a4 n4 c4, .slice a5 p.st.length c5, .slice a6 p.rc.length c6] 34)) w.heap.size [.slice a0 n0 c0, .slice a1 n1 c1, .slice a2 n2 c2, .slice a3 n3 c3, .slice a4 n4 c4, .slice a5 p.st.length c5, .slice a6 p.rc.length c6] := boxOf_alloc w #[.slice a0 n0 c0, .slice a1 n1 c1, .slice a2 n2 c2, .slice a3 n3 c3, .slice a4 n4 c4, .slice a5 p.st.length c5, .slice a6 p.rc.length c6] 34
  cases g : isPlant p
  · have HN : Hid (arePlanned p l = false) := arePlanned_no (by rw [g]; rfl)
    go_enter Try.func16, Try.ntmps16
    go_wp2_with fail
    generalize (w.alloc (.cells #[.slice a0 n0 c0, .slice a1 n1 c1, .slice a2 n2 c2, .slice a3 n3 c3, .slice a4 n4 c4, .slice a5 p.st.length c5, .slice a6 p.rc.length c6] 34)) = V at *
    refine (implIsPlant_any ⟨⟨a0, n0, c0⟩, ⟨a1, n1, c1⟩, ⟨a2, n2, c2⟩, ⟨a3, n3, c3⟩, ⟨a4, n4, c4⟩, ⟨a5, p.st.length, c5⟩, ⟨a6, p.rc.length, c6⟩⟩ p _ (HP.out.keep hb) HO.out).mono ?_
    rintro e V1 ⟨rfl, hs⟩
    rw [g]
    replace hb := below_on hb hs
    replace B0 := B0.keep hs
    clear hs
    go_wp2_with fail
    go_ret
    exact ⟨ret_bool HN.out.symm, hb⟩
  by_cases h5 : (l.length : Int) ≤ 500
  case neg =>
    have HN : Hid (arePlanned p l = false) := arePlanned_no (by rw [g, decide_eq_false h5]; rfl)
    go_enter Try.func16, Try.ntmps16
    go_wp2_with fail
    generalize (w.alloc (.cells #[.slice a0 n0 c0, .slice a1 n1 c1, .slice a2 n2 c2, .slice a3 n3 c3, .slice a4 n4 c4, .slice a5 p.st.length c5, .slice a6 p.rc.length c6] 34)) = V at *
    refine (implIsPlant_any ⟨⟨a0, n0, c0⟩, ⟨a1, n1, c1⟩, ⟨a2, n2, c2⟩, ⟨a3, n3, c3⟩, ⟨a4, n4, c4⟩, ⟨a5, p.st.length, c5⟩, ⟨a6, p.rc.length, c6⟩⟩ p _ (HP.out.keep hb) HO.out).mono ?_
    rintro e V1 ⟨rfl, hs⟩
    rw [g]
    replace hb := below_on hb hs
    replace B0 := B0.keep hs
    clear hs
    go_wp2_with fail
    go_ret
    exact ⟨ret_bool HN.out.symm, hb⟩
  go_enter Try.func16, Try.ntmps16
  go_wp2_with fail
  generalize (w.alloc (.cells #[.slice a0 n0 c0, .slice a1 n1 c1, .slice a2 n2 c2, .slice a3 n3 c3, .slice a4 n4 c4, .slice a5 p.st.length c5, .slice a6 p.rc.length c6] 34)) = V at *
  refine (implIsPlant_any ⟨⟨a0, n0, c0⟩, ⟨a1, n1, c1⟩, ⟨a2, n2, c2⟩, ⟨a3, n3, c3⟩, ⟨a4, n4, c4⟩, ⟨a5, p.st.length, c5⟩, ⟨a6, p.rc.length, c6⟩⟩ p _ (HP.out.keep hb) HO.out).mono ?_
  rintro e V1 ⟨rfl, hs⟩
  rw [g]
  replace hb := below_on hb hs
  replace B0 := B0.keep hs
  clear hs
  go_wp2_with fail
  go_loopw [18] (fun i wr => ∃ k : Nat, k ≤ l.length ∧ i = .int .i64 k ∧ Hid ((l.take k).all (okPlan p.it) = true) ∧ BoxOf wr w.heap.size [.slice a0 n0 c0, .slice a1 n1 c1, .slice a2 n2 c2, .slice a3 n3 c3, .slice a4 n4 c4, .slice a5 p.st.length c5, .slice a6 p.rc.length c6] ∧ Below w.heap.size w wr) (fun i _ => l.length - (intOf i).toNat)
  case atStart => exact ⟨0, by omega, rfl, rfl, B0, hb⟩
  case round =>
    clear B0 hb
    obtain ⟨k, hk, rfl, HI, B0, hb⟩ := hrel
    by_cases hlt : k < l.length
    · obtain ⟨b, o, rfl, hbl, hc0, hc1, hc2, hc3, hc4⟩ := planned_at (hl.keep hb) hlt
      obtain ⟨f3, f3b⟩ := findIt_bd p.it l[k].1
      have hs := below_alloc wr (.cells #[.string l[k].1, .int .i64 l[k].2.1, .int .i64 l[k].2.2.1, .int .i64 l[k].2.2.2.1, .bool l[k].2.2.2.2] 44)
      have hB := below_on hb hs
      have BB := B0.keep hs
      have d0 : (wr.alloc (.cells #[.string l[k].1, .int .i64 l[k].2.1, .int .i64 l[k].2.2.1, .int .i64 l[k].2.2.2.1, .bool l[k].2.2.2.2] 44)).cell? ⟨wr.heap.size, 0, none⟩ = some (.string l[k].1) := by simp [go_sem]
      have d1 : (wr.alloc (.cells #[.string l[k].1, .int .i64 l[k].2.1, .int .i64 l[k].2.2.1, .int .i64 l[k].2.2.2.1, .bool l[k].2.2.2.2] 44)).cell? ⟨wr.heap.size, 1, none⟩ = some (.int .i64 l[k].2.1) := by simp [go_sem]
      have d2 : (wr.alloc (.cells #[.string l[k].1, .int .i64 l[k].2.1, .int .i64 l[k].2.2.1, .int .i64 l[k].2.2.2.1, .bool l[k].2.2.2.2] 44)).cell? ⟨wr.heap.size, 2, none⟩ = some (.int .i64 l[k].2.2.1) := by simp [go_sem]
      have d3 : (wr.alloc (.cells #[.string l[k].1, .int .i64 l[k].2.1, .int .i64 l[k].2.2.1, .int .i64 l[k].2.2.2.1, .bool l[k].2.2.2.2] 44)).cell? ⟨wr.heap.size, 3, none⟩ = some (.int .i64 l[k].2.2.2.1) := by simp [go_sem]
      have d4 : (wr.alloc (.cells #[.string l[k].1, .int .i64 l[k].2.1, .int .i64 l[k].2.2.1, .int .i64 l[k].2.2.2.1, .bool l[k].2.2.2.2] 44)).cell? ⟨wr.heap.size, 4, none⟩ = some (.bool l[k].2.2.2.2) := by simp [go_sem]
      have dl : wr.heap.size < (wr.alloc (.cells #[.string l[k].1, .int .i64 l[k].2.1, .int .i64 l[k].2.2.1, .int .i64 l[k].2.2.2.1, .bool l[k].2.2.2.2] 44)).heap.size := by simp
      have BN : BoxOf (wr.alloc (.cells #[.string l[k].1, .int .i64 l[k].2.1, .int .i64 l[k].2.2.1, .int .i64 l[k].2.2.2.1, .bool l[k].2.2.2.2] 44)) wr.heap.size [.string l[k].1, .int .i64 l[k].2.1, .int .i64 l[k].2.2.1, .int .i64 l[k].2.2.2.1, .bool l[k].2.2.2.2] := boxOf_alloc wr #[.string l[k].1, .int .i64 l[k].2.1, .int .i64 l[k].2.2.1, .int .i64 l[k].2.2.2.1, .bool l[k].2.2.2.2] 44
      clear d0 d1 d2 d3 d4 dl
      obtain ⟨b0, b1, b2, b3, b4, b5, b6, bl⟩ := BB.seven
      go_wp2_with fail
      generalize wr.alloc (.cells #[.string l[k].1, .int .i64 l[k].2.1, .int .i64 l[k].2.2.1, .int .i64 l[k].2.2.2.1, .bool l[k].2.2.2.2] 44) = wq at *
      generalize wr.heap.size = N at *
      clear hc0 hc1 hc2 hc3 hc4 hs hb B0 b0 b1 b2 b3 b4 b5 b6 bl
      refine (implFindItem_any _ _ _ p.it _ _ (HQ0.out.keep hB)).mono ?_
      rintro e w3 ⟨rfl, hs⟩
      replace hB := below_on hB hs
      replace BB := BB.keep hs
      replace BN := BN.keep hs
      clear hs
      have d0 := BN.2 0 _ rfl
      have d1 := BN.2 1 _ rfl
      have d2 := BN.2 2 _ rfl
      have d3 := BN.2 3 _ rfl
      have d4 := BN.2 4 _ rfl
      clear BN
      obtain ⟨b0, b1, b2, b3, b4, b5, b6, bl⟩ := BB.seven
      by_cases f1 : 0 ≤ findIt p.it l[k].1
      case neg =>
        have HF : Hid (arePlanned p l = false) := arePlanned_bad hlt (by unfold okPlan; rw [decide_eq_false f1]; rfl)
        have f5 : findIt p.it l[k].1 < 0 := by omega
        have f6 : decide (findIt p.it l[k].1 < 0) = true := decide_eq_true f5
        clear f3 f3b f1
        go_wp2_with (go_at_call 25; refine (in_any _ _ _ _).mono ?_; rintro e w' ⟨rfl, rfl⟩)
        go_ret
        exact ⟨ret_bool HF.out.symm, hB⟩
      obtain ⟨qn, hqn⟩ : ∃ qn : Nat, findIt p.it l[k].1 = (qn : Int) := ⟨(findIt p.it l[k].1).toNat, by omega⟩
      have q1 : qn < p.it.length := by omega
      have q2 : (qn : Int) < (p.it.length : Int) := by omega
      have q3 : (0 : Int) ≤ (qn : Int) := by omega
      have q4 : decide ((qn : Int) < 0) = false := decide_eq_false (by omega)
      have hn0 := HQ0.out.1
      obtain ⟨bi, oi, e0, _, _, _, hk2, _⟩ := item_at (HQ0.out.keep hB) q1
      subst e0
      subst hn0
      rw [hqn]
      have HQN := Lib.hid hqn
      clear f1 f3 f3b hqn
      cases g1 : (p.it[qn].2.2.1 == 2)
      case true =>
        have HF : Hid (arePlanned p l = false) := arePlanned_bad hlt ((okPlan_eq HQN.out q1 g1 rfl rfl rfl).trans (by simp))
        go_wp2_with (go_at_call 25; refine (in_any _ _ _ _).mono ?_; rintro e w' ⟨rfl, rfl⟩)
        go_ret
        exact ⟨ret_bool HF.out.symm, hB⟩
      cases g2 : inB l[k].2.1 1 100000
      case false =>
        have HF : Hid (arePlanned p l = false) := arePlanned_bad hlt ((okPlan_eq HQN.out q1 g1 g2 rfl rfl).trans (by simp))
        go_wp2_with (go_at_call 25; refine (in_any _ _ _ _).mono ?_; rintro e w' ⟨rfl, rfl⟩)
        go_ret
        exact ⟨ret_bool HF.out.symm, hB⟩
      cases g3 : inB l[k].2.2.2.1 0 999
      case false =>
        have HF : Hid (arePlanned p l = false) := arePlanned_bad hlt ((okPlan_eq HQN.out q1 g1 g2 g3 rfl).trans (by simp))
        go_wp2_with (go_at_call 25; refine (in_any _ _ _ _).mono ?_; rintro e w' ⟨rfl, rfl⟩)
        go_ret
        exact ⟨ret_bool HF.out.symm, hB⟩
      cases g4 : inB l[k].2.2.1 0 l[k].2.2.2.1
      case false =>
        have HF : Hid (arePlanned p l = false) := arePlanned_bad hlt ((okPlan_eq HQN.out q1 g1 g2 g3 g4).trans (by simp))
        go_wp2_with (go_at_call 25; refine (in_any _ _ _ _).mono ?_; rintro e w' ⟨rfl, rfl⟩)
        go_ret
        exact ⟨ret_bool HF.out.symm, hB⟩
      have HF : Hid ((l.take (k + 1)).all (okPlan p.it) = true) := by
        show _ = _
        rw [all_take l _ k hlt, HI.out, okPlan_eq HQN.out q1 g1 g2 g3 g4]; rfl
      go_wp2_with (go_at_call 25; refine (in_any _ _ _ _).mono ?_; rintro e w' ⟨rfl, rfl⟩)
      go_roundw
      case rel => exact ⟨k + 1, by omega, by go_num, HF.out, BB, hB⟩
      case measure => simp [intOf]; omega
    · obtain rfl : k = l.length := by omega
      have HE := Lib.hid (arePlanned_end HI.out)
      have HF : Hid (arePlanned p l = true) := by show _ = _; rw [HE.out, g, decide_eq_true h5]; rfl
      go_wp2_with fail
      go_ret
      exact ⟨ret_bool HF.out.symm, hb⟩
end Go.Proofs.Ytlkolehdikfddaa
/- What is taken of an item on each day (plain). -/
namespace Go.Proofs.Ytlkolehdikfddaa
def lineOn (ch : List Pk) (day : Int) (x : Bl) : Bool := decide (x.2.2.2.1 ≤ day) && (decide (day ≤ x.2.2.2.2.1) && condVal x.2.2.2.2.2 ch)
/-- What of part lies in code on a day. -/
def unitAt (p : Pt) (part code : ByteArray) (day : Int) : Int := unitV p.it p.ls (lineOn p.ch day) part code
/-- Takings: how much of the item each piece takes, the pieces, the day. -/
def tkStep (m : List Int) (v : Int × Int × Int) : List Int := m.set v.2.2.toNat (m.getD v.2.2.toNat 0 + v.1 * v.2.1)
def tkTo (l : List (Int × Int × Int)) : List Int := l.foldl tkStep (List.replicate 1000 0)
def dmN (p : Pt) (item : ByteArray) (d : Dm) : Int := if d.2.1.toList == item.toList then 1 else if decide (0 ≤ findIt p.it d.2.1) && phan p.it d.2.1 then unitAt p item d.2.1 d.2.2.2.1 else 0
def dmV (p : Pt) (item : ByteArray) (d : Dm) : Int × Int × Int := (dmN p item d, d.2.2.1, d.2.2.2.1)
def plV (p : Pt) (item : ByteArray) (o : Pl) : Int × Int × Int := (unitAt p item o.1 o.2.2.1, o.2.1, o.2.2.1)
def evsD (p : Pt) (item : ByteArray) (ds : List Dm) : List (Int × Int × Int) := ds.map (dmV p item)
def evsP (p : Pt) (item : ByteArray) (l : List Pl) : List (Int × Int × Int) := l.map (plV p item)
def few (l : List (Int × Int × Int)) : Bool := l.all fun v => decide (v.1 ≤ 1000000000)
/-- What is taken day by day, and whether it can be told. -/
def takenOn (p : Pt) (ds : List Dm) (l : List Pl) (item : ByteArray) : List Int × Bool := (tkTo (evsD p item ds ++ evsP p item l), few (evsD p item ds ++ evsP p item l))
def okEv (v : Int × Int × Int) : Prop := (0 ≤ v.1 * v.2.1 ∧ v.1 * v.2.1 ≤ 100000000100000) ∧ (0 ≤ v.2.2 ∧ v.2.2 ≤ 999)
theorem okEv_mk {n q d : Int} (h1 : 0 ≤ n ∧ n ≤ 1000000001) (h2 : 0 ≤ q ∧ q ≤ 100000) (h3 : 0 ≤ d ∧ d ≤ 999) : okEv (n, q, d) := by
  refine ⟨⟨Int.mul_nonneg h1.1 h2.1, ?_⟩, h3⟩
  have : n * q ≤ 1000000001 * 100000 := Int.mul_le_mul h1.2 h2.2 h2.1 (by omega)
  simp only
  omega
def prefS (l : List Int) (k : Nat) : Int := (l.take k).sum
theorem sum_set (m : List Int) (i : Nat) (x : Int) (h : i < m.length) : (m.set i x).sum = m.sum - m.getD i 0 + x := by
  induction m generalizing i with
  | nil => simp at h
  | cons a t ih =>
    cases i with
    | zero => simp only [List.set_cons_zero, List.sum_cons, List.getD_cons_zero]; omega
    | succ i =>
      simp only [List.set_cons_succ, List.sum_cons, List.getD_cons_succ]
      rw [ih i (by simpa using h)]; omega
theorem pref_le (m : List Int) (h : ∀ i, 0 ≤ m.getD i 0) (k : Nat) : 0 ≤ prefS m k ∧ prefS m k ≤ m.sum := by
  unfold prefS
  induction m generalizing k with
  | nil => simp
  | cons a t ih =>
    have h0 := h 0
    simp only [List.getD_cons_zero] at h0
    have ht : ∀ i, 0 ≤ t.getD i 0 := fun i => by have := h (i + 1); simpa using this
    cases k with
    | zero =>
      have := ih ht t.length
      rw [List.take_length] at this
      simp only [List.take_zero, List.sum_nil, List.sum_cons]; omega
    | succ k =>
      have := ih ht k
      simp only [List.take_succ_cons, List.sum_cons]; omega
theorem pref_succ (m : List Int) (k : Nat) (h : k < m.length) : prefS m (k + 1) = prefS m k + m.getD k 0 := by
  unfold prefS
  rw [List.take_add_one, List.getElem?_eq_getElem h, Option.toList_some, List.sum_append, List.getD_eq_getElem?_getD, List.getElem?_eq_getElem h]; simp
theorem getD_le_sum (m : List Int) (h : ∀ i, 0 ≤ m.getD i 0) (i : Nat) : m.getD i 0 ≤ m.sum := by
  have h1 := pref_le m h i
  have h2 := pref_le m h (i + 1)
  by_cases hi : i < m.length
  · rw [pref_succ m i hi] at h2; omega
  · rw [List.getD_eq_getElem?_getD, List.getElem?_eq_none (by omega)]; simp; omega
theorem tkStep_len (m : List Int) (v : Int × Int × Int) : (tkStep m v).length = m.length := by unfold tkStep; rw [List.length_set]
/-- A state of the days: what it can hold. -/
structure Days (m : List Int) (B : Int) : Prop where
  len : m.length = 1000
  pos : ∀ i, 0 ≤ m.getD i 0
  sum : m.sum ≤ B
theorem zeros_at (n i : Nat) : (List.replicate n (0 : Int)).getD i 0 = 0 := by
  rw [List.getD_eq_getElem?_getD, List.getElem?_replicate]; split <;> rfl
theorem zeros_sum (n : Nat) : (List.replicate n (0 : Int)).sum = 0 := by rw [List.sum_replicate_int, Int.mul_zero]
theorem Days.zero : Days (List.replicate 1000 0) 0 := ⟨List.length_replicate, fun i => by rw [zeros_at]; omega, by rw [zeros_sum]; omega⟩
theorem Days.step {m : List Int} {B : Int} (h : Days m B) {v : Int × Int × Int} (hv : okEv v) : Days (tkStep m v) (B + 100000000100000) ∧ m.getD v.2.2.toNat 0 + v.1 * v.2.1 ≤ B + 100000000100000 := by
  obtain ⟨⟨hp, hq⟩, h3⟩ := hv
  have hi : v.2.2.toNat < m.length := by rw [h.len]; omega
  have hg := getD_le_sum m h.pos v.2.2.toNat
  have hg0 := h.pos v.2.2.toNat
  have hs := h.sum
  refine ⟨⟨by rw [tkStep_len, h.len], fun i => ?_, ?_⟩, by omega⟩
  · unfold tkStep
    rw [intD_set _ _ _ _ hi]
    split
    · omega
    · exact h.pos i
  · unfold tkStep
    rw [sum_set _ _ _ hi]; omega
theorem Days.run {l : List (Int × Int × Int)} (h : ∀ v ∈ l, okEv v) : ∀ {m : List Int} {B : Int}, Days m B → Days (l.foldl tkStep m) (B + 100000000100000 * l.length) := by
  induction l with
  | nil => intro m B hm; simpa using hm
  | cons a t ih =>
    intro m B hm
    have := ih (fun v hv => h v (List.mem_cons_of_mem _ hv)) (hm.step (h a List.mem_cons_self)).1
    rw [List.foldl_cons, List.length_cons]
    refine ⟨this.len, this.pos, Int.le_trans this.sum ?_⟩
    rw [Int.natCast_succ]; omega
theorem tkTo_days {l : List (Int × Int × Int)} (h : ∀ v ∈ l, okEv v) : Days (tkTo l) (100000000100000 * l.length) := by
  have := Days.run h Days.zero
  rw [Int.zero_add] at this; exact this
theorem tkTo_snoc (l : List (Int × Int × Int)) (v : Int × Int × Int) : tkTo (l ++ [v]) = tkStep (tkTo l) v := by unfold tkTo; rw [List.foldl_append]; rfl
theorem few_snoc (l : List (Int × Int × Int)) (v : Int × Int × Int) : few (l ++ [v]) = (few l && decide (v.1 ≤ 1000000000)) := by unfold few; rw [List.all_append]; simp
theorem few_bad {l : List (Int × Int × Int)} {k : Nat} (hk : k < l.length) (h : ¬ l[k].1 ≤ 1000000000) : few l = false := by
  unfold few; rw [List.all_eq_false]; exact ⟨l[k], List.getElem_mem hk, by simpa using h⟩
theorem map_take1 {α β : Type} (f : α → β) (l : List α) (k : Nat) (h : k < l.length) : (l.map f).take (k + 1) = (l.map f).take k ++ [f l[k]] := by
  rw [List.take_add_one, List.getElem?_eq_getElem (by simpa using h), Option.toList_some]; simp
end Go.Proofs.Ytlkolehdikfddaa
/- The walks of ReceiptFlows. -/
namespace Go.Proofs.Ytlkolehdikfddaa
open Go.RowKit
theorem addS_days (l : List Fl) (d q : Int) (h : ∀ f ∈ l, 0 ≤ f.1 ∧ f.1 ≤ 999) (hd : 0 ≤ d ∧ d ≤ 999) : ∀ f ∈ addS l d q, 0 ≤ f.1 ∧ f.1 ≤ 999 := by
  induction l with
  | nil => intro f hf; simp [addS] at hf; rw [hf]; exact hd
  | cons g t ih =>
    have hg := h g List.mem_cons_self
    have ht := ih (fun f hf => h f (List.mem_cons_of_mem _ hf))
    intro f hf
    simp only [addS] at hf
    split at hf
    · rcases List.mem_cons.1 hf with rfl | hf
      · exact hg
      · exact ht f hf
    · split at hf
      · rcases List.mem_cons.1 hf with rfl | hf
        · exact hg
        · exact h f (List.mem_cons_of_mem _ hf)
      · rcases List.mem_cons.1 hf with rfl | hf
        · exact hd
        · exact h f hf
theorem addS_one (l : List Fl) (d q : Int) (h : ∀ f ∈ l, 1 ≤ f.2) (hq : 1 ≤ q) : ∀ f ∈ addS l d q, 1 ≤ f.2 := by
  induction l with
  | nil => intro f hf; simp [addS] at hf; rw [hf]; exact hq
  | cons g t ih =>
    have hg := h g List.mem_cons_self
    have ht := ih (fun f hf => h f (List.mem_cons_of_mem _ hf))
    intro f hf
    simp only [addS] at hf
    split at hf
    · rcases List.mem_cons.1 hf with rfl | hf
      · exact hg
      · exact ht f hf
    · split at hf
      · rcases List.mem_cons.1 hf with rfl | hf
        · simp only; omega
        · exact h f (List.mem_cons_of_mem _ hf)
      · rcases List.mem_cons.1 hf with rfl | hf
        · exact hq
        · exact h f hf
def rcStep (item : ByteArray) (o : List Fl) (d : Rc) : List Fl := if d.1.toList == item.toList then addS o d.2.1 d.2.2 else o
def rcTo (l : List Rc) (item : ByteArray) (k : Nat) : List Fl := (l.take k).foldl (rcStep item) []
theorem rcTo_succ (l : List Rc) (item : ByteArray) (k : Nat) (h : k < l.length) : rcTo l item (k + 1) = rcStep item (rcTo l item k) l[k] := foldl_take _ _ _ _ h
theorem rcTo_parts (p : Pt) (item : ByteArray) (h : isPlant p = true) (k : Nat) (hk : k ≤ p.rc.length) : ascends (rcTo p.rc item k) ∧ (rcTo p.rc item k).length ≤ k ∧ ∀ f ∈ rcTo p.rc item k, (0 ≤ f.1 ∧ f.1 ≤ 999) ∧ 1 ≤ f.2 ∧ f.2 ≤ 100000 * k := by
  induction k with
  | zero => exact ⟨fun i j hj => by simp [rcTo] at hj, by simp [rcTo], fun f hf => by simp [rcTo] at hf⟩
  | succ k ih =>
    obtain ⟨h1, h2, h3⟩ := ih (by omega)
    obtain ⟨_, hm, hd⟩ := (isPlant_parts h).2.2.2.2.2 k (by omega)
    rw [rcTo_succ p.rc item k (by omega)]
    unfold rcStep
    split
    · refine ⟨addS_ascends _ _ _ h1, by have := addS_len (rcTo p.rc item k) p.rc[k].2.1 p.rc[k].2.2; omega, fun f hf => ?_⟩
      have hb := addS_bd (rcTo p.rc item k) p.rc[k].2.1 p.rc[k].2.2 0 (100000 * k) 0 100000 (fun f hf => by have := h3 f hf; omega) (by omega) (by omega) (by omega) (by omega) (by omega) f hf
      have hp1 := addS_one (rcTo p.rc item k) p.rc[k].2.1 p.rc[k].2.2 (fun f hf => (h3 f hf).2.1) (by omega) f hf
      have hdd := addS_days (rcTo p.rc item k) p.rc[k].2.1 p.rc[k].2.2 (fun f hf => (h3 f hf).1) hd f hf
      exact ⟨hdd, by omega, by omega⟩
    · exact ⟨h1, by omega, fun f hf => by have := h3 f hf; omega⟩
def receiptFlows (p : Pt) (item : ByteArray) : List Fl := if isPlant p = true then rcTo p.rc item p.rc.length else []
theorem receiptFlows_no {p : Pt} {item : ByteArray} (h : isPlant p = false) : receiptFlows p item = [] := by unfold receiptFlows; rw [if_neg (by rw [h]; decide)]
theorem receiptFlows_yes {p : Pt} {item : ByteArray} (h : isPlant p = true) : receiptFlows p item = rcTo p.rc item p.rc.length := by unfold receiptFlows; rw [if_pos h]
theorem receiptFlows_len (p : Pt) (item : ByteArray) : (receiptFlows p item).length ≤ 16 := by
  cases h : isPlant p
  · rw [receiptFlows_no h]; simp
  · rw [receiptFlows_yes h]
    have := (rcTo_parts p item h p.rc.length (Nat.le_refl _)).2.1
    have := (isPlant_parts h).2.2.2.1
    omega
set_option maxRecDepth 100000 in
set_option maxHeartbeats 4000000 in
theorem specReceiptFlows_any (r : PtR) (p : Pt) (s : ByteArray) (w : World) (hp : PlantIn w r p) (hok : okPt p) (_hs : s.size ≤ 9223372036854775807) :
    Calls Try.prog 79 #[.agg #[.slice r.i.a r.i.n r.i.c, .slice r.l.a r.l.n r.l.c, .slice r.w.a r.w.n r.w.c, .slice r.e.a r.e.n r.e.c, .slice r.p.a r.p.n r.p.c, .slice r.s.a r.s.n r.s.c, .slice r.q.a r.q.n r.q.c], .string s] w (OneRow w (receiptFlows p s)) := by
  obtain ⟨⟨a0, n0, c0⟩, ⟨a1, n1, c1⟩, ⟨a2, n2, c2⟩, ⟨a3, n3, c3⟩, ⟨a4, n4, c4⟩, ⟨a5, n5, c5⟩, ⟨a6, n6, c6⟩⟩ := r
  have HNS := Lib.hid hp.st.1
  have HNR := Lib.hid hp.rc.1
  dsimp only at HNS HNR ⊢
  obtain rfl := HNS.out
  obtain rfl := HNR.out
  clear HNS HNR
  have hls := hp.st.len
  have hlr := hp.rc.len
  have HP := Lib.hid hp
  have HQ5 := Lib.hid hp.st
  have HQ6 := Lib.hid hp.rc
  have HQ0 := Lib.hid hp.it
  dsimp only at HQ5 HQ6 HQ0
  have HO := Lib.hid hok
  clear hp hok
  have hb0 := below_alloc w (.cells #[.slice a0 n0 c0, .slice a1 n1 c1, .slice a2 n2 c2, .slice a3 n3 c3, .slice a4 n4 c4, .slice a5 p.st.length c5, .slice a6 p.rc.length c6] 34)
  have hb : Below w.heap.size w ((w.alloc (.cells #[.slice a0 n0 c0, .slice a1 n1 c1, .slice a2 n2 c2, .slice a3 n3 c3, .slice a4 n4 c4, .slice a5 p.st.length c5, .slice a6 p.rc.length c6] 34)).alloc (.cells #[] 107)) := below_on hb0 (below_alloc _ _)
  have B0 : BoxOf ((w.alloc (.cells #[.slice a0 n0 c0, .slice a1 n1 c1, .slice a2 n2 c2, .slice a3 n3 c3, .slice a4 n4 c4, .slice a5 p.st.length c5, .slice a6 p.rc.length c6] 34)).alloc (.cells #[] 107)) w.heap.size [.slice a0 n0 c0, .slice a1 n1 c1, .slice a2 n2 c2, .slice a3 n3 c3, .slice a4 n4 c4, .slice a5 p.st.length c5, .slice a6 p.rc.length c6] := (boxOf_alloc w #[.slice a0 n0 c0, .slice a1 n1 c1, .slice a2 n2 c2, .slice a3 n3 c3, .slice a4 n4 c4, .slice a5 p.st.length c5, .slice a6 p.rc.length c6] 34).keep (below_alloc _ _)
  have hr : RowVal flF 107 ((w.alloc (.cells #[.slice a0 n0 c0, .slice a1 n1 c1, .slice a2 n2 c2, .slice a3 n3 c3, .slice a4 n4 c4, .slice a5 p.st.length c5, .slice a6 p.rc.length c6] 34)).alloc (.cells #[] 107)) w.heap.size (.slice (some ⟨w.heap.size + 1, 0, none⟩) 0 0) [] := empty_row (by simp) hb0.size
  clear hb0
  cases g : isPlant p
  · have HN : Hid (receiptFlows p s = []) := receiptFlows_no g
    by_cases h0 : 0 < p.rc.length
    · go_enter Try.func79, Try.ntmps79
      go_wp2_with fail
      generalize ((w.alloc (.cells #[.slice a0 n0 c0, .slice a1 n1 c1, .slice a2 n2 c2, .slice a3 n3 c3, .slice a4 n4 c4, .slice a5 p.st.length c5, .slice a6 p.rc.length c6] 34)).alloc (.cells #[] 107)) = V at *
      refine wp_loop_rounds 1 ?_
      rw [rounds_succ]
      obtain ⟨b0, b1, b2, b3, b4, b5, b6, bl⟩ := B0.seven
      go_wp2_with fail
      clear b0 b1 b2 b3 b4 b5 b6 bl
      refine (specIsPlant_any ⟨⟨a0, n0, c0⟩, ⟨a1, n1, c1⟩, ⟨a2, n2, c2⟩, ⟨a3, n3, c3⟩, ⟨a4, n4, c4⟩, ⟨a5, p.st.length, c5⟩, ⟨a6, p.rc.length, c6⟩⟩ p _ (HP.out.keep hb) HO.out).mono ?_
      rintro e V1 ⟨rfl, hs⟩
      rw [g]
      replace hb := below_on hb hs
      replace B0 := B0.keep hs
      replace hr := hr.keep hs
      clear hs
      go_wp2_with fail
      go_ret
      rw [HN.out]
      exact oneRow_mk hr hb
    · have hz : ¬ ((0 : Int) < (p.rc.length : Int)) := by omega
      go_enter Try.func79, Try.ntmps79
      go_wp2_with fail
      generalize ((w.alloc (.cells #[.slice a0 n0 c0, .slice a1 n1 c1, .slice a2 n2 c2, .slice a3 n3 c3, .slice a4 n4 c4, .slice a5 p.st.length c5, .slice a6 p.rc.length c6] 34)).alloc (.cells #[] 107)) = V at *
      refine wp_loop_rounds 1 ?_
      rw [rounds_succ]
      obtain ⟨b0, b1, b2, b3, b4, b5, b6, bl⟩ := B0.seven
      go_wp2_with fail
      go_ret
      rw [HN.out]
      exact oneRow_mk hr hb
  have HPR := Lib.hid (rcTo_parts p s g)
  have HM := Lib.hid (isPlant_parts g).2.2.2.2.2
  have hl16 := (isPlant_parts g).2.2.2.1
  go_enter Try.func79, Try.ntmps79
  go_wp2_with fail
  generalize ((w.alloc (.cells #[.slice a0 n0 c0, .slice a1 n1 c1, .slice a2 n2 c2, .slice a3 n3 c3, .slice a4 n4 c4, .slice a5 p.st.length c5, .slice a6 p.rc.length c6] 34)).alloc (.cells #[] 107)) = V at *
  go_loopw [5, 6] (fun v i wr => ∃ k : Nat, k ≤ p.rc.length ∧ i = .int .i64 k ∧ RowVal flF 107 wr w.heap.size v (rcTo p.rc s k) ∧ BoxOf wr w.heap.size [.slice a0 n0 c0, .slice a1 n1 c1, .slice a2 n2 c2, .slice a3 n3 c3, .slice a4 n4 c4, .slice a5 p.st.length c5, .slice a6 p.rc.length c6] ∧ Below w.heap.size w wr) (fun _ i _ => p.rc.length - (intOf i).toNat)
  case atStart => exact ⟨0, by omega, rfl, hr, B0, hb⟩
  case round =>
    clear hr B0 hb
    obtain ⟨k, hk, rfl, hrow, B0, hb⟩ := hrel
    obtain ⟨p1, p2, p3⟩ := HPR.out k hk
    obtain ⟨A2, c9, rfl, ho⟩ := hrow.form
    obtain ⟨k1, k2⟩ := own_cap ho
    clear hrow
    have HPA := Lib.hid p1
    clear p1
    by_cases hlt : k < p.rc.length
    · have HS := Lib.hid (rcTo_succ p.rc s k hlt)
      obtain ⟨_, ⟨m1, m2⟩, m3, m4⟩ := HM.out k hlt
      have HQ : Hid (∀ f ∈ rcTo p.rc s k, -1000000000000 ≤ f.2 ∧ f.2 ≤ 1000000000000) := fun f hf => by have := p3 f hf; omega
      clear p3
      obtain ⟨b0, b1, b2, b3, b4, b5, b6, bl⟩ := B0.seven
      go_wp2_with fail
      clear b0 b1 b2 b3 b4 b5 b6 bl
      refine (specIsPlant_any ⟨⟨a0, n0, c0⟩, ⟨a1, n1, c1⟩, ⟨a2, n2, c2⟩, ⟨a3, n3, c3⟩, ⟨a4, n4, c4⟩, ⟨a5, p.st.length, c5⟩, ⟨a6, p.rc.length, c6⟩⟩ p _ (HP.out.keep hb) HO.out).mono ?_
      rintro e V1 ⟨rfl, hs⟩
      rw [g]
      replace hb := below_on hb hs
      replace B0 := B0.keep hs
      replace ho := ho.keep hs
      clear hs
      obtain ⟨b, o, rfl, hbl, hc0, hc1, hc2⟩ := receipt_at (HQ6.out.keep hb) hlt
      obtain ⟨b0, b1, b2, b3, b4, b5, b6, bl⟩ := B0.seven
      cases heq : (p.rc[k].1.toList == s.toList)
      · have HE : Hid (rcStep s (rcTo p.rc s k) p.rc[k] = rcTo p.rc s k) := by show _ = _; unfold rcStep; rw [heq]; rfl
        go_wp2_with fail
        go_roundw
        case rel => exact ⟨k + 1, by omega, by go_num, by rw [HS.out, HE.out]; exact ho.val, B0, hb⟩
        case measure => simp [intOf]; omega
      · have HE : Hid (rcStep s (rcTo p.rc s k) p.rc[k] = addS (rcTo p.rc s k) p.rc[k].2.1 p.rc[k].2.2) := by show _ = _; unfold rcStep; rw [heq]; rfl
        go_wp2_with fail
        go_still_tail 13, (by kernel_rfl)
        change wpList _ _ _ _ _ V1.drew
        have HE2 : Below w.heap.size w V1.drew := hb.drew
        have ho2 : OwnRows flF 107 V1.drew w.heap.size A2 (rcTo p.rc s k).length c9 (rcTo p.rc s k) := ho
        have B2 := B0.keep (Below.refl V1.heap.size V1).drew
        clear ho hb hc0 hc1 hc2 B0 b0 b1 b2 b3 b4 b5 b6 bl
        generalize V1.drew = w2 at *
        go_wp2_with fail
        refine (l14Add_any _ _ _ (rcTo p.rc s k) _ _ _ (ho2.rows (by omega)) k1 (by unfold maxLen at k2; omega) (by omega) HQ.out (by omega)).mono ?_
        rintro e w3 ⟨A3, c3, rfl, ho3, hb3⟩
        rw [← HE.out, ← HS.out] at ho3
        rw [← HE.out, ← HS.out]
        go_wp2_with fail
        go_roundw
        case rel => exact ⟨k + 1, by omega, by go_num, (ho3.lower HE2.size).val, B2.keep hb3, below_on HE2 hb3⟩
        case measure => simp [intOf]; omega
    · obtain rfl : k = p.rc.length := by omega
      have HY := Lib.hid (receiptFlows_yes (item := s) g)
      clear p3
      obtain ⟨b0, b1, b2, b3, b4, b5, b6, bl⟩ := B0.seven
      go_wp2_with fail
      go_ret
      rw [HY.out]
      exact oneRow_mk ho.val hb
end Go.Proofs.Ytlkolehdikfddaa
/- A cell of a row of numbers, with getD. -/
namespace Go.Proofs.Ytlkolehdikfddaa
open Go.RowKit
end Go.Proofs.Ytlkolehdikfddaa
/- The walks of the hours of a day and of what machines can work on it. -/
namespace Go.Proofs.Ytlkolehdikfddaa
open Go.RowKit
set_option maxRecDepth 100000 in
set_option maxHeartbeats 4000000 in
theorem specL4Hours_any (A B : Option Addr) (n m c d : Nat) (wk : List Int) (ex : List Ex) (day : Nat) (w : World) (ha : IntsIn w A n wk) (hb : ExsIn w B m ex) (hc : isCal wk ex = true) (hd : day ≤ 999) :
    Calls Try.prog 94 #[.agg #[.slice A n c, .slice B m d], .int .i64 day] w fun e w' => e = .returned (.int .i64 (hoursTo wk ex day ex.length)) ∧ Below w.heap.size w w' := by
  have hn := ha.len
  have hm := hb.len
  obtain rfl := ha.1
  obtain rfl := hb.1
  have HC := Lib.hid hc
  clear hc
  have hwl : day % 7 < wk.length := by have := (isCal_parts HC.out).1; omega
  have hbox := below_alloc w (.cells #[.slice A wk.length c, .slice B ex.length d] 29)
  have g0 : (w.alloc (.cells #[.slice A wk.length c, .slice B ex.length d] 29)).cell? ⟨w.heap.size, 0, none⟩ = some (.slice A wk.length c) := by simp [go_sem]
  have g1 : (w.alloc (.cells #[.slice A wk.length c, .slice B ex.length d] 29)).cell? ⟨w.heap.size, 1, none⟩ = some (.slice B ex.length d) := by simp [go_sem]
  go_enter Try.func94, Try.ntmps94
  go_wp2_with fail
  generalize w.alloc (.cells #[.slice A wk.length c, .slice B ex.length d] 29) = w1 at *
  replace ha := ha.keep hbox
  replace hb := hb.keep hbox
  obtain ⟨ba, oa, rfl, _, hcw⟩ := ha.at_ hwl
  have HW : Hid (wk.getD (day % 7) 0 = wk[day % 7]) := by
    show wk.getD (day % 7) 0 = _
    rw [List.getD_eq_getElem?_getD, List.getElem?_eq_getElem hwl]; rfl
  go_loop [5] (fun i => ∃ k : Nat, k ≤ ex.length ∧ i = .int .i64 k ∧ Hid (∀ j < k, (ex.getD j exNone).1 ≠ day)) (fun i => ex.length - (intOf i).toNat)
  case atStart => exact ⟨0, by omega, rfl, fun j h => absurd h (by omega)⟩
  case round =>
    obtain ⟨k, hk, rfl, HI⟩ := hrel
    by_cases hlt : k < ex.length
    · obtain ⟨b, o, rfl, hbl, hc0, hc1⟩ := exc_at hb hlt
      have HG : Hid (ex.getD k exNone = ex[k]) := ex_getD _ _ hlt
      by_cases hq : ex[k].1 = day
      · have hqb : (ex[k].1 == (day : Int)) = true := by rw [hq]; simp
        have HQ := Lib.hid hq
        clear hq
        go_wp2
        go_ret
        exact ⟨ret_int (by rw [hoursTo_hit HC.out day k hlt (by rw [HG.out]; exact HQ.out), HG.out]), hbox⟩
      · have hqb : (ex[k].1 == (day : Int)) = false := by simpa using hq
        have HQ := Lib.hid hq
        clear hq
        go_wp2
        go_round
        case rel =>
          refine ⟨k + 1, by omega, by go_num, fun j hj => ?_⟩
          rcases Nat.lt_or_ge j k with h1 | h1
          · exact HI.out j h1
          · rw [show j = k by omega, HG.out]; exact HQ.out
        case measure => simp [intOf]; omega
    · obtain rfl : k = ex.length := by omega
      go_wp2
      go_ret
      exact ⟨ret_int (by rw [hoursTo_miss wk ex day _ HI.out, HW.out]), hbox⟩
end Go.Proofs.Ytlkolehdikfddaa
