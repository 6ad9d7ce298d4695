/- Part 16 of the texts of this claim: The walk of IsPlant (the reference's). -/
import Derived.Test.YtlnkofnfgemfdaaGreatIp15
import Derived.Test.YtlnkofnfgemfdaaGreatIp3
/- The walk of IsPlant (the reference's). -/
namespace Go.Proofs.YtlnkofnfgemfdaaGreat
open Go.RowKit
set_option maxRecDepth 100000 in
set_option maxHeartbeats 8000000 in
theorem specIsPlant_any (r : PtR) (p : Pt) (w : World) (hp : PlantIn w r p) (hok : okPt p) :
    Calls Tryz.prog 38 #[.agg #[.slice r.i.a r.i.n r.i.c, .slice r.l.a r.l.n r.l.c, .slice r.w.a r.w.n r.w.c, .slice r.e.a r.e.n r.e.c, .slice r.p.a r.p.n r.p.c, .slice r.s.a r.s.n r.s.c, .slice r.q.a r.q.n r.q.c]] w fun e w' => e = .returned (.bool (isPlant p)) ∧ Below w.heap.size w w' := by
  obtain ⟨⟨a0, n0, c0⟩, ⟨a1, n1, c1⟩, ⟨a2, n2, c2⟩, ⟨a3, n3, c3⟩, ⟨a4, n4, c4⟩, ⟨a5, n5, c5⟩, ⟨a6, n6, c6⟩⟩ := r
  obtain ⟨q0, q1, q2, q3, q4, q5, q6⟩ := hp
  dsimp only at q0 q1 q2 q3 q4 q5 q6 ⊢
  have HNS := Lib.hid q5.1
  have HNR := Lib.hid q6.1
  have hls := q5.len
  have hlr := q6.len
  have Q0 := Lib.hid q0
  have Q1 := Lib.hid q1
  have Q2 := Lib.hid q2
  have Q3 := Lib.hid q3
  have Q5 := Lib.hid q5
  have Q6 := Lib.hid q6
  clear q0 q1 q2 q3 q4 q5 q6
  have HO := Lib.hid hok
  clear hok
  obtain rfl := HNS.out
  obtain rfl := HNR.out
  clear HNS HNR
  have hb := below_alloc w (.cells #[.slice a0 n0 c0, .slice a1 n1 c1, .slice a2 n2 c2, .slice a3 n3 c3, .slice a4 n4 c4, .slice a5 p.st.length c5, .slice a6 p.rc.length c6] 48)
  have B0 : BoxOf (w.alloc (.cells #[.slice a0 n0 c0, .slice a1 n1 c1, .slice a2 n2 c2, .slice a3 n3 c3, .slice a4 n4 c4, .slice a5 p.st.length c5, .slice a6 p.rc.length c6] 48)) w.heap.size [.slice a0 n0 c0, .slice a1 n1 c1, .slice a2 n2 c2, .slice a3 n3 c3, .slice a4 n4 c4, .slice a5 p.st.length c5, .slice a6 p.rc.length c6] := boxOf_alloc w #[.slice a0 n0 c0, .slice a1 n1 c1, .slice a2 n2 c2, .slice a3 n3 c3, .slice a4 n4 c4, .slice a5 p.st.length c5, .slice a6 p.rc.length c6] 48
  go_enter Tryz.func38, Tryz.ntmps38
  go_wp2_with fail
  generalize (w.alloc (.cells #[.slice a0 n0 c0, .slice a1 n1 c1, .slice a2 n2 c2, .slice a3 n3 c3, .slice a4 n4 c4, .slice a5 p.st.length c5, .slice a6 p.rc.length c6] 48)) = V at *
  refine (specIsBills_any _ _ _ _ _ _ p.it p.ls _ (Q0.out.keep hb) (Q1.out.keep hb) HO.out.it HO.out.ls).mono ?_
  rintro e V1 ⟨rfl, hs⟩
  replace hb := below_on hb hs
  replace B0 := B0.keep hs
  clear hs
  obtain ⟨b0, b1, b2, b3, b4, b5, b6, bl⟩ := B0.seven
  cases g1 : isBills p.it p.ls
  · have HF : Hid (isPlant p = false) := isPlant_no (by rw [g1]; rfl)
    go_wp2_with fail
    go_ret
    exact ⟨ret_bool HF.out.symm, hb⟩
  go_wp2_with fail
  refine (specIsCalendar_any _ _ _ _ _ _ p.wk p.ex _ (Q2.out.keep hb) (Q3.out.keep hb)).mono ?_
  rintro e V2 ⟨rfl, hs⟩
  replace hb := below_on hb hs
  replace B0 := B0.keep hs
  clear hs b0 b1 b2 b3 b4 b5 b6 bl
  obtain ⟨b0, b1, b2, b3, b4, b5, b6, bl⟩ := B0.seven
  cases g2 : isCal p.wk p.ex
  · have HF : Hid (isPlant p = false) := isPlant_no (by rw [g2]; simp)
    go_wp2_with fail
    go_ret
    exact ⟨ret_bool HF.out.symm, hb⟩
  by_cases h12 : (p.st.length : Int) ≤ 12
  case neg =>
    have HF : Hid (isPlant p = false) := isPlant_no (by rw [decide_eq_false h12]; simp)
    go_wp2_with fail
    go_ret
    exact ⟨ret_bool HF.out.symm, hb⟩
  by_cases h16 : (p.rc.length : Int) ≤ 16
  case neg =>
    have HF : Hid (isPlant p = false) := isPlant_no (by rw [decide_eq_false h16]; simp)
    go_wp2_with fail
    go_ret
    exact ⟨ret_bool HF.out.symm, hb⟩
  go_wp2_with fail
  clear b0 b1 b2 b3 b4 b5 b6 bl
  go_loopw [3] (fun i wr => ∃ k : Nat, k ≤ p.st.length ∧ i = .int .i64 k ∧ Hid (∀ j < k, okStk p.it p.st j = true) ∧ BoxOf wr w.heap.size [.slice a0 n0 c0, .slice a1 n1 c1, .slice a2 n2 c2, .slice a3 n3 c3, .slice a4 n4 c4, .slice a5 p.st.length c5, .slice a6 p.rc.length c6] ∧ Below w.heap.size w wr) (fun i _ => p.st.length - (intOf i).toNat)
  case atStart => exact ⟨0, by omega, rfl, fun j h => absurd h (by omega), B0, hb⟩
  case round =>
    clear B0 hb
    obtain ⟨k, hk, rfl, HI, B0, hb⟩ := hrel
    obtain ⟨b0, b1, b2, b3, b4, b5, b6, bl⟩ := B0.seven
    by_cases hlt : k < p.st.length
    · have HIT := Lib.hid (Q0.out.keep hb)
      have hst := Q5.out.keep hb
      obtain ⟨b, o, rfl, hbl, hc0, hc1⟩ := need_at hst hlt
      obtain ⟨f3, f3b⟩ := findIt_bd p.it p.st[k].1
      by_cases f1 : 0 ≤ findIt p.it p.st[k].1
      case neg =>
        have HC := Lib.hid (okStk_find hlt f1)
        have f5 : findIt p.it p.st[k].1 < 0 := by omega
        clear f3 f3b f1
        go_wp2_with fail
        go_quiet ((first | (go_at_call 37; refine (specFindItem_any _ _ _ p.it _ _ (HIT.out.keep (below_drewN (Below.refl _ _) _))).mono ?_; rintro e w' ⟨rfl, rfl⟩; exact ⟨rfl, _, rfl⟩) | (go_at_call 101; exact quietS (l1In_any _ _ _))))
        go_wp2
        go_ret
        exact ⟨ret_bool (isPlant_stk hlt HC.out).symm, below_drewN hb _⟩
      have f5 : ¬ findIt p.it p.st[k].1 < 0 := by omega
      have f6 : decide (findIt p.it p.st[k].1 < 0) = false := decide_eq_false f5
      cases q1 : inB p.st[k].2 0 100000
      · have HC := Lib.hid (okStk_in (it := p.it) hlt q1)
        clear f1 f3 f3b
        go_wp2_with fail
        go_quiet ((first | (go_at_call 37; refine (specFindItem_any _ _ _ p.it _ _ (HIT.out.keep (below_drewN (Below.refl _ _) _))).mono ?_; rintro e w' ⟨rfl, rfl⟩; exact ⟨rfl, _, rfl⟩) | (go_at_call 101; exact quietS (l1In_any _ _ _))))
        go_wp2
        go_ret
        exact ⟨ret_bool (isPlant_stk hlt HC.out).symm, below_drewN hb _⟩
      by_cases h0 : k = 0
      · have hy1 : decide (0 < k) = false := by simp; omega
        have hy2 : decide ((0 : Int) < (k : Int)) = false := by simp; omega
        have HC := Lib.hid (okStk_first hlt f1 q1 h0)
        clear h0 f1 f3 f3b
        go_wp2_with fail
        go_quiet ((first | (go_at_call 37; refine (specFindItem_any _ _ _ p.it _ _ (HIT.out.keep (below_drewN (Below.refl _ _) _))).mono ?_; rintro e w' ⟨rfl, rfl⟩; exact ⟨rfl, _, rfl⟩) | (go_at_call 101; exact quietS (l1In_any _ _ _))))
        go_wp2
        go_roundw
        case rel => exact ⟨k + 1, by omega, by go_num, okStk_more HC.out HI.out, B0.keep (below_drewN (Below.refl _ _) _), below_drewN hb _⟩
        case measure => simp [intOf]; omega
      have hlt2 : k - 1 < p.st.length := by omega
      obtain ⟨b2, o2, e2, _, hp0, _⟩ := need_at hst hlt2
      obtain ⟨rfl, rfl⟩ : b = b2 ∧ o = o2 := by simpa using e2
      clear e2
      have hy1 : decide (0 < k) = true := by simp; omega
      have hy2 : decide ((0 : Int) < (k : Int)) = true := by simp; omega
      have hi1 : (0 : Int) ≤ (k : Int) - 1 := by omega
      have hi2 : (k : Int) - 1 < (p.st.length : Int) := by omega
      have hi3 : ((k : Int) - 1).toNat = k - 1 := by omega
      have hi4 : (1 : Int) ≤ (k : Int) := by omega
      have hwk : IntKind.i64.wrap ((k : Int) - 1) = (k : Int) - 1 := IntWalk.i64_in _ (by omega)
      have HC := Lib.hid (okStk_next hlt f1 q1 h0 hlt2)
      clear h0 f1 f3 f3b
      cases hq : itLt p.st[k - 1].1 p.st[k].1
      · have hq2 : Op.bytesLess p.st[k - 1].1.toList p.st[k].1.toList = false := hq
        go_wp2_with fail
        go_quiet ((first | (go_at_call 37; refine (specFindItem_any _ _ _ p.it _ _ (HIT.out.keep (below_drewN (Below.refl _ _) _))).mono ?_; rintro e w' ⟨rfl, rfl⟩; exact ⟨rfl, _, rfl⟩) | (go_at_call 101; exact quietS (l1In_any _ _ _))))
        go_wp2
        go_ret
        exact ⟨ret_bool (isPlant_stk hlt (HC.out.trans hq)).symm, below_drewN hb _⟩
      · have hq2 : Op.bytesLess p.st[k - 1].1.toList p.st[k].1.toList = true := hq
        go_wp2_with fail
        go_quiet ((first | (go_at_call 37; refine (specFindItem_any _ _ _ p.it _ _ (HIT.out.keep (below_drewN (Below.refl _ _) _))).mono ?_; rintro e w' ⟨rfl, rfl⟩; exact ⟨rfl, _, rfl⟩) | (go_at_call 101; exact quietS (l1In_any _ _ _))))
        go_wp2
        go_roundw
        case rel => exact ⟨k + 1, by omega, by go_num, okStk_more (HC.out.trans hq) HI.out, B0.keep (below_drewN (Below.refl _ _) _), below_drewN hb _⟩
        case measure => simp [intOf]; omega
    · obtain rfl : k = p.st.length := by omega
      go_wp2_with fail
      clear b0 b1 b2 b3 b4 b5 b6 bl
      go_loopw [4] (fun i wr => ∃ k : Nat, k ≤ p.rc.length ∧ i = .int .i64 k ∧ Hid ((p.rc.take k).all (okRcp p.it) = true) ∧ BoxOf wr w.heap.size [.slice a0 n0 c0, .slice a1 n1 c1, .slice a2 n2 c2, .slice a3 n3 c3, .slice a4 n4 c4, .slice a5 p.st.length c5, .slice a6 p.rc.length c6] ∧ Below w.heap.size w wr) (fun i _ => p.rc.length - (intOf i).toNat)
      case atStart => exact ⟨0, by omega, rfl, rfl, B0, hb⟩
      case round =>
        clear B0 hb hlt hk
        obtain ⟨k, hk, rfl, HJ, B0, hb⟩ := hrel
        obtain ⟨b0, b1, b2, b3, b4, b5, b6, bl⟩ := B0.seven
        by_cases hlt : k < p.rc.length
        · have HIT := Lib.hid (Q0.out.keep hb)
          have hrc := Q6.out.keep hb
          obtain ⟨b, o, rfl, hbl, hc0, hc1, hc2⟩ := receipt_at hrc hlt
          obtain ⟨f3, f3b⟩ := findIt_bd p.it p.rc[k].1
          by_cases f1 : 0 ≤ findIt p.it p.rc[k].1
          case neg =>
            have HC : Hid (okRcp p.it p.rc[k] = false) := by show _ = _; unfold okRcp; rw [decide_eq_false f1]; rfl
            have f5 : findIt p.it p.rc[k].1 < 0 := by omega
            clear f3 f3b f1
            go_wp2_with fail
            go_quiet ((first | (go_at_call 37; refine (specFindItem_any _ _ _ p.it _ _ (HIT.out.keep (below_drewN (Below.refl _ _) _))).mono ?_; rintro e w' ⟨rfl, rfl⟩; exact ⟨rfl, _, rfl⟩) | (go_at_call 101; exact quietS (l1In_any _ _ _))))
            go_wp2
            go_ret
            exact ⟨ret_bool (isPlant_rcp hlt HC.out).symm, below_drewN hb _⟩
          have f5 : ¬ findIt p.it p.rc[k].1 < 0 := by omega
          have f6 : decide (findIt p.it p.rc[k].1 < 0) = false := decide_eq_false f5
          cases q1 : inB p.rc[k].2.2 1 100000
          · have HC : Hid (okRcp p.it p.rc[k] = false) := by show _ = _; unfold okRcp; rw [q1]; simp
            clear f1 f3 f3b
            go_wp2_with fail
            go_quiet ((first | (go_at_call 37; refine (specFindItem_any _ _ _ p.it _ _ (HIT.out.keep (below_drewN (Below.refl _ _) _))).mono ?_; rintro e w' ⟨rfl, rfl⟩; exact ⟨rfl, _, rfl⟩) | (go_at_call 101; exact quietS (l1In_any _ _ _))))
            go_wp2
            go_ret
            exact ⟨ret_bool (isPlant_rcp hlt HC.out).symm, below_drewN hb _⟩
          cases q2 : inB p.rc[k].2.1 0 999
          · have HC : Hid (okRcp p.it p.rc[k] = false) := by show _ = _; unfold okRcp; rw [q2]; simp
            clear f1 f3 f3b
            go_wp2_with fail
            go_quiet ((first | (go_at_call 37; refine (specFindItem_any _ _ _ p.it _ _ (HIT.out.keep (below_drewN (Below.refl _ _) _))).mono ?_; rintro e w' ⟨rfl, rfl⟩; exact ⟨rfl, _, rfl⟩) | (go_at_call 101; exact quietS (l1In_any _ _ _))))
            go_wp2
            go_ret
            exact ⟨ret_bool (isPlant_rcp hlt HC.out).symm, below_drewN hb _⟩
          have HC : Hid (okRcp p.it p.rc[k] = true) := by show _ = _; unfold okRcp; rw [decide_eq_true f1, q1, q2]; rfl
          clear f1 f3 f3b
          go_wp2_with fail
          go_quiet ((first | (go_at_call 37; refine (specFindItem_any _ _ _ p.it _ _ (HIT.out.keep (below_drewN (Below.refl _ _) _))).mono ?_; rintro e w' ⟨rfl, rfl⟩; exact ⟨rfl, _, rfl⟩) | (go_at_call 101; exact quietS (l1In_any _ _ _))))
          go_wp2
          go_roundw
          case rel => exact ⟨k + 1, by omega, by go_num, by rw [all_take p.rc _ k hlt, HJ.out]; exact HC.out, B0.keep (below_drewN (Below.refl _ _) _), below_drewN hb _⟩
          case measure => simp [intOf]; omega
        · obtain rfl : k = p.rc.length := by omega
          have HF := Lib.hid (isPlant_yes g1 g2 h12 h16 HI.out HJ.out)
          go_wp2_with fail
          go_ret
          exact ⟨ret_bool HF.out.symm, hb⟩
end Go.Proofs.YtlnkofnfgemfdaaGreat
