/- Part 10 of the texts of this claim: The walk of IsPlant (the program's); The walks of StockOf; Planned: its cells, and the walks of the laws' own helpers on lists of it. -/
import Derived.Test.YtlkolehdikfddaaTr9
import Derived.Test.YtlkolehdikfddaaTr2
import Derived.Test.YtlkolehdikfddaaTr1
import Derived.StillTailTactics
/- The walk of IsPlant (the program's). -/
namespace Go.Proofs.Ytlkolehdikfddaa
open Go.RowKit
set_option maxRecDepth 100000 in
set_option maxHeartbeats 8000000 in
theorem implIsPlant_any (r : PtR) (p : Pt) (w : World) (hp : PlantIn w r p) (hok : okPt p) :
    Calls Try.prog 38 #[.agg #[.slice r.i.a r.i.n r.i.c, .slice r.l.a r.l.n r.l.c, .slice r.w.a r.w.n r.w.c, .slice r.e.a r.e.n r.e.c, .slice r.p.a r.p.n r.p.c, .slice r.s.a r.s.n r.s.c, .slice r.q.a r.q.n r.q.c]] w fun e w' => e = .returned (.bool (isPlant p)) ∧ Below w.heap.size w w' := by
  obtain ⟨⟨a0, n0, c0⟩, ⟨a1, n1, c1⟩, ⟨a2, n2, c2⟩, ⟨a3, n3, c3⟩, ⟨a4, n4, c4⟩, ⟨a5, n5, c5⟩, ⟨a6, n6, c6⟩⟩ := r
  obtain ⟨q0, q1, q2, q3, q4, q5, q6⟩ := hp
  dsimp only at q0 q1 q2 q3 q4 q5 q6 ⊢
  have HNS := Lib.hid q5.1
  have HNR := Lib.hid q6.1
  have hls := q5.len
  have hlr := q6.len
  have Q0 := Lib.hid q0
  have Q1 := Lib.hid q1
  have Q2 := Lib.hid q2
  have Q3 := Lib.hid q3
  have Q5 := Lib.hid q5
  have Q6 := Lib.hid q6
  clear q0 q1 q2 q3 q4 q5 q6
  have HO := Lib.hid hok
  clear hok
  obtain rfl := HNS.out
  obtain rfl := HNR.out
  clear HNS HNR
  have hb := below_alloc w (.cells #[.slice a0 n0 c0, .slice a1 n1 c1, .slice a2 n2 c2, .slice a3 n3 c3, .slice a4 n4 c4, .slice a5 p.st.length c5, .slice a6 p.rc.length c6] 34)
  have B0 : BoxOf (w.alloc (.cells #[.slice a0 n0 c0, .slice a1 n1 c1, .slice a2 n2 c2, .slice a3 n3 c3, .slice a4 n4 c4, .slice a5 p.st.length c5, .slice a6 p.rc.length c6] 34)) w.heap.size [.slice a0 n0 c0, .slice a1 n1 c1, .slice a2 n2 c2, .slice a3 n3 c3, .slice a4 n4 c4, .slice a5 p.st.length c5, .slice a6 p.rc.length c6] := boxOf_alloc w #[.slice a0 n0 c0, .slice a1 n1 c1, .slice a2 n2 c2, .slice a3 n3 c3, .slice a4 n4 c4, .slice a5 p.st.length c5, .slice a6 p.rc.length c6] 34
  go_enter Try.func38, Try.ntmps38
  go_wp2_with fail
  generalize (w.alloc (.cells #[.slice a0 n0 c0, .slice a1 n1 c1, .slice a2 n2 c2, .slice a3 n3 c3, .slice a4 n4 c4, .slice a5 p.st.length c5, .slice a6 p.rc.length c6] 34)) = V at *
  refine (implIsBills_any _ _ _ _ _ _ p.it p.ls _ (Q0.out.keep hb) (Q1.out.keep hb) HO.out.it HO.out.ls).mono ?_
  rintro e V1 ⟨rfl, hs⟩
  replace hb := below_on hb hs
  replace B0 := B0.keep hs
  clear hs
  obtain ⟨b0, b1, b2, b3, b4, b5, b6, bl⟩ := B0.seven
  cases g1 : isBills p.it p.ls
  · have HF : Hid (isPlant p = false) := isPlant_no (by rw [g1]; rfl)
    go_wp2_with fail
    go_ret
    exact ⟨ret_bool HF.out.symm, hb⟩
  go_wp2_with fail
  refine (implIsCalendar_any _ _ _ _ _ _ p.wk p.ex _ (Q2.out.keep hb) (Q3.out.keep hb)).mono ?_
  rintro e V2 ⟨rfl, hs⟩
  replace hb := below_on hb hs
  replace B0 := B0.keep hs
  clear hs b0 b1 b2 b3 b4 b5 b6 bl
  obtain ⟨b0, b1, b2, b3, b4, b5, b6, bl⟩ := B0.seven
  cases g2 : isCal p.wk p.ex
  · have HF : Hid (isPlant p = false) := isPlant_no (by rw [g2]; simp)
    go_wp2_with fail
    go_ret
    exact ⟨ret_bool HF.out.symm, hb⟩
  by_cases h12 : (p.st.length : Int) ≤ 12
  case neg =>
    have HF : Hid (isPlant p = false) := isPlant_no (by rw [decide_eq_false h12]; simp)
    go_wp2_with fail
    go_ret
    exact ⟨ret_bool HF.out.symm, hb⟩
  by_cases h16 : (p.rc.length : Int) ≤ 16
  case neg =>
    have HF : Hid (isPlant p = false) := isPlant_no (by rw [decide_eq_false h16]; simp)
    go_wp2_with fail
    go_ret
    exact ⟨ret_bool HF.out.symm, hb⟩
  go_wp2_with fail
  clear b0 b1 b2 b3 b4 b5 b6 bl
  go_loopw [34] (fun i wr => ∃ k : Nat, k ≤ p.st.length ∧ i = .int .i64 k ∧ Hid (∀ j < k, okStk p.it p.st j = true) ∧ BoxOf wr w.heap.size [.slice a0 n0 c0, .slice a1 n1 c1, .slice a2 n2 c2, .slice a3 n3 c3, .slice a4 n4 c4, .slice a5 p.st.length c5, .slice a6 p.rc.length c6] ∧ Below w.heap.size w wr) (fun i _ => p.st.length - (intOf i).toNat)
  case atStart => exact ⟨0, by omega, rfl, fun j h => absurd h (by omega), B0, hb⟩
  case round =>
    clear B0 hb
    obtain ⟨k, hk, rfl, HI, B0, hb⟩ := hrel
    obtain ⟨b0, b1, b2, b3, b4, b5, b6, bl⟩ := B0.seven
    by_cases hlt : k < p.st.length
    · have HIT := Lib.hid (Q0.out.keep hb)
      have hst := Q5.out.keep hb
      obtain ⟨b, o, rfl, hbl, hc0, hc1⟩ := need_at hst hlt
      obtain ⟨f3, f3b⟩ := findIt_bd p.it p.st[k].1
      have hs := below_alloc wr (.cells #[.string p.st[k].1, .int .i64 p.st[k].2] 70)
      have hB := below_on hb hs
      have BB := B0.keep hs
      have d0 : (wr.alloc (.cells #[.string p.st[k].1, .int .i64 p.st[k].2] 70)).cell? ⟨wr.heap.size, 0, none⟩ = some (.string p.st[k].1) := by simp [go_sem]
      have d1 : (wr.alloc (.cells #[.string p.st[k].1, .int .i64 p.st[k].2] 70)).cell? ⟨wr.heap.size, 1, none⟩ = some (.int .i64 p.st[k].2) := by simp [go_sem]
      have dl : wr.heap.size < (wr.alloc (.cells #[.string p.st[k].1, .int .i64 p.st[k].2] 70)).heap.size := by simp
      have hbl2 : b < (wr.alloc (.cells #[.string p.st[k].1, .int .i64 p.st[k].2] 70)).heap.size := Nat.lt_of_lt_of_le hbl hs.size
      go_wp2_with fail
      have hst2 := hst.keep hs
      generalize wr.alloc (.cells #[.string p.st[k].1, .int .i64 p.st[k].2] 70) = wq at *
      generalize wr.heap.size = N at *
      clear b0 b1 b2 b3 b4 b5 b6 bl hc0 hc1 hs hbl HIT
      obtain ⟨b0, b1, b2, b3, b4, b5, b6, bl⟩ := BB.seven
      by_cases f1 : 0 ≤ findIt p.it p.st[k].1
      case neg =>
        have HC := Lib.hid (okStk_find hlt f1)
        have f5 : findIt p.it p.st[k].1 < 0 := by omega
        clear f3 f3b f1
        refine wp_region_held_drew (S := (fun w' => w'.cell? ⟨w.heap.size, 0, none⟩ = some (.slice a0 n0 c0) ∧ w'.cell? ⟨w.heap.size, 5, none⟩ = some (.slice (some ⟨b, o, none⟩) p.st.length c5) ∧ w'.cell? ⟨N, 0, none⟩ = some (.string p.st[k].1) ∧ w'.cell? ⟨N, 1, none⟩ = some (.int .i64 p.st[k].2) ∧ w.heap.size < w'.heap.size ∧ N < w'.heap.size ∧ b < w'.heap.size ∧ BoxOf w' w.heap.size [.slice a0 n0 c0, .slice a1 n1 c1, .slice a2 n2 c2, .slice a3 n3 c3, .slice a4 n4 c4, .slice (some ⟨b, o, none⟩) p.st.length c5, .slice a6 p.rc.length c6] ∧ Below w.heap.size w w')) (by kernel_rfl) ⟨b0, b5, d0, d1, bl, dl, hbl2, BB.keep (Below.refl _ _).drew, hB.drew⟩ (fun hHeld => ?_)
        refine held1 0 (some 39) hHeld ?_
        refine held1 1 (some 40) hHeld ?_
        refine held1 2 (some 41) hHeld ?_
        refine held1 3 (some 42) hHeld ?_
        refine held_do 4 fun K hK => ?_
        go_simp
        go_at_call 18; refine (implFindItem_any a0 n0 c0 p.it p.st[k].1 _ (Q0.out.keep (by obtain ⟨y_x0, y_x4, y_d0, y_d1, y_l, y_n, y_b, y_X, y_B⟩ := hHeld; exact y_B))).mono ?_; rintro e w3 ⟨rfl, hb3⟩; go_simp
        refine hK.out _ _ ?_ (fun hHeld => ?_)
        · obtain ⟨y_x0, y_x4, y_d0, y_d1, y_l, y_n, y_b, y_X, y_B⟩ := hHeld; exact ⟨(hb3.cell y_l).trans y_x0, (hb3.cell y_l).trans y_x4, (hb3.cell y_n).trans y_d0, (hb3.cell y_n).trans y_d1, Nat.lt_of_lt_of_le y_l hb3.size, Nat.lt_of_lt_of_le y_n hb3.size, Nat.lt_of_lt_of_le y_b hb3.size, y_X.keep hb3, below_on y_B hb3⟩
        clear hK K
        refine held1 5 (some 44) hHeld ?_
        refine held1 6 (some 45) hHeld ?_
        refine held0 7 (some 46) hHeld ?_
        refine held0 8 (some 47) hHeld ?_
        refine held0 9 (some 48) hHeld ?_
        refine held0 10 (some 49) hHeld ?_
        refine held1 11 (some 50) hHeld ?_
        refine held1 12 (some 51) hHeld ?_
        refine held0 13 (some 52) hHeld ?_
        refine held0 14 (some 53) hHeld ?_
        refine held0 15 (some 54) hHeld ?_
        refine held0 16 (some 55) hHeld ?_
        refine held0 17 (some 56) hHeld ?_
        refine held0 18 (some 57) hHeld ?_
        refine held0 19 (some 58) hHeld ?_
        refine held0 20 (some 59) hHeld ?_
        refine held0 21 (some 60) hHeld ?_
        refine held0 22 (some 61) hHeld ?_
        refine held0 23 (some 62) hHeld ?_
        refine held0 24 (some 63) hHeld ?_
        refine held0 25 (some 64) hHeld ?_
        refine held0 26 (some 65) hHeld ?_
        refine held1 27 (some 66) hHeld ?_
        refine wpAnyH_done (by kernel_rfl) ?_ _
        obtain ⟨y_x0, y_x4, y_d0, y_d1, y_l, y_n, y_b, y_X, y_B⟩ := hHeld
        go_wp2
        go_ret
        exact ⟨ret_bool (isPlant_stk hlt HC.out).symm, y_B⟩
      have f5 : ¬ findIt p.it p.st[k].1 < 0 := by omega
      have f6 : decide (findIt p.it p.st[k].1 < 0) = false := decide_eq_false f5
      cases q1 : inB p.st[k].2 0 100000
      · have HC := Lib.hid (okStk_in (it := p.it) hlt q1)
        clear f1 f3 f3b
        refine wp_region_held_drew (S := (fun w' => w'.cell? ⟨w.heap.size, 0, none⟩ = some (.slice a0 n0 c0) ∧ w'.cell? ⟨w.heap.size, 5, none⟩ = some (.slice (some ⟨b, o, none⟩) p.st.length c5) ∧ w'.cell? ⟨N, 0, none⟩ = some (.string p.st[k].1) ∧ w'.cell? ⟨N, 1, none⟩ = some (.int .i64 p.st[k].2) ∧ w.heap.size < w'.heap.size ∧ N < w'.heap.size ∧ b < w'.heap.size ∧ BoxOf w' w.heap.size [.slice a0 n0 c0, .slice a1 n1 c1, .slice a2 n2 c2, .slice a3 n3 c3, .slice a4 n4 c4, .slice (some ⟨b, o, none⟩) p.st.length c5, .slice a6 p.rc.length c6] ∧ Below w.heap.size w w')) (by kernel_rfl) ⟨b0, b5, d0, d1, bl, dl, hbl2, BB.keep (Below.refl _ _).drew, hB.drew⟩ (fun hHeld => ?_)
        refine held1 0 (some 39) hHeld ?_
        refine held1 1 (some 40) hHeld ?_
        refine held1 2 (some 41) hHeld ?_
        refine held1 3 (some 42) hHeld ?_
        refine held_do 4 fun K hK => ?_
        go_simp
        go_at_call 18; refine (implFindItem_any a0 n0 c0 p.it p.st[k].1 _ (Q0.out.keep (by obtain ⟨y_x0, y_x4, y_d0, y_d1, y_l, y_n, y_b, y_X, y_B⟩ := hHeld; exact y_B))).mono ?_; rintro e w3 ⟨rfl, hb3⟩; go_simp
        refine hK.out _ _ ?_ (fun hHeld => ?_)
        · obtain ⟨y_x0, y_x4, y_d0, y_d1, y_l, y_n, y_b, y_X, y_B⟩ := hHeld; exact ⟨(hb3.cell y_l).trans y_x0, (hb3.cell y_l).trans y_x4, (hb3.cell y_n).trans y_d0, (hb3.cell y_n).trans y_d1, Nat.lt_of_lt_of_le y_l hb3.size, Nat.lt_of_lt_of_le y_n hb3.size, Nat.lt_of_lt_of_le y_b hb3.size, y_X.keep hb3, below_on y_B hb3⟩
        clear hK K
        refine held1 5 (some 44) hHeld ?_
        refine held1 6 (some 45) hHeld ?_
        refine held1 7 (some 46) hHeld ?_
        refine held1 8 (some 47) hHeld ?_
        refine held_do 9 fun K hK => ?_
        go_simp
        go_at_call 25; refine (in_any _ _ _ _).mono ?_; rintro e w5 ⟨rfl, rfl⟩; (try simp only [q1]); go_simp
        refine hK.out _ _ ?_ (fun hHeld => ?_)
        · exact hHeld
        clear hK K
        refine held1 10 (some 49) hHeld ?_
        refine held1 11 (some 50) hHeld ?_
        refine held1 12 (some 51) hHeld ?_
        refine held0 13 (some 52) hHeld ?_
        refine held0 14 (some 53) hHeld ?_
        refine held0 15 (some 54) hHeld ?_
        refine held0 16 (some 55) hHeld ?_
        refine held0 17 (some 56) hHeld ?_
        refine held0 18 (some 57) hHeld ?_
        refine held0 19 (some 58) hHeld ?_
        refine held0 20 (some 59) hHeld ?_
        refine held0 21 (some 60) hHeld ?_
        refine held0 22 (some 61) hHeld ?_
        refine held0 23 (some 62) hHeld ?_
        refine held0 24 (some 63) hHeld ?_
        refine held0 25 (some 64) hHeld ?_
        refine held0 26 (some 65) hHeld ?_
        refine held1 27 (some 66) hHeld ?_
        refine wpAnyH_done (by kernel_rfl) ?_ _
        obtain ⟨y_x0, y_x4, y_d0, y_d1, y_l, y_n, y_b, y_X, y_B⟩ := hHeld
        go_wp2
        go_ret
        exact ⟨ret_bool (isPlant_stk hlt HC.out).symm, y_B⟩
      by_cases h0 : k = 0
      · have hy1 : decide (0 < k) = false := by simp; omega
        have hy2 : decide ((0 : Int) < (k : Int)) = false := by simp; omega
        have HC := Lib.hid (okStk_first hlt f1 q1 h0)
        clear h0 f1 f3 f3b
        refine wp_region_held_drew (S := (fun w' => w'.cell? ⟨w.heap.size, 0, none⟩ = some (.slice a0 n0 c0) ∧ w'.cell? ⟨w.heap.size, 5, none⟩ = some (.slice (some ⟨b, o, none⟩) p.st.length c5) ∧ w'.cell? ⟨N, 0, none⟩ = some (.string p.st[k].1) ∧ w'.cell? ⟨N, 1, none⟩ = some (.int .i64 p.st[k].2) ∧ w.heap.size < w'.heap.size ∧ N < w'.heap.size ∧ b < w'.heap.size ∧ BoxOf w' w.heap.size [.slice a0 n0 c0, .slice a1 n1 c1, .slice a2 n2 c2, .slice a3 n3 c3, .slice a4 n4 c4, .slice (some ⟨b, o, none⟩) p.st.length c5, .slice a6 p.rc.length c6] ∧ Below w.heap.size w w')) (by kernel_rfl) ⟨b0, b5, d0, d1, bl, dl, hbl2, BB.keep (Below.refl _ _).drew, hB.drew⟩ (fun hHeld => ?_)
        refine held1 0 (some 39) hHeld ?_
        refine held1 1 (some 40) hHeld ?_
        refine held1 2 (some 41) hHeld ?_
        refine held1 3 (some 42) hHeld ?_
        refine held_do 4 fun K hK => ?_
        go_simp
        go_at_call 18; refine (implFindItem_any a0 n0 c0 p.it p.st[k].1 _ (Q0.out.keep (by obtain ⟨y_x0, y_x4, y_d0, y_d1, y_l, y_n, y_b, y_X, y_B⟩ := hHeld; exact y_B))).mono ?_; rintro e w3 ⟨rfl, hb3⟩; go_simp
        refine hK.out _ _ ?_ (fun hHeld => ?_)
        · obtain ⟨y_x0, y_x4, y_d0, y_d1, y_l, y_n, y_b, y_X, y_B⟩ := hHeld; exact ⟨(hb3.cell y_l).trans y_x0, (hb3.cell y_l).trans y_x4, (hb3.cell y_n).trans y_d0, (hb3.cell y_n).trans y_d1, Nat.lt_of_lt_of_le y_l hb3.size, Nat.lt_of_lt_of_le y_n hb3.size, Nat.lt_of_lt_of_le y_b hb3.size, y_X.keep hb3, below_on y_B hb3⟩
        clear hK K
        refine held1 5 (some 44) hHeld ?_
        refine held1 6 (some 45) hHeld ?_
        refine held1 7 (some 46) hHeld ?_
        refine held1 8 (some 47) hHeld ?_
        refine held_do 9 fun K hK => ?_
        go_simp
        go_at_call 25; refine (in_any _ _ _ _).mono ?_; rintro e w5 ⟨rfl, rfl⟩; (try simp only [q1]); go_simp
        refine hK.out _ _ ?_ (fun hHeld => ?_)
        · exact hHeld
        clear hK K
        refine held1 10 (some 49) hHeld ?_
        refine held1 11 (some 50) hHeld ?_
        refine held1 12 (some 51) hHeld ?_
        refine held1 13 (some 52) hHeld ?_
        refine held1 14 (some 53) hHeld ?_
        refine held1 15 (some 54) hHeld ?_
        refine held0 16 (some 55) hHeld ?_
        refine held0 17 (some 56) hHeld ?_
        refine held0 18 (some 57) hHeld ?_
        refine held0 19 (some 58) hHeld ?_
        refine held0 20 (some 59) hHeld ?_
        refine held0 21 (some 60) hHeld ?_
        refine held0 22 (some 61) hHeld ?_
        refine held0 23 (some 62) hHeld ?_
        refine held0 24 (some 63) hHeld ?_
        refine held0 25 (some 64) hHeld ?_
        refine held1 26 (some 65) hHeld ?_
        refine held1 27 (some 66) hHeld ?_
        refine wpAnyH_done (by kernel_rfl) ?_ _
        obtain ⟨y_x0, y_x4, y_d0, y_d1, y_l, y_n, y_b, y_X, y_B⟩ := hHeld
        go_wp2
        go_roundw
        case rel => exact ⟨k + 1, by omega, by go_num, okStk_more HC.out HI.out, y_X, y_B⟩
        case measure => simp [intOf]; omega
      have hlt2 : k - 1 < p.st.length := by omega
      obtain ⟨b2, o2, e2, _, hp0, _⟩ := need_at hst2 hlt2
      obtain ⟨rfl, rfl⟩ : b = b2 ∧ o = o2 := by simpa using e2
      clear e2
      have hy1 : decide (0 < k) = true := by simp; omega
      have hy2 : decide ((0 : Int) < (k : Int)) = true := by simp; omega
      have hi1 : (0 : Int) ≤ (k : Int) - 1 := by omega
      have hi2 : (k : Int) - 1 < (p.st.length : Int) := by omega
      have hi3 : ((k : Int) - 1).toNat = k - 1 := by omega
      have hi4 : (1 : Int) ≤ (k : Int) := by omega
      have hwk : IntKind.i64.wrap ((k : Int) - 1) = (k : Int) - 1 := IntWalk.i64_in _ (by omega)
      have HC := Lib.hid (okStk_next hlt f1 q1 h0 hlt2)
      clear h0 f1 f3 f3b
      cases hq : itLt p.st[k - 1].1 p.st[k].1
      · have hq2 : Op.bytesLess p.st[k - 1].1.toList p.st[k].1.toList = false := hq
        refine wp_region_held_drew (S := (fun w' => w'.cell? ⟨w.heap.size, 0, none⟩ = some (.slice a0 n0 c0) ∧ w'.cell? ⟨w.heap.size, 5, none⟩ = some (.slice (some ⟨b, o, none⟩) p.st.length c5) ∧ w'.cell? ⟨N, 0, none⟩ = some (.string p.st[k].1) ∧ w'.cell? ⟨N, 1, none⟩ = some (.int .i64 p.st[k].2) ∧ w'.cell? ⟨b, o + (k - 1) * 2, none⟩ = some (.string p.st[k - 1].1) ∧ w.heap.size < w'.heap.size ∧ N < w'.heap.size ∧ b < w'.heap.size ∧ BoxOf w' w.heap.size [.slice a0 n0 c0, .slice a1 n1 c1, .slice a2 n2 c2, .slice a3 n3 c3, .slice a4 n4 c4, .slice (some ⟨b, o, none⟩) p.st.length c5, .slice a6 p.rc.length c6] ∧ Below w.heap.size w w')) (by kernel_rfl) ⟨b0, b5, d0, d1, hp0, bl, dl, hbl2, BB.keep (Below.refl _ _).drew, hB.drew⟩ (fun hHeld => ?_)
        refine held1 0 (some 39) hHeld ?_
        refine held1 1 (some 40) hHeld ?_
        refine held1 2 (some 41) hHeld ?_
        refine held1 3 (some 42) hHeld ?_
        refine held_do 4 fun K hK => ?_
        go_simp
        go_at_call 18; refine (implFindItem_any a0 n0 c0 p.it p.st[k].1 _ (Q0.out.keep (by obtain ⟨y_x0, y_x4, y_d0, y_d1, y_p0, y_l, y_n, y_b, y_X, y_B⟩ := hHeld; exact y_B))).mono ?_; rintro e w3 ⟨rfl, hb3⟩; go_simp
        refine hK.out _ _ ?_ (fun hHeld => ?_)
        · obtain ⟨y_x0, y_x4, y_d0, y_d1, y_p0, y_l, y_n, y_b, y_X, y_B⟩ := hHeld; exact ⟨(hb3.cell y_l).trans y_x0, (hb3.cell y_l).trans y_x4, (hb3.cell y_n).trans y_d0, (hb3.cell y_n).trans y_d1, (hb3.cell y_b).trans y_p0, Nat.lt_of_lt_of_le y_l hb3.size, Nat.lt_of_lt_of_le y_n hb3.size, Nat.lt_of_lt_of_le y_b hb3.size, y_X.keep hb3, below_on y_B hb3⟩
        clear hK K
        refine held1 5 (some 44) hHeld ?_
        refine held1 6 (some 45) hHeld ?_
        refine held1 7 (some 46) hHeld ?_
        refine held1 8 (some 47) hHeld ?_
        refine held_do 9 fun K hK => ?_
        go_simp
        go_at_call 25; refine (in_any _ _ _ _).mono ?_; rintro e w5 ⟨rfl, rfl⟩; (try simp only [q1]); go_simp
        refine hK.out _ _ ?_ (fun hHeld => ?_)
        · exact hHeld
        clear hK K
        refine held1 10 (some 49) hHeld ?_
        refine held1 11 (some 50) hHeld ?_
        refine held1 12 (some 51) hHeld ?_
        refine held1 13 (some 52) hHeld ?_
        refine held1 14 (some 53) hHeld ?_
        refine held1 15 (some 54) hHeld ?_
        refine held1 16 (some 55) hHeld ?_
        refine held1 17 (some 56) hHeld ?_
        refine held1 18 (some 57) hHeld ?_
        refine held1 19 (some 58) hHeld ?_
        refine held1 20 (some 59) hHeld ?_
        refine held1 21 (some 60) hHeld ?_
        refine held1 22 (some 61) hHeld ?_
        refine held1 23 (some 62) hHeld ?_
        refine held1 24 (some 63) hHeld ?_
        refine held1 25 (some 64) hHeld ?_
        refine held1 26 (some 65) hHeld ?_
        refine held1 27 (some 66) hHeld ?_
        refine wpAnyH_done (by kernel_rfl) ?_ _
        obtain ⟨y_x0, y_x4, y_d0, y_d1, y_p0, y_l, y_n, y_b, y_X, y_B⟩ := hHeld
        go_wp2
        go_ret
        exact ⟨ret_bool (isPlant_stk hlt (HC.out.trans hq)).symm, y_B⟩
      · have hq2 : Op.bytesLess p.st[k - 1].1.toList p.st[k].1.toList = true := hq
        refine wp_region_held_drew (S := (fun w' => w'.cell? ⟨w.heap.size, 0, none⟩ = some (.slice a0 n0 c0) ∧ w'.cell? ⟨w.heap.size, 5, none⟩ = some (.slice (some ⟨b, o, none⟩) p.st.length c5) ∧ w'.cell? ⟨N, 0, none⟩ = some (.string p.st[k].1) ∧ w'.cell? ⟨N, 1, none⟩ = some (.int .i64 p.st[k].2) ∧ w'.cell? ⟨b, o + (k - 1) * 2, none⟩ = some (.string p.st[k - 1].1) ∧ w.heap.size < w'.heap.size ∧ N < w'.heap.size ∧ b < w'.heap.size ∧ BoxOf w' w.heap.size [.slice a0 n0 c0, .slice a1 n1 c1, .slice a2 n2 c2, .slice a3 n3 c3, .slice a4 n4 c4, .slice (some ⟨b, o, none⟩) p.st.length c5, .slice a6 p.rc.length c6] ∧ Below w.heap.size w w')) (by kernel_rfl) ⟨b0, b5, d0, d1, hp0, bl, dl, hbl2, BB.keep (Below.refl _ _).drew, hB.drew⟩ (fun hHeld => ?_)
        refine held1 0 (some 39) hHeld ?_
        refine held1 1 (some 40) hHeld ?_
        refine held1 2 (some 41) hHeld ?_
        refine held1 3 (some 42) hHeld ?_
        refine held_do 4 fun K hK => ?_
        go_simp
        go_at_call 18; refine (implFindItem_any a0 n0 c0 p.it p.st[k].1 _ (Q0.out.keep (by obtain ⟨y_x0, y_x4, y_d0, y_d1, y_p0, y_l, y_n, y_b, y_X, y_B⟩ := hHeld; exact y_B))).mono ?_; rintro e w3 ⟨rfl, hb3⟩; go_simp
        refine hK.out _ _ ?_ (fun hHeld => ?_)
        · obtain ⟨y_x0, y_x4, y_d0, y_d1, y_p0, y_l, y_n, y_b, y_X, y_B⟩ := hHeld; exact ⟨(hb3.cell y_l).trans y_x0, (hb3.cell y_l).trans y_x4, (hb3.cell y_n).trans y_d0, (hb3.cell y_n).trans y_d1, (hb3.cell y_b).trans y_p0, Nat.lt_of_lt_of_le y_l hb3.size, Nat.lt_of_lt_of_le y_n hb3.size, Nat.lt_of_lt_of_le y_b hb3.size, y_X.keep hb3, below_on y_B hb3⟩
        clear hK K
        refine held1 5 (some 44) hHeld ?_
        refine held1 6 (some 45) hHeld ?_
        refine held1 7 (some 46) hHeld ?_
        refine held1 8 (some 47) hHeld ?_
        refine held_do 9 fun K hK => ?_
        go_simp
        go_at_call 25; refine (in_any _ _ _ _).mono ?_; rintro e w5 ⟨rfl, rfl⟩; (try simp only [q1]); go_simp
        refine hK.out _ _ ?_ (fun hHeld => ?_)
        · exact hHeld
        clear hK K
        refine held1 10 (some 49) hHeld ?_
        refine held1 11 (some 50) hHeld ?_
        refine held1 12 (some 51) hHeld ?_
        refine held1 13 (some 52) hHeld ?_
        refine held1 14 (some 53) hHeld ?_
        refine held1 15 (some 54) hHeld ?_
        refine held1 16 (some 55) hHeld ?_
        refine held1 17 (some 56) hHeld ?_
        refine held1 18 (some 57) hHeld ?_
        refine held1 19 (some 58) hHeld ?_
        refine held1 20 (some 59) hHeld ?_
        refine held1 21 (some 60) hHeld ?_
        refine held1 22 (some 61) hHeld ?_
        refine held1 23 (some 62) hHeld ?_
        refine held1 24 (some 63) hHeld ?_
        refine held1 25 (some 64) hHeld ?_
        refine held1 26 (some 65) hHeld ?_
        refine held1 27 (some 66) hHeld ?_
        refine wpAnyH_done (by kernel_rfl) ?_ _
        obtain ⟨y_x0, y_x4, y_d0, y_d1, y_p0, y_l, y_n, y_b, y_X, y_B⟩ := hHeld
        go_wp2
        go_roundw
        case rel => exact ⟨k + 1, by omega, by go_num, okStk_more (HC.out.trans hq) HI.out, y_X, y_B⟩
        case measure => simp [intOf]; omega
    · obtain rfl : k = p.st.length := by omega
      go_wp2_with fail
      clear b0 b1 b2 b3 b4 b5 b6 bl
      go_loopw [71] (fun i wr => ∃ k : Nat, k ≤ p.rc.length ∧ i = .int .i64 k ∧ Hid ((p.rc.take k).all (okRcp p.it) = true) ∧ BoxOf wr w.heap.size [.slice a0 n0 c0, .slice a1 n1 c1, .slice a2 n2 c2, .slice a3 n3 c3, .slice a4 n4 c4, .slice a5 p.st.length c5, .slice a6 p.rc.length c6] ∧ Below w.heap.size w wr) (fun i _ => p.rc.length - (intOf i).toNat)
      case atStart => exact ⟨0, by omega, rfl, rfl, B0, hb⟩
      case round =>
        clear B0 hb hlt hk
        obtain ⟨k, hk, rfl, HJ, B0, hb⟩ := hrel
        obtain ⟨b0, b1, b2, b3, b4, b5, b6, bl⟩ := B0.seven
        by_cases hlt : k < p.rc.length
        · have HIT := Lib.hid (Q0.out.keep hb)
          have hrc := Q6.out.keep hb
          obtain ⟨b, o, rfl, hbl, hc0, hc1, hc2⟩ := receipt_at hrc hlt
          obtain ⟨f3, f3b⟩ := findIt_bd p.it p.rc[k].1
          have hs := below_alloc wr (.cells #[.string p.rc[k].1, .int .i64 p.rc[k].2.1, .int .i64 p.rc[k].2.2] 100)
          have hB := below_on hb hs
          have BB := B0.keep hs
          have d0 : (wr.alloc (.cells #[.string p.rc[k].1, .int .i64 p.rc[k].2.1, .int .i64 p.rc[k].2.2] 100)).cell? ⟨wr.heap.size, 0, none⟩ = some (.string p.rc[k].1) := by simp [go_sem]
          have d1 : (wr.alloc (.cells #[.string p.rc[k].1, .int .i64 p.rc[k].2.1, .int .i64 p.rc[k].2.2] 100)).cell? ⟨wr.heap.size, 1, none⟩ = some (.int .i64 p.rc[k].2.1) := by simp [go_sem]
          have d2 : (wr.alloc (.cells #[.string p.rc[k].1, .int .i64 p.rc[k].2.1, .int .i64 p.rc[k].2.2] 100)).cell? ⟨wr.heap.size, 2, none⟩ = some (.int .i64 p.rc[k].2.2) := by simp [go_sem]
          have dl : wr.heap.size < (wr.alloc (.cells #[.string p.rc[k].1, .int .i64 p.rc[k].2.1, .int .i64 p.rc[k].2.2] 100)).heap.size := by simp
          go_wp2_with fail
          generalize wr.alloc (.cells #[.string p.rc[k].1, .int .i64 p.rc[k].2.1, .int .i64 p.rc[k].2.2] 100) = wq at *
          generalize wr.heap.size = N at *
          clear b0 b1 b2 b3 b4 b5 b6 bl hc0 hc1 hc2 HIT hb B0
          refine (implFindItem_any _ _ _ p.it _ _ (Q0.out.keep hB)).mono ?_
          rintro e w3 ⟨rfl, hs3⟩
          have e1 := (hs3.cell (p := ⟨N, 1, none⟩) dl).trans d1
          have e2 := (hs3.cell (p := ⟨N, 2, none⟩) dl).trans d2
          replace hB := below_on hB hs3
          replace BB := BB.keep hs3
          clear hs hs3 d0 d1 d2 dl
          by_cases f1 : 0 ≤ findIt p.it p.rc[k].1
          case neg =>
            have HC : Hid (okRcp p.it p.rc[k] = false) := by show _ = _; unfold okRcp; rw [decide_eq_false f1]; rfl
            have f5 : findIt p.it p.rc[k].1 < 0 := by omega
            clear f3 f3b f1
            go_wp2_with (go_at_call 25; refine (in_any _ _ _ _).mono ?_; rintro e w' ⟨rfl, rfl⟩)
            go_ret
            exact ⟨ret_bool (isPlant_rcp hlt HC.out).symm, hB⟩
          have f5 : ¬ findIt p.it p.rc[k].1 < 0 := by omega
          have f6 : decide (findIt p.it p.rc[k].1 < 0) = false := decide_eq_false f5
          cases q1 : inB p.rc[k].2.2 1 100000
          · have HC : Hid (okRcp p.it p.rc[k] = false) := by show _ = _; unfold okRcp; rw [q1]; simp
            clear f1 f3 f3b
            go_wp2_with (go_at_call 25; refine (in_any _ _ _ _).mono ?_; rintro e w' ⟨rfl, rfl⟩)
            go_ret
            exact ⟨ret_bool (isPlant_rcp hlt HC.out).symm, hB⟩
          cases q2 : inB p.rc[k].2.1 0 999
          · have HC : Hid (okRcp p.it p.rc[k] = false) := by show _ = _; unfold okRcp; rw [q2]; simp
            clear f1 f3 f3b
            go_wp2_with (go_at_call 25; refine (in_any _ _ _ _).mono ?_; rintro e w' ⟨rfl, rfl⟩)
            go_ret
            exact ⟨ret_bool (isPlant_rcp hlt HC.out).symm, hB⟩
          have HC : Hid (okRcp p.it p.rc[k] = true) := by show _ = _; unfold okRcp; rw [decide_eq_true f1, q1, q2]; rfl
          clear f1 f3 f3b
          go_wp2_with (go_at_call 25; refine (in_any _ _ _ _).mono ?_; rintro e w' ⟨rfl, rfl⟩)
          go_roundw
          case rel => exact ⟨k + 1, by omega, by go_num, by rw [all_take p.rc _ k hlt, HJ.out]; exact HC.out, BB, hB⟩
          case measure => simp [intOf]; omega
        · obtain rfl : k = p.rc.length := by omega
          have HF := Lib.hid (isPlant_yes g1 g2 h12 h16 HI.out HJ.out)
          go_wp2_with fail
          go_ret
          exact ⟨ret_bool HF.out.symm, hb⟩
end Go.Proofs.Ytlkolehdikfddaa
/- The walks of StockOf. -/
namespace Go.Proofs.Ytlkolehdikfddaa
open Go.RowKit
/-- What lies there of an item, by the first row that names it. -/
def stkOf (st : List Nd) (s : ByteArray) : Int := match st.find? (fun x => x.1.toList == s.toList) with
  | some x => x.2
  | none => 0
def stockOf (p : Pt) (s : ByteArray) : Int := if isPlant p = true then stkOf p.st s else 0
theorem stockOf_no {p : Pt} {s : ByteArray} (h : isPlant p = false) : stockOf p s = 0 := by unfold stockOf; rw [if_neg (by rw [h]; decide)]
theorem stkOf_hit {st : List Nd} {s : ByteArray} {k : Nat} (hk : k < st.length) (h : ∀ j (hj : j < st.length), j < k → (st[j].1.toList == s.toList) = false) (he : (st[k].1.toList == s.toList) = true) : stkOf st s = st[k].2 := by
  have : st.find? (fun x => x.1.toList == s.toList) = some st[k] := by
    rw [List.find?_eq_some_iff_getElem]
    exact ⟨he, k, hk, rfl, fun j hj => by rw [h j (by omega) hj]; rfl⟩
  unfold stkOf; rw [this]
theorem stkOf_miss {st : List Nd} {s : ByteArray} (h : ∀ j (hj : j < st.length), (st[j].1.toList == s.toList) = false) : stkOf st s = 0 := by
  have : st.find? (fun x => x.1.toList == s.toList) = none := by
    rw [List.find?_eq_none]
    intro x hx
    obtain ⟨k, hk, rfl⟩ := List.getElem_of_mem hx
    rw [h k hk]; decide
  unfold stkOf; rw [this]
theorem stockOf_hit {p : Pt} {s : ByteArray} (hp : isPlant p = true) {k : Nat} (hk : k < p.st.length) (h : ∀ j (hj : j < p.st.length), j < k → (p.st[j].1.toList == s.toList) = false) (he : (p.st[k].1.toList == s.toList) = true) : stockOf p s = p.st[k].2 := by
  unfold stockOf; rw [if_pos hp, stkOf_hit hk h he]
theorem stockOf_miss {p : Pt} {s : ByteArray} (hp : isPlant p = true) (h : ∀ j (hj : j < p.st.length), (p.st[j].1.toList == s.toList) = false) : stockOf p s = 0 := by
  unfold stockOf; rw [if_pos hp, stkOf_miss h]
theorem isPlant_parts {p : Pt} (h : isPlant p = true) : isBills p.it p.ls = true ∧ isCal p.wk p.ex = true ∧ p.st.length ≤ 12 ∧ p.rc.length ≤ 16 ∧ (∀ k (hk : k < p.st.length), 0 ≤ findIt p.it p.st[k].1 ∧ 0 ≤ p.st[k].2 ∧ p.st[k].2 ≤ 100000) ∧ (∀ k (hk : k < p.rc.length), 0 ≤ findIt p.it p.rc[k].1 ∧ (1 ≤ p.rc[k].2.2 ∧ p.rc[k].2.2 ≤ 100000) ∧ 0 ≤ p.rc[k].2.1 ∧ p.rc[k].2.1 ≤ 999) := by
  simp only [isPlant, Bool.and_eq_true, decide_eq_true_eq, List.all_eq_true, List.mem_range] at h
  obtain ⟨⟨h1, h2, h3, h4⟩, h5, h6⟩ := h
  refine ⟨h1, h2, by omega, by omega, fun k hk => ?_, fun k hk => ?_⟩
  · have := h5 k hk
    rw [okStk_of hk] at this
    simp only [Bool.and_eq_true, decide_eq_true_eq, inB_iff] at this
    exact ⟨this.1, this.2.1⟩
  · have := h6 _ (List.getElem_mem hk)
    simp only [okRcp, Bool.and_eq_true, decide_eq_true_eq, inB_iff] at this
    exact ⟨this.1, this.2.1, this.2.2⟩
set_option maxRecDepth 100000 in
set_option maxHeartbeats 4000000 in
theorem specStockOf_any (r : PtR) (p : Pt) (s : ByteArray) (w : World) (hp : PlantIn w r p) (hok : okPt p) (_hs : s.size ≤ 9223372036854775807) :
    Calls Try.prog 78 #[.agg #[.slice r.i.a r.i.n r.i.c, .slice r.l.a r.l.n r.l.c, .slice r.w.a r.w.n r.w.c, .slice r.e.a r.e.n r.e.c, .slice r.p.a r.p.n r.p.c, .slice r.s.a r.s.n r.s.c, .slice r.q.a r.q.n r.q.c], .string s] w fun e w' => e = .returned (.int .i64 (stockOf p s)) ∧ Below w.heap.size w w' := by
  obtain ⟨⟨a0, n0, c0⟩, ⟨a1, n1, c1⟩, ⟨a2, n2, c2⟩, ⟨a3, n3, c3⟩, ⟨a4, n4, c4⟩, ⟨a5, n5, c5⟩, ⟨a6, n6, c6⟩⟩ := r
  have HNS := Lib.hid hp.st.1
  have HNR := Lib.hid hp.rc.1
  dsimp only at HNS HNR ⊢
  obtain rfl := HNS.out
  obtain rfl := HNR.out
  clear HNS HNR
  have hls := hp.st.len
  have hlr := hp.rc.len
  have HP := Lib.hid hp
  have HQ5 := Lib.hid hp.st
  have HQ6 := Lib.hid hp.rc
  have HQ0 := Lib.hid hp.it
  dsimp only at HQ5 HQ6 HQ0
  have HO := Lib.hid hok
  clear hp hok
  have hb := below_alloc w (.cells #[.slice a0 n0 c0, .slice a1 n1 c1, .slice a2 n2 c2, .slice a3 n3 c3, .slice a4 n4 c4, .slice a5 p.st.length c5, .slice a6 p.rc.length c6] 34)
  have B0 : BoxOf (w.alloc (.cells #[.slice a0 n0 c0, .slice a1 n1 c1, .slice a2 n2 c2, .slice a3 n3 c3, .slice a4 n4 c4, .slice a5 p.st.length c5, .slice a6 p.rc.length c6] 34)) w.heap.size [.slice a0 n0 c0, .slice a1 n1 c1, .slice a2 n2 c2, .slice a3 n3 c3, .slice a4 n4 c4, .slice a5 p.st.length c5, .slice a6 p.rc.length c6] := boxOf_alloc w #[.slice a0 n0 c0, .slice a1 n1 c1, .slice a2 n2 c2, .slice a3 n3 c3, .slice a4 n4 c4, .slice a5 p.st.length c5, .slice a6 p.rc.length c6] 34
  cases g : isPlant p
  · have HN : Hid (stockOf p s = 0) := stockOf_no g
    by_cases h0 : 0 < p.st.length
    · go_enter Try.func78, Try.ntmps78
      go_wp2_with fail
      generalize (w.alloc (.cells #[.slice a0 n0 c0, .slice a1 n1 c1, .slice a2 n2 c2, .slice a3 n3 c3, .slice a4 n4 c4, .slice a5 p.st.length c5, .slice a6 p.rc.length c6] 34)) = V at *
      refine wp_loop_rounds 1 ?_
      rw [rounds_succ]
      obtain ⟨b0, b1, b2, b3, b4, b5, b6, bl⟩ := B0.seven
      go_wp2_with fail
      clear b0 b1 b2 b3 b4 b5 b6 bl
      refine (specIsPlant_any ⟨⟨a0, n0, c0⟩, ⟨a1, n1, c1⟩, ⟨a2, n2, c2⟩, ⟨a3, n3, c3⟩, ⟨a4, n4, c4⟩, ⟨a5, p.st.length, c5⟩, ⟨a6, p.rc.length, c6⟩⟩ p _ (HP.out.keep hb) HO.out).mono ?_
      rintro e V1 ⟨rfl, hs⟩
      rw [g]
      replace hb := below_on hb hs
      replace B0 := B0.keep hs
      clear hs
      go_wp2_with fail
      go_ret
      exact ⟨ret_int HN.out.symm, hb⟩
    · have hz : ¬ ((0 : Int) < (p.st.length : Int)) := by omega
      go_enter Try.func78, Try.ntmps78
      go_wp2_with fail
      generalize (w.alloc (.cells #[.slice a0 n0 c0, .slice a1 n1 c1, .slice a2 n2 c2, .slice a3 n3 c3, .slice a4 n4 c4, .slice a5 p.st.length c5, .slice a6 p.rc.length c6] 34)) = V at *
      refine wp_loop_rounds 1 ?_
      rw [rounds_succ]
      obtain ⟨b0, b1, b2, b3, b4, b5, b6, bl⟩ := B0.seven
      go_wp2_with fail
      go_ret
      exact ⟨ret_int HN.out.symm, hb⟩
  go_enter Try.func78, Try.ntmps78
  go_wp2_with fail
  generalize (w.alloc (.cells #[.slice a0 n0 c0, .slice a1 n1 c1, .slice a2 n2 c2, .slice a3 n3 c3, .slice a4 n4 c4, .slice a5 p.st.length c5, .slice a6 p.rc.length c6] 34)) = V at *
  go_loopw [5] (fun i wr => ∃ k : Nat, k ≤ p.st.length ∧ i = .int .i64 k ∧ Hid (∀ j (hj : j < p.st.length), j < k → (p.st[j].1.toList == s.toList) = false) ∧ BoxOf wr w.heap.size [.slice a0 n0 c0, .slice a1 n1 c1, .slice a2 n2 c2, .slice a3 n3 c3, .slice a4 n4 c4, .slice a5 p.st.length c5, .slice a6 p.rc.length c6] ∧ Below w.heap.size w wr) (fun i _ => p.st.length - (intOf i).toNat)
  case atStart => exact ⟨0, by omega, rfl, fun j _ h => absurd h (by omega), B0, hb⟩
  case round =>
    clear B0 hb
    obtain ⟨k, hk, rfl, HI, B0, hb⟩ := hrel
    by_cases hlt : k < p.st.length
    · obtain ⟨b0, b1, b2, b3, b4, b5, b6, bl⟩ := B0.seven
      go_wp2_with fail
      clear b0 b1 b2 b3 b4 b5 b6 bl
      refine (specIsPlant_any ⟨⟨a0, n0, c0⟩, ⟨a1, n1, c1⟩, ⟨a2, n2, c2⟩, ⟨a3, n3, c3⟩, ⟨a4, n4, c4⟩, ⟨a5, p.st.length, c5⟩, ⟨a6, p.rc.length, c6⟩⟩ p _ (HP.out.keep hb) HO.out).mono ?_
      rintro e V1 ⟨rfl, hs⟩
      rw [g]
      replace hb := below_on hb hs
      replace B0 := B0.keep hs
      clear hs
      obtain ⟨b, o, rfl, hbl, hc0, hc1⟩ := need_at (HQ5.out.keep hb) hlt
      obtain ⟨b0, b1, b2, b3, b4, b5, b6, bl⟩ := B0.seven
      cases he : (p.st[k].1.toList == s.toList)
      · have HX : Hid (∀ j (hj : j < p.st.length), j < k + 1 → (p.st[j].1.toList == s.toList) = false) := fun j hj hjk => by
          rcases Nat.lt_or_ge j k with h1 | h1
          · exact HI.out j hj h1
          · obtain rfl : j = k := by omega
            exact he
        go_wp2_with fail
        go_roundw
        case rel => exact ⟨k + 1, by omega, by go_num, HX.out, B0, hb⟩
        case measure => simp [intOf]; omega
      · have HF := Lib.hid (stockOf_hit g hlt HI.out he)
        go_wp2_with fail
        go_ret
        exact ⟨ret_int HF.out.symm, hb⟩
    · obtain rfl : k = p.st.length := by omega
      have HF := Lib.hid (stockOf_miss (s := s) g (fun j hj => HI.out j hj hj))
      obtain ⟨b0, b1, b2, b3, b4, b5, b6, bl⟩ := B0.seven
      go_wp2_with fail
      go_ret
      exact ⟨ret_int HF.out.symm, hb⟩
end Go.Proofs.Ytlkolehdikfddaa
/- Planned: its cells, and the walks of the laws' own helpers on lists of it. -/
namespace Go.Proofs.Ytlkolehdikfddaa
open Go.RowKit

abbrev Pl := ByteArray × Int × Int × Int × Bool
def plF : Flat Pl := ⟨fun f => [.string (f.1), .int .i64 (f.2.1), .int .i64 (f.2.2.1), .int .i64 (f.2.2.2.1), .bool (f.2.2.2.2)], 5, fun _ => rfl⟩
abbrev PlannedsIn (w : World) (A : Option Addr) (n : Nat) (l : List Pl) : Prop := RowsIn plF w A n l
theorem planned_at {w : World} {A : Option Addr} {n : Nat} {l : List Pl} (h : PlannedsIn w A n l) {k : Nat} (hk : k < l.length) :
    ∃ b o, A = some ⟨b, o, none⟩ ∧ b < w.heap.size ∧ w.cell? ⟨b, o + k * 5, none⟩ = some (.string (l[k].1)) ∧ w.cell? ⟨b, o + k * 5 + 1, none⟩ = some (.int .i64 (l[k].2.1)) ∧ w.cell? ⟨b, o + k * 5 + 2, none⟩ = some (.int .i64 (l[k].2.2.1)) ∧ w.cell? ⟨b, o + k * 5 + 3, none⟩ = some (.int .i64 (l[k].2.2.2.1)) ∧ w.cell? ⟨b, o + k * 5 + 4, none⟩ = some (.bool (l[k].2.2.2.2)) := by
  obtain ⟨b, o, e, hlt, hc⟩ := h.at_ hk
  exact ⟨b, o, e, hlt, hc 0 _ rfl, hc 1 _ rfl, hc 2 _ rfl, hc 3 _ rfl, hc 4 _ rfl⟩
theorem plannedInfo : (Try.prog.info? 44).map (fun i => (i.zero, i.size, i.bytes)) = some (some (.agg #[.string ByteArray.empty, .int .i64 0, .int .i64 0, .int .i64 0, .bool false]), 5, 48) := by kernel_rfl
theorem plannedElem : ElemOk plF 36 44 := by
  obtain ⟨i, h1, h2, h3, h4⟩ := info_parts plannedInfo
  exact ⟨i, _, 48, Try.underlying36, h1, h2, h3, h4, rfl, by decide, by omega⟩
def okPl (x : Pl) : Prop := x.1.size ≤ 9223372036854775807
end Go.Proofs.Ytlkolehdikfddaa
