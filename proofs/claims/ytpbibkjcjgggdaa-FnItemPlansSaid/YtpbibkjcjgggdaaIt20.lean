/- Part 20 of the texts of this claim: The walk of PlanItem (the program's); The cursor that draws a law's inputs from bytes: what its functions leave of memory; More on the cursor that draws a law's inputs: how it is made, odd numbers. -/
import Derived.Test.YtpbibkjcjgggdaaIt17
import Derived.Test.YtpbibkjcjgggdaaIt8
import Derived.StillTailTactics
import Derived.Test.YtpbibkjcjgggdaaIt6
import Derived.Test.YtpbibkjcjgggdaaIt1
import Derived.Laws.BitsLemmas
/- The walk of PlanItem (the program's). -/
namespace Go.Proofs.Ytpbibkjcjgggdaa
open Go.RowKit
set_option maxRecDepth 100000 in
set_option maxHeartbeats 8000000 in
theorem implPlanItem_any (r : PtR) (p : Pt) (s : ByteArray) (A : Option Addr) (n c : Nat) (l : List Fl) (w : World) (hp : PlantIn w r p) (hok : okPt p) (_hs : s.size ≤ 9223372036854775807) (hl : FlowsIn w A n l) :
    Calls Try.prog 6 #[.agg #[.slice r.i.a r.i.n r.i.c, .slice r.l.a r.l.n r.l.c, .slice r.w.a r.w.n r.w.c, .slice r.e.a r.e.n r.e.c, .slice r.p.a r.p.n r.p.c, .slice r.s.a r.s.n r.s.c, .slice r.q.a r.q.n r.q.c], .string s, .slice A n c] w (PairRowsOf plF 48 w (planItem p s l)) := by
  have HS := Lib.hid _hs
  clear _hs
  obtain ⟨⟨a0, n0, c0⟩, ⟨a1, n1, c1⟩, ⟨a2, n2, c2⟩, ⟨a3, n3, c3⟩, ⟨a4, n4, c4⟩, ⟨a5, n5, c5⟩, ⟨a6, n6, c6⟩⟩ := r
  have HNS := Lib.hid hp.st.1
  have HNR := Lib.hid hp.rc.1
  dsimp only at HNS HNR ⊢
  obtain rfl := HNS.out
  obtain rfl := HNR.out
  clear HNS HNR
  have hls := hp.st.len
  have hlr := hp.rc.len
  have HP := Lib.hid hp
  have HQ5 := Lib.hid hp.st
  have HQ6 := Lib.hid hp.rc
  have HQ0 := Lib.hid hp.it
  dsimp only at HQ5 HQ6 HQ0
  have HO := Lib.hid hok
  clear hp hok
  have hlen := hl.len
  obtain rfl := hl.1
  have HL := Lib.hid hl
  clear hl
  have hb := below_alloc w (.cells #[.slice a0 n0 c0, .slice a1 n1 c1, .slice a2 n2 c2, .slice a3 n3 c3, .slice a4 n4 c4, .slice a5 p.st.length c5, .slice a6 p.rc.length c6] 34)
  have B0 : BoxOf (w.alloc (.cells #[.slice a0 n0 c0, .slice a1 n1 c1, .slice a2 n2 c2, .slice a3 n3 c3, .slice a4 n4 c4, .slice a5 p.st.length c5, .slice a6 p.rc.length c6] 34)) w.heap.size [.slice a0 n0 c0, .slice a1 n1 c1, .slice a2 n2 c2, .slice a3 n3 c3, .slice a4 n4 c4, .slice a5 p.st.length c5, .slice a6 p.rc.length c6] := boxOf_alloc w #[.slice a0 n0 c0, .slice a1 n1 c1, .slice a2 n2 c2, .slice a3 n3 c3, .slice a4 n4 c4, .slice a5 p.st.length c5, .slice a6 p.rc.length c6] 34
  obtain ⟨b0, b1, b2, b3, b4, b5, b6, bl⟩ := B0.seven
  go_enter Try.func6, Try.ntmps6
  go_wp2_with fail
  generalize (w.alloc (.cells #[.slice a0 n0 c0, .slice a1 n1 c1, .slice a2 n2 c2, .slice a3 n3 c3, .slice a4 n4 c4, .slice a5 p.st.length c5, .slice a6 p.rc.length c6] 34)) = V at *
  refine (implFindItem_any _ _ _ p.it _ _ (HQ0.out.keep hb)).mono ?_
  rintro e V0 ⟨rfl, hs⟩
  replace hb := below_on hb hs
  replace B0 := B0.keep hs
  clear hs b0 b1 b2 b3 b4 b5 b6 bl
  obtain ⟨b0, b1, b2, b3, b4, b5, b6, bl⟩ := B0.seven
  obtain ⟨f3, f3b⟩ := findIt_bd p.it s
  go_wp2_with fail
  clear b0 b1 b2 b3 b4 b5 b6 bl
  refine (implIsPlant_any ⟨⟨a0, n0, c0⟩, ⟨a1, n1, c1⟩, ⟨a2, n2, c2⟩, ⟨a3, n3, c3⟩, ⟨a4, n4, c4⟩, ⟨a5, p.st.length, c5⟩, ⟨a6, p.rc.length, c6⟩⟩ p _ (HP.out.keep hb) HO.out).mono ?_
  rintro e V1 ⟨rfl, hs⟩
  replace hb := below_on hb hs
  replace B0 := B0.keep hs
  clear hs
  obtain ⟨b0, b1, b2, b3, b4, b5, b6, bl⟩ := B0.seven
  cases g : isPlant p
  · have HF : Hid (planItem p s l = ([], false)) := planItem_no (by unfold planOk; rw [g]; rfl)
    clear f3 f3b
    go_wp2_with fail
    go_ret2
    exact pairRowsOf_mk (HF.out) (RowVal.nil _ _) hb
  by_cases f1 : 0 ≤ findIt p.it s
  case neg =>
    have HF : Hid (planItem p s l = ([], false)) := planItem_no (by unfold planOk; rw [decide_eq_false f1]; simp)
    have f5 : findIt p.it s < 0 := by omega
    have f6 : decide (findIt p.it s < 0) = true := decide_eq_true f5
    clear f1 f3 f3b
    go_wp2_with fail
    go_ret2
    exact pairRowsOf_mk (HF.out) (RowVal.nil _ _) hb
  obtain ⟨qn, hqn⟩ : ∃ qn : Nat, findIt p.it s = (qn : Int) := ⟨(findIt p.it s).toNat, by omega⟩
  have q1 : qn < p.it.length := by omega
  have q2 : (qn : Int) < (p.it.length : Int) := by omega
  have q3 : (0 : Int) ≤ (qn : Int) := by omega
  have q4 : decide ((qn : Int) < 0) = false := decide_eq_false (by omega)
  have hn0 := HQ0.out.1
  subst hn0
  have hi0 := HQ0.out.keep hb
  obtain ⟨bi, oi, e0, hbi, k0, k1, k2, k3, k4, k5, k6, k7⟩ := item_at hi0 q1
  subst e0
  rw [hqn]
  have HQN := Lib.hid hqn
  clear f1 f3 f3b hqn hi0
  cases g2 : (p.it[qn].2.2.1 == 2)
  case true =>
    have HF : Hid (planItem p s l = ([], false)) := planItem_no (by rw [planOk_eq HQN.out q1 g g2 rfl]; rfl)
    go_wp2_with fail
    go_ret2
    exact pairRowsOf_mk (HF.out) (RowVal.nil _ _) hb
  go_wp2_with fail
  refine (implAreFlows_any _ _ _ l _ (HL.out.keep hb)).mono ?_
  rintro e V2 ⟨rfl, hs⟩
  replace hb := below_on hb hs
  replace B0 := B0.keep hs
  have hbk := hs
  clear hs b0 b1 b2 b3 b4 b5 b6 bl k0 k1 k2 k3 k4 k5 k6 k7 hbi hbk
  obtain ⟨b0, b1, b2, b3, b4, b5, b6, bl⟩ := B0.seven
  cases g3 : areFlows l
  · have HF : Hid (planItem p s l = ([], false)) := planItem_no (by rw [planOk_eq HQN.out q1 g g2 g3]; rfl)
    go_wp2_with fail
    go_ret2
    exact pairRowsOf_mk (HF.out) (RowVal.nil _ _) hb
  have HOK : Hid (planOk p s l = true) := planOk_eq HQN.out q1 g g2 g3
  have HPX : Hid (planX p s = p.it[qn]) := planX_at HQN.out q1
  have hitm := isPlant_item g q1
  obtain ⟨_, _, _, hlead, hsaf, _, _⟩ := isItem_lots _ hitm
  have HLD := Lib.hid hlead
  clear hlead hsaf
  have hokx := HO.out.it _ (List.getElem_mem q1)
  obtain ⟨_, _, e0, hbi, k0, k1, k2, k3, k4, k5, k6, k7⟩ := item_at (HQ0.out.keep hb) q1
  obtain ⟨rfl, rfl⟩ : bi = _ ∧ oi = _ := by simpa using e0
  clear e0
  have hs := below_alloc V2 (.cells #[.string p.it[qn].1, .string p.it[qn].2.1, .int .i64 p.it[qn].2.2.1, .int .i64 p.it[qn].2.2.2.1, .int .i64 p.it[qn].2.2.2.2.1, .int .i64 p.it[qn].2.2.2.2.2.1, .int .i64 p.it[qn].2.2.2.2.2.2.1, .int .i64 p.it[qn].2.2.2.2.2.2.2] 42)
  have B1 : BoxOf (V2.alloc (.cells #[.string p.it[qn].1, .string p.it[qn].2.1, .int .i64 p.it[qn].2.2.1, .int .i64 p.it[qn].2.2.2.1, .int .i64 p.it[qn].2.2.2.2.1, .int .i64 p.it[qn].2.2.2.2.2.1, .int .i64 p.it[qn].2.2.2.2.2.2.1, .int .i64 p.it[qn].2.2.2.2.2.2.2] 42)) V2.heap.size [.string p.it[qn].1, .string p.it[qn].2.1, .int .i64 p.it[qn].2.2.1, .int .i64 p.it[qn].2.2.2.1, .int .i64 p.it[qn].2.2.2.2.1, .int .i64 p.it[qn].2.2.2.2.2.1, .int .i64 p.it[qn].2.2.2.2.2.2.1, .int .i64 p.it[qn].2.2.2.2.2.2.2] := boxOf_alloc V2 #[.string p.it[qn].1, .string p.it[qn].2.1, .int .i64 p.it[qn].2.2.1, .int .i64 p.it[qn].2.2.2.1, .int .i64 p.it[qn].2.2.2.2.1, .int .i64 p.it[qn].2.2.2.2.2.1, .int .i64 p.it[qn].2.2.2.2.2.2.1, .int .i64 p.it[qn].2.2.2.2.2.2.2] 42
  replace hb := below_on hb hs
  replace B0 := B0.keep hs
  clear hs
  have d6 := B1.2 6 _ rfl
  have dl := B1.1
  go_wp2_with fail
  generalize (V2.alloc (.cells #[.string p.it[qn].1, .string p.it[qn].2.1, .int .i64 p.it[qn].2.2.1, .int .i64 p.it[qn].2.2.2.1, .int .i64 p.it[qn].2.2.2.2.1, .int .i64 p.it[qn].2.2.2.2.2.1, .int .i64 p.it[qn].2.2.2.2.2.2.1, .int .i64 p.it[qn].2.2.2.2.2.2.2] 42)) = V3 at *
  generalize V2.heap.size = NX at *
  clear b0 b1 b2 b3 b4 b5 b6 bl k0 k1 k2 k3 k4 k5 k6 k7 hbi
  obtain ⟨b0, b1, b2, b3, b4, b5, b6, bl⟩ := B0.seven
  go_region_held3 (fun w' => w'.cell? ⟨w.heap.size, 0, none⟩ = some (.slice (some ⟨bi, oi, none⟩) p.it.length c0) ∧ w'.cell? ⟨w.heap.size, 1, none⟩ = some (.slice a1 n1 c1) ∧ w'.cell? ⟨w.heap.size, 2, none⟩ = some (.slice a2 n2 c2) ∧ w'.cell? ⟨w.heap.size, 3, none⟩ = some (.slice a3 n3 c3) ∧ w'.cell? ⟨w.heap.size, 4, none⟩ = some (.slice a4 n4 c4) ∧ w'.cell? ⟨w.heap.size, 5, none⟩ = some (.slice a5 p.st.length c5) ∧ w'.cell? ⟨w.heap.size, 6, none⟩ = some (.slice a6 p.rc.length c6) ∧ w'.cell? ⟨NX, 6, none⟩ = some (.int .i64 p.it[qn].2.2.2.2.2.2.1) ∧ w.heap.size < w'.heap.size ∧ NX < w'.heap.size ∧ BoxOf w' w.heap.size [.slice (some ⟨bi, oi, none⟩) p.it.length c0, .slice a1 n1 c1, .slice a2 n2 c2, .slice a3 n3 c3, .slice a4 n4 c4, .slice a5 p.st.length c5, .slice a6 p.rc.length c6] ∧ BoxOf w' NX [.string p.it[qn].1, .string p.it[qn].2.1, .int .i64 p.it[qn].2.2.1, .int .i64 p.it[qn].2.2.2.1, .int .i64 p.it[qn].2.2.2.2.1, .int .i64 p.it[qn].2.2.2.2.2.1, .int .i64 p.it[qn].2.2.2.2.2.2.1, .int .i64 p.it[qn].2.2.2.2.2.2.2] ∧ Below w.heap.size w w')
    (first
      | exact ⟨b0, b1, b2, b3, b4, b5, b6, d6, bl, dl, B0.keep (Below.refl _ _).drew, B1.keep (Below.refl _ _).drew, hb.drew⟩
      | (go_split_ands; refine ⟨?_, ?_, ?_, ?_, ?_, ?_, ?_, ?_, ?_, ?_, ?_, ?_, ?_⟩ <;> with_reducible assumption)
      | (go_split_ands; exact ⟨(hbS.cell (by with_reducible assumption)).trans (by with_reducible assumption), (hbS.cell (by with_reducible assumption)).trans (by with_reducible assumption), (hbS.cell (by with_reducible assumption)).trans (by with_reducible assumption), (hbS.cell (by with_reducible assumption)).trans (by with_reducible assumption), (hbS.cell (by with_reducible assumption)).trans (by with_reducible assumption), (hbS.cell (by with_reducible assumption)).trans (by with_reducible assumption), (hbS.cell (by with_reducible assumption)).trans (by with_reducible assumption), (hbS.cell (by with_reducible assumption)).trans (by with_reducible assumption), Nat.lt_of_lt_of_le (by with_reducible assumption) hbS.size, Nat.lt_of_lt_of_le (by with_reducible assumption) hbS.size, BoxOf.keep (by with_reducible assumption) hbS, BoxOf.keep (by with_reducible assumption) hbS, below_on (by with_reducible assumption) hbS⟩)
      | (go_split_ands; exact ⟨(hbR.cell (by with_reducible assumption)).trans (by with_reducible assumption), (hbR.cell (by with_reducible assumption)).trans (by with_reducible assumption), (hbR.cell (by with_reducible assumption)).trans (by with_reducible assumption), (hbR.cell (by with_reducible assumption)).trans (by with_reducible assumption), (hbR.cell (by with_reducible assumption)).trans (by with_reducible assumption), (hbR.cell (by with_reducible assumption)).trans (by with_reducible assumption), (hbR.cell (by with_reducible assumption)).trans (by with_reducible assumption), (hbR.cell (by with_reducible assumption)).trans (by with_reducible assumption), Nat.lt_of_lt_of_le (by with_reducible assumption) hbR.size, Nat.lt_of_lt_of_le (by with_reducible assumption) hbR.size, BoxOf.keep (by with_reducible assumption) hbR, BoxOf.keep (by with_reducible assumption) hbR, below_on (by with_reducible assumption) hbR⟩)
      | (go_split_ands; exact ⟨(hbN.cell (by with_reducible assumption)).trans (by with_reducible assumption), (hbN.cell (by with_reducible assumption)).trans (by with_reducible assumption), (hbN.cell (by with_reducible assumption)).trans (by with_reducible assumption), (hbN.cell (by with_reducible assumption)).trans (by with_reducible assumption), (hbN.cell (by with_reducible assumption)).trans (by with_reducible assumption), (hbN.cell (by with_reducible assumption)).trans (by with_reducible assumption), (hbN.cell (by with_reducible assumption)).trans (by with_reducible assumption), (hbN.cell (by with_reducible assumption)).trans (by with_reducible assumption), Nat.lt_of_lt_of_le (by with_reducible assumption) hbN.size, Nat.lt_of_lt_of_le (by with_reducible assumption) hbN.size, BoxOf.keep (by with_reducible assumption) hbN, BoxOf.keep (by with_reducible assumption) hbN, below_on (by with_reducible assumption) hbN⟩))
    (first
      | ((with_reducible refine (implStockOf_any ⟨⟨some ⟨bi, oi, none⟩, p.it.length, c0⟩, ⟨a1, n1, c1⟩, ⟨a2, n2, c2⟩, ⟨a3, n3, c3⟩, ⟨a4, n4, c4⟩, ⟨a5, p.st.length, c5⟩, ⟨a6, p.rc.length, c6⟩⟩ p s _ (HP.out.keep ?_) HO.out HS.out).mono ?_); (go_split_ands; with_reducible assumption); rintro e w3 ⟨rfl, hbS⟩)
      | ((with_reducible refine (implReceiptFlows_any ⟨⟨some ⟨bi, oi, none⟩, p.it.length, c0⟩, ⟨a1, n1, c1⟩, ⟨a2, n2, c2⟩, ⟨a3, n3, c3⟩, ⟨a4, n4, c4⟩, ⟨a5, p.st.length, c5⟩, ⟨a6, p.rc.length, c6⟩⟩ p s _ (HP.out.keep ?_) HO.out HS.out).mono ?_); (go_split_ands; with_reducible assumption); rintro e w3 ⟨A9, c9, rfl, ho9, hbR⟩)
      | ((with_reducible refine (implNetNeeds_any A9 A _ l.length _ _ (receiptFlows p s) l _ _ _ (ho9.rows (by have := receiptFlows_len p s; omega)) (HL.out.keep ?_)).mono ?_); (go_split_ands; with_reducible assumption); rintro e w3 ⟨A8, c8, rfl, ho8, hbN⟩)
      | ((with_reducible refine (implNetNeeds_any A9 A _ l.length _ _ (receiptFlows p s) l _ _ _ ((ho9.keep hbS).rows (by have := receiptFlows_len p s; omega)) (HL.out.keep ?_)).mono ?_); (go_split_ands; with_reducible assumption); rintro e w3 ⟨A8, c8, rfl, ho8, hbN⟩))
  all_goals
    go_split_ands
    have hbw : Below w.heap.size w w3 := by with_reducible assumption
    have C0 : BoxOf w3 w.heap.size [.slice (some ⟨bi, oi, none⟩) p.it.length c0, .slice a1 n1 c1, .slice a2 n2 c2, .slice a3 n3 c3, .slice a4 n4 c4, .slice a5 p.st.length c5, .slice a6 p.rc.length c6] := by with_reducible assumption
    have C1 : BoxOf w3 NX [.string p.it[qn].1, .string p.it[qn].2.1, .int .i64 p.it[qn].2.2.1, .int .i64 p.it[qn].2.2.2.1, .int .i64 p.it[qn].2.2.2.2.1, .int .i64 p.it[qn].2.2.2.2.2.1, .int .i64 p.it[qn].2.2.2.2.2.2.1, .int .i64 p.it[qn].2.2.2.2.2.2.2] := by with_reducible assumption
    clear hb B0 B1 b0 b1 b2 b3 b4 b5 b6 bl d6 dl
    obtain ⟨NN, hNN⟩ : ∃ N, netNeeds (receiptFlows p s) l (stockOf p s) p.it[qn].2.2.2.2.2.2.1 = N := ⟨_, rfl⟩
    have HNET : Hid (planNet p s l = NN) := by show _ = _; unfold planNet; rw [HPX.out]; exact hNN
    have HNF : Hid (areFlows NN.1 = true) := by show _ = _; rw [← hNN]; exact netNeeds_flows _ _ _ _
    rw [hNN] at ho8 ⊢
    clear hNN ho9
    have hnl : NN.1.length ≤ 40 := (areFlows_parts HNF.out).2
    cases gn : NN.2
    · have HF : Hid (planItem p s l = ([], false)) := planItem_no (by rw [HNET.out, gn]; simp)
      go_wp2_with fail
      go_ret2
      exact pairRowsOf_mk (HF.out) (RowVal.nil _ _) hbw
    have k4 := C1.2 4 _ rfl
    have k5 := C1.2 5 _ rfl
    go_wp2_with fail
    refine (implLotsFor_any _ _ _ NN.1 _ _ _ (ho8.rows (by omega))).mono ?_
    rintro e w4 ⟨A7, c7, rfl, ho7, hs⟩
    obtain ⟨LT, hLT⟩ : ∃ N, lotsFor NN.1 p.it[qn].2.2.2.2.1 p.it[qn].2.2.2.2.2.1 = N := ⟨_, rfl⟩
    have HLOT : Hid (planLots p s l = LT) := by show _ = _; unfold planLots; rw [HNET.out, HPX.out]; exact hLT
    have HLF : Hid (areFlows LT.1 = true) := by show _ = _; rw [← hLT]; exact lotsFor_flows _ _ _
    have HLN : Hid (LT.2 = false → LT.1 = []) := fun h => by rw [← hLT] at h ⊢; exact lotsFor_nil' h
    rw [hLT] at ho7 ⊢
    clear hLT ho8 k4 k5
    replace hbw := below_on hbw hs
    replace C0 := C0.keep hs
    replace C1 := C1.keep hs
    clear hs
    have hll : LT.1.length ≤ 40 := (areFlows_parts HLF.out).2
    have hlots : FlowsIn w4 A7 LT.1.length LT.1 := ho7.rows (by omega)
    clear ho7
    cases gl : LT.2
    · have HF : Hid (planItem p s l = ([], false)) := planItem_no (by rw [HLOT.out, gl]; simp)
      go_wp2_with fail
      go_ret2
      exact pairRowsOf_mk (HF.out) (RowVal.nil _ _) hbw
    have HM := Lib.hid (areFlows_mem HLF.out)
    have hrow : RowVal plF 48 (w4.alloc (.cells #[] 48)) w4.heap.size (.slice (some ⟨w4.heap.size, 0, none⟩) 0 0) ((LT.1.take 0).map (plOf p s p.it[qn])) := empty_row rfl (Nat.le_refl _)
    have hb4 := below_alloc w4 (.cells #[] 48)
    obtain ⟨kn, hkn⟩ : ∃ kn : Nat, p.it[qn].2.2.2.1 = (kn : Int) := ⟨p.it[qn].2.2.2.1.toNat, by have := HLD.out; omega⟩
    have hk30 : kn ≤ 30 := by have := HLD.out; omega
    have HKN := Lib.hid hkn
    clear hkn
    go_wp2_with fail
    generalize w4.alloc (.cells #[] 48) = w5 at *
    generalize hB5 : w4.heap.size = B5 at *
    go_loopw [13, 79] (fun v i wr => ∃ k : Nat, k ≤ LT.1.length ∧ i = .int .i64 k ∧ Hid ((LT.1.take k).all (smallF p.it[qn]) = true) ∧ RowVal plF 48 wr B5 v ((LT.1.take k).map (plOf p s p.it[qn])) ∧ Below B5 w4 wr) (fun _ i _ => LT.1.length - (intOf i).toNat)
    case atStart => exact ⟨0, by omega, rfl, rfl, hrow, hb4⟩
    case round =>
      clear hrow hb4
      obtain ⟨k, hk, rfl, HI, hrow, hb4⟩ := hrel
      have hb4' : Below w4.heap.size w4 wr := by rw [hB5]; exact hb4
      have hbw2 := below_on hbw hb4'
      by_cases hlt : k < LT.1.length
      · obtain ⟨b7, o7, rfl, hb7, hc1, hc2⟩ := flow_at (hlots.keep hb4') hlt
        obtain ⟨⟨m1, m2⟩, m3, m4⟩ := HM.out _ (List.getElem_mem hlt)
        have hs := below_alloc wr (.cells #[.int .i64 LT.1[k].1, .int .i64 LT.1[k].2] 53)
        have BF : BoxOf (wr.alloc (.cells #[.int .i64 LT.1[k].1, .int .i64 LT.1[k].2] 53)) wr.heap.size [.int .i64 LT.1[k].1, .int .i64 LT.1[k].2] := boxOf_alloc wr #[.int .i64 LT.1[k].1, .int .i64 LT.1[k].2] 53
        have D0 := (C0.keep hb4').keep hs
        have D1 := (C1.keep hb4').keep hs
        replace hrow := hrow.keep hs
        have hb6 : Below B5 w4 (wr.alloc (.cells #[.int .i64 LT.1[k].1, .int .i64 LT.1[k].2] 53)) := by rw [← hB5]; exact below_on hb4' hs
        have hbw6 := below_on hbw2 hs
        clear hs hb4 hb4'
        have t0 := D1.2 0 _ rfl
        have t1 := D1.2 1 _ rfl
        have t2 := D1.2 2 _ rfl
        have t3 := D1.2 3 _ rfl
        have t4 := D1.2 4 _ rfl
        have t5 := D1.2 5 _ rfl
        have t6 := D1.2 6 _ rfl
        have t7 := D1.2 7 _ rfl
        have f1 := BF.2 1 _ rfl
        go_wp2_with fail
        generalize wr.alloc (.cells #[.int .i64 LT.1[k].1, .int .i64 LT.1[k].2] 53) = wq at *
        generalize wr.heap.size = NF at *
        clear t0 t1 t2 t3 t4 t5 t6 t7 f1 hc1 hc2 hb7
        refine (implGrossOf_any p.it[qn] _ _ hokx).mono ?_
        rintro e w6 ⟨rfl, hs⟩
        obtain ⟨gg, hgg⟩ : ∃ g, grossOf p.it[qn] LT.1[k].2 = g := ⟨_, rfl⟩
        have HGG := Lib.hid hgg
        rw [hgg]
        clear hgg
        replace BF := BF.keep hs
        replace D0 := D0.keep hs
        replace D1 := D1.keep hs
        replace hrow := hrow.keep hs
        replace hbw6 := below_on hbw6 hs
        replace hb6 : Below B5 w4 w6 := hb6.trans (hs.mono (by rw [← hB5]; rw [← hB5] at hb6; exact hb6.size))
        clear hs
        by_cases hsm : gg.1 ≤ 100000
        case neg =>
          have HSM : Hid (smallF p.it[qn] LT.1[k] = false) := by show _ = _; unfold smallF; rw [HGG.out]; exact decide_eq_false hsm
          have HF : Hid (planItem p s l = ([], false)) := planItem_no (by rw [HLOT.out, HPX.out, all_false LT.1 _ k hlt HSM.out]; simp)
          have hsn : (100000 : Int) < gg.1 := by omega
          go_wp2_with fail
          go_ret2
          exact pairRowsOf_mk HF.out (RowVal.nil _ _) hbw6
        have HSM : Hid (smallF p.it[qn] LT.1[k] = true) := by show _ = _; unfold smallF; rw [HGG.out]; exact decide_eq_true hsm
        obtain ⟨x0, x1, x2, x3, x4, x5, x6, xl⟩ := D0.seven
        have t0 := D1.2 0 _ rfl
        have t1 := D1.2 1 _ rfl
        have t2 := D1.2 2 _ rfl
        have t3 := D1.2 3 _ rfl
        have t4 := D1.2 4 _ rfl
        have t5 := D1.2 5 _ rfl
        have t6 := D1.2 6 _ rfl
        have t7 := D1.2 7 _ rfl
        have f0 := BF.2 0 _ rfl
        go_wp2_with fail
        clear t0 t1 t2 t3 t4 t5 t6 t7 f0 x0 x1 x2 x3 x4 x5 x6 xl
        refine (releaseOf_any ⟨⟨some ⟨bi, oi, none⟩, p.it.length, c0⟩, ⟨a1, n1, c1⟩, ⟨a2, n2, c2⟩, ⟨a3, n3, c3⟩, ⟨a4, n4, c4⟩, ⟨a5, p.st.length, c5⟩, ⟨a6, p.rc.length, c6⟩⟩ p p.it[qn] LT.1[k].1 _ (HP.out.keep hbw6) kn HKN.out hk30).mono ?_
        rintro e w8 ⟨rfl, hs⟩
        obtain ⟨ad, had⟩ : ∃ g, addWd p.wk p.ex LT.1[k].1 (-p.it[qn].2.2.2.1) = g := ⟨_, rfl⟩
        rw [had]
        have HPL : Hid (plOf p s p.it[qn] LT.1[k] = (s, gg.1, ad.1, LT.1[k].1, !ad.2)) := by show _ = _; unfold plOf; rw [HGG.out, had]
        have hrow8 := hrow.keep hs
        have f0 := (BF.keep hs).2 0 _ rfl
        have hb8 : Below B5 w4 w8 := hb6.trans (hs.mono (by rw [← hB5]; rw [← hB5] at hb6; exact hb6.size))
        have hB8 : B5 ≤ w8.heap.size := by rw [← hB5]; rw [← hB5] at hb8; exact hb8.size
        clear had hs hrow hb6 BF D0 D1
        go_wp2_with (at_builtin; refine wpList_append_one plannedElem rfl (.tmp 100) (.tmp 108) rfl rfl (l := (LT.1.take k).map (plOf p s p.it[qn])) hrow8 (by rw [List.length_map, List.length_take]; omega) (s, gg.1, ad.1, LT.1[k].1, !ad.2) #[.string s, .int .i64 gg.1, .int .i64 ad.1, .int .i64 LT.1[k].1, .bool (!ad.2)] rfl (by simp [Value.oneCell']) w8.heap.size _ rfl rfl hB8 ?_; intro v9 w9 hrow9 hbl hgr)
        go_roundw
        case rel => exact ⟨k + 1, by omega, by go_num, by show _ = _; rw [all_take LT.1 _ k hlt, HSM.out, HI.out]; rfl, by rw [map_take _ _ _ hlt, HPL.out]; exact hrow9, hb8.trans (hbl B5 (Nat.le_refl _) hB8)⟩
        case measure => simp [intOf]; omega
      · obtain rfl : k = LT.1.length := by omega
        rw [List.take_length] at hrow
        have HIO := HI.out
        rw [List.take_length] at HIO
        have HF : Hid (planItem p s l = (LT.1.map (plOf p s p.it[qn]), true)) := by
          show _ = _
          have := planItem_yes HOK.out (by rw [HNET.out]; exact gn) (by rw [HLOT.out]; exact gl) (by rw [HLOT.out, HPX.out]; exact HIO)
          rw [HLOT.out, HPX.out] at this; exact this
        clear HIO
        go_wp2_with fail
        go_ret2
        have hBw : w.heap.size ≤ B5 := by rw [← hB5]; exact hbw.size
        exact pairRowsOf_mk HF.out (own_lower hrow hBw) hbw2
end Go.Proofs.Ytpbibkjcjgggdaa
/- The cursor that draws a law's inputs from bytes: what its functions leave of memory. -/
namespace Go.Proofs.Ytpbibkjcjgggdaa
open Go.RowKit
theorem i64_and255 (n : Int) : bits .and .i64 n 255 = n % 256 := by
  have h127 : (BitVec.ofInt 64 255).toNat = 2 ^ 8 - 1 := by decide
  have key : (BitVec.ofInt 64 n &&& BitVec.ofInt 64 255).toNat = (n % ((2 ^ 64 : Nat) : Int)).toNat % 2 ^ 8 := by
    rw [BitVec.toNat_and, BitVec.toNat_ofInt, h127, Nat.and_two_pow_sub_one_eq_mod]
  show IntKind.i64.wrap ((BitVec.ofInt 64 n &&& BitVec.ofInt 64 255).toNat : Nat) = n % 256
  rw [key, IntKind.wrap_i64]
  omega
theorem i64_and30 (n : Int) : bits .and .i64 n 1073741823 = n % 1073741824 := by
  have h127 : (BitVec.ofInt 64 1073741823).toNat = 2 ^ 30 - 1 := by decide
  have key : (BitVec.ofInt 64 n &&& BitVec.ofInt 64 1073741823).toNat = (n % ((2 ^ 64 : Nat) : Int)).toNat % 2 ^ 30 := by
    rw [BitVec.toNat_and, BitVec.toNat_ofInt, h127, Nat.and_two_pow_sub_one_eq_mod]
  show IntKind.i64.wrap ((BitVec.ofInt 64 n &&& BitVec.ofInt 64 1073741823).toNat : Nat) = n % 1073741824
  rw [key, IntKind.wrap_i64]
  omega
/-- Bytes that came in: their cells, in blocks below 'base'. -/
def BytesAt (w : World) (base : Nat) (A : Option Addr) (n : Nat) : Prop :=
  n ≤ 16777216 ∧ ∀ k, k < n → ∃ (b o : Nat) (x : Int), A = some ⟨b, o, none⟩ ∧ b < base ∧ 0 ≤ x ∧ x ≤ 255 ∧ w.cell? ⟨b, o + k, none⟩ = some (.int .u8 x)
theorem BytesAt.keep {w w' : World} {base B : Nat} {A : Option Addr} {n : Nat} (h : BytesAt w base A n) (hb : Below B w w') (hB : base ≤ B) : BytesAt w' base A n :=
  ⟨h.1, fun k hk => by
    obtain ⟨b, o, x, e, hlt, h0, h1, hc⟩ := h.2 k hk
    exact ⟨b, o, x, e, hlt, h0, h1, (hb.cell (p := ⟨b, o + k, none⟩) (by show b < B; omega)).trans hc⟩⟩
/-- A cursor in block g, over bytes in blocks below 'base'. -/
def CurAt (w : World) (base g : Nat) : Prop :=
  ∃ (A : Option Addr) (n c i : Nat) (h : Int), i ≤ n ∧ base ≤ g ∧ g < w.heap.size ∧ w.cell? ⟨g, 0, none⟩ = some (.slice A n c) ∧ w.cell? ⟨g, 1, none⟩ = some (.int .i64 i) ∧ w.cell? ⟨g, 2, none⟩ = some (.int .i64 h) ∧
    w.frozen? ⟨g, 1, none⟩ = false ∧ w.frozen? ⟨g, 2, none⟩ = false ∧ BytesAt w base A n
theorem CurAt.keep {w w' : World} {base g B : Nat} (h : CurAt w base g) (hb : Below B w w') (hB : g < B) : CurAt w' base g := by
  obtain ⟨A, n, c, i, hv, h1, h2, h3, c0, c1, c2, f1, f2, hby⟩ := h
  refine ⟨A, n, c, i, hv, h1, h2, Nat.lt_of_lt_of_le h3 hb.size, ?_, ?_, ?_, ?_, ?_, hby.keep hb (by omega)⟩
  · exact (hb.cell (p := ⟨g, 0, none⟩) hB).trans c0
  · exact (hb.cell (p := ⟨g, 1, none⟩) hB).trans c1
  · exact (hb.cell (p := ⟨g, 2, none⟩) hB).trans c2
  · exact (hb.frozen (p := ⟨g, 1, none⟩) hB).trans f1
  · exact (hb.frozen (p := ⟨g, 2, none⟩) hB).trans f2
theorem only_set {w : World} {g o : Nat} {v : Value} : Only g (g + 1) w (w.setCell ⟨g, o, none⟩ v) :=
  ⟨rfl, rfl, rfl, by simp, fun k _ hn => heap_setCell_other w ⟨g, o, none⟩ k v (fun e => hn (by simp at e; omega))⟩
theorem only_drewN {lo hi : Nat} {w w' : World} (h : Only lo hi w w') (n : Nat) : Only lo hi w (w'.drewN n) := ⟨h.os, h.tape, h.output, h.size, h.block⟩
theorem curAt_drewN {w : World} {base g : Nat} (h : CurAt w base g) (n : Nat) : CurAt (w.drewN n) base g := h
theorem curAt_i {w : World} {base g A n c i h} (h1 : i ≤ n) (h2 : base ≤ g) (h3 : g < w.heap.size) (c0 : w.cell? ⟨g, 0, none⟩ = some (.slice A n c)) (c1 : w.cell? ⟨g, 1, none⟩ = some (.int .i64 (i : Nat))) (c2 : w.cell? ⟨g, 2, none⟩ = some (.int .i64 h))
    (f1 : w.frozen? ⟨g, 1, none⟩ = false) (f2 : w.frozen? ⟨g, 2, none⟩ = false) (hb : BytesAt w base A n) : CurAt w base g := ⟨A, n, c, i, h, h1, h2, h3, c0, c1, c2, f1, f2, hb⟩
/-- What a store to a cursor's number keeps. -/
theorem cur_set2 {w : World} {base g : Nat} {A : Option Addr} {n : Nat} {i : Nat} {h v : Int} {c : Nat} (h2 : base ≤ g) (c0 : w.cell? ⟨g, 0, none⟩ = some (.slice A n c)) (c1 : w.cell? ⟨g, 1, none⟩ = some (.int .i64 i)) (c2 : w.cell? ⟨g, 2, none⟩ = some (.int .i64 h))
    (f1 : w.frozen? ⟨g, 1, none⟩ = false) (f2 : w.frozen? ⟨g, 2, none⟩ = false) (hb : BytesAt w base A n) :
    (w.setCell ⟨g, 2, none⟩ (.int .i64 v)).cell? ⟨g, 0, none⟩ = some (.slice A n c) ∧ (w.setCell ⟨g, 2, none⟩ (.int .i64 v)).cell? ⟨g, 1, none⟩ = some (.int .i64 i) ∧ (w.setCell ⟨g, 2, none⟩ (.int .i64 v)).cell? ⟨g, 2, none⟩ = some (.int .i64 v) ∧
    (w.setCell ⟨g, 2, none⟩ (.int .i64 v)).frozen? ⟨g, 1, none⟩ = false ∧ (w.setCell ⟨g, 2, none⟩ (.int .i64 v)).frozen? ⟨g, 2, none⟩ = false ∧ BytesAt (w.setCell ⟨g, 2, none⟩ (.int .i64 v)) base A n := by
  refine ⟨?_, ?_, World.cell?_setCell_same _ _ _ c2, by simp [f1], by simp [f2], hb.1, fun k hk => ?_⟩
  · rw [World.cell?_setCell_other _ _ _ _ (by simp)]; exact c0
  · rw [World.cell?_setCell_other _ _ _ _ (by simp)]; exact c1
  · obtain ⟨b, o, x, e, hlt, h0, h1, hc⟩ := hb.2 k hk
    exact ⟨b, o, x, e, hlt, h0, h1, (cell_far (by omega)).trans hc⟩
theorem cur_set1 {w : World} {base g : Nat} {A : Option Addr} {n : Nat} {i : Nat} {h v : Int} {c : Nat} (h2 : base ≤ g) (c0 : w.cell? ⟨g, 0, none⟩ = some (.slice A n c)) (c1 : w.cell? ⟨g, 1, none⟩ = some (.int .i64 i)) (c2 : w.cell? ⟨g, 2, none⟩ = some (.int .i64 h))
    (f1 : w.frozen? ⟨g, 1, none⟩ = false) (f2 : w.frozen? ⟨g, 2, none⟩ = false) (hb : BytesAt w base A n) :
    (w.setCell ⟨g, 1, none⟩ (.int .i64 v)).cell? ⟨g, 0, none⟩ = some (.slice A n c) ∧ (w.setCell ⟨g, 1, none⟩ (.int .i64 v)).cell? ⟨g, 1, none⟩ = some (.int .i64 v) ∧ (w.setCell ⟨g, 1, none⟩ (.int .i64 v)).cell? ⟨g, 2, none⟩ = some (.int .i64 h) ∧
    (w.setCell ⟨g, 1, none⟩ (.int .i64 v)).frozen? ⟨g, 1, none⟩ = false ∧ (w.setCell ⟨g, 1, none⟩ (.int .i64 v)).frozen? ⟨g, 2, none⟩ = false ∧ BytesAt (w.setCell ⟨g, 1, none⟩ (.int .i64 v)) base A n := by
  refine ⟨?_, World.cell?_setCell_same _ _ _ c1, ?_, by simp [f1], by simp [f2], hb.1, fun k hk => ?_⟩
  · rw [World.cell?_setCell_other _ _ _ _ (by simp)]; exact c0
  · rw [World.cell?_setCell_other _ _ _ _ (by simp)]; exact c2
  · obtain ⟨b, o, x, e, hlt, h0, h1, hc⟩ := hb.2 k hk
    exact ⟨b, o, x, e, hlt, h0, h1, (cell_far (by omega)).trans hc⟩
theorem cur_step1 {w : World} {base g : Nat} {A : Option Addr} {n : Nat} {i : Nat} {h : Int} {c : Nat} (h1 : i < n) (h2 : base ≤ g) (h3 : g < w.heap.size) (c0 : w.cell? ⟨g, 0, none⟩ = some (.slice A n c)) (c1 : w.cell? ⟨g, 1, none⟩ = some (.int .i64 i)) (c2 : w.cell? ⟨g, 2, none⟩ = some (.int .i64 h))
    (f1 : w.frozen? ⟨g, 1, none⟩ = false) (f2 : w.frozen? ⟨g, 2, none⟩ = false) (hb : BytesAt w base A n) : CurAt (w.setCell ⟨g, 1, none⟩ (.int .i64 ((i : Int) + 1))) base g := by
  obtain ⟨d0, d1, d2, e1, e2, hb2⟩ := cur_set1 (v := (i : Int) + 1) h2 c0 c1 c2 f1 f2 hb
  exact ⟨A, n, c, i + 1, h, by omega, h2, by simpa using h3, d0, d1, d2, e1, e2, hb2⟩
/-- The ending of a call that draws a number from a cursor: nothing else has turned. -/
def DrawnInt (P : Int → Prop) (w : World) (base g : Nat) (e : Ending) (w' : World) : Prop := ∃ x : Int, e = .returned (.int .i64 x) ∧ P x ∧ CurAt w' base g ∧ Only g (g + 1) w w'
set_option maxRecDepth 100000 in
set_option maxHeartbeats 4000000 in
theorem l1Byte_any (w : World) (base g : Nat) (hc : CurAt w base g) : Calls Try.prog 47 #[.pointer (some ⟨g, 0, none⟩)] w (DrawnInt (fun x => 0 ≤ x ∧ x ≤ 255) w base g) := by
  obtain ⟨A, n, c, i, h, h1, h2, h3, c0, c1, c2, f1, f2, hby⟩ := hc
  have hnn := hby.1
  go_enter Try.func47, Try.ntmps47
  go_wp2
  obtain ⟨d0, d1, d2, e1, e2, hby2⟩ := cur_set2 (v := wrap64 (wrap64 (h * 6364136223846793005) + 1442695040888963407)) h2 c0 c1 c2 f1 f2 hby
  have HO : Only g (g + 1) w (w.setCell ⟨g, 2, none⟩ (.int .i64 (wrap64 (wrap64 (h * 6364136223846793005) + 1442695040888963407)))) := only_set
  have hsz : g < (w.setCell ⟨g, 2, none⟩ (.int .i64 (wrap64 (wrap64 (h * 6364136223846793005) + 1442695040888963407)))).heap.size := by simpa using h3
  clear c0 c1 c2 f1 f2 hby
  generalize wrap64 (wrap64 (h * 6364136223846793005) + 1442695040888963407) = v at *
  generalize hW : w.setCell ⟨g, 2, none⟩ (.int .i64 v) = W1 at *
  clear hW
  have hand : ∀ n, bits .and .i64 n 255 = n % 256 := i64_and255
  by_cases hlt : i < n
  · have hz1 : decide (i < n) = true := by simpa using hlt
    obtain ⟨b, o, x, rfl, hb, x0, x1, hx⟩ := hby2.2 i hlt
    go_quiet (fail)
    go_wp2
    have y0 : 0 ≤ bits BinOp.xor IntKind.i64 (v / 8589934592) (v / 35184372088832) % 256 ∧ bits BinOp.xor IntKind.i64 (v / 8589934592) (v / 35184372088832) % 256 ≤ 255 := by omega
    generalize bits BinOp.xor IntKind.i64 (v / 8589934592) (v / 35184372088832) % 256 = y at *
    obtain ⟨y0, y1⟩ := y0
    have m3 : IntKind.i64.wrap (y + x) = y + x := IntWalk.i64_in _ (by omega)
    go_quiet (fail)
    go_wp2
    go_quiet (fail)
    clear m3
    go_wp2
    go_ret
    exact ⟨_, rfl, by omega, cur_step1 (w := W1.drewN _) hlt h2 hsz d0 d1 d2 e1 e2 hby2, (only_drewN HO _).trans only_set⟩
  · have hz1 : decide (i < n) = false := by simpa using hlt
    go_quiet (fail)
    go_wp2
    have y0 : 0 ≤ bits BinOp.xor IntKind.i64 (v / 8589934592) (v / 35184372088832) % 256 ∧ bits BinOp.xor IntKind.i64 (v / 8589934592) (v / 35184372088832) % 256 ≤ 255 := by omega
    generalize bits BinOp.xor IntKind.i64 (v / 8589934592) (v / 35184372088832) % 256 = y at *
    go_quiet (fail)
    go_wp2
    go_ret
    exact ⟨y, rfl, y0, curAt_drewN (w := W1.drewN _) (curAt_drewN (curAt_i h1 h2 hsz d0 d1 d2 e1 e2 hby2) _) _, only_drewN (only_drewN HO _) _⟩
set_option maxRecDepth 100000 in
set_option maxHeartbeats 4000000 in
theorem l1Below_any (n : Int) (w : World) (base g : Nat) (hn : 1 ≤ n ∧ n ≤ 1000000000) (hc : CurAt w base g) : Calls Try.prog 18 #[.pointer (some ⟨g, 0, none⟩), .int .i64 n] w (DrawnInt (fun x => 0 ≤ x ∧ x ≤ n - 1) w base g) := by
  obtain ⟨n1, n2⟩ := hn
  by_cases h256 : n ≤ 256
  · go_enter Try.func18, Try.ntmps18
    go_wp2_with fail
    refine (l1Byte_any _ _ _ hc).mono ?_
    rintro e w1 ⟨x, rfl, ⟨x0, x1⟩, hc1, HO⟩
    have hm1 := Int.emod_nonneg x (show n ≠ 0 by omega)
    have hm2 := Int.emod_lt_of_pos x (show 0 < n by omega)
    go_wp2_with fail
    go_ret
    exact ⟨_, rfl, by omega, hc1, HO⟩
  · go_enter Try.func18, Try.ntmps18
    go_wp2_with fail
    refine (l1Byte_any _ _ _ hc).mono ?_
    rintro e w1 ⟨x, rfl, ⟨x0, x1⟩, hc1, HO1⟩
    go_wp2_with fail
    refine (l1Byte_any _ _ _ hc1).mono ?_
    rintro e w2 ⟨y, rfl, ⟨y0, y1⟩, hc2, HO2⟩
    go_wp2_with fail
    refine (l1Byte_any _ _ _ hc2).mono ?_
    rintro e w3 ⟨z, rfl, ⟨z0, z1⟩, hc3, HO3⟩
    go_wp2_with fail
    refine (l1Byte_any _ _ _ hc3).mono ?_
    rintro e w4 ⟨u, rfl, ⟨u0, u1⟩, hc4, HO4⟩
    have hm1 := Int.emod_nonneg (x * 16777216 + y * 65536 + z * 256 + u) (show n ≠ 0 by omega)
    have hm2 := Int.emod_lt_of_pos (x * 16777216 + y * 65536 + z * 256 + u) (show 0 < n by omega)
    go_wp2_with fail
    go_ret
    exact ⟨_, rfl, by omega, hc4, ((HO1.trans HO2).trans HO3).trans HO4⟩
def DrawnBool (w : World) (base g : Nat) (e : Ending) (w' : World) : Prop := ∃ x : Bool, e = .returned (.bool x) ∧ CurAt w' base g ∧ Only g (g + 1) w w'
set_option maxRecDepth 100000 in
theorem l1Once_any (n : Int) (w : World) (base g : Nat) (hn : 1 ≤ n ∧ n ≤ 1000000000) (hc : CurAt w base g) : Calls Try.prog 43 #[.pointer (some ⟨g, 0, none⟩), .int .i64 n] w (DrawnBool w base g) := by
  go_enter Try.func43, Try.ntmps43
  go_wp2_with fail
  refine (l1Below_any _ _ _ _ hn hc).mono ?_
  rintro e w1 ⟨x, rfl, _, hc1, HO⟩
  go_wp2_with fail
  go_ret
  exact ⟨_, rfl, hc1, HO⟩
set_option maxRecDepth 100000 in
theorem l1PickInt_any (A : Option Addr) (n c : Nat) (l : List Int) (w : World) (base g : Nat) (hl : IntsIn w A n l) (hn : 1 ≤ n) (hA : ∀ a, A = some a → a.block ≠ g) (hc : CurAt w base g) : Calls Try.prog 48 #[.pointer (some ⟨g, 0, none⟩), .slice A n c] w (DrawnInt (fun x => x ∈ l) w base g) := by
  have hln := hl.len
  obtain rfl := hl.1
  go_enter Try.func48, Try.ntmps48
  go_wp2_with fail
  refine (l1Below_any _ _ _ _ (by omega) hc).mono ?_
  rintro e w1 ⟨x, rfl, ⟨x0, x1⟩, hc1, HO⟩
  obtain ⟨k, rfl⟩ : ∃ k : Nat, x = (k : Int) := ⟨_, (Int.toNat_of_nonneg x0).symm⟩
  have hk : k < l.length := by omega
  obtain ⟨b, o, rfl, hb, hcell⟩ := hl.at_ hk
  have hne := hA _ rfl
  have hcell1 : w1.cell? ⟨b, o + k, none⟩ = some (.int .i64 l[k]) := by rw [World.cell?_of_block (HO.block b hb (by simp at hne; omega))]; exact hcell
  go_wp2_with fail
  go_ret
  exact ⟨_, rfl, List.getElem_mem hk, hc1, HO⟩
end Go.Proofs.Ytpbibkjcjgggdaa
/- More on the cursor that draws a law's inputs: how it is made, odd numbers. -/
namespace Go.Proofs.Ytpbibkjcjgggdaa
open Go.RowKit
theorem CurAt.lt {w : World} {base g : Nat} (h : CurAt w base g) : g < w.heap.size := by obtain ⟨A, n, c, i, h, h1, h2, h3, _⟩ := h; exact h3
theorem lit_ints {w : World} {H : Nat} (hH : w.heap.size = H) (cs : Array Value) (l : List Int) (n : Nat) (hn : n = l.length) (hcs : cs.toList = ints l) (hl : l.length ≤ 16777216) : IntsIn (w.alloc (.cells cs 3)) (some ⟨H, 0, none⟩) n l := by
  refine ⟨hn, by simp; omega, by omega, fun _ => ⟨H, 0, rfl, by simp; omega, fun j u hu => ?_⟩⟩
  have := news_at hH cs 3 j u (by rw [hcs]; exact hu)
  rwa [Addr.add_lit] at this
theorem RowVal.only {α : Type} {F : Flat α} {t : TypeId} {w w' : World} {lo a b : Nat} {v : Value} {l : List α} (h : RowVal F t w lo v l) (ho : Only a b w w') (hb : b ≤ lo) : RowVal F t w' lo v l := by
  refine ⟨h.1, ?_⟩
  rcases h.2 with h0 | ⟨g, cap, cur, hv, hlo, hg, hr⟩
  · exact .inl h0
  · refine .inr ⟨g, cap, cur, hv, hlo, ?_, hr⟩
    have hlt : g < w.heap.size := by
      rcases Nat.lt_or_ge g w.heap.size with h1 | h1
      · exact h1
      · rw [Array.getElem?_eq_none h1] at hg; cases hg
    rw [ho.block g hlt (by omega)]; exact hg
theorem OwnRows.only {α : Type} {F : Flat α} {t : TypeId} {w w' : World} {lo a b n c : Nat} {A : Option Addr} {l : List α} (h : OwnRows F t w lo A n c l) (ho : Only a b w w') (hb : b ≤ lo) : OwnRows F t w' lo A n c l := by
  obtain ⟨rfl, h⟩ := h
  exact ⟨rfl, RowVal.only (v := .slice A l.length c) h ho hb⟩
theorem only_below {lo hi : Nat} {w w1 w2 : World} (h : Only lo hi w w1) (k : Below w.heap.size w1 w2) : Only lo hi w w2 :=
  ⟨k.os.trans h.os, k.tape.trans h.tape, k.output.trans h.output, Nat.le_trans h.size k.size, fun i hi hn => (k.block i hi).trans (h.block i hi hn)⟩
set_option maxRecDepth 100000 in
set_option maxHeartbeats 4000000 in
theorem l1New_any (A : Option Addr) (n c : Nat) (w : World) (hb : BytesAt w w.heap.size A n) : Calls Try.prog 16 #[.slice A n c] w fun e w' => ∃ g, e = .returned (.pointer (some ⟨g, 0, none⟩)) ∧ w.heap.size ≤ g ∧ CurAt w' w.heap.size g ∧ Below w.heap.size w w' := by
  have hn := hb.1
  have HB := Lib.hid hb.2
  have hand : ∀ n, bits .and .i64 n 1073741823 = n % 1073741824 := i64_and30
  have hb0 := hb
  clear hb
  go_enter Try.func16, Try.ntmps16
  go_wp2
  go_loop [3, 4] (fun h i => ∃ (k : Nat) (x : Int), k ≤ n ∧ i = .int .i64 k ∧ h = .int .i64 x ∧ 0 ≤ x ∧ x ≤ 1100000000) (fun _ i => n - (intOf i).toNat)
  case atStart => exact ⟨0, _, by omega, rfl, rfl, by omega, by omega⟩
  case round =>
    obtain ⟨k, x, hk, rfl, rfl, x0, x1⟩ := hrel
    by_cases hlt : k < n
    · by_cases h4 : (k : Int) < 4000
      · obtain ⟨b, o, y, rfl, hbl, y0, y1, hc⟩ := HB.out k hlt
        go_wp2
        go_round
        case rel => exact ⟨k + 1, _, by omega, by go_num, rfl, by omega, by omega⟩
        case measure => simp [intOf]; omega
      · go_wp2
        go_ret
        exact ⟨_, rfl, Nat.le_refl _, ⟨A, n, c, 0, x, by omega, Nat.le_refl _, by simp, by simp [go_sem], by simp [go_sem], by simp [go_sem], by simp [go_sem], by simp [go_sem], hb0.keep (below_alloc _ _) (Nat.le_refl _)⟩, below_alloc _ _⟩
    · go_wp2
      go_ret
      exact ⟨_, rfl, Nat.le_refl _, ⟨A, n, c, 0, x, by omega, Nat.le_refl _, by simp, by simp [go_sem], by simp [go_sem], by simp [go_sem], by simp [go_sem], by simp [go_sem], hb0.keep (below_alloc _ _) (Nat.le_refl _)⟩, below_alloc _ _⟩
set_option maxRecDepth 100000 in
set_option maxHeartbeats 1000000 in
theorem l1Odd_any (w : World) (base g : Nat) (hc : CurAt w base g) : Calls Try.prog 46 #[.pointer (some ⟨g, 0, none⟩)] w (DrawnInt (fun _ => True) w base g) := by
  have hg : g < w.heap.size := by obtain ⟨A, n, c, i, h, h1, h2, h3, _⟩ := hc; exact h3
  go_enter Try.func46, Try.ntmps46
  go_wp2_with fail
  refine (l1PickInt_any _ 11 _ [0, 1, -1, 2, 1000000, 1000001, -1000001, 1000000000, 1000000001, 9223372036854775807, -9223372036854775808] _ base g (lit_ints rfl _ _ _ rfl rfl (by simp)) (by omega) (fun a ha => by have := Option.some.inj ha; rw [← this]; show w.heap.size ≠ g; omega) (hc.keep (below_alloc _ _) hg)).mono ?_
  rintro e w1 ⟨x, rfl, _, hc1, HO⟩
  go_wp2_with fail
  go_ret
  exact ⟨_, rfl, trivial, hc1, (Only.of_below (below_alloc _ _)).trans HO⟩
end Go.Proofs.Ytpbibkjcjgggdaa
