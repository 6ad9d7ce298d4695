/- Part 29 of the texts of this claim: The walk of PlanItem (the program's); The walk of the laws' own marks that are texts: which text comes back. -/
import Derived.Test.YtlnkofnfgemfdaaGreatPi27
import Derived.Test.YtlnkofnfgemfdaaGreatPi12
import Derived.StillTailTactics
import Derived.Test.YtlnkofnfgemfdaaGreatPi1
/- The walk of PlanItem (the program's). -/
namespace Go.Proofs.YtlnkofnfgemfdaaGreat
open Go.RowKit
set_option maxRecDepth 100000 in
set_option maxHeartbeats 8000000 in
theorem implPlanItem_any (r : PtR) (p : Pt) (s : ByteArray) (A : Option Addr) (n c : Nat) (l : List Fl) (w : World) (hp : PlantIn w r p) (hok : okPt p) (_hs : s.size ≤ 9223372036854775807) (hl : FlowsIn w A n l) :
    Calls Tryz.prog 12 #[.agg #[.slice r.i.a r.i.n r.i.c, .slice r.l.a r.l.n r.l.c, .slice r.w.a r.w.n r.w.c, .slice r.e.a r.e.n r.e.c, .slice r.p.a r.p.n r.p.c, .slice r.s.a r.s.n r.s.c, .slice r.q.a r.q.n r.q.c], .string s, .slice A n c] w (PairRowsOf plF 93 w (planItem p s l)) := by
  have HS := Lib.hid _hs
  clear _hs
  obtain ⟨⟨a0, n0, c0⟩, ⟨a1, n1, c1⟩, ⟨a2, n2, c2⟩, ⟨a3, n3, c3⟩, ⟨a4, n4, c4⟩, ⟨a5, n5, c5⟩, ⟨a6, n6, c6⟩⟩ := r
  have HNS := Lib.hid hp.st.1
  have HNR := Lib.hid hp.rc.1
  dsimp only at HNS HNR ⊢
  obtain rfl := HNS.out
  obtain rfl := HNR.out
  clear HNS HNR
  have hls := hp.st.len
  have hlr := hp.rc.len
  have HP := Lib.hid hp
  have HQ5 := Lib.hid hp.st
  have HQ6 := Lib.hid hp.rc
  have HQ0 := Lib.hid hp.it
  dsimp only at HQ5 HQ6 HQ0
  have HO := Lib.hid hok
  clear hp hok
  have hlen := hl.len
  obtain rfl := hl.1
  have HL := Lib.hid hl
  clear hl
  have hb := below_alloc w (.cells #[.slice a0 n0 c0, .slice a1 n1 c1, .slice a2 n2 c2, .slice a3 n3 c3, .slice a4 n4 c4, .slice a5 p.st.length c5, .slice a6 p.rc.length c6] 48)
  have B0 : BoxOf (w.alloc (.cells #[.slice a0 n0 c0, .slice a1 n1 c1, .slice a2 n2 c2, .slice a3 n3 c3, .slice a4 n4 c4, .slice a5 p.st.length c5, .slice a6 p.rc.length c6] 48)) w.heap.size [.slice a0 n0 c0, .slice a1 n1 c1, .slice a2 n2 c2, .slice a3 n3 c3, .slice a4 n4 c4, .slice a5 p.st.length c5, .slice a6 p.rc.length c6] := boxOf_alloc w #[.slice a0 n0 c0, .slice a1 n1 c1, .slice a2 n2 c2, .slice a3 n3 c3, .slice a4 n4 c4, .slice a5 p.st.length c5, .slice a6 p.rc.length c6] 48
  obtain ⟨b0, b1, b2, b3, b4, b5, b6, bl⟩ := B0.seven
  go_enter Tryz.func12, Tryz.ntmps12
  go_wp2_with fail
  generalize (w.alloc (.cells #[.slice a0 n0 c0, .slice a1 n1 c1, .slice a2 n2 c2, .slice a3 n3 c3, .slice a4 n4 c4, .slice a5 p.st.length c5, .slice a6 p.rc.length c6] 48)) = V at *
  refine (implFindItem_any _ _ _ p.it _ _ (HQ0.out.keep hb)).mono ?_
  rintro e V0 ⟨rfl, hs⟩
  replace hb := below_on hb hs
  replace B0 := B0.keep hs
  clear hs b0 b1 b2 b3 b4 b5 b6 bl
  obtain ⟨b0, b1, b2, b3, b4, b5, b6, bl⟩ := B0.seven
  obtain ⟨f3, f3b⟩ := findIt_bd p.it s
  go_wp2_with fail
  clear b0 b1 b2 b3 b4 b5 b6 bl
  refine (implIsPlant_any ⟨⟨a0, n0, c0⟩, ⟨a1, n1, c1⟩, ⟨a2, n2, c2⟩, ⟨a3, n3, c3⟩, ⟨a4, n4, c4⟩, ⟨a5, p.st.length, c5⟩, ⟨a6, p.rc.length, c6⟩⟩ p _ (HP.out.keep hb) HO.out).mono ?_
  rintro e V1 ⟨rfl, hs⟩
  replace hb := below_on hb hs
  replace B0 := B0.keep hs
  clear hs
  obtain ⟨b0, b1, b2, b3, b4, b5, b6, bl⟩ := B0.seven
  cases g : isPlant p
  · have HF : Hid (planItem p s l = ([], false)) := planItem_no (by unfold planOk; rw [g]; rfl)
    clear f3 f3b
    go_wp2_with fail
    go_ret2
    exact pairRowsOf_mk (HF.out) (RowVal.nil _ _) hb
  by_cases f1 : 0 ≤ findIt p.it s
  case neg =>
    have HF : Hid (planItem p s l = ([], false)) := planItem_no (by unfold planOk; rw [decide_eq_false f1]; simp)
    have f5 : findIt p.it s < 0 := by omega
    have f6 : decide (findIt p.it s < 0) = true := decide_eq_true f5
    clear f1 f3 f3b
    go_wp2_with fail
    go_ret2
    exact pairRowsOf_mk (HF.out) (RowVal.nil _ _) hb
  obtain ⟨qn, hqn⟩ : ∃ qn : Nat, findIt p.it s = (qn : Int) := ⟨(findIt p.it s).toNat, by omega⟩
  have q1 : qn < p.it.length := by omega
  have q2 : (qn : Int) < (p.it.length : Int) := by omega
  have q3 : (0 : Int) ≤ (qn : Int) := by omega
  have q4 : decide ((qn : Int) < 0) = false := decide_eq_false (by omega)
  have hn0 := HQ0.out.1
  subst hn0
  have hi0 := HQ0.out.keep hb
  obtain ⟨bi, oi, e0, hbi, k0, k1, k2, k3, k4, k5, k6, k7⟩ := item_at hi0 q1
  subst e0
  rw [hqn]
  have HQN := Lib.hid hqn
  clear f1 f3 f3b hqn hi0
  cases g2 : (p.it[qn].2.2.1 == 2)
  case true =>
    have HF : Hid (planItem p s l = ([], false)) := planItem_no (by rw [planOk_eq HQN.out q1 g g2 rfl]; rfl)
    go_wp2_with fail
    go_ret2
    exact pairRowsOf_mk (HF.out) (RowVal.nil _ _) hb
  go_wp2_with fail
  refine (implAreFlows_any _ _ _ l _ (HL.out.keep hb)).mono ?_
  rintro e V2 ⟨rfl, hs⟩
  replace hb := below_on hb hs
  replace B0 := B0.keep hs
  have hbk := hs
  clear hs b0 b1 b2 b3 b4 b5 b6 bl k0 k1 k2 k3 k4 k5 k6 k7 hbi hbk
  obtain ⟨b0, b1, b2, b3, b4, b5, b6, bl⟩ := B0.seven
  cases g3 : areFlows l
  · have HF : Hid (planItem p s l = ([], false)) := planItem_no (by rw [planOk_eq HQN.out q1 g g2 g3]; rfl)
    go_wp2_with fail
    go_ret2
    exact pairRowsOf_mk (HF.out) (RowVal.nil _ _) hb
  have HOK : Hid (planOk p s l = true) := planOk_eq HQN.out q1 g g2 g3
  have HPX : Hid (planX p s = p.it[qn]) := planX_at HQN.out q1
  have hitm := isPlant_item g q1
  obtain ⟨_, _, _, hlead, hsaf, _, _⟩ := isItem_lots _ hitm
  have HLD := Lib.hid hlead
  clear hlead hsaf
  have hokx := HO.out.it _ (List.getElem_mem q1)
  obtain ⟨_, _, e0, hbi, k0, k1, k2, k3, k4, k5, k6, k7⟩ := item_at (HQ0.out.keep hb) q1
  obtain ⟨rfl, rfl⟩ : bi = _ ∧ oi = _ := by simpa using e0
  clear e0
  have hs := below_alloc V2 (.cells #[.string p.it[qn].1, .string p.it[qn].2.1, .int .i64 p.it[qn].2.2.1, .int .i64 p.it[qn].2.2.2.1, .int .i64 p.it[qn].2.2.2.2.1, .int .i64 p.it[qn].2.2.2.2.2.1, .int .i64 p.it[qn].2.2.2.2.2.2.1, .int .i64 p.it[qn].2.2.2.2.2.2.2] 81)
  have B1 : BoxOf (V2.alloc (.cells #[.string p.it[qn].1, .string p.it[qn].2.1, .int .i64 p.it[qn].2.2.1, .int .i64 p.it[qn].2.2.2.1, .int .i64 p.it[qn].2.2.2.2.1, .int .i64 p.it[qn].2.2.2.2.2.1, .int .i64 p.it[qn].2.2.2.2.2.2.1, .int .i64 p.it[qn].2.2.2.2.2.2.2] 81)) V2.heap.size [.string p.it[qn].1, .string p.it[qn].2.1, .int .i64 p.it[qn].2.2.1, .int .i64 p.it[qn].2.2.2.1, .int .i64 p.it[qn].2.2.2.2.1, .int .i64 p.it[qn].2.2.2.2.2.1, .int .i64 p.it[qn].2.2.2.2.2.2.1, .int .i64 p.it[qn].2.2.2.2.2.2.2] := boxOf_alloc V2 #[.string p.it[qn].1, .string p.it[qn].2.1, .int .i64 p.it[qn].2.2.1, .int .i64 p.it[qn].2.2.2.1, .int .i64 p.it[qn].2.2.2.2.1, .int .i64 p.it[qn].2.2.2.2.2.1, .int .i64 p.it[qn].2.2.2.2.2.2.1, .int .i64 p.it[qn].2.2.2.2.2.2.2] 81
  replace hb := below_on hb hs
  replace B0 := B0.keep hs
  clear hs
  have d6 := B1.2 6 _ rfl
  have dl := B1.1
  go_wp2_with fail
  generalize (V2.alloc (.cells #[.string p.it[qn].1, .string p.it[qn].2.1, .int .i64 p.it[qn].2.2.1, .int .i64 p.it[qn].2.2.2.1, .int .i64 p.it[qn].2.2.2.2.1, .int .i64 p.it[qn].2.2.2.2.2.1, .int .i64 p.it[qn].2.2.2.2.2.2.1, .int .i64 p.it[qn].2.2.2.2.2.2.2] 81)) = V3 at *
  generalize V2.heap.size = NX at *
  clear b0 b1 b2 b3 b4 b5 b6 bl k0 k1 k2 k3 k4 k5 k6 k7 hbi
  obtain ⟨b0, b1, b2, b3, b4, b5, b6, bl⟩ := B0.seven
  go_region_held3 (fun w' => w'.cell? ⟨w.heap.size, 0, none⟩ = some (.slice (some ⟨bi, oi, none⟩) p.it.length c0) ∧ w'.cell? ⟨w.heap.size, 1, none⟩ = some (.slice a1 n1 c1) ∧ w'.cell? ⟨w.heap.size, 2, none⟩ = some (.slice a2 n2 c2) ∧ w'.cell? ⟨w.heap.size, 3, none⟩ = some (.slice a3 n3 c3) ∧ w'.cell? ⟨w.heap.size, 4, none⟩ = some (.slice a4 n4 c4) ∧ w'.cell? ⟨w.heap.size, 5, none⟩ = some (.slice a5 p.st.length c5) ∧ w'.cell? ⟨w.heap.size, 6, none⟩ = some (.slice a6 p.rc.length c6) ∧ w'.cell? ⟨NX, 6, none⟩ = some (.int .i64 p.it[qn].2.2.2.2.2.2.1) ∧ w.heap.size < w'.heap.size ∧ NX < w'.heap.size ∧ BoxOf w' w.heap.size [.slice (some ⟨bi, oi, none⟩) p.it.length c0, .slice a1 n1 c1, .slice a2 n2 c2, .slice a3 n3 c3, .slice a4 n4 c4, .slice a5 p.st.length c5, .slice a6 p.rc.length c6] ∧ BoxOf w' NX [.string p.it[qn].1, .string p.it[qn].2.1, .int .i64 p.it[qn].2.2.1, .int .i64 p.it[qn].2.2.2.1, .int .i64 p.it[qn].2.2.2.2.1, .int .i64 p.it[qn].2.2.2.2.2.1, .int .i64 p.it[qn].2.2.2.2.2.2.1, .int .i64 p.it[qn].2.2.2.2.2.2.2] ∧ Below w.heap.size w w')
    (first
      | exact ⟨b0, b1, b2, b3, b4, b5, b6, d6, bl, dl, B0.keep (Below.refl _ _).drew, B1.keep (Below.refl _ _).drew, hb.drew⟩
      | (go_split_ands; refine ⟨?_, ?_, ?_, ?_, ?_, ?_, ?_, ?_, ?_, ?_, ?_, ?_, ?_⟩ <;> with_reducible assumption)
      | (go_split_ands; exact ⟨(hbS.cell (by with_reducible assumption)).trans (by with_reducible assumption), (hbS.cell (by with_reducible assumption)).trans (by with_reducible assumption), (hbS.cell (by with_reducible assumption)).trans (by with_reducible assumption), (hbS.cell (by with_reducible assumption)).trans (by with_reducible assumption), (hbS.cell (by with_reducible assumption)).trans (by with_reducible assumption), (hbS.cell (by with_reducible assumption)).trans (by with_reducible assumption), (hbS.cell (by with_reducible assumption)).trans (by with_reducible assumption), (hbS.cell (by with_reducible assumption)).trans (by with_reducible assumption), Nat.lt_of_lt_of_le (by with_reducible assumption) hbS.size, Nat.lt_of_lt_of_le (by with_reducible assumption) hbS.size, BoxOf.keep (by with_reducible assumption) hbS, BoxOf.keep (by with_reducible assumption) hbS, below_on (by with_reducible assumption) hbS⟩)
      | (go_split_ands; exact ⟨(hbR.cell (by with_reducible assumption)).trans (by with_reducible assumption), (hbR.cell (by with_reducible assumption)).trans (by with_reducible assumption), (hbR.cell (by with_reducible assumption)).trans (by with_reducible assumption), (hbR.cell (by with_reducible assumption)).trans (by with_reducible assumption), (hbR.cell (by with_reducible assumption)).trans (by with_reducible assumption), (hbR.cell (by with_reducible assumption)).trans (by with_reducible assumption), (hbR.cell (by with_reducible assumption)).trans (by with_reducible assumption), (hbR.cell (by with_reducible assumption)).trans (by with_reducible assumption), Nat.lt_of_lt_of_le (by with_reducible assumption) hbR.size, Nat.lt_of_lt_of_le (by with_reducible assumption) hbR.size, BoxOf.keep (by with_reducible assumption) hbR, BoxOf.keep (by with_reducible assumption) hbR, below_on (by with_reducible assumption) hbR⟩)
      | (go_split_ands; exact ⟨(hbN.cell (by with_reducible assumption)).trans (by with_reducible assumption), (hbN.cell (by with_reducible assumption)).trans (by with_reducible assumption), (hbN.cell (by with_reducible assumption)).trans (by with_reducible assumption), (hbN.cell (by with_reducible assumption)).trans (by with_reducible assumption), (hbN.cell (by with_reducible assumption)).trans (by with_reducible assumption), (hbN.cell (by with_reducible assumption)).trans (by with_reducible assumption), (hbN.cell (by with_reducible assumption)).trans (by with_reducible assumption), (hbN.cell (by with_reducible assumption)).trans (by with_reducible assumption), Nat.lt_of_lt_of_le (by with_reducible assumption) hbN.size, Nat.lt_of_lt_of_le (by with_reducible assumption) hbN.size, BoxOf.keep (by with_reducible assumption) hbN, BoxOf.keep (by with_reducible assumption) hbN, below_on (by with_reducible assumption) hbN⟩))
    (first
      | ((with_reducible refine (implStockOf_any ⟨⟨some ⟨bi, oi, none⟩, p.it.length, c0⟩, ⟨a1, n1, c1⟩, ⟨a2, n2, c2⟩, ⟨a3, n3, c3⟩, ⟨a4, n4, c4⟩, ⟨a5, p.st.length, c5⟩, ⟨a6, p.rc.length, c6⟩⟩ p s _ (HP.out.keep ?_) HO.out HS.out).mono ?_); (go_split_ands; with_reducible assumption); rintro e w3 ⟨rfl, hbS⟩)
      | ((with_reducible refine (implReceiptFlows_any ⟨⟨some ⟨bi, oi, none⟩, p.it.length, c0⟩, ⟨a1, n1, c1⟩, ⟨a2, n2, c2⟩, ⟨a3, n3, c3⟩, ⟨a4, n4, c4⟩, ⟨a5, p.st.length, c5⟩, ⟨a6, p.rc.length, c6⟩⟩ p s _ (HP.out.keep ?_) HO.out HS.out).mono ?_); (go_split_ands; with_reducible assumption); rintro e w3 ⟨A9, c9, rfl, ho9, hbR⟩)
      | ((with_reducible refine (implNetNeeds_any A9 A _ l.length _ _ (receiptFlows p s) l _ _ _ (ho9.rows (by have := receiptFlows_len p s; omega)) (HL.out.keep ?_)).mono ?_); (go_split_ands; with_reducible assumption); rintro e w3 ⟨A8, c8, rfl, ho8, hbN⟩)
      | ((with_reducible refine (implNetNeeds_any A9 A _ l.length _ _ (receiptFlows p s) l _ _ _ ((ho9.keep hbS).rows (by have := receiptFlows_len p s; omega)) (HL.out.keep ?_)).mono ?_); (go_split_ands; with_reducible assumption); rintro e w3 ⟨A8, c8, rfl, ho8, hbN⟩))
  all_goals
    go_split_ands
    have hbw : Below w.heap.size w w3 := by with_reducible assumption
    have C0 : BoxOf w3 w.heap.size [.slice (some ⟨bi, oi, none⟩) p.it.length c0, .slice a1 n1 c1, .slice a2 n2 c2, .slice a3 n3 c3, .slice a4 n4 c4, .slice a5 p.st.length c5, .slice a6 p.rc.length c6] := by with_reducible assumption
    have C1 : BoxOf w3 NX [.string p.it[qn].1, .string p.it[qn].2.1, .int .i64 p.it[qn].2.2.1, .int .i64 p.it[qn].2.2.2.1, .int .i64 p.it[qn].2.2.2.2.1, .int .i64 p.it[qn].2.2.2.2.2.1, .int .i64 p.it[qn].2.2.2.2.2.2.1, .int .i64 p.it[qn].2.2.2.2.2.2.2] := by with_reducible assumption
    clear hb B0 B1 b0 b1 b2 b3 b4 b5 b6 bl d6 dl
    obtain ⟨NN, hNN⟩ : ∃ N, netNeeds (receiptFlows p s) l (stockOf p s) p.it[qn].2.2.2.2.2.2.1 = N := ⟨_, rfl⟩
    have HNET : Hid (planNet p s l = NN) := by show _ = _; unfold planNet; rw [HPX.out]; exact hNN
    have HNF : Hid (areFlows NN.1 = true) := by show _ = _; rw [← hNN]; exact netNeeds_flows _ _ _ _
    rw [hNN] at ho8 ⊢
    clear hNN ho9
    have hnl : NN.1.length ≤ 40 := (areFlows_parts HNF.out).2
    cases gn : NN.2
    · have HF : Hid (planItem p s l = ([], false)) := planItem_no (by rw [HNET.out, gn]; simp)
      go_wp2_with fail
      go_ret2
      exact pairRowsOf_mk (HF.out) (RowVal.nil _ _) hbw
    have k4 := C1.2 4 _ rfl
    have k5 := C1.2 5 _ rfl
    go_wp2_with fail
    refine (implLotsFor_any _ _ _ NN.1 _ _ _ (ho8.rows (by omega))).mono ?_
    rintro e w4 ⟨A7, c7, rfl, ho7, hs⟩
    obtain ⟨LT, hLT⟩ : ∃ N, lotsFor NN.1 p.it[qn].2.2.2.2.1 p.it[qn].2.2.2.2.2.1 = N := ⟨_, rfl⟩
    have HLOT : Hid (planLots p s l = LT) := by show _ = _; unfold planLots; rw [HNET.out, HPX.out]; exact hLT
    have HLF : Hid (areFlows LT.1 = true) := by show _ = _; rw [← hLT]; exact lotsFor_flows _ _ _
    have HLN : Hid (LT.2 = false → LT.1 = []) := fun h => by rw [← hLT] at h ⊢; exact lotsFor_nil' h
    rw [hLT] at ho7 ⊢
    clear hLT ho8 k4 k5
    replace hbw := below_on hbw hs
    replace C0 := C0.keep hs
    replace C1 := C1.keep hs
    clear hs
    have hll : LT.1.length ≤ 40 := (areFlows_parts HLF.out).2
    have hlots : FlowsIn w4 A7 LT.1.length LT.1 := ho7.rows (by omega)
    clear ho7
    cases gl : LT.2
    · have HF : Hid (planItem p s l = ([], false)) := planItem_no (by rw [HLOT.out, gl]; simp)
      go_wp2_with fail
      go_ret2
      exact pairRowsOf_mk (HF.out) (RowVal.nil _ _) hbw
    have HM := Lib.hid (areFlows_mem HLF.out)
    have hrow : RowVal plF 93 (w4.alloc (.cells #[] 93)) w4.heap.size (.slice (some ⟨w4.heap.size, 0, none⟩) 0 0) ((LT.1.take 0).map (plOf p s p.it[qn])) := empty_row rfl (Nat.le_refl _)
    have hb4 := below_alloc w4 (.cells #[] 93)
    obtain ⟨kn, hkn⟩ : ∃ kn : Nat, p.it[qn].2.2.2.1 = (kn : Int) := ⟨p.it[qn].2.2.2.1.toNat, by have := HLD.out; omega⟩
    have hk30 : kn ≤ 30 := by have := HLD.out; omega
    have HKN := Lib.hid hkn
    clear hkn
    go_wp2_with fail
    generalize w4.alloc (.cells #[] 93) = w5 at *
    generalize hB5 : w4.heap.size = B5 at *
    go_loopw [13, 79] (fun v i wr => ∃ k : Nat, k ≤ LT.1.length ∧ i = .int .i64 k ∧ Hid ((LT.1.take k).all (smallF p.it[qn]) = true) ∧ RowVal plF 93 wr B5 v ((LT.1.take k).map (plOf p s p.it[qn])) ∧ Below B5 w4 wr) (fun _ i _ => LT.1.length - (intOf i).toNat)
    case atStart => exact ⟨0, by omega, rfl, rfl, hrow, hb4⟩
    case round =>
      clear hrow hb4
      obtain ⟨k, hk, rfl, HI, hrow, hb4⟩ := hrel
      have hb4' : Below w4.heap.size w4 wr := by rw [hB5]; exact hb4
      have hbw2 := below_on hbw hb4'
      by_cases hlt : k < LT.1.length
      · obtain ⟨b7, o7, rfl, hb7, hc1, hc2⟩ := flow_at (hlots.keep hb4') hlt
        obtain ⟨⟨m1, m2⟩, m3, m4⟩ := HM.out _ (List.getElem_mem hlt)
        have hs := below_alloc wr (.cells #[.int .i64 LT.1[k].1, .int .i64 LT.1[k].2] 90)
        have BF : BoxOf (wr.alloc (.cells #[.int .i64 LT.1[k].1, .int .i64 LT.1[k].2] 90)) wr.heap.size [.int .i64 LT.1[k].1, .int .i64 LT.1[k].2] := boxOf_alloc wr #[.int .i64 LT.1[k].1, .int .i64 LT.1[k].2] 90
        have D0 := (C0.keep hb4').keep hs
        have D1 := (C1.keep hb4').keep hs
        replace hrow := hrow.keep hs
        have hb6 : Below B5 w4 (wr.alloc (.cells #[.int .i64 LT.1[k].1, .int .i64 LT.1[k].2] 90)) := by rw [← hB5]; exact below_on hb4' hs
        have hbw6 := below_on hbw2 hs
        clear hs hb4 hb4'
        have t0 := D1.2 0 _ rfl
        have t1 := D1.2 1 _ rfl
        have t2 := D1.2 2 _ rfl
        have t3 := D1.2 3 _ rfl
        have t4 := D1.2 4 _ rfl
        have t5 := D1.2 5 _ rfl
        have t6 := D1.2 6 _ rfl
        have t7 := D1.2 7 _ rfl
        have f1 := BF.2 1 _ rfl
        go_wp2_with fail
        generalize wr.alloc (.cells #[.int .i64 LT.1[k].1, .int .i64 LT.1[k].2] 90) = wq at *
        generalize wr.heap.size = NF at *
        clear t0 t1 t2 t3 t4 t5 t6 t7 f1 hc1 hc2 hb7
        refine (implGrossOf_any p.it[qn] _ _ hokx).mono ?_
        rintro e w6 ⟨rfl, hs⟩
        obtain ⟨gg, hgg⟩ : ∃ g, grossOf p.it[qn] LT.1[k].2 = g := ⟨_, rfl⟩
        have HGG := Lib.hid hgg
        rw [hgg]
        clear hgg
        replace BF := BF.keep hs
        replace D0 := D0.keep hs
        replace D1 := D1.keep hs
        replace hrow := hrow.keep hs
        replace hbw6 := below_on hbw6 hs
        replace hb6 : Below B5 w4 w6 := hb6.trans (hs.mono (by rw [← hB5]; rw [← hB5] at hb6; exact hb6.size))
        clear hs
        by_cases hsm : gg.1 ≤ 100000
        case neg =>
          have HSM : Hid (smallF p.it[qn] LT.1[k] = false) := by show _ = _; unfold smallF; rw [HGG.out]; exact decide_eq_false hsm
          have HF : Hid (planItem p s l = ([], false)) := planItem_no (by rw [HLOT.out, HPX.out, all_false LT.1 _ k hlt HSM.out]; simp)
          have hsn : (100000 : Int) < gg.1 := by omega
          go_wp2_with fail
          go_ret2
          exact pairRowsOf_mk HF.out (RowVal.nil _ _) hbw6
        have HSM : Hid (smallF p.it[qn] LT.1[k] = true) := by show _ = _; unfold smallF; rw [HGG.out]; exact decide_eq_true hsm
        obtain ⟨x0, x1, x2, x3, x4, x5, x6, xl⟩ := D0.seven
        have t0 := D1.2 0 _ rfl
        have t1 := D1.2 1 _ rfl
        have t2 := D1.2 2 _ rfl
        have t3 := D1.2 3 _ rfl
        have t4 := D1.2 4 _ rfl
        have t5 := D1.2 5 _ rfl
        have t6 := D1.2 6 _ rfl
        have t7 := D1.2 7 _ rfl
        have f0 := BF.2 0 _ rfl
        go_wp2_with fail
        clear t0 t1 t2 t3 t4 t5 t6 t7 f0 x0 x1 x2 x3 x4 x5 x6 xl
        refine (releaseOf_any ⟨⟨some ⟨bi, oi, none⟩, p.it.length, c0⟩, ⟨a1, n1, c1⟩, ⟨a2, n2, c2⟩, ⟨a3, n3, c3⟩, ⟨a4, n4, c4⟩, ⟨a5, p.st.length, c5⟩, ⟨a6, p.rc.length, c6⟩⟩ p p.it[qn] LT.1[k].1 _ (HP.out.keep hbw6) kn HKN.out hk30).mono ?_
        rintro e w8 ⟨rfl, hs⟩
        obtain ⟨ad, had⟩ : ∃ g, addWd p.wk p.ex LT.1[k].1 (-p.it[qn].2.2.2.1) = g := ⟨_, rfl⟩
        rw [had]
        have HPL : Hid (plOf p s p.it[qn] LT.1[k] = (s, gg.1, ad.1, LT.1[k].1, !ad.2)) := by show _ = _; unfold plOf; rw [HGG.out, had]
        have hrow8 := hrow.keep hs
        have f0 := (BF.keep hs).2 0 _ rfl
        have hb8 : Below B5 w4 w8 := hb6.trans (hs.mono (by rw [← hB5]; rw [← hB5] at hb6; exact hb6.size))
        have hB8 : B5 ≤ w8.heap.size := by rw [← hB5]; rw [← hB5] at hb8; exact hb8.size
        clear had hs hrow hb6 BF D0 D1
        go_wp2_with (at_builtin; refine wpList_append_one plannedElem rfl (.tmp 100) (.tmp 108) rfl rfl (l := (LT.1.take k).map (plOf p s p.it[qn])) hrow8 (by rw [List.length_map, List.length_take]; omega) (s, gg.1, ad.1, LT.1[k].1, !ad.2) #[.string s, .int .i64 gg.1, .int .i64 ad.1, .int .i64 LT.1[k].1, .bool (!ad.2)] rfl (by simp [Value.oneCell']) w8.heap.size _ rfl rfl hB8 ?_; intro v9 w9 hrow9 hbl hgr)
        go_roundw
        case rel => exact ⟨k + 1, by omega, by go_num, by show _ = _; rw [all_take LT.1 _ k hlt, HSM.out, HI.out]; rfl, by rw [map_take _ _ _ hlt, HPL.out]; exact hrow9, hb8.trans (hbl B5 (Nat.le_refl _) hB8)⟩
        case measure => simp [intOf]; omega
      · obtain rfl : k = LT.1.length := by omega
        rw [List.take_length] at hrow
        have HIO := HI.out
        rw [List.take_length] at HIO
        have HF : Hid (planItem p s l = (LT.1.map (plOf p s p.it[qn]), true)) := by
          show _ = _
          have := planItem_yes HOK.out (by rw [HNET.out]; exact gn) (by rw [HLOT.out]; exact gl) (by rw [HLOT.out, HPX.out]; exact HIO)
          rw [HLOT.out, HPX.out] at this; exact this
        clear HIO
        go_wp2_with fail
        go_ret2
        have hBw : w.heap.size ≤ B5 := by rw [← hB5]; exact hbw.size
        exact pairRowsOf_mk HF.out (own_lower hrow hBw) hbw2
end Go.Proofs.YtlnkofnfgemfdaaGreat
/- The walk of the laws' own marks that are texts: which text comes back. -/
namespace Go.Proofs.YtlnkofnfgemfdaaGreat
open Go.RowKit
/-- The digits of x ahead of s. -/
def markGo (x : Int) (s : ByteArray) : ByteArray := if 0 < x then markGo (x / 10) (strOfNums [48 + x % 10] ++ s) else s
termination_by x.toNat
decreasing_by omega
theorem markGo_more {x : Int} (s : ByteArray) (h : 0 < x) : markGo (x / 10) (strOfNums [48 + x % 10] ++ s) = markGo x s := by
  conv => rhs; unfold markGo
  rw [if_pos h]
theorem markGo_end (s : ByteArray) : markGo 0 s = s := by
  unfold markGo; rw [if_neg (by omega)]
def mText (k : Int) : ByteArray := ⟨#[109]⟩ ++ markGo k ByteArray.empty
set_option maxRecDepth 100000 in
set_option maxHeartbeats 1000000 in
theorem markText_any (k : Int) (w : World) (h0 : 1 ≤ k) (h1 : k ≤ 1100000000) : Calls Tryz.prog 76 #[.int .i64 k] w fun e w' => e = .returned (.string (mText k)) ∧ Below w.heap.size w w' := by
  go_enter Tryz.func76, Tryz.ntmps76
  go_wp2
  go_loopw [0, 3] (fun i v wr => ∃ (x : Int) (s : ByteArray), 0 ≤ x ∧ i = .int .i64 x ∧ v = .string s ∧ (s.size : Int) + x ≤ 1100000000 ∧ Hid (markGo x s = markGo k ByteArray.empty) ∧ Below w.heap.size w wr) (fun i _ _ => (intOf i).toNat)
  case atStart => exact ⟨k, ByteArray.empty, by omega, rfl, rfl, by simp; omega, Lib.hid rfl, Below.refl _ _⟩
  case round =>
    obtain ⟨x, s, x0, rfl, rfl, hs, HG, HR⟩ := hrel
    have hsz := HR.size
    by_cases hlt : 0 < x
    · have hm1 := Int.emod_nonneg x (show (10 : Int) ≠ 0 by omega)
      have hm2 := Int.emod_lt_of_pos x (show (0 : Int) < 10 by omega)
      have hcell : ∀ i, i < 1 → (wr.alloc (.cells #[.int .u8 (48 + x % 10)] 5)).cell? ⟨wr.heap.size, 0 + i, none⟩ = some (.int .u8 ([48 + x % 10].getD i 0)) := fun i hi => by
        have h0 : i = 0 := by omega
        subst h0
        simp [go_sem]
      obtain ⟨t, ht, hts, htv⟩ : ∃ t : ByteArray, (convert 181 9 (.slice (some ⟨wr.heap.size, 0, none⟩) 1 1)).run Tryz.prog (wr.alloc (.cells #[.int .u8 (48 + x % 10)] 5)) = .ok (.string t) (wr.alloc (.cells #[.int .u8 (48 + x % 10)] 5)) ∧ t.size = 1 ∧ t = strOfNums [48 + x % 10] :=
        ⟨_, run_convert_bytes_arg _ 181 5 Tryz.underlying181 Tryz.underlying5 wr.heap.size 0 1 1 [48 + x % 10] rfl hcell 9 Tryz.underlying9, by rw [strOfNums_size]; rfl, rfl⟩
      clear hcell
      have hfit : ¬ 9223372036854775807 < t.size + s.size := by omega
      have HTS := Lib.hid hts
      have HGN : Hid (markGo (x / 10) (t ++ s) = markGo k ByteArray.empty) := by
        show _ = _
        rw [htv, markGo_more s hlt]; exact HG.out
      clear hts htv
      go_wp2
      go_roundw
      case rel => exact ⟨x / 10, t ++ s, by omega, rfl, rfl, by rw [ByteArray.size_append, HTS.out]; omega, HGN, HR.alloc hsz _⟩
      case measure => simp [intOf]; omega
    · obtain rfl : x = 0 := by omega
      have hfit : ¬ 9223372036854775807 < 1 + s.size := by omega
      have hv : Hid (mText k = ⟨#[109]⟩ ++ s) := by
        show _ = _
        have := HG.out
        rw [markGo_end] at this
        rw [this]; rfl
      go_wp2
      go_ret
      exact ⟨congrArg (fun s => Ending.returned (.string s)) hv.out.symm, HR⟩
end Go.Proofs.YtlnkofnfgemfdaaGreat
