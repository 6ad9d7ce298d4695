/- Part 29 of the texts of this claim: The walk of PlanItem (the reference's); How the law on loads draws its inputs; The bytes a law is drawn from; From the reading of a law's arguments to what the walks ask of them; Bytes that came in. -/
import Derived.Test.YtlkolehdikfddaaTr13
import Derived.Test.YtlkolehdikfddaaTr2
import Derived.StillTailTactics
import Derived.Test.YtlkolehdikfddaaTr24
import Derived.Test.YtlkolehdikfddaaTr18
import Derived.Test.YtlkolehdikfddaaRows
import Derived.Test.YtlkolehdikfddaaTr1
import Derived.ProofKit
import Derived.OpenShut
import Derived.ShutString
import Derived.ChangeOld
import Derived.Below
import Derived.Deep.Slices
import Derived.Deep.Fields
/- The walk of PlanItem (the reference's). -/
namespace Go.Proofs.Ytlkolehdikfddaa
open Go.RowKit
set_option maxRecDepth 100000 in
set_option maxHeartbeats 8000000 in
theorem specPlanItem_any (r : PtR) (p : Pt) (s : ByteArray) (A : Option Addr) (n c : Nat) (l : List Fl) (w : World) (hp : PlantIn w r p) (hok : okPt p) (_hs : s.size ≤ 9223372036854775807) (hl : FlowsIn w A n l) :
    Calls Try.prog 60 #[.agg #[.slice r.i.a r.i.n r.i.c, .slice r.l.a r.l.n r.l.c, .slice r.w.a r.w.n r.w.c, .slice r.e.a r.e.n r.e.c, .slice r.p.a r.p.n r.p.c, .slice r.s.a r.s.n r.s.c, .slice r.q.a r.q.n r.q.c], .string s, .slice A n c] w (PairRowsOf plF 44 w (planItem p s l)) := by
  have HS := Lib.hid _hs
  clear _hs
  obtain ⟨⟨a0, n0, c0⟩, ⟨a1, n1, c1⟩, ⟨a2, n2, c2⟩, ⟨a3, n3, c3⟩, ⟨a4, n4, c4⟩, ⟨a5, n5, c5⟩, ⟨a6, n6, c6⟩⟩ := r
  have HNS := Lib.hid hp.st.1
  have HNR := Lib.hid hp.rc.1
  dsimp only at HNS HNR ⊢
  obtain rfl := HNS.out
  obtain rfl := HNR.out
  clear HNS HNR
  have hls := hp.st.len
  have hlr := hp.rc.len
  have HP := Lib.hid hp
  have HQ5 := Lib.hid hp.st
  have HQ6 := Lib.hid hp.rc
  have HQ0 := Lib.hid hp.it
  dsimp only at HQ5 HQ6 HQ0
  have HO := Lib.hid hok
  clear hp hok
  have hlen := hl.len
  obtain rfl := hl.1
  have HL := Lib.hid hl
  clear hl
  have hb := below_alloc w (.cells #[.slice a0 n0 c0, .slice a1 n1 c1, .slice a2 n2 c2, .slice a3 n3 c3, .slice a4 n4 c4, .slice a5 p.st.length c5, .slice a6 p.rc.length c6] 34)
  have B0 : BoxOf (w.alloc (.cells #[.slice a0 n0 c0, .slice a1 n1 c1, .slice a2 n2 c2, .slice a3 n3 c3, .slice a4 n4 c4, .slice a5 p.st.length c5, .slice a6 p.rc.length c6] 34)) w.heap.size [.slice a0 n0 c0, .slice a1 n1 c1, .slice a2 n2 c2, .slice a3 n3 c3, .slice a4 n4 c4, .slice a5 p.st.length c5, .slice a6 p.rc.length c6] := boxOf_alloc w #[.slice a0 n0 c0, .slice a1 n1 c1, .slice a2 n2 c2, .slice a3 n3 c3, .slice a4 n4 c4, .slice a5 p.st.length c5, .slice a6 p.rc.length c6] 34
  obtain ⟨b0, b1, b2, b3, b4, b5, b6, bl⟩ := B0.seven
  go_enter Try.func60, Try.ntmps60
  go_wp2_with fail
  generalize (w.alloc (.cells #[.slice a0 n0 c0, .slice a1 n1 c1, .slice a2 n2 c2, .slice a3 n3 c3, .slice a4 n4 c4, .slice a5 p.st.length c5, .slice a6 p.rc.length c6] 34)) = V at *
  refine (specFindItem_any _ _ _ p.it _ _ (HQ0.out.keep hb)).mono ?_
  rintro e V0 ⟨rfl, rfl⟩
  obtain ⟨f3, f3b⟩ := findIt_bd p.it s
  go_wp2_with fail
  clear b0 b1 b2 b3 b4 b5 b6 bl
  refine (specIsPlant_any ⟨⟨a0, n0, c0⟩, ⟨a1, n1, c1⟩, ⟨a2, n2, c2⟩, ⟨a3, n3, c3⟩, ⟨a4, n4, c4⟩, ⟨a5, p.st.length, c5⟩, ⟨a6, p.rc.length, c6⟩⟩ p _ (HP.out.keep hb) HO.out).mono ?_
  rintro e V1 ⟨rfl, hs⟩
  replace hb := below_on hb hs
  replace B0 := B0.keep hs
  clear hs
  obtain ⟨b0, b1, b2, b3, b4, b5, b6, bl⟩ := B0.seven
  cases g : isPlant p
  · have HF : Hid (planItem p s l = ([], false)) := planItem_no (by unfold planOk; rw [g]; rfl)
    clear f3 f3b
    go_wp2_with fail
    go_ret2
    exact pairRowsOf_mk (HF.out) (empty_row rfl hb.size) (hb.alloc hb.size _)
  by_cases f1 : 0 ≤ findIt p.it s
  case neg =>
    have HF : Hid (planItem p s l = ([], false)) := planItem_no (by unfold planOk; rw [decide_eq_false f1]; simp)
    have f5 : findIt p.it s < 0 := by omega
    have f6 : decide (findIt p.it s < 0) = true := decide_eq_true f5
    clear f1 f3 f3b
    go_wp2_with fail
    go_ret2
    exact pairRowsOf_mk (HF.out) (empty_row rfl hb.size) (hb.alloc hb.size _)
  obtain ⟨qn, hqn⟩ : ∃ qn : Nat, findIt p.it s = (qn : Int) := ⟨(findIt p.it s).toNat, by omega⟩
  have q1 : qn < p.it.length := by omega
  have q2 : (qn : Int) < (p.it.length : Int) := by omega
  have q3 : (0 : Int) ≤ (qn : Int) := by omega
  have q4 : decide ((qn : Int) < 0) = false := decide_eq_false (by omega)
  have hn0 := HQ0.out.1
  subst hn0
  have hi0 := HQ0.out.keep hb
  obtain ⟨bi, oi, e0, hbi, k0, k1, k2, k3, k4, k5, k6, k7⟩ := item_at hi0 q1
  subst e0
  rw [hqn]
  have HQN := Lib.hid hqn
  clear f1 f3 f3b hqn hi0
  cases g2 : (p.it[qn].2.2.1 == 2)
  case true =>
    have HF : Hid (planItem p s l = ([], false)) := planItem_no (by rw [planOk_eq HQN.out q1 g g2 rfl]; rfl)
    go_wp2_with fail
    go_ret2
    exact pairRowsOf_mk (HF.out) (empty_row rfl hb.size) (hb.alloc hb.size _)
  go_wp2_with fail
  refine (specAreFlows_any _ _ _ l _ (HL.out.keep hb)).mono ?_
  rintro e V2 ⟨rfl, hd⟩
  have hs := hd.below V1.heap.size
  clear hd
  replace hb := below_on hb hs
  replace B0 := B0.keep hs
  have hbk := hs
  clear hs b0 b1 b2 b3 b4 b5 b6 bl k0 k1 k2 k3 k4 k5 k6 k7 hbi hbk
  obtain ⟨b0, b1, b2, b3, b4, b5, b6, bl⟩ := B0.seven
  cases g3 : areFlows l
  · have HF : Hid (planItem p s l = ([], false)) := planItem_no (by rw [planOk_eq HQN.out q1 g g2 g3]; rfl)
    go_wp2_with fail
    go_ret2
    exact pairRowsOf_mk (HF.out) (empty_row rfl hb.size) (hb.alloc hb.size _)
  have HOK : Hid (planOk p s l = true) := planOk_eq HQN.out q1 g g2 g3
  have HPX : Hid (planX p s = p.it[qn]) := planX_at HQN.out q1
  have hitm := isPlant_item g q1
  obtain ⟨_, _, _, hlead, hsaf, _, _⟩ := isItem_lots _ hitm
  have HLD := Lib.hid hlead
  clear hlead hsaf
  have hokx := HO.out.it _ (List.getElem_mem q1)
  obtain ⟨_, _, e0, hbi, k0, k1, k2, k3, k4, k5, k6, k7⟩ := item_at (HQ0.out.keep hb) q1
  obtain ⟨rfl, rfl⟩ : bi = _ ∧ oi = _ := by simpa using e0
  clear e0
  have hs := below_alloc V2 (.cells #[.string p.it[qn].1, .string p.it[qn].2.1, .int .i64 p.it[qn].2.2.1, .int .i64 p.it[qn].2.2.2.1, .int .i64 p.it[qn].2.2.2.2.1, .int .i64 p.it[qn].2.2.2.2.2.1, .int .i64 p.it[qn].2.2.2.2.2.2.1, .int .i64 p.it[qn].2.2.2.2.2.2.2] 47)
  have B1 : BoxOf (V2.alloc (.cells #[.string p.it[qn].1, .string p.it[qn].2.1, .int .i64 p.it[qn].2.2.1, .int .i64 p.it[qn].2.2.2.1, .int .i64 p.it[qn].2.2.2.2.1, .int .i64 p.it[qn].2.2.2.2.2.1, .int .i64 p.it[qn].2.2.2.2.2.2.1, .int .i64 p.it[qn].2.2.2.2.2.2.2] 47)) V2.heap.size [.string p.it[qn].1, .string p.it[qn].2.1, .int .i64 p.it[qn].2.2.1, .int .i64 p.it[qn].2.2.2.1, .int .i64 p.it[qn].2.2.2.2.1, .int .i64 p.it[qn].2.2.2.2.2.1, .int .i64 p.it[qn].2.2.2.2.2.2.1, .int .i64 p.it[qn].2.2.2.2.2.2.2] := boxOf_alloc V2 #[.string p.it[qn].1, .string p.it[qn].2.1, .int .i64 p.it[qn].2.2.1, .int .i64 p.it[qn].2.2.2.1, .int .i64 p.it[qn].2.2.2.2.1, .int .i64 p.it[qn].2.2.2.2.2.1, .int .i64 p.it[qn].2.2.2.2.2.2.1, .int .i64 p.it[qn].2.2.2.2.2.2.2] 47
  replace hb := below_on hb hs
  replace B0 := B0.keep hs
  clear hs
  have d6 := B1.2 6 _ rfl
  have dl := B1.1
  go_wp2_with fail
  generalize (V2.alloc (.cells #[.string p.it[qn].1, .string p.it[qn].2.1, .int .i64 p.it[qn].2.2.1, .int .i64 p.it[qn].2.2.2.1, .int .i64 p.it[qn].2.2.2.2.1, .int .i64 p.it[qn].2.2.2.2.2.1, .int .i64 p.it[qn].2.2.2.2.2.2.1, .int .i64 p.it[qn].2.2.2.2.2.2.2] 47)) = V3 at *
  generalize V2.heap.size = NX at *
  clear b0 b1 b2 b3 b4 b5 b6 bl k0 k1 k2 k3 k4 k5 k6 k7 hbi
  obtain ⟨b0, b1, b2, b3, b4, b5, b6, bl⟩ := B0.seven
  go_region_held3 (fun w' => w'.cell? ⟨w.heap.size, 0, none⟩ = some (.slice (some ⟨bi, oi, none⟩) p.it.length c0) ∧ w'.cell? ⟨w.heap.size, 1, none⟩ = some (.slice a1 n1 c1) ∧ w'.cell? ⟨w.heap.size, 2, none⟩ = some (.slice a2 n2 c2) ∧ w'.cell? ⟨w.heap.size, 3, none⟩ = some (.slice a3 n3 c3) ∧ w'.cell? ⟨w.heap.size, 4, none⟩ = some (.slice a4 n4 c4) ∧ w'.cell? ⟨w.heap.size, 5, none⟩ = some (.slice a5 p.st.length c5) ∧ w'.cell? ⟨w.heap.size, 6, none⟩ = some (.slice a6 p.rc.length c6) ∧ w'.cell? ⟨NX, 6, none⟩ = some (.int .i64 p.it[qn].2.2.2.2.2.2.1) ∧ w.heap.size < w'.heap.size ∧ NX < w'.heap.size ∧ BoxOf w' w.heap.size [.slice (some ⟨bi, oi, none⟩) p.it.length c0, .slice a1 n1 c1, .slice a2 n2 c2, .slice a3 n3 c3, .slice a4 n4 c4, .slice a5 p.st.length c5, .slice a6 p.rc.length c6] ∧ BoxOf w' NX [.string p.it[qn].1, .string p.it[qn].2.1, .int .i64 p.it[qn].2.2.1, .int .i64 p.it[qn].2.2.2.1, .int .i64 p.it[qn].2.2.2.2.1, .int .i64 p.it[qn].2.2.2.2.2.1, .int .i64 p.it[qn].2.2.2.2.2.2.1, .int .i64 p.it[qn].2.2.2.2.2.2.2] ∧ Below w.heap.size w w')
    (first
      | exact ⟨b0, b1, b2, b3, b4, b5, b6, d6, bl, dl, B0.keep (Below.refl _ _).drew, B1.keep (Below.refl _ _).drew, hb.drew⟩
      | (go_split_ands; refine ⟨?_, ?_, ?_, ?_, ?_, ?_, ?_, ?_, ?_, ?_, ?_, ?_, ?_⟩ <;> with_reducible assumption)
      | (go_split_ands; exact ⟨(hbS.cell (by with_reducible assumption)).trans (by with_reducible assumption), (hbS.cell (by with_reducible assumption)).trans (by with_reducible assumption), (hbS.cell (by with_reducible assumption)).trans (by with_reducible assumption), (hbS.cell (by with_reducible assumption)).trans (by with_reducible assumption), (hbS.cell (by with_reducible assumption)).trans (by with_reducible assumption), (hbS.cell (by with_reducible assumption)).trans (by with_reducible assumption), (hbS.cell (by with_reducible assumption)).trans (by with_reducible assumption), (hbS.cell (by with_reducible assumption)).trans (by with_reducible assumption), Nat.lt_of_lt_of_le (by with_reducible assumption) hbS.size, Nat.lt_of_lt_of_le (by with_reducible assumption) hbS.size, BoxOf.keep (by with_reducible assumption) hbS, BoxOf.keep (by with_reducible assumption) hbS, below_on (by with_reducible assumption) hbS⟩)
      | (go_split_ands; exact ⟨(hbR.cell (by with_reducible assumption)).trans (by with_reducible assumption), (hbR.cell (by with_reducible assumption)).trans (by with_reducible assumption), (hbR.cell (by with_reducible assumption)).trans (by with_reducible assumption), (hbR.cell (by with_reducible assumption)).trans (by with_reducible assumption), (hbR.cell (by with_reducible assumption)).trans (by with_reducible assumption), (hbR.cell (by with_reducible assumption)).trans (by with_reducible assumption), (hbR.cell (by with_reducible assumption)).trans (by with_reducible assumption), (hbR.cell (by with_reducible assumption)).trans (by with_reducible assumption), Nat.lt_of_lt_of_le (by with_reducible assumption) hbR.size, Nat.lt_of_lt_of_le (by with_reducible assumption) hbR.size, BoxOf.keep (by with_reducible assumption) hbR, BoxOf.keep (by with_reducible assumption) hbR, below_on (by with_reducible assumption) hbR⟩)
      | (go_split_ands; exact ⟨(hbN.cell (by with_reducible assumption)).trans (by with_reducible assumption), (hbN.cell (by with_reducible assumption)).trans (by with_reducible assumption), (hbN.cell (by with_reducible assumption)).trans (by with_reducible assumption), (hbN.cell (by with_reducible assumption)).trans (by with_reducible assumption), (hbN.cell (by with_reducible assumption)).trans (by with_reducible assumption), (hbN.cell (by with_reducible assumption)).trans (by with_reducible assumption), (hbN.cell (by with_reducible assumption)).trans (by with_reducible assumption), (hbN.cell (by with_reducible assumption)).trans (by with_reducible assumption), Nat.lt_of_lt_of_le (by with_reducible assumption) hbN.size, Nat.lt_of_lt_of_le (by with_reducible assumption) hbN.size, BoxOf.keep (by with_reducible assumption) hbN, BoxOf.keep (by with_reducible assumption) hbN, below_on (by with_reducible assumption) hbN⟩))
    (first
      | ((with_reducible refine (specStockOf_any ⟨⟨some ⟨bi, oi, none⟩, p.it.length, c0⟩, ⟨a1, n1, c1⟩, ⟨a2, n2, c2⟩, ⟨a3, n3, c3⟩, ⟨a4, n4, c4⟩, ⟨a5, p.st.length, c5⟩, ⟨a6, p.rc.length, c6⟩⟩ p s _ (HP.out.keep ?_) HO.out HS.out).mono ?_); (go_split_ands; with_reducible assumption); rintro e w3 ⟨rfl, hbS⟩)
      | ((with_reducible refine (specReceiptFlows_any ⟨⟨some ⟨bi, oi, none⟩, p.it.length, c0⟩, ⟨a1, n1, c1⟩, ⟨a2, n2, c2⟩, ⟨a3, n3, c3⟩, ⟨a4, n4, c4⟩, ⟨a5, p.st.length, c5⟩, ⟨a6, p.rc.length, c6⟩⟩ p s _ (HP.out.keep ?_) HO.out HS.out).mono ?_); (go_split_ands; with_reducible assumption); rintro e w3 ⟨A9, c9, rfl, ho9, hbR⟩)
      | ((with_reducible refine (specNetNeeds_any A9 A _ l.length _ _ (receiptFlows p s) l _ _ _ (ho9.rows (by have := receiptFlows_len p s; omega)) (HL.out.keep ?_)).mono ?_); (go_split_ands; with_reducible assumption); rintro e w3 ⟨A8, c8, rfl, ho8, hbN⟩)
      | ((with_reducible refine (specNetNeeds_any A9 A _ l.length _ _ (receiptFlows p s) l _ _ _ ((ho9.keep hbS).rows (by have := receiptFlows_len p s; omega)) (HL.out.keep ?_)).mono ?_); (go_split_ands; with_reducible assumption); rintro e w3 ⟨A8, c8, rfl, ho8, hbN⟩))
  all_goals
    go_split_ands
    have hbw : Below w.heap.size w w3 := by with_reducible assumption
    have C0 : BoxOf w3 w.heap.size [.slice (some ⟨bi, oi, none⟩) p.it.length c0, .slice a1 n1 c1, .slice a2 n2 c2, .slice a3 n3 c3, .slice a4 n4 c4, .slice a5 p.st.length c5, .slice a6 p.rc.length c6] := by with_reducible assumption
    have C1 : BoxOf w3 NX [.string p.it[qn].1, .string p.it[qn].2.1, .int .i64 p.it[qn].2.2.1, .int .i64 p.it[qn].2.2.2.1, .int .i64 p.it[qn].2.2.2.2.1, .int .i64 p.it[qn].2.2.2.2.2.1, .int .i64 p.it[qn].2.2.2.2.2.2.1, .int .i64 p.it[qn].2.2.2.2.2.2.2] := by with_reducible assumption
    clear hb B0 B1 b0 b1 b2 b3 b4 b5 b6 bl d6 dl
    obtain ⟨NN, hNN⟩ : ∃ N, netNeeds (receiptFlows p s) l (stockOf p s) p.it[qn].2.2.2.2.2.2.1 = N := ⟨_, rfl⟩
    have HNET : Hid (planNet p s l = NN) := by show _ = _; unfold planNet; rw [HPX.out]; exact hNN
    have HNF : Hid (areFlows NN.1 = true) := by show _ = _; rw [← hNN]; exact netNeeds_flows _ _ _ _
    rw [hNN] at ho8 ⊢
    clear hNN ho9
    have hnl : NN.1.length ≤ 40 := (areFlows_parts HNF.out).2
    cases gn : NN.2
    · have HF : Hid (planItem p s l = ([], false)) := planItem_no (by rw [HNET.out, gn]; simp)
      go_wp2_with fail
      go_ret2
      exact pairRowsOf_mk (HF.out) (empty_row rfl hbw.size) (hbw.alloc hbw.size _)
    have k4 := C1.2 4 _ rfl
    have k5 := C1.2 5 _ rfl
    go_wp2_with fail
    refine (specLotsFor_any _ _ _ NN.1 _ _ _ (ho8.rows (by omega))).mono ?_
    rintro e w4 ⟨A7, c7, rfl, ho7, hs⟩
    obtain ⟨LT, hLT⟩ : ∃ N, lotsFor NN.1 p.it[qn].2.2.2.2.1 p.it[qn].2.2.2.2.2.1 = N := ⟨_, rfl⟩
    have HLOT : Hid (planLots p s l = LT) := by show _ = _; unfold planLots; rw [HNET.out, HPX.out]; exact hLT
    have HLF : Hid (areFlows LT.1 = true) := by show _ = _; rw [← hLT]; exact lotsFor_flows _ _ _
    have HLN : Hid (LT.2 = false → LT.1 = []) := fun h => by rw [← hLT] at h ⊢; exact lotsFor_nil' h
    rw [hLT] at ho7 ⊢
    clear hLT ho8 k4 k5
    replace hbw := below_on hbw hs
    replace C0 := C0.keep hs
    replace C1 := C1.keep hs
    clear hs
    have hll : LT.1.length ≤ 40 := (areFlows_parts HLF.out).2
    have hlots : FlowsIn w4 A7 LT.1.length LT.1 := ho7.rows (by omega)
    clear ho7
    have HM := Lib.hid (areFlows_mem HLF.out)
    have hrow : RowVal plF 44 (w4.alloc (.cells #[] 44)) w4.heap.size (.slice (some ⟨w4.heap.size, 0, none⟩) 0 0) ((LT.1.take 0).map (plOf p s p.it[qn])) := empty_row rfl (Nat.le_refl _)
    have hb4 := below_alloc w4 (.cells #[] 44)
    obtain ⟨kn, hkn⟩ : ∃ kn : Nat, p.it[qn].2.2.2.1 = (kn : Int) := ⟨p.it[qn].2.2.2.1.toNat, by have := HLD.out; omega⟩
    have hk30 : kn ≤ 30 := by have := HLD.out; omega
    have HKN := Lib.hid hkn
    clear hkn
    go_wp2_with fail
    generalize w4.alloc (.cells #[] 44) = w5 at *
    generalize hB5 : w4.heap.size = B5 at *
    go_loopw [13, 14, 15] (fun ft v i wr => ∃ k : Nat, k ≤ LT.1.length ∧ i = .int .i64 k ∧ ft = .bool (LT.2 && (LT.1.take k).all (smallF p.it[qn])) ∧ RowVal plF 44 wr B5 v ((LT.1.take k).map (plOf p s p.it[qn])) ∧ Below B5 w4 wr) (fun _ _ i _ => LT.1.length - (intOf i).toNat)
    case atStart => exact ⟨0, by omega, rfl, by simp, hrow, hb4⟩
    case round =>
      clear hrow hb4
      obtain ⟨k, hk, rfl, rfl, hrow, hb4⟩ := hrel
      have hb4' : Below w4.heap.size w4 wr := by rw [hB5]; exact hb4
      have hbw2 := below_on hbw hb4'
      by_cases hlt : k < LT.1.length
      · obtain ⟨b7, o7, rfl, hb7, hc1, hc2⟩ := flow_at (hlots.keep hb4') hlt
        obtain ⟨⟨m1, m2⟩, m3, m4⟩ := HM.out _ (List.getElem_mem hlt)
        have D0 := C0.keep hb4'
        have D1 := C1.keep hb4'
        obtain ⟨x0, x1, x2, x3, x4, x5, x6, xl⟩ := D0.seven
        have t0 := D1.2 0 _ rfl
        have t1 := D1.2 1 _ rfl
        have t2 := D1.2 2 _ rfl
        have t3 := D1.2 3 _ rfl
        have t4 := D1.2 4 _ rfl
        have t5 := D1.2 5 _ rfl
        have t6 := D1.2 6 _ rfl
        have t7 := D1.2 7 _ rfl
        have tl := D1.1
        go_wp2_with fail
        refine wp_region_held_drew (S := (fun w' => w'.cell? ⟨NX, 0, none⟩ = some (.string p.it[qn].1) ∧ w'.cell? ⟨NX, 1, none⟩ = some (.string p.it[qn].2.1) ∧ w'.cell? ⟨NX, 2, none⟩ = some (.int .i64 p.it[qn].2.2.1) ∧ w'.cell? ⟨NX, 3, none⟩ = some (.int .i64 p.it[qn].2.2.2.1) ∧ w'.cell? ⟨NX, 4, none⟩ = some (.int .i64 p.it[qn].2.2.2.2.1) ∧ w'.cell? ⟨NX, 5, none⟩ = some (.int .i64 p.it[qn].2.2.2.2.2.1) ∧ w'.cell? ⟨NX, 6, none⟩ = some (.int .i64 p.it[qn].2.2.2.2.2.2.1) ∧ w'.cell? ⟨NX, 7, none⟩ = some (.int .i64 p.it[qn].2.2.2.2.2.2.2) ∧ w'.cell? ⟨b7, o7 + k * 2, none⟩ = some (.int .i64 LT.1[k].1) ∧ w'.cell? ⟨b7, o7 + k * 2 + 1, none⟩ = some (.int .i64 LT.1[k].2) ∧ NX < w'.heap.size ∧ b7 < w'.heap.size ∧ Below wr.heap.size wr w')) (by kernel_rfl) ⟨t0, t1, t2, t3, t4, t5, t6, t7, hc1, hc2, tl, hb7, (Below.refl _ _).drew⟩ (fun hHeld => ?_)
        refine held1 0 (some 84) hHeld ?_
        refine held1 1 (some 85) hHeld ?_
        refine held1 2 (some 86) hHeld ?_
        refine held1 3 (some 87) hHeld ?_
        refine held1 4 (some 88) hHeld ?_
        refine held1 5 (some 89) hHeld ?_
        refine held_do 6 fun K hK => ?_
        go_simp
        go_at_call 81; refine (specGrossOf_any p.it[qn] _ _ hokx).mono ?_; rintro e w6 ⟨rfl, hb3⟩; go_simp
        refine hK.out _ _ ?_ (fun hHeld => ?_)
        · obtain ⟨y_t0, y_t1, y_t2, y_t3, y_t4, y_t5, y_t6, y_t7, y_f1, y_f2, y_n, y_b, y_R⟩ := hHeld; exact ⟨(hb3.cell y_n).trans y_t0, (hb3.cell y_n).trans y_t1, (hb3.cell y_n).trans y_t2, (hb3.cell y_n).trans y_t3, (hb3.cell y_n).trans y_t4, (hb3.cell y_n).trans y_t5, (hb3.cell y_n).trans y_t6, (hb3.cell y_n).trans y_t7, (hb3.cell y_b).trans y_f1, (hb3.cell y_b).trans y_f2, Nat.lt_of_lt_of_le y_n hb3.size, Nat.lt_of_lt_of_le y_b hb3.size, below_on y_R hb3⟩
        clear hK K
        refine held1 7 (some 83) hHeld ?_
        refine held1 8 (some 91) hHeld ?_
        refine held1 9 (some 92) hHeld ?_
        refine held1 10 (some 16) hHeld ?_
        refine held1 11 (some 17) hHeld ?_
        refine wpAnyH_done (by kernel_rfl) ?_ _
        obtain ⟨y_t0, y_t1, y_t2, y_t3, y_t4, y_t5, y_t6, y_t7, y_f1, y_f2, y_n, y_b, y_R⟩ := hHeld
        obtain ⟨gg, hgg⟩ : ∃ g, grossOf p.it[qn] LT.1[k].2 = g := ⟨_, rfl⟩
        have HGG := Lib.hid hgg
        rw [hgg]
        have E0 := D0.keep y_R
        have E1 := D1.keep y_R
        have hrow1 := hrow.keep y_R
        have hb6 : Below B5 w4 w6 := by rw [← hB5]; exact below_on hb4' y_R
        have hbw6 := below_on hbw2 y_R
        have cf := y_f1
        have lb := y_b
        clear y_t0 y_t1 y_t2 y_t3 y_t4 y_t5 y_t6 y_t7 y_f1 y_f2 y_n y_b y_R
        clear hgg hrow D0 D1 x0 x1 x2 x3 x4 x5 x6 xl t0 t1 t2 t3 t4 t5 t6 t7 tl hc1 hc2 hb7 hb4 hb4' hbw2
        obtain ⟨x0, x1, x2, x3, x4, x5, x6, xl⟩ := E0.seven
        have k3 := E1.2 3 _ rfl
        have kl := E1.1
        rw [HKN.out] at k3
        have hwn : IntKind.i64.wrap (-(kn : Int)) = -(kn : Int) := IntWalk.i64_in _ (by omega)
        have HP6 := Lib.hid (HP.out.keep hbw6)
        by_cases hsm : gg.1 ≤ 100000
        · have HSM : Hid (smallF p.it[qn] LT.1[k] = true) := by show _ = _; unfold smallF; rw [HGG.out]; exact decide_eq_true hsm
          go_wp2_with fail
          refine wp_region_held_drew (S := (fun w' => w'.cell? ⟨w.heap.size, 2, none⟩ = some (.slice a2 n2 c2) ∧ w'.cell? ⟨w.heap.size, 3, none⟩ = some (.slice a3 n3 c3) ∧ w'.cell? ⟨b7, o7 + k * 2, none⟩ = some (.int .i64 LT.1[k].1) ∧ w'.cell? ⟨NX, 3, none⟩ = some (.int .i64 (kn : Int)) ∧ w.heap.size < w'.heap.size ∧ NX < w'.heap.size ∧ b7 < w'.heap.size ∧ Below w6.heap.size w6 w')) (by kernel_rfl) ⟨x2, x3, cf, k3, xl, kl, lb, (Below.refl _ _).drew⟩ (fun hHeld => ?_)
          refine held1 0 (some 96) hHeld ?_
          refine held1 1 (some 97) hHeld ?_
          refine held1 2 (some 98) hHeld ?_
          refine held1 3 (some 99) hHeld ?_
          refine held1 4 (some 100) hHeld ?_
          refine held1 5 (some 101) hHeld ?_
          refine held1 6 (some 102) hHeld ?_
          refine held1 7 (some 103) hHeld ?_
          refine held1 8 (some 104) hHeld ?_
          refine held1 9 (some 105) hHeld ?_
          refine held_do 10 fun K hK => ?_
          go_simp
          go_at_call 82; refine (specAddWorkdays_any _ _ _ _ _ _ p.wk p.ex LT.1[k].1 kn _ (HP6.out.wk.keep (by obtain ⟨y_c2, y_c3, y_f1, y_k3, y_l, y_n, y_b, y_R⟩ := hHeld; exact y_R)) (HP6.out.ex.keep (by obtain ⟨y_c2, y_c3, y_f1, y_k3, y_l, y_n, y_b, y_R⟩ := hHeld; exact y_R)) (by omega)).mono ?_; rintro e w8 ⟨rfl, hb3⟩; go_simp
          refine hK.out _ _ ?_ (fun hHeld => ?_)
          · obtain ⟨y_c2, y_c3, y_f1, y_k3, y_l, y_n, y_b, y_R⟩ := hHeld; exact ⟨(hb3.cell y_l).trans y_c2, (hb3.cell y_l).trans y_c3, (hb3.cell y_b).trans y_f1, (hb3.cell y_n).trans y_k3, Nat.lt_of_lt_of_le y_l hb3.size, Nat.lt_of_lt_of_le y_n hb3.size, Nat.lt_of_lt_of_le y_b hb3.size, below_on y_R hb3⟩
          clear hK K
          refine held1 11 (some 95) hHeld ?_
          refine held1 12 (some 107) hHeld ?_
          refine held1 13 (some 108) hHeld ?_
          refine held1 14 (some 18) hHeld ?_
          refine held1 15 (some 19) hHeld ?_
          refine wpAnyH_done (by kernel_rfl) ?_ _
          obtain ⟨y_c2, y_c3, y_f1, y_k3, y_l, y_n, y_b, y_R⟩ := hHeld
          obtain ⟨ad, had⟩ : ∃ g, addWd p.wk p.ex LT.1[k].1 (-(kn : Int)) = g := ⟨_, rfl⟩
          rw [had]
          have HPL : Hid (plOf p s p.it[qn] LT.1[k] = (s, gg.1, ad.1, LT.1[k].1, !ad.2)) := by show _ = _; unfold plOf; rw [HGG.out, HKN.out, had]
          have hrow8 := hrow1.keep y_R
          have h8 := y_R
          have cf8 := y_f1
          have hb8 : Below B5 w4 w8 := hb6.trans (y_R.mono (by rw [← hB5]; exact Nat.le_trans (Nat.le_of_eq rfl) hb6.size))
          have hB8 : B5 ≤ w8.heap.size := by rw [← hB5]; exact hb8.size
          clear y_c2 y_c3 y_f1 y_k3 y_l y_n y_b y_R had hrow1 hb6
          clear x0 x1 x2 x3 x4 x5 x6 xl k3 kl cf lb
          go_wp2_with (at_builtin; refine wpList_append_one plannedElem rfl (.tmp 109) (.tmp 121) rfl rfl (l := (LT.1.take k).map (plOf p s p.it[qn])) hrow8 (by rw [List.length_map, List.length_take]; omega) (s, gg.1, ad.1, LT.1[k].1, !ad.2) #[.string s, .int .i64 gg.1, .int .i64 ad.1, .int .i64 LT.1[k].1, .bool (!ad.2)] rfl (by simp [Value.oneCell']) w8.heap.size _ rfl rfl hB8 ?_; intro v9 w9 hrow9 hbl hgr)
          go_roundw
          case rel => exact ⟨k + 1, by omega, by go_num, by rw [all_take LT.1 _ k hlt, HSM.out]; simp, by rw [map_take _ _ _ hlt, HPL.out]; exact hrow9, hb8.trans (hbl B5 (Nat.le_refl _) hB8)⟩
          case measure => simp [intOf]; omega
        · have HSM : Hid (smallF p.it[qn] LT.1[k] = false) := by show _ = _; unfold smallF; rw [HGG.out]; exact decide_eq_false hsm
          have hsn : (100000 : Int) < gg.1 := by omega
          go_wp2_with fail
          refine wp_region_held_drew (S := (fun w' => w'.cell? ⟨w.heap.size, 2, none⟩ = some (.slice a2 n2 c2) ∧ w'.cell? ⟨w.heap.size, 3, none⟩ = some (.slice a3 n3 c3) ∧ w'.cell? ⟨b7, o7 + k * 2, none⟩ = some (.int .i64 LT.1[k].1) ∧ w'.cell? ⟨NX, 3, none⟩ = some (.int .i64 (kn : Int)) ∧ w.heap.size < w'.heap.size ∧ NX < w'.heap.size ∧ b7 < w'.heap.size ∧ Below w6.heap.size w6 w')) (by kernel_rfl) ⟨x2, x3, cf, k3, xl, kl, lb, (Below.refl _ _).drew⟩ (fun hHeld => ?_)
          refine held1 0 (some 96) hHeld ?_
          refine held1 1 (some 97) hHeld ?_
          refine held1 2 (some 98) hHeld ?_
          refine held1 3 (some 99) hHeld ?_
          refine held1 4 (some 100) hHeld ?_
          refine held1 5 (some 101) hHeld ?_
          refine held1 6 (some 102) hHeld ?_
          refine held1 7 (some 103) hHeld ?_
          refine held1 8 (some 104) hHeld ?_
          refine held1 9 (some 105) hHeld ?_
          refine held_do 10 fun K hK => ?_
          go_simp
          go_at_call 82; refine (specAddWorkdays_any _ _ _ _ _ _ p.wk p.ex LT.1[k].1 kn _ (HP6.out.wk.keep (by obtain ⟨y_c2, y_c3, y_f1, y_k3, y_l, y_n, y_b, y_R⟩ := hHeld; exact y_R)) (HP6.out.ex.keep (by obtain ⟨y_c2, y_c3, y_f1, y_k3, y_l, y_n, y_b, y_R⟩ := hHeld; exact y_R)) (by omega)).mono ?_; rintro e w8 ⟨rfl, hb3⟩; go_simp
          refine hK.out _ _ ?_ (fun hHeld => ?_)
          · obtain ⟨y_c2, y_c3, y_f1, y_k3, y_l, y_n, y_b, y_R⟩ := hHeld; exact ⟨(hb3.cell y_l).trans y_c2, (hb3.cell y_l).trans y_c3, (hb3.cell y_b).trans y_f1, (hb3.cell y_n).trans y_k3, Nat.lt_of_lt_of_le y_l hb3.size, Nat.lt_of_lt_of_le y_n hb3.size, Nat.lt_of_lt_of_le y_b hb3.size, below_on y_R hb3⟩
          clear hK K
          refine held1 11 (some 95) hHeld ?_
          refine held1 12 (some 107) hHeld ?_
          refine held1 13 (some 108) hHeld ?_
          refine held1 14 (some 18) hHeld ?_
          refine held1 15 (some 19) hHeld ?_
          refine wpAnyH_done (by kernel_rfl) ?_ _
          obtain ⟨y_c2, y_c3, y_f1, y_k3, y_l, y_n, y_b, y_R⟩ := hHeld
          obtain ⟨ad, had⟩ : ∃ g, addWd p.wk p.ex LT.1[k].1 (-(kn : Int)) = g := ⟨_, rfl⟩
          rw [had]
          have HPL : Hid (plOf p s p.it[qn] LT.1[k] = (s, gg.1, ad.1, LT.1[k].1, !ad.2)) := by show _ = _; unfold plOf; rw [HGG.out, HKN.out, had]
          have hrow8 := hrow1.keep y_R
          have h8 := y_R
          have cf8 := y_f1
          have hb8 : Below B5 w4 w8 := hb6.trans (y_R.mono (by rw [← hB5]; exact Nat.le_trans (Nat.le_of_eq rfl) hb6.size))
          have hB8 : B5 ≤ w8.heap.size := by rw [← hB5]; exact hb8.size
          clear y_c2 y_c3 y_f1 y_k3 y_l y_n y_b y_R had hrow1 hb6
          clear x0 x1 x2 x3 x4 x5 x6 xl k3 kl cf lb
          go_wp2_with (at_builtin; refine wpList_append_one plannedElem rfl (.tmp 109) (.tmp 121) rfl rfl (l := (LT.1.take k).map (plOf p s p.it[qn])) hrow8 (by rw [List.length_map, List.length_take]; omega) (s, gg.1, ad.1, LT.1[k].1, !ad.2) #[.string s, .int .i64 gg.1, .int .i64 ad.1, .int .i64 LT.1[k].1, .bool (!ad.2)] rfl (by simp [Value.oneCell']) w8.heap.size _ rfl rfl hB8 ?_; intro v9 w9 hrow9 hbl hgr)
          go_roundw
          case rel => exact ⟨k + 1, by omega, by go_num, by rw [all_take LT.1 _ k hlt, HSM.out]; simp, by rw [map_take _ _ _ hlt, HPL.out]; exact hrow9, hb8.trans (hbl B5 (Nat.le_refl _) hB8)⟩
          case measure => simp [intOf]; omega
      · obtain rfl : k = LT.1.length := by omega
        rw [List.take_length] at hrow
        rw [List.take_length]
        cases hft : (LT.2 && LT.1.all (smallF p.it[qn]))
        · have HF : Hid (planItem p s l = ([], false)) := planItem_no (by
            rw [HLOT.out, HPX.out]
            cases ha : LT.2
            · simp
            · rw [ha] at hft; simp only [Bool.true_and] at hft ⊢; rw [hft]; simp)
          go_wp2_with fail
          go_ret2
          exact pairRowsOf_mk HF.out (empty_row rfl hbw2.size) (hbw2.alloc hbw2.size _)
        · rw [Bool.and_eq_true] at hft
          have HF : Hid (planItem p s l = (LT.1.map (plOf p s p.it[qn]), true)) := by
            show _ = _
            have := planItem_yes HOK.out (by rw [HNET.out]; exact gn) (by rw [HLOT.out]; exact hft.1) (by rw [HLOT.out, HPX.out]; exact hft.2)
            rw [HLOT.out, HPX.out] at this; exact this
          clear hft
          go_wp2_with fail
          go_ret2
          have hBw : w.heap.size ≤ B5 := by rw [← hB5]; exact hbw.size
          exact pairRowsOf_mk HF.out (own_lower hrow hBw) hbw2
end Go.Proofs.Ytlkolehdikfddaa
/- How the law on loads draws its inputs. -/
namespace Go.Proofs.Ytlkolehdikfddaa
open Go.RowKit
theorem plOne : ∀ (a : Pl), ∀ u ∈ plF.enc a, u.oneCell' = true := by
  intro a u hu
  simp [plF] at hu
  rcases hu with rfl | rfl | rfl | rfl | rfl <;> rfl
/-- The ending of a call that draws planned orders. -/
def DrawnPlanned (w : World) (base g : Nat) (e : Ending) (w' : World) : Prop := ∃ (l : List Pl) (v : Value), e = .returned v ∧ l.length ≤ 6 ∧ RowVal plF 44 w' w.heap.size v l ∧ CurAt w' base g ∧ Only g (g + 1) w w'
end Go.Proofs.Ytlkolehdikfddaa
/- The bytes a law is drawn from. -/
namespace Go.Proofs.Ytlkolehdikfddaa
open Go.RowKit
def byteF : Flat Int := ⟨fun x => [.int .u8 x], 1, fun _ => rfl⟩
def okByte (x : Int) : Prop := 0 ≤ x ∧ x ≤ 255
theorem bytesAt_of {w : World} {A : Option Addr} {n : Nat} {l : List Int} (h : RowsIn byteF w A n l) (hok : ∀ x ∈ l, okByte x) : BytesAt w w.heap.size A n := by
  have hn := h.1
  refine ⟨by have := h.len; omega, fun k hk => ?_⟩
  obtain ⟨b, o, e, hlt, hc⟩ := h.at_ (k := k) (by omega)
  have hx := hok _ (List.getElem_mem (show k < l.length by omega))
  refine ⟨b, o, l[k]'(by omega), e, hlt, hx.1, hx.2, ?_⟩
  have := hc 0 (.int .u8 (l[k]'(by omega))) rfl
  rw [show o + k * byteF.sz + 0 = o + k by simp [byteF]] at this
  exact this
theorem big_yes (A : Option Addr) (n c : Nat) (w : World) (h : 1048576 < n) (hn : n ≤ 9223372036854775807) : Calls Try.prog 4 #[.slice A n c] w fun e w' => e = .returned (.bool true) ∧ w = w' := by
  go_enter Try.func4, Try.ntmps4
  go_wp2
  go_ret
  exact ⟨ret_bool (decide_eq_true (by omega)), rfl⟩
theorem big_no (A : Option Addr) (n c : Nat) (w : World) (h : ¬ 1048576 < n) : Calls Try.prog 4 #[.slice A n c] w fun e w' => e = .returned (.bool false) ∧ w = w' := by
  have h2 : (n : Int) ≤ 1048576 := by omega
  go_enter Try.func4, Try.ntmps4
  go_wp2
  go_ret
  exact ⟨ret_bool (decide_eq_false (by omega)), rfl⟩
end Go.Proofs.Ytlkolehdikfddaa
/- From the reading of a law's arguments to what the walks ask of them. -/
namespace Go.Proofs.Ytlkolehdikfddaa
open Go.ChangeShapes Go.WideShapes Go.ChangeAt Go.RowKit Go.Deep
theorem own : ownKnob Try.prog.godebug = none := by kernel_rfl
theorem laidOut : laidOutB Try.prog = true := by kernel_rfl
theorem lt_of_cell {w : World} {a : Addr} {v : Value} (h : w.cell? a = some v) : a.block < w.heap.size := by
  rcases Nat.lt_or_ge a.block w.heap.size with h1 | h1
  · exact h1
  · unfold World.cell? at h; rw [Array.getElem?_eq_none h1] at h; cases h
theorem spot_of_cell {w : World} {a : Addr} {v : Value} (h : w.cell? a = some v) : a = ⟨a.block, a.off, none⟩ := by
  have := World.cell?_spot h
  cases a
  simp_all

theorem choose_list {α : Type} (n : Nat) (p : Nat → α → Prop) (h : ∀ i < n, ∃ a, p i a) : ∃ l : List α, l.length = n ∧ ∀ i (hi : i < l.length), p i l[i] := by
  induction n with
  | zero => exact ⟨[], rfl, fun i hi => absurd hi (by simp)⟩
  | succ n ih =>
    obtain ⟨l, hl, hp⟩ := ih (fun i hi => h i (by omega))
    obtain ⟨a, ha⟩ := h n (by omega)
    refine ⟨l ++ [a], by simp [hl], fun i hi => ?_⟩
    simp at hi
    rcases Nat.lt_or_ge i l.length with h1 | h1
    · rw [List.getElem_append_left h1]; exact hp i h1
    · obtain rfl : i = l.length := by omega
      rw [List.getElem_append_right (Nat.le_refl _)]
      simp only [Nat.sub_self, List.getElem_cons_zero]
      rw [hl]; exact ha
/-- Rows out of their elements' cells. -/
theorem rowsIn_of {α : Type} (F : Flat α) (hsz : 0 < F.sz) (W : World) (b o n : Nat) (l : List α) (hl : l.length = n) (hn : n ≤ 16777216) (hb : 0 < n → b < W.heap.size)
    (hc : ∀ i (hi : i < l.length) j, j < F.sz → W.cell? ⟨b, o + (i * F.sz + j), none⟩ = (F.enc l[i])[j]?) : RowsIn F W (some ⟨b, o, none⟩) n l := by
  refine ⟨hl.symm, by rw [flatMap_len F.enc F.sz F.len, hl], hn, fun hpos => ⟨b, o, rfl, hb hpos, fun j u hu => ?_⟩⟩
  have hj : j < (l.flatMap F.enc).length := (List.getElem?_eq_some_iff.1 hu).1
  rw [flatMap_len F.enc F.sz F.len] at hj
  have h1 : j / F.sz < l.length := Nat.div_lt_of_lt_mul (by rw [Nat.mul_comm]; exact hj)
  have h2 : j % F.sz < F.sz := Nat.mod_lt _ hsz
  have h3 : j / F.sz * F.sz + j % F.sz = j := by rw [Nat.mul_comm]; exact Nat.div_add_mod j F.sz
  have h4 := flatMap_at F.enc F.sz F.len l (j / F.sz) (j % F.sz) h1 h2
  rw [h3, hu] at h4
  have h5 := hc (j / F.sz) h1 (j % F.sz) h2
  rw [h3] at h5
  rw [h5, ← h4]

theorem open_rows_ok {α : Type} (F : Flat α) (ok : α → Prop) {H : Type} {enc : TypeId × Value → H} {W : World} {t e : TypeId} {a : Option Addr} {len cap : Nat} {d : DataW H} {p : List MemPlace}
    (ht : Try.prog.underlying t = some (.slice e)) (hC : Try.prog.cellsOf e = F.sz) (hsz : 0 < F.sz)
    (hdec : ∀ fuel cs x, DataW.trod enc Try.prog W 0 (fun _ => true) true fuel e cs = some x → ∃ a, cs = F.enc a ∧ ok a)
    (h : DataW.Trod enc Try.prog W 0 (fun _ => true) true t (.slice a len cap) d p) : len ≤ 9223372036854775807 ∧ ∃ l, len ≤ 1048576 → RowsIn F W a len l ∧ ∀ x ∈ l, ok x := by
  obtain ⟨fuel, hf⟩ := h
  rcases open_slice ht hf with ⟨hcs, _⟩ | ⟨x, l, c, m, n, D, Pl, hcs, _, hl, hm, hmm, _, hi⟩
  · simp [Value.cells] at hcs
    obtain ⟨rfl, rfl, rfl⟩ := hcs
    exact ⟨by omega, [], fun _ => ⟨⟨rfl, Sl.nil _ _ _⟩, by simp⟩⟩
  · simp [Value.cells] at hcs
    obtain ⟨rfl, rfl, rfl⟩ := hcs
    simp at hmm
    obtain ⟨L, hL, hp⟩ := choose_list len (fun i a => W.cells? 0 (x.add (i * F.sz)) F.sz = some (F.enc a) ∧ ok a) (fun i hlt => by
      obtain ⟨cs', h1, h2⟩ := hi i (by omega)
      rw [hC] at h1
      obtain ⟨a, rfl, hk⟩ := hdec _ _ _ h2
      exact ⟨a, h1, hk⟩)
    refine ⟨by unfold maxLen at hm; omega, L, fun hle => ⟨?_, fun y hy => by
      obtain ⟨i, hi, rfl⟩ := List.getElem_of_mem hy
      exact (hp i hi).2⟩⟩
    by_cases h0 : len = 0
    · subst h0
      have : L = [] := List.eq_nil_of_length_eq_zero hL
      subst this
      exact ⟨rfl, Sl.nil _ _ _⟩
    · have hcell : ∀ i (hi : i < L.length) j, j < F.sz → W.cell? (x.add (i * F.sz + j)) = (F.enc L[i])[j]? := fun i hi j hj => by
        obtain ⟨_, _, h3⟩ := World.cells?_some (hp i hi).1
        have := h3 j hj
        rwa [add_add] at this
      have h00 := hcell 0 (by omega) 0 hsz
      have hlen0 := F.len (L[0]'(by omega))
      rw [List.getElem?_eq_getElem (by omega)] at h00
      have hx : x = ⟨x.block, x.off, none⟩ := by
        have := spot_of_cell h00
        rw [Nat.zero_mul, Nat.zero_add, add_zero] at this
        exact this
      have hlt := lt_of_cell h00
      rw [blk_add] at hlt
      rw [hx]
      refine rowsIn_of F hsz W _ _ len L hL (by omega) (fun _ => hlt) (fun i hi j hj => ?_)
      have := hcell i hi j hj
      rw [hx, Addr.add_lit] at this
      exact this

end Go.Proofs.Ytlkolehdikfddaa
/- Bytes that came in. -/
namespace Go.Proofs.Ytlkolehdikfddaa
open Go.ChangeShapes Go.WideShapes Go.ChangeAt Go.RowKit Go.Deep
theorem open_bytesIn {H : Type} {enc : TypeId × Value → H} {W : World} {a : Option Addr} {len cap : Nat} {d : DataW H} {p : List MemPlace}
    (h : DataW.Trod enc Try.prog W 0 (fun _ => true) true 22 (.slice a len cap) d p) : len ≤ 9223372036854775807 ∧ ∃ l, len ≤ 1048576 → RowsIn byteF W a len l ∧ ∀ x ∈ l, okByte x := by
  refine open_rows_ok byteF okByte Try.underlying22 (by kernel_rfl) (by decide) (fun fuel cs x hx => ?_) h
  obtain ⟨n0, g0, _, hw⟩ := DataW.trod_int Try.underlying5 hx
  subst g0
  refine ⟨n0, rfl, ?_⟩
  simp [Lit.wf] at hw
  have e1 : IntKind.u8.min = 0 := by decide
  have e2 : IntKind.u8.max = 255 := by decide
  unfold okByte
  omega
end Go.Proofs.Ytlkolehdikfddaa
