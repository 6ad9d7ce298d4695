/- Part 35 of the texts of this claim: The walks of IsPlan, as the law calls them; The walk of the law FnExactIsPlan: for every input it returns true, and no memory that was there is written; From the reading of a law's arguments to what the walks ask of them; Lists of Item that came in; Lists of CondNode that came in; A field that is a slice; Lists of BillLine that came in; Lists of Exception that came in; Slices of numbers that came in; Calendars that came in; Lists of Pick that came in; Lists of Need that came in; Lists of Receipt that came in. -/
import Derived.Test.YtlnkofnfgemfdaaGreatIp33
import Derived.Test.YtlnkofnfgemfdaaGreatIp34
import Derived.Test.YtlnkofnfgemfdaaGreatIp3
import Derived.Test.YtlnkofnfgemfdaaGreatRows
import Derived.Test.YtlnkofnfgemfdaaGreatIp1
import Derived.ProofKit
import Derived.OpenShut
import Derived.ShutString
import Derived.ChangeOld
import Derived.Below
import Derived.Deep.Slices
import Derived.Deep.Fields
import Derived.Test.YtlnkofnfgemfdaaGreatIp2
import Derived.Test.YtlnkofnfgemfdaaGreatIp5
import Derived.Test.YtlnkofnfgemfdaaGreatIp13
import Derived.Test.YtlnkofnfgemfdaaGreatIp7
import Derived.Test.YtlnkofnfgemfdaaGreatIp14
import Derived.Lib.SmallJoins
import Derived.Test.YtlnkofnfgemfdaaGreatIp9
import Derived.Test.YtlnkofnfgemfdaaGreatIp12
/- The walks of IsPlan, as the law calls them. -/
namespace Go.Proofs.YtlnkofnfgemfdaaGreat
open Go.RowKit
theorem specIsPlan_row (r : PtR) (p : Pt) (A : Option Addr) (n c : Nat) (ds : List Dm) (B : Option Addr) (m d : Nat) (l : List Pl) (w : World) (hp : PlantIn w r p) (hok : okPt p) (hds : DemandsIn w A n ds) (hokd : ∀ x ∈ ds, okDm x) (hl : PlannedsIn w B m l) (hokl : ∀ x ∈ l, okPl x) (hnc : n ≤ c) :
    Calls Tryz.prog 22 #[.agg #[.slice r.i.a r.i.n r.i.c, .slice r.l.a r.l.n r.l.c, .slice r.w.a r.w.n r.w.c, .slice r.e.a r.e.n r.e.c, .slice r.p.a r.p.n r.p.c, .slice r.s.a r.s.n r.s.c, .slice r.q.a r.q.n r.q.c], .slice A n c, .slice B m d] w fun e w' => e = .returned (.bool (isPlan p ds l)) ∧ Below w.heap.size w w' := specIsPlan_any r p A B n c m d ds l w hp hok hds hokd hnc hl hokl
theorem implIsPlan_row (r : PtR) (p : Pt) (A : Option Addr) (n c : Nat) (ds : List Dm) (B : Option Addr) (m d : Nat) (l : List Pl) (w : World) (hp : PlantIn w r p) (hok : okPt p) (hds : DemandsIn w A n ds) (hokd : ∀ x ∈ ds, okDm x) (hl : PlannedsIn w B m l) (hokl : ∀ x ∈ l, okPl x) (hnc : n ≤ c) :
    Calls Tryz.prog 25 #[.agg #[.slice r.i.a r.i.n r.i.c, .slice r.l.a r.l.n r.l.c, .slice r.w.a r.w.n r.w.c, .slice r.e.a r.e.n r.e.c, .slice r.p.a r.p.n r.p.c, .slice r.s.a r.s.n r.s.c, .slice r.q.a r.q.n r.q.c], .slice A n c, .slice B m d] w fun e w' => e = .returned (.bool (isPlan p ds l)) ∧ Below w.heap.size w w' := implIsPlan_any r p A B n c m d ds l w hp hok hds hokd hnc hl hokl
end Go.Proofs.YtlnkofnfgemfdaaGreat
/- The walk of the law FnExactIsPlan: for every input it returns true, and no memory that was there is written. -/
namespace Go.Proofs.YtlnkofnfgemfdaaGreat
open Go.RowKit
set_option maxRecDepth 100000 in
set_option maxHeartbeats 4000000 in
theorem lawIsPlan {w : World} (r : PtR) (p : Pt) (hpre : PlantPre w r p) (A0 : Option Addr) (n0 c0 : Nat) (l0 : List Dm) (hl0 : n0 ≤ 1048576 → DemandsIn w A0 n0 l0 ∧ ∀ x ∈ l0, okDm x) (hn0 : n0 ≤ 9223372036854775807) (A1 : Option Addr) (n1 c1 : Nat) (l1 : List Pl) (hl1 : n1 ≤ 1048576 → PlannedsIn w A1 n1 l1 ∧ ∀ x ∈ l1, okPl x) (hn1 : n1 ≤ 9223372036854775807) :
    Calls Tryz.prog 4 #[.agg #[.slice r.i.a r.i.n r.i.c, .slice r.l.a r.l.n r.l.c, .slice r.w.a r.w.n r.w.c, .slice r.e.a r.e.n r.e.c, .slice r.p.a r.p.n r.p.c, .slice r.s.a r.s.n r.s.c, .slice r.q.a r.q.n r.q.c], .slice A0 n0 c0, .slice A1 n1 c1] w fun e w' => e = .returned (.bool true) ∧ Below w.heap.size w w' := by
  have hb := below_alloc w (.cells #[.slice r.i.a r.i.n r.i.c, .slice r.l.a r.l.n r.l.c, .slice r.w.a r.w.n r.w.c, .slice r.e.a r.e.n r.e.c, .slice r.p.a r.p.n r.p.c, .slice r.s.a r.s.n r.s.c, .slice r.q.a r.q.n r.q.c] 32)
  have B0 : BoxOf (w.alloc (.cells #[.slice r.i.a r.i.n r.i.c, .slice r.l.a r.l.n r.l.c, .slice r.w.a r.w.n r.w.c, .slice r.e.a r.e.n r.e.c, .slice r.p.a r.p.n r.p.c, .slice r.s.a r.s.n r.s.c, .slice r.q.a r.q.n r.q.c] 32)) w.heap.size [.slice r.i.a r.i.n r.i.c, .slice r.l.a r.l.n r.l.c, .slice r.w.a r.w.n r.w.c, .slice r.e.a r.e.n r.e.c, .slice r.p.a r.p.n r.p.c, .slice r.s.a r.s.n r.s.c, .slice r.q.a r.q.n r.q.c] := boxOf_alloc w #[.slice r.i.a r.i.n r.i.c, .slice r.l.a r.l.n r.l.c, .slice r.w.a r.w.n r.w.c, .slice r.e.a r.e.n r.e.c, .slice r.p.a r.p.n r.p.c, .slice r.s.a r.s.n r.s.c, .slice r.q.a r.q.n r.q.c] 32
  go_enter Tryz.func4, Tryz.ntmps4
  go_wp2_with fail
  generalize (w.alloc (.cells #[.slice r.i.a r.i.n r.i.c, .slice r.l.a r.l.n r.l.c, .slice r.w.a r.w.n r.w.c, .slice r.e.a r.e.n r.e.c, .slice r.p.a r.p.n r.p.c, .slice r.s.a r.s.n r.s.c, .slice r.q.a r.q.n r.q.c] 32)) = V at *
  refine (szPlant_any r p _ _ w hpre hb (by omega) (by omega)).mono ?_
  rintro e V1 ⟨x, rfl, x0, x1, hin, hs⟩
  replace hb := below_on hb hs
  replace B0 := B0.keep hs
  clear hs hpre
  by_cases neg : x < 0
  · go_wp2_with fail
    go_ret
    exact ⟨rfl, hb⟩
  have x2 : 0 ≤ x := by omega
  obtain ⟨hp, hok⟩ := hin x2
  clear hin neg x0
  go_wp2_with fail
  by_cases big0 : x < (n0 : Int)
  · refine (szDemandS_big _ _ _ _ _ big0 (by omega) (by omega)).mono ?_
    rintro e w1 ⟨rfl, rfl⟩
    go_wp2_with fail
    go_ret
    exact ⟨rfl, hb⟩
  obtain ⟨hi0, ok0⟩ := hl0 (by omega)
  have len0 := hi0.len
  have bg0 : (n0 : Int) ≤ x := by omega
  clear hl0 big0
  refine (szDemandS_any _ _ _ l0 _ _ (by omega) (by omega) (hi0.keep hb) ok0).mono ?_
  rintro e u0 ⟨y0, rfl, ra0, zz0, hs⟩
  replace hb := below_on hb hs
  replace B0 := B0.keep hs
  clear hs
  by_cases neg0 : y0 < 0
  · go_wp2_with fail
    go_ret
    exact ⟨rfl, hb⟩
  have z0 : 0 ≤ y0 := by omega
  clear neg0 ra0
  have HO0 := Lib.hid ok0
  clear ok0
  go_wp2_with fail
  by_cases big1 : y0 < (n1 : Int)
  · refine (szPlannedS_big _ _ _ _ _ big1 (by omega) (by omega)).mono ?_
    rintro e w1 ⟨rfl, rfl⟩
    go_wp2_with fail
    go_ret
    exact ⟨rfl, hb⟩
  obtain ⟨hi1, ok1⟩ := hl1 (by omega)
  have len1 := hi1.len
  have bg1 : (n1 : Int) ≤ y0 := by omega
  clear hl1 big1
  refine (szPlannedS_any _ _ _ l1 _ _ (by omega) (by omega) (hi1.keep hb) ok1).mono ?_
  rintro e u1 ⟨y1, rfl, ra1, zz1, hs⟩
  replace hb := below_on hb hs
  replace B0 := B0.keep hs
  clear hs
  by_cases neg1 : y1 < 0
  · go_wp2_with fail
    go_ret
    exact ⟨rfl, hb⟩
  have z1 : 0 ≤ y1 := by omega
  clear neg1 ra1
  have HO1 := Lib.hid ok1
  clear ok1
  obtain ⟨b0, b1, b2, b3, b4, b5, b6, bl⟩ := B0.seven
  go_wp2_with fail
  clear b0 b1 b2 b3 b4 b5 b6 bl
  refine (toPlant_any r p _ (hp.keep hb)).mono ?_
  rintro e V2 ⟨pa, rfl, hpa, hs⟩
  replace hb := below_on hb hs
  replace B0 := B0.keep hs
  clear hs
  go_wp2_with fail
  refine (toDemandS_any _ _ _ l0 _ (hi0.keep hb)).mono ?_
  rintro e V20 ⟨Xpa0, rfl, hpa0, hs⟩
  replace hpa0 := hpa0.rows len0
  replace hb := below_on hb hs
  replace B0 := B0.keep hs
  replace hpa := hpa.keep hs
  clear hs
  go_wp2_with fail
  refine (toPlannedS_any _ _ _ l1 _ (hi1.keep hb)).mono ?_
  rintro e V21 ⟨Xpa1, rfl, hpa1, hs⟩
  replace hpa1 := hpa1.rows len1
  replace hb := below_on hb hs
  replace B0 := B0.keep hs
  replace hpa := hpa.keep hs
  replace hpa0 := hpa0.keep hs
  clear hs
  go_wp2_with fail
  refine (specIsPlan_row pa p _ _ _ l0 _ _ _ l1 _ hpa hok hpa0 HO0.out hpa1 HO1.out (Nat.le_refl _)).mono ?_
  rintro e V3 ⟨rfl, hs⟩
  replace hb := below_on hb hs
  replace B0 := B0.keep hs
  clear hs hpa hpa0 hpa1
  obtain ⟨b0, b1, b2, b3, b4, b5, b6, bl⟩ := B0.seven
  go_wp2_with fail
  clear b0 b1 b2 b3 b4 b5 b6 bl
  refine (toPlant_any r p _ (hp.keep hb)).mono ?_
  rintro e V4 ⟨xa, rfl, hxa, hs⟩
  replace hb := below_on hb hs
  replace B0 := B0.keep hs
  clear hs
  have hs := below_alloc V4 (.cells #[.slice xa.i.a xa.i.n xa.i.c, .slice xa.l.a xa.l.n xa.l.c, .slice xa.w.a xa.w.n xa.w.c, .slice xa.e.a xa.e.n xa.e.c, .slice xa.p.a xa.p.n xa.p.c, .slice xa.s.a xa.s.n xa.s.c, .slice xa.q.a xa.q.n xa.q.c] 48)
  have B1 : BoxOf (V4.alloc (.cells #[.slice xa.i.a xa.i.n xa.i.c, .slice xa.l.a xa.l.n xa.l.c, .slice xa.w.a xa.w.n xa.w.c, .slice xa.e.a xa.e.n xa.e.c, .slice xa.p.a xa.p.n xa.p.c, .slice xa.s.a xa.s.n xa.s.c, .slice xa.q.a xa.q.n xa.q.c] 48)) V4.heap.size [.slice xa.i.a xa.i.n xa.i.c, .slice xa.l.a xa.l.n xa.l.c, .slice xa.w.a xa.w.n xa.w.c, .slice xa.e.a xa.e.n xa.e.c, .slice xa.p.a xa.p.n xa.p.c, .slice xa.s.a xa.s.n xa.s.c, .slice xa.q.a xa.q.n xa.q.c] := boxOf_alloc V4 #[.slice xa.i.a xa.i.n xa.i.c, .slice xa.l.a xa.l.n xa.l.c, .slice xa.w.a xa.w.n xa.w.c, .slice xa.e.a xa.e.n xa.e.c, .slice xa.p.a xa.p.n xa.p.c, .slice xa.s.a xa.s.n xa.s.c, .slice xa.q.a xa.q.n xa.q.c] 48
  go_wp2_with fail
  generalize (V4.alloc (.cells #[.slice xa.i.a xa.i.n xa.i.c, .slice xa.l.a xa.l.n xa.l.c, .slice xa.w.a xa.w.n xa.w.c, .slice xa.e.a xa.e.n xa.e.c, .slice xa.p.a xa.p.n xa.p.c, .slice xa.s.a xa.s.n xa.s.c, .slice xa.q.a xa.q.n xa.q.c] 48)) = V5 at *
  replace hb := below_on hb hs
  replace B0 := B0.keep hs
  replace hxa := hxa.keep hs
  clear hs
  generalize V4.heap.size = NX at *
  go_wp2_with fail
  refine (toDemandS_any _ _ _ l0 _ (hi0.keep hb)).mono ?_
  rintro e V50 ⟨Xxa0, rfl, hxa0, hs⟩
  replace hxa0 := hxa0.rows len0
  replace hb := below_on hb hs
  replace B0 := B0.keep hs
  replace hxa := hxa.keep hs
  replace B1 := B1.keep hs
  clear hs
  go_wp2_with fail
  refine (toPlannedS_any _ _ _ l1 _ (hi1.keep hb)).mono ?_
  rintro e V51 ⟨Xxa1, rfl, hxa1, hs⟩
  replace hxa1 := hxa1.rows len1
  replace hb := below_on hb hs
  replace B0 := B0.keep hs
  replace hxa := hxa.keep hs
  replace B1 := B1.keep hs
  replace hxa0 := hxa0.keep hs
  clear hs
  obtain ⟨e0, e1, e2, e3, e4, e5, e6, el⟩ := B1.seven
  go_wp2_with fail
  clear e0 e1 e2 e3 e4 e5 e6 el
  refine (implIsPlan_row xa p _ _ _ l0 _ _ _ l1 _ hxa hok hxa0 HO0.out hxa1 HO1.out (Nat.le_refl _)).mono ?_
  rintro e V6 ⟨rfl, hs⟩
  replace hb := below_on hb hs
  replace B0 := B0.keep hs
  replace hxa := hxa.keep hs
  replace B1 := B1.keep hs
  replace hxa0 := hxa0.keep hs
  replace hxa1 := hxa1.keep hs
  clear hs
  go_wp2_with fail
  obtain ⟨b0, b1, b2, b3, b4, b5, b6, bl⟩ := B0.seven
  obtain ⟨e0, e1, e2, e3, e4, e5, e6, el⟩ := B1.seven
  refine wp_region_held_drew (S := (fun w' => w'.cell? ⟨w.heap.size, 0, none⟩ = some (.slice r.i.a r.i.n r.i.c) ∧ w'.cell? ⟨w.heap.size, 1, none⟩ = some (.slice r.l.a r.l.n r.l.c) ∧ w'.cell? ⟨w.heap.size, 2, none⟩ = some (.slice r.w.a r.w.n r.w.c) ∧ w'.cell? ⟨w.heap.size, 3, none⟩ = some (.slice r.e.a r.e.n r.e.c) ∧ w'.cell? ⟨w.heap.size, 4, none⟩ = some (.slice r.p.a r.p.n r.p.c) ∧ w'.cell? ⟨w.heap.size, 5, none⟩ = some (.slice r.s.a r.s.n r.s.c) ∧ w'.cell? ⟨w.heap.size, 6, none⟩ = some (.slice r.q.a r.q.n r.q.c) ∧ w'.cell? ⟨NX, 0, none⟩ = some (.slice xa.i.a xa.i.n xa.i.c) ∧ w'.cell? ⟨NX, 1, none⟩ = some (.slice xa.l.a xa.l.n xa.l.c) ∧ w'.cell? ⟨NX, 2, none⟩ = some (.slice xa.w.a xa.w.n xa.w.c) ∧ w'.cell? ⟨NX, 3, none⟩ = some (.slice xa.e.a xa.e.n xa.e.c) ∧ w'.cell? ⟨NX, 4, none⟩ = some (.slice xa.p.a xa.p.n xa.p.c) ∧ w'.cell? ⟨NX, 5, none⟩ = some (.slice xa.s.a xa.s.n xa.s.c) ∧ w'.cell? ⟨NX, 6, none⟩ = some (.slice xa.q.a xa.q.n xa.q.c) ∧ w.heap.size < w'.heap.size ∧ NX < w'.heap.size ∧ Below V6.heap.size V6 w' ∧ Below w.heap.size w w')) (by kernel_rfl) ⟨b0, b1, b2, b3, b4, b5, b6, e0, e1, e2, e3, e4, e5, e6, bl, el, (Below.refl _ _).drew, hb.drew⟩ (fun hHeld => ?_)
  refine held_on 0 (some 48) rfl rfl (by kernel_rfl) (by kernel_rfl) (by kernel_rfl) (fun _ _ _ h => h) (by rfl) hHeld (v := ?v13) ?y13 ?r13
  case y13 => intro w hSw; (try dsimp only at hSw); go_simp; (try with_reducible rfl)
  try simp only [Act.put, List.setIfInBounds_toArray, List.set_cons_zero, List.set_cons_succ]
  refine held_on 1 (some 49) rfl rfl (by kernel_rfl) (by kernel_rfl) (by kernel_rfl) (fun _ _ _ h => h) (by rfl) hHeld (v := ?v14) ?y14 ?r14
  case y14 => intro w hSw; (try dsimp only at hSw); go_simp; (try with_reducible rfl)
  try simp only [Act.put, List.setIfInBounds_toArray, List.set_cons_zero, List.set_cons_succ]
  refine wpAnyH_ready (rs := [2]) (by kernel_rfl) (by simp) ?_
  refine AllReadyH.cons rfl (fun K hK => ?_) AllReadyH.nil
  go_simp
  go_at_call 10; refine (toPlant_any r p _ (hp.keep (by obtain ⟨y_p0, y_p1, y_p2, y_p3, y_p4, y_p5, y_p6, y_x0, y_x1, y_x2, y_x3, y_x4, y_x5, y_x6, y_l, y_k, y_V, y_B⟩ := hHeld; exact y_B))).mono ?_; rintro e w3 ⟨r9, rfl, hp9, hb3⟩; go_simp
  refine hK.out _ _ ?_ (fun hHeld => ?_)
  · obtain ⟨y_p0, y_p1, y_p2, y_p3, y_p4, y_p5, y_p6, y_x0, y_x1, y_x2, y_x3, y_x4, y_x5, y_x6, y_l, y_k, y_V, y_B⟩ := hHeld; exact ⟨(hb3.cell y_l).trans y_p0, (hb3.cell y_l).trans y_p1, (hb3.cell y_l).trans y_p2, (hb3.cell y_l).trans y_p3, (hb3.cell y_l).trans y_p4, (hb3.cell y_l).trans y_p5, (hb3.cell y_l).trans y_p6, (hb3.cell y_k).trans y_x0, (hb3.cell y_k).trans y_x1, (hb3.cell y_k).trans y_x2, (hb3.cell y_k).trans y_x3, (hb3.cell y_k).trans y_x4, (hb3.cell y_k).trans y_x5, (hb3.cell y_k).trans y_x6, Nat.lt_of_lt_of_le y_l hb3.size, Nat.lt_of_lt_of_le y_k hb3.size, below_on y_V hb3, below_on y_B hb3⟩
  clear hK K
  try simp only [Act.put, List.setIfInBounds_toArray, List.set_cons_zero, List.set_cons_succ]
  refine wpAnyH_ready (rs := [3]) (by kernel_rfl) (by simp) ?_
  refine AllReadyH.cons rfl (fun K hK => ?_) AllReadyH.nil
  go_simp
  go_at_call 14; refine (eqPlant_yes xa r9 p _ (hxa.keep (by obtain ⟨y_p0, y_p1, y_p2, y_p3, y_p4, y_p5, y_p6, y_x0, y_x1, y_x2, y_x3, y_x4, y_x5, y_x6, y_l, y_k, y_V, y_B⟩ := hHeld; exact y_V)) hp9).mono ?_; rintro e w4 ⟨rfl, hb3⟩; go_simp
  refine hK.out _ _ ?_ (fun hHeld => ?_)
  · obtain ⟨y_p0, y_p1, y_p2, y_p3, y_p4, y_p5, y_p6, y_x0, y_x1, y_x2, y_x3, y_x4, y_x5, y_x6, y_l, y_k, y_V, y_B⟩ := hHeld; exact ⟨(hb3.cell y_l).trans y_p0, (hb3.cell y_l).trans y_p1, (hb3.cell y_l).trans y_p2, (hb3.cell y_l).trans y_p3, (hb3.cell y_l).trans y_p4, (hb3.cell y_l).trans y_p5, (hb3.cell y_l).trans y_p6, (hb3.cell y_k).trans y_x0, (hb3.cell y_k).trans y_x1, (hb3.cell y_k).trans y_x2, (hb3.cell y_k).trans y_x3, (hb3.cell y_k).trans y_x4, (hb3.cell y_k).trans y_x5, (hb3.cell y_k).trans y_x6, Nat.lt_of_lt_of_le y_l hb3.size, Nat.lt_of_lt_of_le y_k hb3.size, below_on y_V hb3, below_on y_B hb3⟩
  clear hK K
  try simp only [Act.put, List.setIfInBounds_toArray, List.set_cons_zero, List.set_cons_succ]
  refine held_on 4 (some 52) rfl rfl (by kernel_rfl) (by kernel_rfl) (by kernel_rfl) (fun _ _ _ h => h) (by rfl) hHeld (v := ?v15) ?y15 ?r15
  case y15 => intro w hSw; (try dsimp only at hSw); go_simp; (try with_reducible rfl)
  try simp only [Act.put, List.setIfInBounds_toArray, List.set_cons_zero, List.set_cons_succ]
  refine wpAnyH_done (by kernel_rfl) ?_ _
  obtain ⟨y_p0, y_p1, y_p2, y_p3, y_p4, y_p5, y_p6, y_x0, y_x1, y_x2, y_x3, y_x4, y_x5, y_x6, y_l, y_k, y_V, y_B⟩ := hHeld
  replace B1 := y_V
  have hb7 := y_B
  clear y_p0 y_p1 y_p2 y_p3 y_p4 y_p5 y_p6 y_x0 y_x1 y_x2 y_x3 y_x4 y_x5 y_x6 y_l y_k
  have hy0 := hxa0.keep y_V
  have hy1 := hxa1.keep y_V
  go_wp2_with fail
  refine (toDemandS_any _ _ _ l0 _ (hi0.keep hb7)).mono ?_
  rintro e w50 ⟨Z0, rfl, hz0, hs⟩
  replace hz0 := hz0.rows len0
  have hc0 := below_on hb7 hs
  replace hy0 := hy0.keep hs
  replace hy1 := hy1.keep hs
  clear hs
  go_wp2_with fail
  refine (eqDemandS_yes _ _ _ _ _ _ l0 _ hy0 hz0).mono ?_
  rintro e w60 ⟨rfl, hs⟩
  have hd0 := below_on hc0 hs
  replace hy1 := hy1.keep hs
  clear hs hz0 hy0
  go_wp2_with fail
  refine (toPlannedS_any _ _ _ l1 _ (hi1.keep hd0)).mono ?_
  rintro e w51 ⟨Z1, rfl, hz1, hs⟩
  replace hz1 := hz1.rows len1
  have hc1 := below_on hd0 hs
  replace hy1 := hy1.keep hs
  clear hs
  go_wp2_with fail
  refine (eqPlannedS_yes _ _ _ _ _ _ l1 _ hy1 hz1).mono ?_
  rintro e w61 ⟨rfl, hs⟩
  have hd1 := below_on hc1 hs
  clear hs hz1 hy1
  go_wp2_with fail
  go_ret
  exact ⟨rfl, hd1⟩
end Go.Proofs.YtlnkofnfgemfdaaGreat
/- From the reading of a law's arguments to what the walks ask of them. -/
namespace Go.Proofs.YtlnkofnfgemfdaaGreat
open Go.ChangeShapes Go.WideShapes Go.ChangeAt Go.RowKit Go.Deep
theorem own : ownKnob Tryz.prog.godebug = none := by kernel_rfl
theorem laidOut : laidOutB Tryz.prog = true := by kernel_rfl
theorem lt_of_cell {w : World} {a : Addr} {v : Value} (h : w.cell? a = some v) : a.block < w.heap.size := by
  rcases Nat.lt_or_ge a.block w.heap.size with h1 | h1
  · exact h1
  · unfold World.cell? at h; rw [Array.getElem?_eq_none h1] at h; cases h
theorem spot_of_cell {w : World} {a : Addr} {v : Value} (h : w.cell? a = some v) : a = ⟨a.block, a.off, none⟩ := by
  have := World.cell?_spot h
  cases a
  simp_all

theorem choose_list {α : Type} (n : Nat) (p : Nat → α → Prop) (h : ∀ i < n, ∃ a, p i a) : ∃ l : List α, l.length = n ∧ ∀ i (hi : i < l.length), p i l[i] := by
  induction n with
  | zero => exact ⟨[], rfl, fun i hi => absurd hi (by simp)⟩
  | succ n ih =>
    obtain ⟨l, hl, hp⟩ := ih (fun i hi => h i (by omega))
    obtain ⟨a, ha⟩ := h n (by omega)
    refine ⟨l ++ [a], by simp [hl], fun i hi => ?_⟩
    simp at hi
    rcases Nat.lt_or_ge i l.length with h1 | h1
    · rw [List.getElem_append_left h1]; exact hp i h1
    · obtain rfl : i = l.length := by omega
      rw [List.getElem_append_right (Nat.le_refl _)]
      simp only [Nat.sub_self, List.getElem_cons_zero]
      rw [hl]; exact ha
/-- Rows out of their elements' cells. -/
theorem rowsIn_of {α : Type} (F : Flat α) (hsz : 0 < F.sz) (W : World) (b o n : Nat) (l : List α) (hl : l.length = n) (hn : n ≤ 16777216) (hb : 0 < n → b < W.heap.size)
    (hc : ∀ i (hi : i < l.length) j, j < F.sz → W.cell? ⟨b, o + (i * F.sz + j), none⟩ = (F.enc l[i])[j]?) : RowsIn F W (some ⟨b, o, none⟩) n l := by
  refine ⟨hl.symm, by rw [flatMap_len F.enc F.sz F.len, hl], hn, fun hpos => ⟨b, o, rfl, hb hpos, fun j u hu => ?_⟩⟩
  have hj : j < (l.flatMap F.enc).length := (List.getElem?_eq_some_iff.1 hu).1
  rw [flatMap_len F.enc F.sz F.len] at hj
  have h1 : j / F.sz < l.length := Nat.div_lt_of_lt_mul (by rw [Nat.mul_comm]; exact hj)
  have h2 : j % F.sz < F.sz := Nat.mod_lt _ hsz
  have h3 : j / F.sz * F.sz + j % F.sz = j := by rw [Nat.mul_comm]; exact Nat.div_add_mod j F.sz
  have h4 := flatMap_at F.enc F.sz F.len l (j / F.sz) (j % F.sz) h1 h2
  rw [h3, hu] at h4
  have h5 := hc (j / F.sz) h1 (j % F.sz) h2
  rw [h3] at h5
  rw [h5, ← h4]

theorem open_rows_ok {α : Type} (F : Flat α) (ok : α → Prop) {H : Type} {enc : TypeId × Value → H} {W : World} {t e : TypeId} {a : Option Addr} {len cap : Nat} {d : DataW H} {p : List MemPlace}
    (ht : Tryz.prog.underlying t = some (.slice e)) (hC : Tryz.prog.cellsOf e = F.sz) (hsz : 0 < F.sz)
    (hdec : ∀ fuel cs x, DataW.trod enc Tryz.prog W 0 (fun _ => true) true fuel e cs = some x → ∃ a, cs = F.enc a ∧ ok a)
    (h : DataW.Trod enc Tryz.prog W 0 (fun _ => true) true t (.slice a len cap) d p) : len ≤ 9223372036854775807 ∧ ∃ l, len ≤ 1048576 → RowsIn F W a len l ∧ ∀ x ∈ l, ok x := by
  obtain ⟨fuel, hf⟩ := h
  rcases open_slice ht hf with ⟨hcs, _⟩ | ⟨x, l, c, m, n, D, Pl, hcs, _, hl, hm, hmm, _, hi⟩
  · simp [Value.cells] at hcs
    obtain ⟨rfl, rfl, rfl⟩ := hcs
    exact ⟨by omega, [], fun _ => ⟨⟨rfl, Sl.nil _ _ _⟩, by simp⟩⟩
  · simp [Value.cells] at hcs
    obtain ⟨rfl, rfl, rfl⟩ := hcs
    simp at hmm
    obtain ⟨L, hL, hp⟩ := choose_list len (fun i a => W.cells? 0 (x.add (i * F.sz)) F.sz = some (F.enc a) ∧ ok a) (fun i hlt => by
      obtain ⟨cs', h1, h2⟩ := hi i (by omega)
      rw [hC] at h1
      obtain ⟨a, rfl, hk⟩ := hdec _ _ _ h2
      exact ⟨a, h1, hk⟩)
    refine ⟨by unfold maxLen at hm; omega, L, fun hle => ⟨?_, fun y hy => by
      obtain ⟨i, hi, rfl⟩ := List.getElem_of_mem hy
      exact (hp i hi).2⟩⟩
    by_cases h0 : len = 0
    · subst h0
      have : L = [] := List.eq_nil_of_length_eq_zero hL
      subst this
      exact ⟨rfl, Sl.nil _ _ _⟩
    · have hcell : ∀ i (hi : i < L.length) j, j < F.sz → W.cell? (x.add (i * F.sz + j)) = (F.enc L[i])[j]? := fun i hi j hj => by
        obtain ⟨_, _, h3⟩ := World.cells?_some (hp i hi).1
        have := h3 j hj
        rwa [add_add] at this
      have h00 := hcell 0 (by omega) 0 hsz
      have hlen0 := F.len (L[0]'(by omega))
      rw [List.getElem?_eq_getElem (by omega)] at h00
      have hx : x = ⟨x.block, x.off, none⟩ := by
        have := spot_of_cell h00
        rw [Nat.zero_mul, Nat.zero_add, add_zero] at this
        exact this
      have hlt := lt_of_cell h00
      rw [blk_add] at hlt
      rw [hx]
      refine rowsIn_of F hsz W _ _ len L hL (by omega) (fun _ => hlt) (fun i hi j hj => ?_)
      have := hcell i hi j hj
      rw [hx, Addr.add_lit] at this
      exact this

theorem open_rows {α : Type} (F : Flat α) {H : Type} {enc : TypeId × Value → H} {W : World} {t e : TypeId} {a : Option Addr} {len cap : Nat} {d : DataW H} {p : List MemPlace}
    (ht : Tryz.prog.underlying t = some (.slice e)) (hC : Tryz.prog.cellsOf e = F.sz) (hsz : 0 < F.sz)
    (hdec : ∀ fuel cs x, DataW.trod enc Tryz.prog W 0 (fun _ => true) true fuel e cs = some x → ∃ a, cs = F.enc a)
    (h : DataW.Trod enc Tryz.prog W 0 (fun _ => true) true t (.slice a len cap) d p) : len ≤ 9223372036854775807 ∧ ∃ l, len ≤ 1048576 → RowsIn F W a len l := by
  obtain ⟨h1, l, h2⟩ := open_rows_ok F (fun _ => True) ht hC hsz (fun fuel cs x hx => by obtain ⟨a, ha⟩ := hdec fuel cs x hx; exact ⟨a, ha, trivial⟩) h
  exact ⟨h1, l, fun hle => (h2 hle).1⟩

/-- The cells of a struct of one-cell fields, field by field. -/
theorem struct_fields {H : Type} {enc : TypeId × Value → H} {W : World} {fuel : Nat} {e : TypeId} {fs : Array Field} {cs : List Value} {x : DataW H × List MemPlace}
    (he : Tryz.prog.underlying e = some (.struct fs)) (hone : oneCellFields Tryz.prog fs = true) (h : DataW.trod enc Tryz.prog W 0 (fun _ => true) true fuel e cs = some x) :
    cs.length = Tryz.prog.cellsOf e ∧ ∃ n, ∀ i f, fs[i]? = some f → ∃ v y, (cs.drop i).take 1 = v ∧ DataW.trod enc Tryz.prog W 0 (fun _ => true) true n f.type v = some y := by
  obtain ⟨ys, n, _, _, hlen, hyl, hf⟩ := DataW.trod_struct he h
  refine ⟨hlen, n, fun i f hi => ?_⟩
  obtain ⟨ho, hk⟩ := hone_of hone i f hi
  have h1 := hf i f hi
  rw [ho, hk] at h1
  have hlt : i < ys.length := by rw [hyl]; exact (Array.getElem?_eq_some_iff.1 hi).1
  rw [List.getElem?_eq_getElem hlt] at h1
  exact ⟨_, _, rfl, h1⟩
end Go.Proofs.YtlnkofnfgemfdaaGreat
/- Lists of Item that came in. -/
namespace Go.Proofs.YtlnkofnfgemfdaaGreat
open Go.ChangeShapes Go.WideShapes Go.ChangeAt Go.RowKit Go.Deep
theorem open_itemsIn {H : Type} {enc : TypeId × Value → H} {W : World} {a : Option Addr} {len cap : Nat} {d : DataW H} {p : List MemPlace}
    (h : DataW.Trod enc Tryz.prog W 0 (fun _ => true) true 22 (.slice a len cap) d p) : len ≤ 9223372036854775807 ∧ ∃ l, len ≤ 1048576 → ItemsIn W a len l ∧ ∀ x ∈ l, okIt x := by
  refine open_rows_ok itF okIt Tryz.underlying22 (by kernel_rfl) (by decide) (fun fuel cs x hx => ?_) h
  obtain ⟨hl, n, hf⟩ := struct_fields Tryz.underlying134 (by kernel_rfl) hx
  have hC : Tryz.prog.cellsOf 134 = 8 := by kernel_rfl
  rw [hC] at hl
  match cs, hl with
  | [c0, c1, c2, c3, c4, c5, c6, c7], _ =>
    obtain ⟨v0, y0, e0, h0⟩ := hf 0 _ rfl
    obtain ⟨v1, y1, e1, h1⟩ := hf 1 _ rfl
    obtain ⟨v2, y2, e2, h2⟩ := hf 2 _ rfl
    obtain ⟨v3, y3, e3, h3⟩ := hf 3 _ rfl
    obtain ⟨v4, y4, e4, h4⟩ := hf 4 _ rfl
    obtain ⟨v5, y5, e5, h5⟩ := hf 5 _ rfl
    obtain ⟨v6, y6, e6, h6⟩ := hf 6 _ rfl
    obtain ⟨v7, y7, e7, h7⟩ := hf 7 _ rfl
    subst e0 e1 e2 e3 e4 e5 e6 e7
    obtain ⟨n0, g0, _, sz0⟩ := DataW.trod_string Tryz.underlying9 h0
    obtain ⟨n1, g1, _, sz1⟩ := DataW.trod_string Tryz.underlying9 h1
    obtain ⟨n2, g2, _⟩ := DataW.trod_int Tryz.underlying3 h2
    obtain ⟨n3, g3, _⟩ := DataW.trod_int Tryz.underlying3 h3
    obtain ⟨n4, g4, _⟩ := DataW.trod_int Tryz.underlying3 h4
    obtain ⟨n5, g5, _⟩ := DataW.trod_int Tryz.underlying3 h5
    obtain ⟨n6, g6, _⟩ := DataW.trod_int Tryz.underlying3 h6
    obtain ⟨n7, g7, _⟩ := DataW.trod_int Tryz.underlying3 h7
    simp at g0 g1 g2 g3 g4 g5 g6 g7
    subst g0 g1 g2 g3 g4 g5 g6 g7
    exact ⟨(n0, n1, n2, n3, n4, n5, n6, n7), rfl, by unfold okIt; unfold maxLen at sz0; unfold maxLen at sz1; exact ⟨sz0, sz1⟩⟩
end Go.Proofs.YtlnkofnfgemfdaaGreat
/- Lists of CondNode that came in. -/
namespace Go.Proofs.YtlnkofnfgemfdaaGreat
open Go.ChangeShapes Go.WideShapes Go.ChangeAt Go.RowKit Go.Deep
theorem open_condsIn {H : Type} {enc : TypeId × Value → H} {W : World} {a : Option Addr} {len cap : Nat} {d : DataW H} {p : List MemPlace}
    (h : DataW.Trod enc Tryz.prog W 0 (fun _ => true) true 136 (.slice a len cap) d p) : len ≤ 9223372036854775807 ∧ ∃ l, len ≤ 1048576 → CondsIn W a len l ∧ ∀ x ∈ l, okCn x := by
  refine open_rows_ok cnF okCn Tryz.underlying136 (by kernel_rfl) (by decide) (fun fuel cs x hx => ?_) h
  obtain ⟨hl, n, hf⟩ := struct_fields Tryz.underlying206 (by kernel_rfl) hx
  have hC : Tryz.prog.cellsOf 206 = 3 := by kernel_rfl
  rw [hC] at hl
  match cs, hl with
  | [c0, c1, c2], _ =>
    obtain ⟨v0, y0, e0, h0⟩ := hf 0 _ rfl
    obtain ⟨v1, y1, e1, h1⟩ := hf 1 _ rfl
    obtain ⟨v2, y2, e2, h2⟩ := hf 2 _ rfl
    subst e0 e1 e2
    obtain ⟨n0, g0, _⟩ := DataW.trod_int Tryz.underlying3 h0
    obtain ⟨n1, g1, _, sz1⟩ := DataW.trod_string Tryz.underlying9 h1
    obtain ⟨n2, g2, _, sz2⟩ := DataW.trod_string Tryz.underlying9 h2
    simp at g0 g1 g2
    subst g0 g1 g2
    exact ⟨(n0, n1, n2), rfl, by unfold okCn; unfold maxLen at sz1; unfold maxLen at sz2; exact ⟨sz1, sz2⟩⟩
end Go.Proofs.YtlnkofnfgemfdaaGreat
/- A field that is a slice. -/
namespace Go.Proofs.YtlnkofnfgemfdaaGreat
open Go.ChangeShapes Go.WideShapes Go.ChangeAt Go.RowKit Go.Deep
theorem slice_of_trod {H : Type} {enc : TypeId × Value → H} {W : World} {t e : TypeId} {v : Value} {n : Nat} {y : DataW H × List MemPlace} (ht : Tryz.prog.underlying t = some (.slice e))
    (h : DataW.trod enc Tryz.prog W 0 (fun _ => true) true n t [v] = some y) : ∃ A len cap, v = .slice A len cap ∧ DataW.Trod enc Tryz.prog W 0 (fun _ => true) true t (.slice A len cap) y.1 y.2 := by
  rcases open_slice ht h with ⟨hcs, _⟩ | ⟨x, l, c, m, n', D, Pl, hcs, _⟩
  · simp at hcs
    subst hcs
    exact ⟨_, _, _, rfl, n, h⟩
  · simp at hcs
    subst hcs
    exact ⟨_, _, _, rfl, n, h⟩
end Go.Proofs.YtlnkofnfgemfdaaGreat
/- Lists of BillLine that came in. -/
namespace Go.Proofs.YtlnkofnfgemfdaaGreat
open Go.ChangeShapes Go.WideShapes Go.ChangeAt Go.RowKit Go.Deep
set_option maxRecDepth 100000 in
theorem open_billLinesIn {H : Type} {enc : TypeId × Value → H} {W : World} {a : Option Addr} {len cap : Nat} {d : DataW H} {p : List MemPlace}
    (h : DataW.Trod enc Tryz.prog W 0 (fun _ => true) true 23 (.slice a len cap) d p) : len ≤ 9223372036854775807 ∧ ∃ l, len ≤ 1048576 → BillLinePre W a len l ∧ ∀ x ∈ l, okBl x := by
  obtain ⟨h1, R, h2⟩ := open_rows_ok blF (fun r => r.1.size ≤ 9223372036854775807 ∧ r.2.1.size ≤ 9223372036854775807 ∧ r.2.2.2.2.2.2.1 ≤ 9223372036854775807 ∧ ∃ l, (r.2.2.2.2.2.2.1 ≤ 1048576 → CondsIn W r.2.2.2.2.2.1 r.2.2.2.2.2.2.1 l) ∧ ∀ y ∈ l, okCn y) Tryz.underlying23 (by kernel_rfl) (by decide) (fun fuel cs x hx => by
    obtain ⟨hl, n, hf⟩ := struct_fields Tryz.underlying138 (by kernel_rfl) hx
    have hC : Tryz.prog.cellsOf 138 = 6 := by kernel_rfl
    rw [hC] at hl
    match cs, hl with
    | [c0, c1, c2, c3, c4, c5], _ =>
      obtain ⟨v0, y0, e0, h0⟩ := hf 0 _ rfl
      obtain ⟨v1, y1, e1, h1⟩ := hf 1 _ rfl
      obtain ⟨v2, y2, e2, h2⟩ := hf 2 _ rfl
      obtain ⟨v3, y3, e3, h3⟩ := hf 3 _ rfl
      obtain ⟨v4, y4, e4, h4⟩ := hf 4 _ rfl
      obtain ⟨v5, y5, e5, h5⟩ := hf 5 _ rfl
      subst e0 e1 e2 e3 e4 e5
      obtain ⟨n0, g0, _, sz0⟩ := DataW.trod_string Tryz.underlying9 h0
      obtain ⟨n1, g1, _, sz1⟩ := DataW.trod_string Tryz.underlying9 h1
      obtain ⟨n2, g2, _⟩ := DataW.trod_int Tryz.underlying3 h2
      obtain ⟨n3, g3, _⟩ := DataW.trod_int Tryz.underlying3 h3
      obtain ⟨n4, g4, _⟩ := DataW.trod_int Tryz.underlying3 h4
      obtain ⟨A, len, cap, g5, t⟩ := slice_of_trod Tryz.underlying136 (show DataW.trod enc Tryz.prog W 0 (fun _ => true) true n 136 [c5] = some y5 from h5)
      obtain ⟨m0, l, hl⟩ := open_condsIn t
      simp at g0 g1 g2 g3 g4
      subst g0 g1 g2 g3 g4 g5
      refine ⟨(n0, n1, n2, n3, n4, A, len, cap), rfl, by unfold maxLen at sz0; exact sz0, by unfold maxLen at sz1; exact sz1, m0, ?_⟩
      by_cases hlen : len ≤ 1048576
      · exact ⟨l, fun h => (hl h).1, (hl hlen).2⟩
      · exact ⟨[], fun h => absurd h hlen, by simp⟩) h
  by_cases hle : len ≤ 1048576
  case neg => exact ⟨h1, [], fun h => absurd h hle⟩
  obtain ⟨hR, hok⟩ := h2 hle
  obtain ⟨l, hl, hp⟩ := choose_list R.length (fun k (j : Bl) => ∀ hk : k < R.length, BlOf (fun A n l => n ≤ 9223372036854775807 ∧ (n ≤ 1048576 → CondsIn W A n l)) R[k] j ∧ okBl j) (fun k hk => by
    obtain ⟨z0, z1, m0, l, hl1, hl2⟩ := hok _ (List.getElem_mem hk)
    exact ⟨(R[k].1, R[k].2.1, R[k].2.2.1, R[k].2.2.2.1, R[k].2.2.2.2.1, l), fun _ => ⟨⟨rfl, rfl, rfl, rfl, rfl, m0, hl1⟩, ⟨z0, z1, hl2⟩⟩⟩)
  refine ⟨h1, l, fun _ => ⟨⟨R, hR, hl.symm, fun k h3 h4 => (hp k h4 h3).1⟩, fun x hx => ?_⟩⟩
  obtain ⟨k, hk, rfl⟩ := List.getElem_of_mem hx
  exact (hp k hk (by omega)).2
end Go.Proofs.YtlnkofnfgemfdaaGreat
/- Lists of Exception that came in. -/
namespace Go.Proofs.YtlnkofnfgemfdaaGreat
open Go.ChangeShapes Go.WideShapes Go.ChangeAt Go.RowKit Go.Deep
theorem open_exsIn {H : Type} {enc : TypeId × Value → H} {W : World} {a : Option Addr} {len cap : Nat} {d : DataW H} {p : List MemPlace}
    (h : DataW.Trod enc Tryz.prog W 0 (fun _ => true) true 25 (.slice a len cap) d p) : len ≤ 9223372036854775807 ∧ ∃ l, len ≤ 1048576 → ExsIn W a len l := by
  refine open_rows exF Tryz.underlying25 (by kernel_rfl) (by decide) (fun fuel cs x hx => ?_) h
  obtain ⟨hl, n, hf⟩ := struct_fields Tryz.underlying195 (by kernel_rfl) hx
  have hC : Tryz.prog.cellsOf 195 = 2 := by kernel_rfl
  rw [hC] at hl
  match cs, hl with
  | [c0, c1], _ =>
    obtain ⟨v0, y0, e0, h0⟩ := hf 0 _ rfl
    obtain ⟨v1, y1, e1, h1⟩ := hf 1 _ rfl
    subst e0 e1
    obtain ⟨n0, g0, _⟩ := DataW.trod_int Tryz.underlying3 h0
    obtain ⟨n1, g1, _⟩ := DataW.trod_int Tryz.underlying3 h1
    simp at g0 g1
    subst g0 g1
    exact ⟨(n0, n1), rfl⟩
end Go.Proofs.YtlnkofnfgemfdaaGreat
/- Slices of numbers that came in. -/
namespace Go.Proofs.YtlnkofnfgemfdaaGreat
open Go.ChangeShapes Go.WideShapes Go.ChangeAt Go.RowKit
/-- A slice of numbers that came in. -/
theorem open_intsIn {H : Type} {enc : TypeId × Value → H} {W : World} {a : Option Addr} {len cap : Nat} {d : DataW H} {p : List MemPlace}
    (h : DataW.Trod enc Tryz.prog W 0 (fun _ => true) true 24 (.slice a len cap) d p) : len ≤ 9223372036854775807 ∧ ∃ l, len ≤ 1048576 → IntsIn W a len l := by
  obtain ⟨h1, l, hl⟩ := open_rows_ok intF (fun _ => True) Tryz.underlying24 (by kernel_rfl) (by decide) (fun fuel cs x hx => by
    obtain ⟨n0, g0, _, _⟩ := DataW.trod_int Tryz.underlying3 hx
    subst g0
    exact ⟨n0, rfl, trivial⟩) h
  refine ⟨h1, l, fun hle => ?_⟩
  have h2 := (hl hle).1
  exact ⟨h2.1, by have h3 := h2.2; rw [intF_flat] at h3; exact h3⟩
end Go.Proofs.YtlnkofnfgemfdaaGreat
/- Calendars that came in. -/
namespace Go.Proofs.YtlnkofnfgemfdaaGreat
open Go.ChangeShapes Go.WideShapes Go.ChangeAt Go.RowKit Go.Deep Go.Joins
set_option maxRecDepth 100000 in
theorem open_calIn {H : Type} {enc : TypeId × Value → H} {W : World} {r : Reach} {b0 : Nat} {v : Value} {d : DataW H} {p : List MemPlace} (hv : Value.okWide Tryz.prog W r b0 27 v)
    (h : DataW.Trod enc Tryz.prog W 0 (fun _ => true) true 27 v d p) :
    ∃ A n c B m d, v = .agg #[.slice A n c, .slice B m d] ∧ n ≤ 9223372036854775807 ∧ m ≤ 9223372036854775807 ∧ ∃ wk ex, n ≤ 1048576 → m ≤ 1048576 → IntsIn W A n wk ∧ ExsIn W B m ex := by
  obtain ⟨v0, v1, y0, y1, n, rfl, rfl, rfl, h0, h1⟩ := open_agg2 Tryz.underlying27 (by kernel_rfl) (by kernel_rfl) hv h
  obtain ⟨A, n0, c0, rfl, t0⟩ := slice_of_trod Tryz.underlying24 h0
  obtain ⟨B, n1, c1, rfl, t1⟩ := slice_of_trod Tryz.underlying25 h1
  obtain ⟨m0, wk, w0⟩ := open_intsIn t0
  obtain ⟨m1, ex, w1⟩ := open_exsIn t1
  exact ⟨A, n0, c0, B, n1, c1, rfl, m0, m1, wk, ex, fun h2 h3 => ⟨w0 h2, w1 h3⟩⟩
end Go.Proofs.YtlnkofnfgemfdaaGreat
/- Lists of Pick that came in. -/
namespace Go.Proofs.YtlnkofnfgemfdaaGreat
open Go.ChangeShapes Go.WideShapes Go.ChangeAt Go.RowKit Go.Deep
theorem open_picksIn {H : Type} {enc : TypeId × Value → H} {W : World} {a : Option Addr} {len cap : Nat} {d : DataW H} {p : List MemPlace}
    (h : DataW.Trod enc Tryz.prog W 0 (fun _ => true) true 28 (.slice a len cap) d p) : len ≤ 9223372036854775807 ∧ ∃ l, len ≤ 1048576 → PicksIn W a len l ∧ ∀ x ∈ l, okPk x := by
  refine open_rows_ok pkF okPk Tryz.underlying28 (by kernel_rfl) (by decide) (fun fuel cs x hx => ?_) h
  obtain ⟨hl, n, hf⟩ := struct_fields Tryz.underlying143 (by kernel_rfl) hx
  have hC : Tryz.prog.cellsOf 143 = 2 := by kernel_rfl
  rw [hC] at hl
  match cs, hl with
  | [c0, c1], _ =>
    obtain ⟨v0, y0, e0, h0⟩ := hf 0 _ rfl
    obtain ⟨v1, y1, e1, h1⟩ := hf 1 _ rfl
    subst e0 e1
    obtain ⟨n0, g0, _, sz0⟩ := DataW.trod_string Tryz.underlying9 h0
    obtain ⟨n1, g1, _, sz1⟩ := DataW.trod_string Tryz.underlying9 h1
    simp at g0 g1
    subst g0 g1
    exact ⟨(n0, n1), rfl, by unfold okPk; unfold maxLen at sz0; unfold maxLen at sz1; exact ⟨sz0, sz1⟩⟩
end Go.Proofs.YtlnkofnfgemfdaaGreat
/- Lists of Need that came in. -/
namespace Go.Proofs.YtlnkofnfgemfdaaGreat
open Go.ChangeShapes Go.WideShapes Go.ChangeAt Go.RowKit Go.Deep
theorem open_needsIn {H : Type} {enc : TypeId × Value → H} {W : World} {a : Option Addr} {len cap : Nat} {d : DataW H} {p : List MemPlace}
    (h : DataW.Trod enc Tryz.prog W 0 (fun _ => true) true 29 (.slice a len cap) d p) : len ≤ 9223372036854775807 ∧ ∃ l, len ≤ 1048576 → NeedsIn W a len l ∧ ∀ x ∈ l, okNd x := by
  refine open_rows_ok ndF okNd Tryz.underlying29 (by kernel_rfl) (by decide) (fun fuel cs x hx => ?_) h
  obtain ⟨hl, n, hf⟩ := struct_fields Tryz.underlying146 (by kernel_rfl) hx
  have hC : Tryz.prog.cellsOf 146 = 2 := by kernel_rfl
  rw [hC] at hl
  match cs, hl with
  | [c0, c1], _ =>
    obtain ⟨v0, y0, e0, h0⟩ := hf 0 _ rfl
    obtain ⟨v1, y1, e1, h1⟩ := hf 1 _ rfl
    subst e0 e1
    obtain ⟨n0, g0, _, sz0⟩ := DataW.trod_string Tryz.underlying9 h0
    obtain ⟨n1, g1, _⟩ := DataW.trod_int Tryz.underlying3 h1
    simp at g0 g1
    subst g0 g1
    exact ⟨(n0, n1), rfl, by unfold okNd; unfold maxLen at sz0; exact sz0⟩
end Go.Proofs.YtlnkofnfgemfdaaGreat
/- Lists of Receipt that came in. -/
namespace Go.Proofs.YtlnkofnfgemfdaaGreat
open Go.ChangeShapes Go.WideShapes Go.ChangeAt Go.RowKit Go.Deep
theorem open_receiptsIn {H : Type} {enc : TypeId × Value → H} {W : World} {a : Option Addr} {len cap : Nat} {d : DataW H} {p : List MemPlace}
    (h : DataW.Trod enc Tryz.prog W 0 (fun _ => true) true 30 (.slice a len cap) d p) : len ≤ 9223372036854775807 ∧ ∃ l, len ≤ 1048576 → ReceiptsIn W a len l ∧ ∀ x ∈ l, okRc x := by
  refine open_rows_ok rcF okRc Tryz.underlying30 (by kernel_rfl) (by decide) (fun fuel cs x hx => ?_) h
  obtain ⟨hl, n, hf⟩ := struct_fields Tryz.underlying149 (by kernel_rfl) hx
  have hC : Tryz.prog.cellsOf 149 = 3 := by kernel_rfl
  rw [hC] at hl
  match cs, hl with
  | [c0, c1, c2], _ =>
    obtain ⟨v0, y0, e0, h0⟩ := hf 0 _ rfl
    obtain ⟨v1, y1, e1, h1⟩ := hf 1 _ rfl
    obtain ⟨v2, y2, e2, h2⟩ := hf 2 _ rfl
    subst e0 e1 e2
    obtain ⟨n0, g0, _, sz0⟩ := DataW.trod_string Tryz.underlying9 h0
    obtain ⟨n1, g1, _⟩ := DataW.trod_int Tryz.underlying3 h1
    obtain ⟨n2, g2, _⟩ := DataW.trod_int Tryz.underlying3 h2
    simp at g0 g1 g2
    subst g0 g1 g2
    exact ⟨(n0, n1, n2), rfl, by unfold okRc; unfold maxLen at sz0; exact sz0⟩
end Go.Proofs.YtlnkofnfgemfdaaGreat
