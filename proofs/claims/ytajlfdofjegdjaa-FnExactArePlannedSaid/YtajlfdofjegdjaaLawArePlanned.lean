/- The walk of the law FnExactArePlanned: for every input it returns true, and no memory that was there is written. -/
import Derived.Test.YtajlfdofjegdjaaArePlanned
import Derived.Test.YtajlfdofjegdjaaRegion
namespace Go.Proofs.Ytajlfdofjegdjaa
open Go.RowKit
set_option maxRecDepth 100000 in
set_option maxHeartbeats 4000000 in
theorem lawArePlanned {w : World} (r : PtR) (p : Pt) (hpre : PlantPre w r p) (A0 : Option Addr) (n0 c0 : Nat) (l0 : List Pl) (hl0 : n0 ≤ 1048576 → PlannedsIn w A0 n0 l0 ∧ ∀ x ∈ l0, okPl x) (hn0 : n0 ≤ 9223372036854775807) :
    Calls Try.prog 6 #[.agg #[.slice r.i.a r.i.n r.i.c, .slice r.l.a r.l.n r.l.c, .slice r.w.a r.w.n r.w.c, .slice r.e.a r.e.n r.e.c, .slice r.p.a r.p.n r.p.c, .slice r.s.a r.s.n r.s.c, .slice r.q.a r.q.n r.q.c], .slice A0 n0 c0] w fun e w' => e = .returned (.bool true) ∧ Below w.heap.size w w' := by
  have hb := below_alloc w (.cells #[.slice r.i.a r.i.n r.i.c, .slice r.l.a r.l.n r.l.c, .slice r.w.a r.w.n r.w.c, .slice r.e.a r.e.n r.e.c, .slice r.p.a r.p.n r.p.c, .slice r.s.a r.s.n r.s.c, .slice r.q.a r.q.n r.q.c] 32)
  have B0 : BoxOf (w.alloc (.cells #[.slice r.i.a r.i.n r.i.c, .slice r.l.a r.l.n r.l.c, .slice r.w.a r.w.n r.w.c, .slice r.e.a r.e.n r.e.c, .slice r.p.a r.p.n r.p.c, .slice r.s.a r.s.n r.s.c, .slice r.q.a r.q.n r.q.c] 32)) w.heap.size [.slice r.i.a r.i.n r.i.c, .slice r.l.a r.l.n r.l.c, .slice r.w.a r.w.n r.w.c, .slice r.e.a r.e.n r.e.c, .slice r.p.a r.p.n r.p.c, .slice r.s.a r.s.n r.s.c, .slice r.q.a r.q.n r.q.c] := boxOf_alloc w #[.slice r.i.a r.i.n r.i.c, .slice r.l.a r.l.n r.l.c, .slice r.w.a r.w.n r.w.c, .slice r.e.a r.e.n r.e.c, .slice r.p.a r.p.n r.p.c, .slice r.s.a r.s.n r.s.c, .slice r.q.a r.q.n r.q.c] 32
  go_enter Try.func6, Try.ntmps6
  go_wp2_with fail
  generalize (w.alloc (.cells #[.slice r.i.a r.i.n r.i.c, .slice r.l.a r.l.n r.l.c, .slice r.w.a r.w.n r.w.c, .slice r.e.a r.e.n r.e.c, .slice r.p.a r.p.n r.p.c, .slice r.s.a r.s.n r.s.c, .slice r.q.a r.q.n r.q.c] 32)) = V at *
  refine (szPlant_any r p _ _ w hpre hb (by omega) (by omega)).mono ?_
  rintro e V1 ⟨x, rfl, x0, x1, hin, hs⟩
  replace hb := below_on hb hs
  replace B0 := B0.keep hs
  clear hs hpre
  by_cases neg : x < 0
  · go_wp2_with fail
    go_ret
    exact ⟨rfl, hb⟩
  have x2 : 0 ≤ x := by omega
  obtain ⟨hp, hok⟩ := hin x2
  clear hin neg x0
  go_wp2_with fail
  by_cases big0 : x < (n0 : Int)
  · refine (szPlannedS_big _ _ _ _ _ big0 (by omega) (by omega)).mono ?_
    rintro e w1 ⟨rfl, rfl⟩
    go_wp2_with fail
    go_ret
    exact ⟨rfl, hb⟩
  obtain ⟨hi0, ok0⟩ := hl0 (by omega)
  have len0 := hi0.len
  have bg0 : (n0 : Int) ≤ x := by omega
  clear hl0 big0
  refine (szPlannedS_any _ _ _ l0 _ _ (by omega) (by omega) (hi0.keep hb) ok0).mono ?_
  rintro e u0 ⟨y0, rfl, ra0, zz0, hs⟩
  replace hb := below_on hb hs
  replace B0 := B0.keep hs
  clear hs
  by_cases neg0 : y0 < 0
  · go_wp2_with fail
    go_ret
    exact ⟨rfl, hb⟩
  have z0 : 0 ≤ y0 := by omega
  clear neg0 ra0
  have HO0 := Lib.hid ok0
  clear ok0
  obtain ⟨b0, b1, b2, b3, b4, b5, b6, bl⟩ := B0.seven
  go_wp2_with fail
  clear b0 b1 b2 b3 b4 b5 b6 bl
  refine (toPlant_any r p _ (hp.keep hb)).mono ?_
  rintro e V2 ⟨pa, rfl, hpa, hs⟩
  replace hb := below_on hb hs
  replace B0 := B0.keep hs
  clear hs
  go_wp2_with fail
  refine (toPlannedS_any _ _ _ l0 _ (hi0.keep hb)).mono ?_
  rintro e V20 ⟨Xpa0, rfl, hpa0, hs⟩
  replace hpa0 := hpa0.rows len0
  replace hb := below_on hb hs
  replace B0 := B0.keep hs
  replace hpa := hpa.keep hs
  clear hs
  go_wp2_with fail
  refine (specArePlanned_any pa p _ _ _ l0 _ hpa hok hpa0 HO0.out).mono ?_
  rintro e V3 ⟨rfl, hs⟩
  replace hb := below_on hb hs
  replace B0 := B0.keep hs
  clear hs hpa hpa0
  obtain ⟨b0, b1, b2, b3, b4, b5, b6, bl⟩ := B0.seven
  go_wp2_with fail
  clear b0 b1 b2 b3 b4 b5 b6 bl
  refine (toPlant_any r p _ (hp.keep hb)).mono ?_
  rintro e V4 ⟨xa, rfl, hxa, hs⟩
  replace hb := below_on hb hs
  replace B0 := B0.keep hs
  clear hs
  have hs := below_alloc V4 (.cells #[.slice xa.i.a xa.i.n xa.i.c, .slice xa.l.a xa.l.n xa.l.c, .slice xa.w.a xa.w.n xa.w.c, .slice xa.e.a xa.e.n xa.e.c, .slice xa.p.a xa.p.n xa.p.c, .slice xa.s.a xa.s.n xa.s.c, .slice xa.q.a xa.q.n xa.q.c] 44)
  have B1 : BoxOf (V4.alloc (.cells #[.slice xa.i.a xa.i.n xa.i.c, .slice xa.l.a xa.l.n xa.l.c, .slice xa.w.a xa.w.n xa.w.c, .slice xa.e.a xa.e.n xa.e.c, .slice xa.p.a xa.p.n xa.p.c, .slice xa.s.a xa.s.n xa.s.c, .slice xa.q.a xa.q.n xa.q.c] 44)) V4.heap.size [.slice xa.i.a xa.i.n xa.i.c, .slice xa.l.a xa.l.n xa.l.c, .slice xa.w.a xa.w.n xa.w.c, .slice xa.e.a xa.e.n xa.e.c, .slice xa.p.a xa.p.n xa.p.c, .slice xa.s.a xa.s.n xa.s.c, .slice xa.q.a xa.q.n xa.q.c] := boxOf_alloc V4 #[.slice xa.i.a xa.i.n xa.i.c, .slice xa.l.a xa.l.n xa.l.c, .slice xa.w.a xa.w.n xa.w.c, .slice xa.e.a xa.e.n xa.e.c, .slice xa.p.a xa.p.n xa.p.c, .slice xa.s.a xa.s.n xa.s.c, .slice xa.q.a xa.q.n xa.q.c] 44
  go_wp2_with fail
  generalize (V4.alloc (.cells #[.slice xa.i.a xa.i.n xa.i.c, .slice xa.l.a xa.l.n xa.l.c, .slice xa.w.a xa.w.n xa.w.c, .slice xa.e.a xa.e.n xa.e.c, .slice xa.p.a xa.p.n xa.p.c, .slice xa.s.a xa.s.n xa.s.c, .slice xa.q.a xa.q.n xa.q.c] 44)) = V5 at *
  replace hb := below_on hb hs
  replace B0 := B0.keep hs
  replace hxa := hxa.keep hs
  clear hs
  generalize V4.heap.size = NX at *
  go_wp2_with fail
  refine (toPlannedS_any _ _ _ l0 _ (hi0.keep hb)).mono ?_
  rintro e V50 ⟨Xxa0, rfl, hxa0, hs⟩
  replace hxa0 := hxa0.rows len0
  replace hb := below_on hb hs
  replace B0 := B0.keep hs
  replace hxa := hxa.keep hs
  replace B1 := B1.keep hs
  clear hs
  obtain ⟨e0, e1, e2, e3, e4, e5, e6, el⟩ := B1.seven
  go_wp2_with fail
  clear e0 e1 e2 e3 e4 e5 e6 el
  refine (implArePlanned_any xa p _ _ _ l0 _ hxa hok hxa0 HO0.out).mono ?_
  rintro e V6 ⟨rfl, hs⟩
  replace hb := below_on hb hs
  replace B0 := B0.keep hs
  replace hxa := hxa.keep hs
  replace B1 := B1.keep hs
  replace hxa0 := hxa0.keep hs
  clear hs
  go_wp2_with fail
  obtain ⟨b0, b1, b2, b3, b4, b5, b6, bl⟩ := B0.seven
  obtain ⟨e0, e1, e2, e3, e4, e5, e6, el⟩ := B1.seven
  refine wp_region_held_drew (S := (fun w' => w'.cell? ⟨w.heap.size, 0, none⟩ = some (.slice r.i.a r.i.n r.i.c) ∧ w'.cell? ⟨w.heap.size, 1, none⟩ = some (.slice r.l.a r.l.n r.l.c) ∧ w'.cell? ⟨w.heap.size, 2, none⟩ = some (.slice r.w.a r.w.n r.w.c) ∧ w'.cell? ⟨w.heap.size, 3, none⟩ = some (.slice r.e.a r.e.n r.e.c) ∧ w'.cell? ⟨w.heap.size, 4, none⟩ = some (.slice r.p.a r.p.n r.p.c) ∧ w'.cell? ⟨w.heap.size, 5, none⟩ = some (.slice r.s.a r.s.n r.s.c) ∧ w'.cell? ⟨w.heap.size, 6, none⟩ = some (.slice r.q.a r.q.n r.q.c) ∧ w'.cell? ⟨NX, 0, none⟩ = some (.slice xa.i.a xa.i.n xa.i.c) ∧ w'.cell? ⟨NX, 1, none⟩ = some (.slice xa.l.a xa.l.n xa.l.c) ∧ w'.cell? ⟨NX, 2, none⟩ = some (.slice xa.w.a xa.w.n xa.w.c) ∧ w'.cell? ⟨NX, 3, none⟩ = some (.slice xa.e.a xa.e.n xa.e.c) ∧ w'.cell? ⟨NX, 4, none⟩ = some (.slice xa.p.a xa.p.n xa.p.c) ∧ w'.cell? ⟨NX, 5, none⟩ = some (.slice xa.s.a xa.s.n xa.s.c) ∧ w'.cell? ⟨NX, 6, none⟩ = some (.slice xa.q.a xa.q.n xa.q.c) ∧ w.heap.size < w'.heap.size ∧ NX < w'.heap.size ∧ Below V6.heap.size V6 w' ∧ Below w.heap.size w w')) (by kernel_rfl) ⟨b0, b1, b2, b3, b4, b5, b6, e0, e1, e2, e3, e4, e5, e6, bl, el, (Below.refl _ _).drew, hb.drew⟩ (fun hHeld => ?_)
  refine held_on 0 (some 35) rfl rfl (by kernel_rfl) (by kernel_rfl) (by kernel_rfl) (fun _ _ _ h => h) (by rfl) hHeld (v := ?v7) ?y7 ?r7
  case y7 => intro w hSw; (try dsimp only at hSw); go_simp; (try with_reducible rfl)
  try simp only [Act.put, List.setIfInBounds_toArray, List.set_cons_zero, List.set_cons_succ]
  refine held_on 1 (some 36) rfl rfl (by kernel_rfl) (by kernel_rfl) (by kernel_rfl) (fun _ _ _ h => h) (by rfl) hHeld (v := ?v8) ?y8 ?r8
  case y8 => intro w hSw; (try dsimp only at hSw); go_simp; (try with_reducible rfl)
  try simp only [Act.put, List.setIfInBounds_toArray, List.set_cons_zero, List.set_cons_succ]
  refine wpAnyH_ready (rs := [2]) (by kernel_rfl) (by simp) ?_
  refine AllReadyH.cons rfl (fun K hK => ?_) AllReadyH.nil
  go_simp
  go_at_call 10; refine (toPlant_any r p _ (hp.keep (by obtain ⟨y_p0, y_p1, y_p2, y_p3, y_p4, y_p5, y_p6, y_x0, y_x1, y_x2, y_x3, y_x4, y_x5, y_x6, y_l, y_k, y_V, y_B⟩ := hHeld; exact y_B))).mono ?_; rintro e w3 ⟨r9, rfl, hp9, hb3⟩; go_simp
  refine hK.out _ _ ?_ (fun hHeld => ?_)
  · obtain ⟨y_p0, y_p1, y_p2, y_p3, y_p4, y_p5, y_p6, y_x0, y_x1, y_x2, y_x3, y_x4, y_x5, y_x6, y_l, y_k, y_V, y_B⟩ := hHeld; exact ⟨(hb3.cell y_l).trans y_p0, (hb3.cell y_l).trans y_p1, (hb3.cell y_l).trans y_p2, (hb3.cell y_l).trans y_p3, (hb3.cell y_l).trans y_p4, (hb3.cell y_l).trans y_p5, (hb3.cell y_l).trans y_p6, (hb3.cell y_k).trans y_x0, (hb3.cell y_k).trans y_x1, (hb3.cell y_k).trans y_x2, (hb3.cell y_k).trans y_x3, (hb3.cell y_k).trans y_x4, (hb3.cell y_k).trans y_x5, (hb3.cell y_k).trans y_x6, Nat.lt_of_lt_of_le y_l hb3.size, Nat.lt_of_lt_of_le y_k hb3.size, below_on y_V hb3, below_on y_B hb3⟩
  clear hK K
  try simp only [Act.put, List.setIfInBounds_toArray, List.set_cons_zero, List.set_cons_succ]
  refine wpAnyH_ready (rs := [3]) (by kernel_rfl) (by simp) ?_
  refine AllReadyH.cons rfl (fun K hK => ?_) AllReadyH.nil
  go_simp
  go_at_call 12; refine (eqPlant_yes xa r9 p _ (hxa.keep (by obtain ⟨y_p0, y_p1, y_p2, y_p3, y_p4, y_p5, y_p6, y_x0, y_x1, y_x2, y_x3, y_x4, y_x5, y_x6, y_l, y_k, y_V, y_B⟩ := hHeld; exact y_V)) hp9).mono ?_; rintro e w4 ⟨rfl, hb3⟩; go_simp
  refine hK.out _ _ ?_ (fun hHeld => ?_)
  · obtain ⟨y_p0, y_p1, y_p2, y_p3, y_p4, y_p5, y_p6, y_x0, y_x1, y_x2, y_x3, y_x4, y_x5, y_x6, y_l, y_k, y_V, y_B⟩ := hHeld; exact ⟨(hb3.cell y_l).trans y_p0, (hb3.cell y_l).trans y_p1, (hb3.cell y_l).trans y_p2, (hb3.cell y_l).trans y_p3, (hb3.cell y_l).trans y_p4, (hb3.cell y_l).trans y_p5, (hb3.cell y_l).trans y_p6, (hb3.cell y_k).trans y_x0, (hb3.cell y_k).trans y_x1, (hb3.cell y_k).trans y_x2, (hb3.cell y_k).trans y_x3, (hb3.cell y_k).trans y_x4, (hb3.cell y_k).trans y_x5, (hb3.cell y_k).trans y_x6, Nat.lt_of_lt_of_le y_l hb3.size, Nat.lt_of_lt_of_le y_k hb3.size, below_on y_V hb3, below_on y_B hb3⟩
  clear hK K
  try simp only [Act.put, List.setIfInBounds_toArray, List.set_cons_zero, List.set_cons_succ]
  refine held_on 4 (some 39) rfl rfl (by kernel_rfl) (by kernel_rfl) (by kernel_rfl) (fun _ _ _ h => h) (by rfl) hHeld (v := ?v9) ?y9 ?r9
  case y9 => intro w hSw; (try dsimp only at hSw); go_simp; (try with_reducible rfl)
  try simp only [Act.put, List.setIfInBounds_toArray, List.set_cons_zero, List.set_cons_succ]
  refine wpAnyH_done (by kernel_rfl) ?_ _
  obtain ⟨y_p0, y_p1, y_p2, y_p3, y_p4, y_p5, y_p6, y_x0, y_x1, y_x2, y_x3, y_x4, y_x5, y_x6, y_l, y_k, y_V, y_B⟩ := hHeld
  replace B1 := y_V
  have hb7 := y_B
  clear y_p0 y_p1 y_p2 y_p3 y_p4 y_p5 y_p6 y_x0 y_x1 y_x2 y_x3 y_x4 y_x5 y_x6 y_l y_k
  have hy0 := hxa0.keep y_V
  go_wp2_with fail
  refine (toPlannedS_any _ _ _ l0 _ (hi0.keep hb7)).mono ?_
  rintro e w50 ⟨Z0, rfl, hz0, hs⟩
  replace hz0 := hz0.rows len0
  have hc0 := below_on hb7 hs
  replace hy0 := hy0.keep hs
  clear hs
  go_wp2_with fail
  refine (eqPlannedS_yes _ _ _ _ _ _ l0 _ hy0 hz0).mono ?_
  rintro e w60 ⟨rfl, hs⟩
  have hd0 := below_on hc0 hs
  clear hs hz0 hy0
  go_wp2_with fail
  go_ret
  exact ⟨rfl, hd0⟩
end Go.Proofs.Ytajlfdofjegdjaa
