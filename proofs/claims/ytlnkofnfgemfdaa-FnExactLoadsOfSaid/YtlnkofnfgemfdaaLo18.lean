/- FnExactLoadsOf: for every input the law returns true; its arguments read behind the call as before. No condition. -/
import Derived.Test.YtlnkofnfgemfdaaLo15
import Derived.Test.YtlnkofnfgemfdaaLo16
import Derived.Test.YtlnkofnfgemfdaaLo17
import Derived.Test.YtlnkofnfgemfdaaLo6
import Derived.Test.YtlnkofnfgemfdaaLo7
import Derived.Test.YtlnkofnfgemfdaaLo8
import Derived.Test.YtlnkofnfgemfdaaLo11
/- The walk of the law FnExactLoadsOf: for every input it returns true, and no memory that was there is written. -/
namespace Go.Proofs.Ytlnkofnfgemfdaa
open Go.RowKit
theorem loadsOf_len (r : List Rt) (l : List Pl) : (loadsOf r l).1.length ≤ 16777216 := by
  unfold loadsOf
  split
  · next h =>
    simp only [Bool.and_eq_true, decide_eq_true_eq] at h
    have := (loadsTo_bd0 r l l.length h.1.1).1
    simp only
    omega
  · simp
set_option maxRecDepth 100000 in
set_option maxHeartbeats 4000000 in
theorem lawLoadsOf {w : World} (A0 : Option Addr) (n0 c0 : Nat) (l0 : List Rt) (hl0 : n0 ≤ 1048576 → RoutingPre w A0 n0 l0 ∧ ∀ x ∈ l0, okRt x) (hn0 : n0 ≤ 9223372036854775807) (A1 : Option Addr) (n1 c1 : Nat) (l1 : List Pl) (hl1 : n1 ≤ 1048576 → PlannedsIn w A1 n1 l1 ∧ ∀ x ∈ l1, okPl x) (hn1 : n1 ≤ 9223372036854775807) :
    Calls Try.prog 6 #[.slice A0 n0 c0, .slice A1 n1 c1] w fun e w' => e = .returned (.bool true) ∧ Below w.heap.size w w' := by
  have hb : Below w.heap.size w w := Below.refl _ _
  go_enter Try.func6, Try.ntmps6
  go_wp2_with fail
  by_cases big0 : (1048576 : Int) < (n0 : Int)
  · refine (szRoutingS_big _ _ _ _ _ big0 (by omega) (by omega)).mono ?_
    rintro e w1 ⟨rfl, rfl⟩
    go_wp2_with fail
    go_ret
    exact ⟨rfl, hb⟩
  have bg0 : (n0 : Int) ≤ 1048576 := by omega
  clear big0
  obtain ⟨hj0, ok0⟩ := hl0 (by omega)
  have len0 := hj0.len
  clear hl0
  refine (szRoutingS_any _ _ _ l0 _ _ _ (by omega) (by omega) hj0 hb ok0).mono ?_
  rintro e v1 ⟨r0, rfl, ra0, rb0, rj0, hs⟩
  have hz1 := hs.size
  replace hb := below_on hb hs
  clear hs
  by_cases neg0 : r0 < 0
  · go_wp2_with fail
    go_ret
    exact ⟨rfl, hb⟩
  have rc0 : 0 ≤ r0 := by omega
  have hi0 := rj0 rc0
  clear neg0 ra0 rj0 hj0
  go_wp2_with fail
  by_cases big1 : (r0 : Int) < (n1 : Int)
  · refine (szPlannedS_big _ _ _ _ _ big1 (by omega) (by omega)).mono ?_
    rintro e w1 ⟨rfl, rfl⟩
    go_wp2_with fail
    go_ret
    exact ⟨rfl, hb⟩
  have bg1 : (n1 : Int) ≤ r0 := by omega
  clear big1
  obtain ⟨hi1, ok1⟩ := hl1 (by omega)
  have len1 := hi1.len
  clear hl1
  refine (szPlannedS_any _ _ _ l1 _ _ (by omega) (by omega) (hi1.keep hb) ok1).mono ?_
  rintro e v2 ⟨r1, rfl, ra1, rb1, hs⟩
  have hz2 := hs.size
  replace hb := below_on hb hs
  clear hs
  by_cases neg1 : r1 < 0
  · go_wp2_with fail
    go_ret
    exact ⟨rfl, hb⟩
  have rc1 : 0 ≤ r1 := by omega
  clear neg1 ra1
  go_wp2_with fail
  refine (toRoutingS_any _ _ _ l0 _ (hi0.keep hb)).mono ?_
  rintro e v3 ⟨Xp0, rfl, p0, hs⟩
  replace p0 := p0.at_
  have hz3 := hs.size
  replace hb := below_on hb hs
  clear hs
  go_wp2_with fail
  refine (toPlannedS_any _ _ _ l1 _ (hi1.keep hb)).mono ?_
  rintro e v4 ⟨Xp1, rfl, p1, hs⟩
  replace p1 := p1.at_
  have hz4 := hs.size
  replace hb := below_on hb hs
  replace p0 := p0.keep hs
  clear hs
  go_wp2_with fail
  refine (specLoadsOf_any _ _ _ _ _ _ l0 l1  _ (p0.rows len0) (p1.rows len1) ok0).mono ?_
  rintro e v5 ⟨XW0, CW0, rfl, W0, hs⟩
  replace W0 := W0.at_
  have hz5 := hs.size
  replace hb := below_on hb hs
  replace p0 := p0.keep hs
  replace p1 := p1.keep hs
  clear hs
  clear p0
  clear p1
  go_wp2_with fail
  refine (toRoutingS_own _ _ _ l0 _ (hi0.keep hb)).mono ?_
  rintro e v6 ⟨Xx0, Rx0, midx0, mx0, rfl, x0, hs⟩
  have hz6 := hs.size
  replace hb := below_on hb hs
  replace W0 := W0.keep hs
  clear hs
  go_wp2_with fail
  refine (toPlannedS_any _ _ _ l1 _ (hi1.keep hb)).mono ?_
  rintro e v7 ⟨Xx1, rfl, x1, hs⟩
  replace x1 := x1.at_
  have hz7 := hs.size
  replace hb := below_on hb hs
  replace W0 := W0.keep hs
  replace x0 := x0.keep hs
  clear hs
  go_wp2_with fail
  refine (implLoadsOf_any _ _ _ _ _ _ l0 l1  _ (x0.ins len0) (x1.rows len1) ok0).mono ?_
  rintro e v8 ⟨XG0, CG0, rfl, G0, hs⟩
  replace G0 := G0.at_
  have hz8 := hs.size
  replace hb := below_on hb hs
  replace W0 := W0.keep hs
  replace x0 := x0.keep hs
  replace x1 := x1.keep hs
  clear hs
  have rlen := loadsOf_len l0 l1
  go_wp2_with fail
  refine (eqLoadS_yes _ _ _ _ _ _ (loadsOf l0 l1).1 _ (G0.rows rlen) (W0.rows rlen)).mono ?_
  rintro e v9 ⟨rfl, hs⟩
  have hz9 := hs.size
  replace hb := below_on hb hs
  replace W0 := W0.keep hs
  replace x0 := x0.keep hs
  replace x1 := x1.keep hs
  replace G0 := G0.keep hs
  clear hs
  go_wp2_with fail
  refine (toRoutingS_any _ _ _ l0 _ (hi0.keep hb)).mono ?_
  rintro e v10 ⟨Xy0, rfl, y0, hs⟩
  replace y0 := y0.at_
  have hz10 := hs.size
  replace hb := below_on hb hs
  replace W0 := W0.keep hs
  replace x0 := x0.keep hs
  replace x1 := x1.keep hs
  replace G0 := G0.keep hs
  clear hs
  go_wp2_with fail
  refine (eqRoutingS_yes _ _ _ _ _ _ l0 _ (x0.ins len0) (y0.rows len0)).mono ?_
  rintro e v11 ⟨rfl, hs⟩
  have hz11 := hs.size
  replace hb := below_on hb hs
  replace W0 := W0.keep hs
  replace x0 := x0.keep hs
  replace x1 := x1.keep hs
  replace G0 := G0.keep hs
  replace y0 := y0.keep hs
  clear hs
  clear y0
  go_wp2_with fail
  refine (toPlannedS_any _ _ _ l1 _ (hi1.keep hb)).mono ?_
  rintro e v12 ⟨Xy1, rfl, y1, hs⟩
  replace y1 := y1.at_
  have hz12 := hs.size
  replace hb := below_on hb hs
  replace W0 := W0.keep hs
  replace x0 := x0.keep hs
  replace x1 := x1.keep hs
  replace G0 := G0.keep hs
  clear hs
  go_wp2_with fail
  refine (eqPlannedS_yes _ _ _ _ _ _ l1 _ (x1.rows len1) (y1.rows len1)).mono ?_
  rintro e v13 ⟨rfl, hs⟩
  have hz13 := hs.size
  replace hb := below_on hb hs
  replace W0 := W0.keep hs
  replace x0 := x0.keep hs
  replace x1 := x1.keep hs
  replace G0 := G0.keep hs
  replace y1 := y1.keep hs
  clear hs
  clear y1
  go_wp2_with fail
  refine (markRoutingS_any _ _ _ _ _ l0 _ _ _ _ _ x0 (by omega) (by omega) len0).mono ?_
  rintro e v14 ⟨k0, rfl, ka0, kb0, hs⟩
  clear x0
  have hz14 := hs.size
  replace hb := below_only hb hs (by omega) (by omega)
  replace W0 := W0.only hs (by omega)
  replace x1 := x1.only hs (by omega)
  replace G0 := G0.only hs (by omega)
  clear hs
  go_wp2_with fail
  refine (markPlannedS_any _ _ _ _ _ l1 _ _ x1 (by omega) (by omega) len1).mono ?_
  rintro e v15 ⟨rfl, _, hs⟩
  clear x1
  have hz15 := hs.size
  replace hb := below_only hb hs (by omega) (by omega)
  replace W0 := W0.only hs (by omega)
  replace G0 := G0.only hs (by omega)
  clear hs
  obtain ⟨kz, hkz⟩ : ∃ kz, k0 + 5 * (l1.length : Int) = kz := ⟨_, rfl⟩
  rw [hkz]
  have kz0 : 0 ≤ kz := by omega
  clear hkz
  go_wp2_with fail
  refine (eqLoadS_yes _ _ _ _ _ _ (loadsOf l0 l1).1 _ (G0.rows rlen) (W0.rows rlen)).mono ?_
  rintro e v16 ⟨rfl, hs⟩
  have hz16 := hs.size
  replace hb := below_on hb hs
  replace W0 := W0.keep hs
  replace G0 := G0.keep hs
  clear hs
  go_wp2_with fail
  refine (markLoadS_own _ _ _ _ _ (loadsOf l0 l1).1 _ _ G0 (by omega) (by omega) rlen).mono ?_
  rintro e v17 ⟨rfl, M0, hs⟩
  clear G0
  have hz17 := hs.size
  replace hb := below_only hb hs (by omega) (by omega)
  replace W0 := W0.only hs (by omega)
  clear hs
  go_wp2_with fail
  refine (heldLoadS_any _ _ _ (loadsOf l0 l1).1 _ _ (M0.rows (by rw [marksLd_len]; exact rlen)) (by omega) (by omega)).mono ?_
  rintro e v18 ⟨rfl, hs⟩
  have hz18 := hs.size
  replace hb := below_on hb hs
  replace W0 := W0.keep hs
  replace M0 := M0.keep hs
  clear hs
  go_wp2_with fail
  refine (toRoutingS_any _ _ _ l0 _ (hi0.keep hb)).mono ?_
  rintro e v19 ⟨Xz0, rfl, z0, hs⟩
  replace z0 := z0.at_
  have hz19 := hs.size
  replace hb := below_on hb hs
  replace W0 := W0.keep hs
  replace M0 := M0.keep hs
  clear hs
  go_wp2_with fail
  refine (toPlannedS_any _ _ _ l1 _ (hi1.keep hb)).mono ?_
  rintro e v20 ⟨Xz1, rfl, z1, hs⟩
  replace z1 := z1.at_
  have hz20 := hs.size
  replace hb := below_on hb hs
  replace W0 := W0.keep hs
  replace M0 := M0.keep hs
  replace z0 := z0.keep hs
  clear hs
  go_wp2_with fail
  refine (implLoadsOf_any _ _ _ _ _ _ l0 l1  _ (z0.rows len0) (z1.rows len1) ok0).mono ?_
  rintro e v21 ⟨XH0, CH0, rfl, H0, hs⟩
  replace H0 := H0.at_
  have hz21 := hs.size
  replace hb := below_on hb hs
  replace W0 := W0.keep hs
  replace M0 := M0.keep hs
  replace z0 := z0.keep hs
  replace z1 := z1.keep hs
  clear hs
  go_wp2_with fail
  refine (eqLoadS_yes _ _ _ _ _ _ (loadsOf l0 l1).1 _ (H0.rows rlen) (W0.rows rlen)).mono ?_
  rintro e v22 ⟨rfl, hs⟩
  have hz22 := hs.size
  replace hb := below_on hb hs
  replace W0 := W0.keep hs
  replace M0 := M0.keep hs
  replace z0 := z0.keep hs
  replace z1 := z1.keep hs
  replace H0 := H0.keep hs
  clear hs
  go_wp2_with fail
  refine (heldLoadS_any _ _ _ (loadsOf l0 l1).1 _ _ (M0.rows (by rw [marksLd_len]; exact rlen)) (by omega) (by omega)).mono ?_
  rintro e v23 ⟨rfl, hs⟩
  have hz23 := hs.size
  replace hb := below_on hb hs
  replace W0 := W0.keep hs
  replace M0 := M0.keep hs
  replace z0 := z0.keep hs
  replace z1 := z1.keep hs
  replace H0 := H0.keep hs
  clear hs
  go_wp2_with fail
  go_ret
  exact ⟨rfl, hb⟩
end Go.Proofs.Ytlnkofnfgemfdaa
/- Lists of Step that came in. -/
namespace Go.Proofs.Ytlnkofnfgemfdaa
open Go.ChangeShapes Go.WideShapes Go.ChangeAt Go.RowKit Go.Deep
theorem open_stepsIn {H : Type} {enc : TypeId × Value → H} {W : World} {a : Option Addr} {len cap : Nat} {d : DataW H} {p : List MemPlace}
    (h : DataW.Trod enc Try.prog W 0 (fun _ => true) true 128 (.slice a len cap) d p) : len ≤ 9223372036854775807 ∧ ∃ l, len ≤ 1048576 → StepsIn W a len l ∧ ∀ x ∈ l, okSp x := by
  refine open_rows_ok spF okSp Try.underlying128 (by kernel_rfl) (by decide) (fun fuel cs x hx => ?_) h
  obtain ⟨hl, n, hf⟩ := struct_fields Try.underlying207 (by kernel_rfl) hx
  have hC : Try.prog.cellsOf 207 = 3 := by kernel_rfl
  rw [hC] at hl
  match cs, hl with
  | [c0, c1, c2], _ =>
    obtain ⟨v0, y0, e0, h0⟩ := hf 0 _ rfl
    obtain ⟨v1, y1, e1, h1⟩ := hf 1 _ rfl
    obtain ⟨v2, y2, e2, h2⟩ := hf 2 _ rfl
    subst e0 e1 e2
    obtain ⟨n0, g0, _, sz0⟩ := DataW.trod_string Try.underlying9 h0
    obtain ⟨n1, g1, _⟩ := DataW.trod_int Try.underlying3 h1
    obtain ⟨n2, g2, _⟩ := DataW.trod_int Try.underlying3 h2
    simp at g0 g1 g2
    subst g0 g1 g2
    exact ⟨(n0, n1, n2), rfl, by unfold okSp; unfold maxLen at sz0; exact sz0⟩
end Go.Proofs.Ytlnkofnfgemfdaa
/- A field that is a slice. -/
namespace Go.Proofs.Ytlnkofnfgemfdaa
open Go.ChangeShapes Go.WideShapes Go.ChangeAt Go.RowKit Go.Deep
theorem slice_of_trod {H : Type} {enc : TypeId × Value → H} {W : World} {t e : TypeId} {v : Value} {n : Nat} {y : DataW H × List MemPlace} (ht : Try.prog.underlying t = some (.slice e))
    (h : DataW.trod enc Try.prog W 0 (fun _ => true) true n t [v] = some y) : ∃ A len cap, v = .slice A len cap ∧ DataW.Trod enc Try.prog W 0 (fun _ => true) true t (.slice A len cap) y.1 y.2 := by
  rcases open_slice ht h with ⟨hcs, _⟩ | ⟨x, l, c, m, n', D, Pl, hcs, _⟩
  · simp at hcs
    subst hcs
    exact ⟨_, _, _, rfl, n, h⟩
  · simp at hcs
    subst hcs
    exact ⟨_, _, _, rfl, n, h⟩
end Go.Proofs.Ytlnkofnfgemfdaa
/- Lists of Routing that came in. -/
namespace Go.Proofs.Ytlnkofnfgemfdaa
open Go.ChangeShapes Go.WideShapes Go.ChangeAt Go.RowKit Go.Deep
set_option maxRecDepth 100000 in
theorem open_routingsIn {H : Type} {enc : TypeId × Value → H} {W : World} {a : Option Addr} {len cap : Nat} {d : DataW H} {p : List MemPlace}
    (h : DataW.Trod enc Try.prog W 0 (fun _ => true) true 66 (.slice a len cap) d p) : len ≤ 9223372036854775807 ∧ ∃ l, len ≤ 1048576 → RoutingPre W a len l ∧ ∀ x ∈ l, okRt x := by
  obtain ⟨h1, R, h2⟩ := open_rows_ok rtF (fun r => r.1.size ≤ 9223372036854775807 ∧ r.2.2.1 ≤ 9223372036854775807 ∧ ∃ l, (r.2.2.1 ≤ 1048576 → StepsIn W r.2.1 r.2.2.1 l) ∧ ∀ y ∈ l, okSp y) Try.underlying66 (by kernel_rfl) (by decide) (fun fuel cs x hx => by
    obtain ⟨hl, n, hf⟩ := struct_fields Try.underlying130 (by kernel_rfl) hx
    have hC : Try.prog.cellsOf 130 = 2 := by kernel_rfl
    rw [hC] at hl
    match cs, hl with
    | [c0, c1], _ =>
      obtain ⟨v0, y0, e0, h0⟩ := hf 0 _ rfl
      obtain ⟨v1, y1, e1, h1⟩ := hf 1 _ rfl
      subst e0 e1
      obtain ⟨n0, g0, _, sz0⟩ := DataW.trod_string Try.underlying9 h0
      obtain ⟨A, len, cap, g1, t⟩ := slice_of_trod Try.underlying128 (show DataW.trod enc Try.prog W 0 (fun _ => true) true n 128 [c1] = some y1 from h1)
      obtain ⟨m0, l, hl⟩ := open_stepsIn t
      simp at g0
      subst g0 g1
      refine ⟨(n0, A, len, cap), rfl, by unfold maxLen at sz0; exact sz0, m0, ?_⟩
      by_cases hlen : len ≤ 1048576
      · exact ⟨l, fun h => (hl h).1, (hl hlen).2⟩
      · exact ⟨[], fun h => absurd h hlen, by simp⟩) h
  by_cases hle : len ≤ 1048576
  case neg => exact ⟨h1, [], fun h => absurd h hle⟩
  obtain ⟨hR, hok⟩ := h2 hle
  obtain ⟨l, hl, hp⟩ := choose_list R.length (fun k (j : Rt) => ∀ hk : k < R.length, RtOf (fun A n l => n ≤ 9223372036854775807 ∧ (n ≤ 1048576 → StepsIn W A n l)) R[k] j ∧ okRt j) (fun k hk => by
    obtain ⟨z0, m0, l, hl1, hl2⟩ := hok _ (List.getElem_mem hk)
    exact ⟨(R[k].1, l), fun _ => ⟨⟨rfl, m0, hl1⟩, ⟨z0, hl2⟩⟩⟩)
  refine ⟨h1, l, fun _ => ⟨⟨R, hR, hl.symm, fun k h3 h4 => (hp k h4 h3).1⟩, fun x hx => ?_⟩⟩
  obtain ⟨k, hk, rfl⟩ := List.getElem_of_mem hx
  exact (hp k hk (by omega)).2
end Go.Proofs.Ytlnkofnfgemfdaa
/- Lists of Planned that came in. -/
namespace Go.Proofs.Ytlnkofnfgemfdaa
open Go.ChangeShapes Go.WideShapes Go.ChangeAt Go.RowKit Go.Deep
theorem open_plannedsIn {H : Type} {enc : TypeId × Value → H} {W : World} {a : Option Addr} {len cap : Nat} {d : DataW H} {p : List MemPlace}
    (h : DataW.Trod enc Try.prog W 0 (fun _ => true) true 67 (.slice a len cap) d p) : len ≤ 9223372036854775807 ∧ ∃ l, len ≤ 1048576 → PlannedsIn W a len l ∧ ∀ x ∈ l, okPl x := by
  refine open_rows_ok plF okPl Try.underlying67 (by kernel_rfl) (by decide) (fun fuel cs x hx => ?_) h
  obtain ⟨hl, n, hf⟩ := struct_fields Try.underlying132 (by kernel_rfl) hx
  have hC : Try.prog.cellsOf 132 = 5 := by kernel_rfl
  rw [hC] at hl
  match cs, hl with
  | [c0, c1, c2, c3, c4], _ =>
    obtain ⟨v0, y0, e0, h0⟩ := hf 0 _ rfl
    obtain ⟨v1, y1, e1, h1⟩ := hf 1 _ rfl
    obtain ⟨v2, y2, e2, h2⟩ := hf 2 _ rfl
    obtain ⟨v3, y3, e3, h3⟩ := hf 3 _ rfl
    obtain ⟨v4, y4, e4, h4⟩ := hf 4 _ rfl
    subst e0 e1 e2 e3 e4
    obtain ⟨n0, g0, _, sz0⟩ := DataW.trod_string Try.underlying9 h0
    obtain ⟨n1, g1, _⟩ := DataW.trod_int Try.underlying3 h1
    obtain ⟨n2, g2, _⟩ := DataW.trod_int Try.underlying3 h2
    obtain ⟨n3, g3, _⟩ := DataW.trod_int Try.underlying3 h3
    obtain ⟨n4, g4, _⟩ := DataW.trod_bool Try.underlying4 h4
    simp at g0 g1 g2 g3 g4
    subst g0 g1 g2 g3 g4
    exact ⟨(n0, n1, n2, n3, n4), rfl, by unfold okPl; unfold maxLen at sz0; exact sz0⟩
end Go.Proofs.Ytlnkofnfgemfdaa
/- FnExactLoadsOf: for every input the law returns true; its arguments read behind the call as before. No condition. -/
namespace Go.Proofs.Ytlnkofnfgemfdaa
open Go.ChangeShapes Go.WideShapes Go.ChangeAt Go.RowKit
namespace fnExactLoadsOf
set_option maxRecDepth 100000 in
theorem lifted (os : Os) (started : os.Started) (H : Type) (enc : TypeId × Value → H) :
    ReturnsInHanded {} Try.checked os 6 .any (Rows.fnExactLoadsOfSpec.pre6 enc Try.prog Try.f6 Rows.fnExactLoadsOfRow.domain false) (Rows.fnExactLoadsOfSpec.post enc Try.prog Try.f6 false true false false) := by
  refine returnsInHanded_of_change (C := Try.checked) own started (by kernel_rfl) Try.func6
    (ChangeSpec.witness6 (enc := enc) (C := Try.checked) false ⟨#[], #[.slice none 0 0, .slice none 0 0], []⟩ 8 (by kernel_rfl) (by kernel_rfl) (by kernel_rfl) (by kernel_rfl)) ?_
  intro W base args ds gs before hval0 hW hcnd _
  have hval : ∀ (j : Nat) t v, Try.f6.params[j]? = some t → args[j]? = some v → Value.okWide Try.prog W .any base t v := hval0
  have hW' := hW
  obtain ⟨p, q, hA0, hV, rfl, hfz, hnd⟩ := hW
  have hA : DataW.TrodAll enc Try.prog W 0 (fun _ => true) true Try.f6.params.toList args.toList ds p := hA0
  rw [Try.params6] at hA hval
  obtain ⟨v0, vs0, d0, ds0, p0, q0, hargs, rfl, rfl, h0, r0⟩ := trodAll_cons hA
  obtain ⟨v1, vs1, d1, ds1, p1, q1, rfl, rfl, rfl, h1, r1⟩ := trodAll_cons r0
  obtain ⟨rfl, rfl, rfl⟩ := trodAll_nil r1
  obtain rfl : args = #[v0, v1] := by cases args; simp_all
  obtain ⟨rfl, rfl⟩ := trodVars_none hV
  have k0 := h0
  have lt0 : ∀ x ∈ p0, x.block < W.heap.size := by obtain ⟨m, hm⟩ := k0; exact DataW.trod_lt m _ _ _ hm
  obtain ⟨a0, len0, cap0, rfl⟩ := okWide_slice Try.underlying66 (hval 0 66 v0 rfl rfl)
  obtain ⟨m0, z0, w0⟩ := open_routingsIn h0
  have k1 := h1
  have lt1 : ∀ x ∈ p1, x.block < W.heap.size := by obtain ⟨m, hm⟩ := k1; exact DataW.trod_lt m _ _ _ hm
  obtain ⟨a1, len1, cap1, rfl⟩ := okWide_slice Try.underlying67 (hval 1 67 v1 rfl rfl)
  obtain ⟨m1, z1, w1⟩ := open_plannedsIn h1
  clear hA0 hval0
  refine (lawLoadsOf a0 len0 cap0 z0 w0 m0 a1 len1 cap1 z1 w1 m1).mono fun e W' ⟨he, bel⟩ => ?_
  subst he
  exact ⟨_, rfl, _, _, _, [], _, [], hW', trodAll_mk1 (shut_bool Try.underlying4 _), (trodAll_cons_mk (Below.trod laidOut (by kernel_rfl) (of_decide_eq_true (by kernel_rfl)) k0 bel lt0) (trodAll_cons_mk (Below.trod laidOut (by kernel_rfl) (of_decide_eq_true (by kernel_rfl)) k1 bel lt1) trodAll_mk0)), rfl, bel.frame _, fun h => by cases h⟩
theorem over : Rows.fnExactLoadsOfRow.holds Try.pinned (OpenSpec.ofChange Rows.fnExactLoadsOfSpec) :=
  OpenClaim.holds_of_wide 6 Try.f6 rfl rfl rfl rfl rfl rfl rfl ⟨rfl, rfl, rfl, rfl, rfl⟩ rfl rfl rfl rfl rfl (by kernel_rfl) Try.func6 (by kernel_rfl)
    (of_decide_eq_true (by kernel_rfl)) (by unfold Func.isWrapper; first | (rw [if_pos (by decide +kernel)]; kernel_rfl) | (rw [if_neg (by decide +kernel)]; exact ⟨rfl, rfl⟩))
    (fun os started H enc _ => lifted os started H enc)
theorem proved : Rows.FnExactLoadsOfSaid := over
#print axioms proved
end fnExactLoadsOf
end Go.Proofs.Ytlnkofnfgemfdaa
