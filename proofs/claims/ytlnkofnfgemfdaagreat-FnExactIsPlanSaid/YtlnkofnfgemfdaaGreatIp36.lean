/- FnExactIsPlan: for every input the law returns true; each argument reads behind the call as before. No condition. -/
import Derived.Test.YtlnkofnfgemfdaaGreatIp35
import Derived.Test.YtlnkofnfgemfdaaGreatIp15
import Derived.Test.YtlnkofnfgemfdaaGreatIp10
import Derived.Test.YtlnkofnfgemfdaaGreatIp18
/- Plants that came in. -/
namespace Go.Proofs.YtlnkofnfgemfdaaGreat
open Go.ChangeShapes Go.WideShapes Go.ChangeAt Go.RowKit Go.Deep
set_option maxRecDepth 100000 in
set_option maxHeartbeats 1000000 in
theorem open_plantIn {H : Type} {enc : TypeId × Value → H} {W : World} {b0 : Nat} {rch : Reach} {v : Value} {d : DataW H} {pl : List MemPlace} (hv : Value.okWide Tryz.prog W rch b0 32 v)
    (h : DataW.Trod enc Tryz.prog W 0 (fun _ => true) true 32 v d pl) : ∃ (r : PtR) (p : Pt), v = r.v ∧ PlantPre W r p := by
  obtain ⟨⟨l⟩, rfl, hsz⟩ := okWide_struct Tryz.underlying32 hv
  rw [show Tryz.prog.cellsOf 32 = 7 by kernel_rfl] at hsz
  obtain ⟨fuel, hf⟩ := h
  obtain ⟨xs, n, _, _, _, hxl, hg⟩ := DataW.trod_struct Tryz.underlying32 hf
  have hy : ∀ i, i < 6 → ∃ y, xs[i]? = some y := fun i hi => ⟨_, List.getElem?_eq_getElem (by rw [hxl]; exact hi)⟩
  match l, hsz with
  | [x0, x1, x2, x3, x4, x5, x6], _ =>
    obtain ⟨y0, e0⟩ := hy 0 (by omega)
    have g0 : DataW.trod enc Tryz.prog W 0 (fun _ => true) true n 22 (([x0, x1, x2, x3, x4, x5, x6].drop 0).take (Tryz.prog.cellsOf 22)) = xs[0]? := hg 0 _ rfl
    have k0 : Tryz.prog.cellsOf 22 = 1 := by kernel_rfl
    rw [e0, k0] at g0
    have h0 : DataW.trod enc Tryz.prog W 0 (fun _ => true) true n 22 [x0] = some y0 := g0
    obtain ⟨y1, e1⟩ := hy 1 (by omega)
    have g1 : DataW.trod enc Tryz.prog W 0 (fun _ => true) true n 23 (([x0, x1, x2, x3, x4, x5, x6].drop 1).take (Tryz.prog.cellsOf 23)) = xs[1]? := hg 1 _ rfl
    have k1 : Tryz.prog.cellsOf 23 = 1 := by kernel_rfl
    rw [e1, k1] at g1
    have h1 : DataW.trod enc Tryz.prog W 0 (fun _ => true) true n 23 [x1] = some y1 := g1
    obtain ⟨y2, e2⟩ := hy 2 (by omega)
    have g2 : DataW.trod enc Tryz.prog W 0 (fun _ => true) true n 27 (([x0, x1, x2, x3, x4, x5, x6].drop 2).take (Tryz.prog.cellsOf 27)) = xs[2]? := hg 2 _ rfl
    have k2 : Tryz.prog.cellsOf 27 = 2 := by kernel_rfl
    rw [e2, k2] at g2
    have h2 : DataW.trod enc Tryz.prog W 0 (fun _ => true) true n 27 [x2, x3] = some y2 := g2
    obtain ⟨y3, e3⟩ := hy 3 (by omega)
    have g3 : DataW.trod enc Tryz.prog W 0 (fun _ => true) true n 28 (([x0, x1, x2, x3, x4, x5, x6].drop 4).take (Tryz.prog.cellsOf 28)) = xs[3]? := hg 3 _ rfl
    have k3 : Tryz.prog.cellsOf 28 = 1 := by kernel_rfl
    rw [e3, k3] at g3
    have h3 : DataW.trod enc Tryz.prog W 0 (fun _ => true) true n 28 [x4] = some y3 := g3
    obtain ⟨y4, e4⟩ := hy 4 (by omega)
    have g4 : DataW.trod enc Tryz.prog W 0 (fun _ => true) true n 29 (([x0, x1, x2, x3, x4, x5, x6].drop 5).take (Tryz.prog.cellsOf 29)) = xs[4]? := hg 4 _ rfl
    have k4 : Tryz.prog.cellsOf 29 = 1 := by kernel_rfl
    rw [e4, k4] at g4
    have h4 : DataW.trod enc Tryz.prog W 0 (fun _ => true) true n 29 [x5] = some y4 := g4
    obtain ⟨y5, e5⟩ := hy 5 (by omega)
    have g5 : DataW.trod enc Tryz.prog W 0 (fun _ => true) true n 30 (([x0, x1, x2, x3, x4, x5, x6].drop 6).take (Tryz.prog.cellsOf 30)) = xs[5]? := hg 5 _ rfl
    have k5 : Tryz.prog.cellsOf 30 = 1 := by kernel_rfl
    rw [e5, k5] at g5
    have h5 : DataW.trod enc Tryz.prog W 0 (fun _ => true) true n 30 [x6] = some y5 := g5
    obtain ⟨A0, n0, c0, rfl, t0⟩ := slice_of_trod Tryz.underlying22 h0
    obtain ⟨m0, l0, w0⟩ := open_itemsIn t0
    obtain ⟨A1, n1, c1, rfl, t1⟩ := slice_of_trod Tryz.underlying23 h1
    obtain ⟨m1, l1, w1⟩ := open_billLinesIn t1
    obtain ⟨zs, n', _, _, _, hzl, hc⟩ := DataW.trod_struct Tryz.underlying27 h2
    have hz : ∀ i, i < 2 → ∃ y, zs[i]? = some y := fun i hi => ⟨_, List.getElem?_eq_getElem (by rw [hzl]; exact hi)⟩
    obtain ⟨z0, ez0⟩ := hz 0 (by omega)
    obtain ⟨z1, ez1⟩ := hz 1 (by omega)
    have gz0 : DataW.trod enc Tryz.prog W 0 (fun _ => true) true n' 24 (([x2, x3].drop 0).take (Tryz.prog.cellsOf 24)) = zs[0]? := hc 0 _ rfl
    have gz1 : DataW.trod enc Tryz.prog W 0 (fun _ => true) true n' 25 (([x2, x3].drop 1).take (Tryz.prog.cellsOf 25)) = zs[1]? := hc 1 _ rfl
    rw [ez0, show Tryz.prog.cellsOf 24 = 1 by kernel_rfl] at gz0
    rw [ez1, show Tryz.prog.cellsOf 25 = 1 by kernel_rfl] at gz1
    have hz0 : DataW.trod enc Tryz.prog W 0 (fun _ => true) true n' 24 [x2] = some z0 := gz0
    have hz1 : DataW.trod enc Tryz.prog W 0 (fun _ => true) true n' 25 [x3] = some z1 := gz1
    obtain ⟨A7, n7, c7, rfl, t7⟩ := slice_of_trod Tryz.underlying24 hz0
    obtain ⟨A8, n8, c8, rfl, t8⟩ := slice_of_trod Tryz.underlying25 hz1
    obtain ⟨m7, wk, w7⟩ := open_intsIn t7
    obtain ⟨m8, ex, w8⟩ := open_exsIn t8
    obtain ⟨A3, n3, c3, rfl, t3⟩ := slice_of_trod Tryz.underlying28 h3
    obtain ⟨m3, l3, w3⟩ := open_picksIn t3
    obtain ⟨A4, n4, c4, rfl, t4⟩ := slice_of_trod Tryz.underlying29 h4
    obtain ⟨m4, l4, w4⟩ := open_needsIn t4
    obtain ⟨A5, n5, c5, rfl, t5⟩ := slice_of_trod Tryz.underlying30 h5
    obtain ⟨m5, l5, w5⟩ := open_receiptsIn t5
    exact ⟨⟨⟨A0, n0, c0⟩, ⟨A1, n1, c1⟩, ⟨A7, n7, c7⟩, ⟨A8, n8, c8⟩, ⟨A3, n3, c3⟩, ⟨A4, n4, c4⟩, ⟨A5, n5, c5⟩⟩, ⟨l0, l1, wk, ex, l3, l4, l5⟩, rfl, ⟨m0, m1, m7, m8, m3, m4, m5, w0, w1, fun a b => ⟨w7 a, w8 b⟩, w3, w4, w5⟩⟩
end Go.Proofs.YtlnkofnfgemfdaaGreat
/- Lists of Demand that came in. -/
namespace Go.Proofs.YtlnkofnfgemfdaaGreat
open Go.ChangeShapes Go.WideShapes Go.ChangeAt Go.RowKit Go.Deep
theorem open_demandsIn {H : Type} {enc : TypeId × Value → H} {W : World} {a : Option Addr} {len cap : Nat} {d : DataW H} {p : List MemPlace}
    (h : DataW.Trod enc Tryz.prog W 0 (fun _ => true) true 59 (.slice a len cap) d p) : len ≤ 9223372036854775807 ∧ ∃ l, len ≤ 1048576 → DemandsIn W a len l ∧ ∀ x ∈ l, okDm x := by
  refine open_rows_ok dmF okDm Tryz.underlying59 (by kernel_rfl) (by decide) (fun fuel cs x hx => ?_) h
  obtain ⟨hl, n, hf⟩ := struct_fields Tryz.underlying120 (by kernel_rfl) hx
  have hC : Tryz.prog.cellsOf 120 = 5 := by kernel_rfl
  rw [hC] at hl
  match cs, hl with
  | [c0, c1, c2, c3, c4], _ =>
    obtain ⟨v0, y0, e0, h0⟩ := hf 0 _ rfl
    obtain ⟨v1, y1, e1, h1⟩ := hf 1 _ rfl
    obtain ⟨v2, y2, e2, h2⟩ := hf 2 _ rfl
    obtain ⟨v3, y3, e3, h3⟩ := hf 3 _ rfl
    obtain ⟨v4, y4, e4, h4⟩ := hf 4 _ rfl
    subst e0 e1 e2 e3 e4
    obtain ⟨n0, g0, _⟩ := DataW.trod_int Tryz.underlying3 h0
    obtain ⟨n1, g1, _, sz1⟩ := DataW.trod_string Tryz.underlying9 h1
    obtain ⟨n2, g2, _⟩ := DataW.trod_int Tryz.underlying3 h2
    obtain ⟨n3, g3, _⟩ := DataW.trod_int Tryz.underlying3 h3
    obtain ⟨n4, g4, _⟩ := DataW.trod_int Tryz.underlying3 h4
    simp at g0 g1 g2 g3 g4
    subst g0 g1 g2 g3 g4
    exact ⟨(n0, n1, n2, n3, n4), rfl, by unfold okDm; unfold maxLen at sz1; exact sz1⟩
end Go.Proofs.YtlnkofnfgemfdaaGreat
/- Lists of Planned that came in. -/
namespace Go.Proofs.YtlnkofnfgemfdaaGreat
open Go.ChangeShapes Go.WideShapes Go.ChangeAt Go.RowKit Go.Deep
theorem open_plannedsIn {H : Type} {enc : TypeId × Value → H} {W : World} {a : Option Addr} {len cap : Nat} {d : DataW H} {p : List MemPlace}
    (h : DataW.Trod enc Tryz.prog W 0 (fun _ => true) true 60 (.slice a len cap) d p) : len ≤ 9223372036854775807 ∧ ∃ l, len ≤ 1048576 → PlannedsIn W a len l ∧ ∀ x ∈ l, okPl x := by
  refine open_rows_ok plF okPl Tryz.underlying60 (by kernel_rfl) (by decide) (fun fuel cs x hx => ?_) h
  obtain ⟨hl, n, hf⟩ := struct_fields Tryz.underlying122 (by kernel_rfl) hx
  have hC : Tryz.prog.cellsOf 122 = 5 := by kernel_rfl
  rw [hC] at hl
  match cs, hl with
  | [c0, c1, c2, c3, c4], _ =>
    obtain ⟨v0, y0, e0, h0⟩ := hf 0 _ rfl
    obtain ⟨v1, y1, e1, h1⟩ := hf 1 _ rfl
    obtain ⟨v2, y2, e2, h2⟩ := hf 2 _ rfl
    obtain ⟨v3, y3, e3, h3⟩ := hf 3 _ rfl
    obtain ⟨v4, y4, e4, h4⟩ := hf 4 _ rfl
    subst e0 e1 e2 e3 e4
    obtain ⟨n0, g0, _, sz0⟩ := DataW.trod_string Tryz.underlying9 h0
    obtain ⟨n1, g1, _⟩ := DataW.trod_int Tryz.underlying3 h1
    obtain ⟨n2, g2, _⟩ := DataW.trod_int Tryz.underlying3 h2
    obtain ⟨n3, g3, _⟩ := DataW.trod_int Tryz.underlying3 h3
    obtain ⟨n4, g4, _⟩ := DataW.trod_bool Tryz.underlying4 h4
    simp at g0 g1 g2 g3 g4
    subst g0 g1 g2 g3 g4
    exact ⟨(n0, n1, n2, n3, n4), rfl, by unfold okPl; unfold maxLen at sz0; exact sz0⟩
end Go.Proofs.YtlnkofnfgemfdaaGreat
/- FnExactIsPlan: for every input the law returns true; each argument reads behind the call as before. No condition. -/
namespace Go.Proofs.YtlnkofnfgemfdaaGreat
open Go.ChangeShapes Go.WideShapes Go.ChangeAt Go.RowKit
namespace fnExactIsPlan
set_option maxRecDepth 100000 in
theorem lifted (os : Os) (started : os.Started) (H : Type) (enc : TypeId × Value → H) :
    ReturnsInHanded {} Tryz.checked os 4 .any (Rows.fnExactIsPlanSpec.pre6 enc Tryz.prog Tryz.f4 Rows.fnExactIsPlanRow.domain false) (Rows.fnExactIsPlanSpec.post enc Tryz.prog Tryz.f4 false true false false) := by
  refine returnsInHanded_of_change (C := Tryz.checked) own started (by kernel_rfl) Tryz.func4
    (ChangeSpec.witness6 (enc := enc) (C := Tryz.checked) false ⟨#[], #[.agg #[.slice none 0 0, .slice none 0 0, .slice none 0 0, .slice none 0 0, .slice none 0 0, .slice none 0 0, .slice none 0 0], .slice none 0 0, .slice none 0 0], []⟩ 8 (by kernel_rfl) (by kernel_rfl) (by kernel_rfl) (by kernel_rfl)) ?_
  intro W base args ds gs before hval0 hW hcnd _
  have hval : ∀ (j : Nat) t v, Tryz.f4.params[j]? = some t → args[j]? = some v → Value.okWide Tryz.prog W .any base t v := hval0
  have hW' := hW
  obtain ⟨p, q, hA0, hV, rfl, hfz, hnd⟩ := hW
  have hA : DataW.TrodAll enc Tryz.prog W 0 (fun _ => true) true Tryz.f4.params.toList args.toList ds p := hA0
  rw [Tryz.params4] at hA hval
  obtain ⟨v0, vs0, d0, ds0, p0, q0, hargs, rfl, rfl, h0, r0⟩ := trodAll_cons hA
  obtain ⟨v1, vs1, d1, ds1, p1, q1, rfl, rfl, rfl, h1, r1⟩ := trodAll_cons r0
  obtain ⟨v2, vs2, d2, ds2, p2, q2, rfl, rfl, rfl, h2, r2⟩ := trodAll_cons r1
  obtain ⟨rfl, rfl, rfl⟩ := trodAll_nil r2
  obtain rfl : args = #[v0, v1, v2] := by cases args; simp_all
  obtain ⟨rfl, rfl⟩ := trodVars_none hV
  have k0 := h0
  have lt0 : ∀ x ∈ p0, x.block < W.heap.size := by obtain ⟨m, hm⟩ := k0; exact DataW.trod_lt m _ _ _ hm
  obtain ⟨rr0, pp0, rfl, hpp0⟩ := open_plantIn (hval 0 32 v0 rfl rfl) h0
  have k1 := h1
  have lt1 : ∀ x ∈ p1, x.block < W.heap.size := by obtain ⟨m, hm⟩ := k1; exact DataW.trod_lt m _ _ _ hm
  obtain ⟨a1, len1, cap1, rfl⟩ := okWide_slice Tryz.underlying59 (hval 1 59 v1 rfl rfl)
  obtain ⟨m1, z1, w1⟩ := open_demandsIn h1
  have k2 := h2
  have lt2 : ∀ x ∈ p2, x.block < W.heap.size := by obtain ⟨m, hm⟩ := k2; exact DataW.trod_lt m _ _ _ hm
  obtain ⟨a2, len2, cap2, rfl⟩ := okWide_slice Tryz.underlying60 (hval 2 60 v2 rfl rfl)
  obtain ⟨m2, z2, w2⟩ := open_plannedsIn h2
  clear hA0 hval0
  refine (lawIsPlan rr0 pp0 hpp0 a1 len1 cap1 z1 w1 m1 a2 len2 cap2 z2 w2 m2).mono fun e W' ⟨he, bel⟩ => ?_
  subst he
  exact ⟨_, rfl, _, _, _, [], _, [], hW', trodAll_mk1 (shut_bool Tryz.underlying4 _), (trodAll_cons_mk (Below.trod laidOut (by kernel_rfl) (of_decide_eq_true (by kernel_rfl)) k0 bel lt0) (trodAll_cons_mk (Below.trod laidOut (by kernel_rfl) (of_decide_eq_true (by kernel_rfl)) k1 bel lt1) (trodAll_cons_mk (Below.trod laidOut (by kernel_rfl) (of_decide_eq_true (by kernel_rfl)) k2 bel lt2) trodAll_mk0))), rfl, bel.frame _, fun h => by cases h⟩
theorem over : Rows.fnExactIsPlanRow.holds Tryz.pinned (OpenSpec.ofChange Rows.fnExactIsPlanSpec) :=
  OpenClaim.holds_of_wide 4 Tryz.f4 rfl rfl rfl rfl rfl rfl rfl ⟨rfl, rfl, rfl, rfl, rfl⟩ rfl rfl rfl rfl rfl (by kernel_rfl) Tryz.func4 (by kernel_rfl)
    (of_decide_eq_true (by kernel_rfl)) (by unfold Func.isWrapper; first | (rw [if_pos (by decide +kernel)]; kernel_rfl) | (rw [if_neg (by decide +kernel)]; exact ⟨rfl, rfl⟩))
    (fun os started H enc _ => lifted os started H enc)
theorem proved : Rows.FnExactIsPlanSaid := over
#print axioms proved
end fnExactIsPlan
end Go.Proofs.YtlnkofnfgemfdaaGreat
