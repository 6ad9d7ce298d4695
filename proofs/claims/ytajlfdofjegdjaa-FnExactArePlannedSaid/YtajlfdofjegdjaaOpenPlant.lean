/- Plants that came in. -/
import Derived.Test.YtajlfdofjegdjaaOpenItems
import Derived.Test.YtajlfdofjegdjaaOpenBillLines
import Derived.Test.YtajlfdofjegdjaaOpenCal
import Derived.Test.YtajlfdofjegdjaaOpenPicks
import Derived.Test.YtajlfdofjegdjaaOpenNeeds
import Derived.Test.YtajlfdofjegdjaaOpenReceipts
import Derived.Test.YtajlfdofjegdjaaPlantTo
namespace Go.Proofs.Ytajlfdofjegdjaa
open Go.ChangeShapes Go.WideShapes Go.ChangeAt Go.RowKit Go.Deep
set_option maxRecDepth 100000 in
set_option maxHeartbeats 1000000 in
theorem open_plantIn {H : Type} {enc : TypeId × Value → H} {W : World} {b0 : Nat} {rch : Reach} {v : Value} {d : DataW H} {pl : List MemPlace} (hv : Value.okWide Try.prog W rch b0 32 v)
    (h : DataW.Trod enc Try.prog W 0 (fun _ => true) true 32 v d pl) : ∃ (r : PtR) (p : Pt), v = r.v ∧ PlantPre W r p := by
  obtain ⟨⟨l⟩, rfl, hsz⟩ := okWide_struct Try.underlying32 hv
  rw [show Try.prog.cellsOf 32 = 7 by kernel_rfl] at hsz
  obtain ⟨fuel, hf⟩ := h
  obtain ⟨xs, n, _, _, _, hxl, hg⟩ := DataW.trod_struct Try.underlying32 hf
  have hy : ∀ i, i < 6 → ∃ y, xs[i]? = some y := fun i hi => ⟨_, List.getElem?_eq_getElem (by rw [hxl]; exact hi)⟩
  match l, hsz with
  | [x0, x1, x2, x3, x4, x5, x6], _ =>
    obtain ⟨y0, e0⟩ := hy 0 (by omega)
    have g0 : DataW.trod enc Try.prog W 0 (fun _ => true) true n 22 (([x0, x1, x2, x3, x4, x5, x6].drop 0).take (Try.prog.cellsOf 22)) = xs[0]? := hg 0 _ rfl
    have k0 : Try.prog.cellsOf 22 = 1 := by kernel_rfl
    rw [e0, k0] at g0
    have h0 : DataW.trod enc Try.prog W 0 (fun _ => true) true n 22 [x0] = some y0 := g0
    obtain ⟨y1, e1⟩ := hy 1 (by omega)
    have g1 : DataW.trod enc Try.prog W 0 (fun _ => true) true n 23 (([x0, x1, x2, x3, x4, x5, x6].drop 1).take (Try.prog.cellsOf 23)) = xs[1]? := hg 1 _ rfl
    have k1 : Try.prog.cellsOf 23 = 1 := by kernel_rfl
    rw [e1, k1] at g1
    have h1 : DataW.trod enc Try.prog W 0 (fun _ => true) true n 23 [x1] = some y1 := g1
    obtain ⟨y2, e2⟩ := hy 2 (by omega)
    have g2 : DataW.trod enc Try.prog W 0 (fun _ => true) true n 27 (([x0, x1, x2, x3, x4, x5, x6].drop 2).take (Try.prog.cellsOf 27)) = xs[2]? := hg 2 _ rfl
    have k2 : Try.prog.cellsOf 27 = 2 := by kernel_rfl
    rw [e2, k2] at g2
    have h2 : DataW.trod enc Try.prog W 0 (fun _ => true) true n 27 [x2, x3] = some y2 := g2
    obtain ⟨y3, e3⟩ := hy 3 (by omega)
    have g3 : DataW.trod enc Try.prog W 0 (fun _ => true) true n 28 (([x0, x1, x2, x3, x4, x5, x6].drop 4).take (Try.prog.cellsOf 28)) = xs[3]? := hg 3 _ rfl
    have k3 : Try.prog.cellsOf 28 = 1 := by kernel_rfl
    rw [e3, k3] at g3
    have h3 : DataW.trod enc Try.prog W 0 (fun _ => true) true n 28 [x4] = some y3 := g3
    obtain ⟨y4, e4⟩ := hy 4 (by omega)
    have g4 : DataW.trod enc Try.prog W 0 (fun _ => true) true n 29 (([x0, x1, x2, x3, x4, x5, x6].drop 5).take (Try.prog.cellsOf 29)) = xs[4]? := hg 4 _ rfl
    have k4 : Try.prog.cellsOf 29 = 1 := by kernel_rfl
    rw [e4, k4] at g4
    have h4 : DataW.trod enc Try.prog W 0 (fun _ => true) true n 29 [x5] = some y4 := g4
    obtain ⟨y5, e5⟩ := hy 5 (by omega)
    have g5 : DataW.trod enc Try.prog W 0 (fun _ => true) true n 30 (([x0, x1, x2, x3, x4, x5, x6].drop 6).take (Try.prog.cellsOf 30)) = xs[5]? := hg 5 _ rfl
    have k5 : Try.prog.cellsOf 30 = 1 := by kernel_rfl
    rw [e5, k5] at g5
    have h5 : DataW.trod enc Try.prog W 0 (fun _ => true) true n 30 [x6] = some y5 := g5
    obtain ⟨A0, n0, c0, rfl, t0⟩ := slice_of_trod Try.underlying22 h0
    obtain ⟨m0, l0, w0⟩ := open_itemsIn t0
    obtain ⟨A1, n1, c1, rfl, t1⟩ := slice_of_trod Try.underlying23 h1
    obtain ⟨m1, l1, w1⟩ := open_billLinesIn t1
    obtain ⟨zs, n', _, _, _, hzl, hc⟩ := DataW.trod_struct Try.underlying27 h2
    have hz : ∀ i, i < 2 → ∃ y, zs[i]? = some y := fun i hi => ⟨_, List.getElem?_eq_getElem (by rw [hzl]; exact hi)⟩
    obtain ⟨z0, ez0⟩ := hz 0 (by omega)
    obtain ⟨z1, ez1⟩ := hz 1 (by omega)
    have gz0 : DataW.trod enc Try.prog W 0 (fun _ => true) true n' 24 (([x2, x3].drop 0).take (Try.prog.cellsOf 24)) = zs[0]? := hc 0 _ rfl
    have gz1 : DataW.trod enc Try.prog W 0 (fun _ => true) true n' 25 (([x2, x3].drop 1).take (Try.prog.cellsOf 25)) = zs[1]? := hc 1 _ rfl
    rw [ez0, show Try.prog.cellsOf 24 = 1 by kernel_rfl] at gz0
    rw [ez1, show Try.prog.cellsOf 25 = 1 by kernel_rfl] at gz1
    have hz0 : DataW.trod enc Try.prog W 0 (fun _ => true) true n' 24 [x2] = some z0 := gz0
    have hz1 : DataW.trod enc Try.prog W 0 (fun _ => true) true n' 25 [x3] = some z1 := gz1
    obtain ⟨A7, n7, c7, rfl, t7⟩ := slice_of_trod Try.underlying24 hz0
    obtain ⟨A8, n8, c8, rfl, t8⟩ := slice_of_trod Try.underlying25 hz1
    obtain ⟨m7, wk, w7⟩ := open_intsIn t7
    obtain ⟨m8, ex, w8⟩ := open_exsIn t8
    obtain ⟨A3, n3, c3, rfl, t3⟩ := slice_of_trod Try.underlying28 h3
    obtain ⟨m3, l3, w3⟩ := open_picksIn t3
    obtain ⟨A4, n4, c4, rfl, t4⟩ := slice_of_trod Try.underlying29 h4
    obtain ⟨m4, l4, w4⟩ := open_needsIn t4
    obtain ⟨A5, n5, c5, rfl, t5⟩ := slice_of_trod Try.underlying30 h5
    obtain ⟨m5, l5, w5⟩ := open_receiptsIn t5
    exact ⟨⟨⟨A0, n0, c0⟩, ⟨A1, n1, c1⟩, ⟨A7, n7, c7⟩, ⟨A8, n8, c8⟩, ⟨A3, n3, c3⟩, ⟨A4, n4, c4⟩, ⟨A5, n5, c5⟩⟩, ⟨l0, l1, wk, ex, l3, l4, l5⟩, rfl, ⟨m0, m1, m7, m8, m3, m4, m5, w0, w1, fun a b => ⟨w7 a, w8 b⟩, w3, w4, w5⟩⟩
end Go.Proofs.Ytajlfdofjegdjaa
