/- The walks of PegInOrder and PegInTime. -/
import Derived.Test.YtdofhdelcendeaaPegs2
namespace Go.Proofs.Ytdofhdelcendeaa
open Go.RowKit
set_option maxRecDepth 100000 in
set_option maxHeartbeats 2000000 in
theorem specPegInOrder_any (A B : Option Addr) (n m c c2 : Nat) (dem sup : List Fl) (w : World) (ha : FlowsIn w A n dem) (hm : FlowsIn w B m sup) :
    Calls Try.prog 26 #[.slice A n c, .slice B m c2] w (PairRowsOf pgF 49 w (pegsOf false dem sup)) := by
  have hb : Below w.heap.size w w := Below.refl _ _
  go_enter Try.func26, Try.ntmps26
  go_wp2_with fail
  refine (specAreFlows_any _ _ _ dem _ (ha.keep hb)).mono ?_
  rintro e u1 ⟨rfl, hs⟩
  replace hb := below_on hb (hs.below _)
  clear hs
  cases g1 : areFlows dem
  · go_wp2_with fail
    go_ret2
    exact pairRowsOf_mk (l := []) (pegsOf_no (by simp [g1])) (empty_row rfl hb.size) (hb.alloc hb.size _)
  go_wp2_with fail
  refine (specAreFlows_any _ _ _ sup _ (hm.keep hb)).mono ?_
  rintro e u2 ⟨rfl, hs⟩
  replace hb := below_on hb (hs.below _)
  clear hs
  cases g2 : areFlows sup
  · go_wp2_with fail
    go_ret2
    exact pairRowsOf_mk (l := []) (pegsOf_no (by simp [g2])) (empty_row rfl hb.size) (hb.alloc hb.size _)
  have HY := Lib.hid (pegsOf_yes (t := false) g1 g2)
  go_wp2_with fail
  refine (l19Pegs_any _ _ _ _ _ _ dem sup false _ (ha.keep hb) (hm.keep hb) g1 g2).mono ?_
  rintro e w3 ⟨A3, c3, rfl, ho3, hb3⟩
  have HR := below_on hb hb3
  replace ho3 := ho3.lower hb.size
  go_wp2_with fail
  go_ret2
  exact pairRowsOf_mk HY.out ho3.val HR
set_option maxRecDepth 100000 in
set_option maxHeartbeats 2000000 in
theorem implPegInOrder_any (A B : Option Addr) (n m c c2 : Nat) (dem sup : List Fl) (w : World) (ha : FlowsIn w A n dem) (hm : FlowsIn w B m sup) :
    Calls Try.prog 27 #[.slice A n c, .slice B m c2] w (PairRowsOf pgF 49 w (pegsOf false dem sup)) := by
  go_enter Try.func27, Try.ntmps27
  go_wp2_with fail
  refine (implPegs_any _ _ _ _ _ _ dem sup true _ ha hm).mono ?_
  rintro e w3 ⟨A3, c3, rfl, ho3, hb3⟩
  go_wp2_with fail
  go_ret2
  exact ⟨A3, c3, rfl, ho3, hb3⟩
set_option maxRecDepth 100000 in
set_option maxHeartbeats 2000000 in
theorem specPegInTime_any (A B : Option Addr) (n m c c2 : Nat) (dem sup : List Fl) (w : World) (ha : FlowsIn w A n dem) (hm : FlowsIn w B m sup) :
    Calls Try.prog 30 #[.slice A n c, .slice B m c2] w (PairRowsOf pgF 49 w (pegsOf true dem sup)) := by
  have hb : Below w.heap.size w w := Below.refl _ _
  go_enter Try.func30, Try.ntmps30
  go_wp2_with fail
  refine (specAreFlows_any _ _ _ dem _ (ha.keep hb)).mono ?_
  rintro e u1 ⟨rfl, hs⟩
  replace hb := below_on hb (hs.below _)
  clear hs
  cases g1 : areFlows dem
  · go_wp2_with fail
    go_ret2
    exact pairRowsOf_mk (l := []) (pegsOf_no (by simp [g1])) (empty_row rfl hb.size) (hb.alloc hb.size _)
  go_wp2_with fail
  refine (specAreFlows_any _ _ _ sup _ (hm.keep hb)).mono ?_
  rintro e u2 ⟨rfl, hs⟩
  replace hb := below_on hb (hs.below _)
  clear hs
  cases g2 : areFlows sup
  · go_wp2_with fail
    go_ret2
    exact pairRowsOf_mk (l := []) (pegsOf_no (by simp [g2])) (empty_row rfl hb.size) (hb.alloc hb.size _)
  have HY := Lib.hid (pegsOf_yes (t := true) g1 g2)
  go_wp2_with fail
  refine (l19Pegs_any _ _ _ _ _ _ dem sup true _ (ha.keep hb) (hm.keep hb) g1 g2).mono ?_
  rintro e w3 ⟨A3, c3, rfl, ho3, hb3⟩
  have HR := below_on hb hb3
  replace ho3 := ho3.lower hb.size
  go_wp2_with fail
  go_ret2
  exact pairRowsOf_mk HY.out ho3.val HR
set_option maxRecDepth 100000 in
set_option maxHeartbeats 2000000 in
theorem implPegInTime_any (A B : Option Addr) (n m c c2 : Nat) (dem sup : List Fl) (w : World) (ha : FlowsIn w A n dem) (hm : FlowsIn w B m sup) :
    Calls Try.prog 31 #[.slice A n c, .slice B m c2] w (PairRowsOf pgF 49 w (pegsOf true dem sup)) := by
  go_enter Try.func31, Try.ntmps31
  go_wp2_with fail
  refine (implPegs_any _ _ _ _ _ _ dem sup false _ ha hm).mono ?_
  rintro e w3 ⟨A3, c3, rfl, ho3, hb3⟩
  go_wp2_with fail
  go_ret2
  exact ⟨A3, c3, rfl, ho3, hb3⟩
end Go.Proofs.Ytdofhdelcendeaa
