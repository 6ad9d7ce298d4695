/- The walk of the program's pegs. -/
import Derived.Test.YtdofhdelcendeaaPegs
namespace Go.Proofs.Ytdofhdelcendeaa
open Go.RowKit
theorem fillI_skip {t : Bool} {d : Int} {i : Nat} {sup : List Fl} {L : List Int} {k : Nat} {need : Int} (hk : k < sup.length) (hL : k < L.length) (h : min need L[k] = 0 ∨ (t = true ∧ d < sup[k].1)) :
    fillI t d i (sup.drop k) (L.drop k) k need = ((fillI t d i (sup.drop (k + 1)) (L.drop (k + 1)) (k + 1) need).1, L[k] :: (fillI t d i (sup.drop (k + 1)) (L.drop (k + 1)) (k + 1) need).2) := by
  rw [List.drop_eq_getElem_cons hk, List.drop_eq_getElem_cons hL, fillI, if_pos h]
theorem fillI_take {t : Bool} {d : Int} {i : Nat} {sup : List Fl} {L : List Int} {k : Nat} {need : Int} (hk : k < sup.length) (hL : k < L.length) (h : ¬ (min need L[k] = 0 ∨ (t = true ∧ d < sup[k].1))) :
    fillI t d i (sup.drop k) (L.drop k) k need = (((i : Int), (k : Int), min need L[k]) :: (fillI t d i (sup.drop (k + 1)) (L.drop (k + 1)) (k + 1) (need - min need L[k])).1, (L[k] - min need L[k]) :: (fillI t d i (sup.drop (k + 1)) (L.drop (k + 1)) (k + 1) (need - min need L[k])).2) := by
  rw [List.drop_eq_getElem_cons hk, List.drop_eq_getElem_cons hL, fillI, if_neg h]
theorem pegsI_at {t : Bool} {sup dem : List Fl} {i : Nat} {L : List Int} (hi : i < dem.length) : pegsI t sup (dem.drop i) i L =
    (fillI t dem[i].1 i sup L 0 dem[i].2).1 ++ pegsI t sup (dem.drop (i + 1)) (i + 1) (fillI t dem[i].1 i sup L 0 dem[i].2).2 := by
  rw [List.drop_eq_getElem_cons hi, pegsI]
/-- The two halves of the program's inner loop: what is done, what is still to be done. -/
def Fills (t : Bool) (d : Int) (i : Nat) (sup : List Fl) (out0 out : List Pg) (L0 L : List Int) (q need : Int) (k : Nat) : Prop :=
  L.length = sup.length ∧ (∀ a ∈ L, 0 ≤ a ∧ a ≤ 1000000000) ∧ out ++ (fillI t d i (sup.drop k) (L.drop k) k need).1 = out0 ++ (fillI t d i sup L0 0 q).1 ∧ L.take k ++ (fillI t d i (sup.drop k) (L.drop k) k need).2 = (fillI t d i sup L0 0 q).2
section
variable {t : Bool} {d : Int} {i : Nat} {sup : List Fl} {out0 out : List Pg} {L0 L : List Int} {q need : Int} {k : Nat}
theorem Fills.start (hL : L0.length = sup.length) (hb : ∀ a ∈ L0, 0 ≤ a ∧ a ≤ 1000000000) : Fills t d i sup out0 out0 L0 L0 q q 0 := ⟨hL, hb, by simp, by simp⟩
theorem Fills.at_ (h : Fills t d i sup out0 out L0 L q need k) (hk : k < sup.length) : ∃ hL : k < L.length, 0 ≤ L[k] ∧ L[k] ≤ 1000000000 :=
  ⟨by rw [h.1]; exact hk, h.2.1 _ (List.getElem_mem (by rw [h.1]; exact hk))⟩
theorem Fills.skip (h : Fills t d i sup out0 out L0 L q need k) (hk : k < sup.length) (hL : k < L.length) (hs : min need L[k] = 0 ∨ (t = true ∧ d < sup[k].1)) : Fills t d i sup out0 out L0 L q need (k + 1) := by
  obtain ⟨h1, h2, h3, h4⟩ := h
  rw [fillI_skip hk hL hs] at h3 h4
  refine ⟨h1, h2, h3, ?_⟩
  rw [← h4, List.take_succ_eq_append_getElem hL, List.append_assoc]
  rfl
theorem Fills.take_ (h : Fills t d i sup out0 out L0 L q need k) (hk : k < sup.length) (hL : k < L.length) (hs : ¬ (min need L[k] = 0 ∨ (t = true ∧ d < sup[k].1))) (n : Int) (hn : min need L[k] = n) (h0 : 0 ≤ n) (h9 : n ≤ L[k]) :
    Fills t d i sup out0 (out ++ [((i : Int), (k : Int), n)]) L0 (L.set k (L[k] - n)) q (need - n) (k + 1) := by
  obtain ⟨h1, h2, h3, h4⟩ := h
  rw [fillI_take hk hL hs, hn] at h3 h4
  have e1 : (L.set k (L[k] - n)).drop (k + 1) = L.drop (k + 1) := by rw [List.drop_set_of_lt (by omega)]
  have e2 : (L.set k (L[k] - n)).take (k + 1) = L.take k ++ [L[k] - n] := by
    rw [List.take_succ_eq_append_getElem (by simp; exact hL), List.take_set_of_le (by omega)]; simp
  refine ⟨by simp [h1], fun a ha => ?_, ?_, ?_⟩
  · rcases List.mem_or_eq_of_mem_set ha with h | h
    · exact h2 a h
    · have := h2 _ (List.getElem_mem hL); omega
  · rw [e1, ← h3]; simp
  · rw [e1, e2, ← h4]; simp
theorem Fills.end_ (h : Fills t d i sup out0 out L0 L q need sup.length) : out = out0 ++ (fillI t d i sup L0 0 q).1 ∧ L = (fillI t d i sup L0 0 q).2 := by
  obtain ⟨h1, h2, h3, h4⟩ := h
  rw [List.drop_length, ← h1, List.drop_length, List.take_length] at h4
  rw [List.drop_length, fillI.eq_def] at h3
  rw [fillI.eq_def] at h4
  exact ⟨by simpa using h3, by simpa using h4⟩
theorem Fills.len {T : List Pg} {X : List Pg} (h : Fills t d i sup out0 out L0 L q need k) (hT : out0 ++ (fillI t d i sup L0 0 q).1 ++ X = T) (hl : T.length ≤ 1600) : out.length ≤ 1600 := by
  rw [← hT, ← h.2.2.1] at hl
  simp at hl; omega
end
set_option maxRecDepth 100000 in
set_option maxHeartbeats 4000000 in
theorem implPegs_any (A B : Option Addr) (n m c c2 : Nat) (dem sup : List Fl) (b : Bool) (w : World) (ha : FlowsIn w A n dem) (hm : FlowsIn w B m sup) :
    Calls Try.prog 79 #[.slice A n c, .slice B m c2, .bool b] w (PairRowsOf pgF 49 w (pegsOf (!b) dem sup)) := by
  have hb : Below w.heap.size w w := Below.refl _ _
  obtain rfl := ha.1
  obtain rfl := hm.1
  go_enter Try.func79, Try.ntmps79
  go_wp2_with fail
  refine (implAreFlows_any _ _ _ dem _ (ha.keep hb)).mono ?_
  rintro e u1 ⟨rfl, hs⟩
  replace hb := below_on hb hs
  clear hs
  cases g1 : areFlows dem
  · go_wp2_with fail
    go_ret2
    exact pairRowsOf_mk (l := []) (pegsOf_no (by simp [g1])) (RowVal.nil _ _) hb
  go_wp2_with fail
  refine (implAreFlows_any _ _ _ sup _ (hm.keep hb)).mono ?_
  rintro e u2 ⟨rfl, hs⟩
  replace hb := below_on hb hs
  clear hs
  cases g2 : areFlows sup
  · go_wp2_with fail
    go_ret2
    exact pairRowsOf_mk (l := []) (pegsOf_no (by simp [g2])) (RowVal.nil _ _) hb
  have hn1 := (areFlows_parts g1).2
  have hn2 := (areFlows_parts g2).2
  have HL := Lib.hid (pegsS_bd (t := !b) g1 g2)
  have HM := Lib.hid (areFlows_mem g1)
  have HS := Lib.hid (areFlows_mem g2)
  have HT0 := Lib.hid (pegsI_start (t := !b) g1 g2)
  have HY := Lib.hid (pegsOf_yes (t := !b) g1 g2)
  have hsz := hb.size
  have hb0 := hb.alloc hsz (.cells #[] 3)
  have hn0 : NumRow (u2.alloc (.cells #[] 3)) w.heap.size u2.heap.size 0 0 ((sup.take 0).map (·.2)) := numRow_empty rfl hsz
  go_wp2
  go_loopw [8, 29] (fun v i wr => ∃ (k g cc : Nat), k ≤ sup.length ∧ i = .int .i64 k ∧ v = .slice (some ⟨g, 0, none⟩) k cc ∧ NumRow wr w.heap.size g k cc ((sup.take k).map (·.2)) ∧ Below w.heap.size w wr) (fun _ i _ => sup.length - (intOf i).toNat)
  case atStart => exact ⟨0, _, 0, by omega, rfl, rfl, hn0, hb0⟩
  case round =>
    clear hn0 hb0 hb hsz
    obtain ⟨k, g, cc, hk, rfl, rfl, hnum, HR⟩ := hrel
    have hsz := HR.size
    by_cases hlt : k < sup.length
    · obtain ⟨bb, o, rfl, _, hc1, hc2⟩ := flow_at (hm.keep HR) hlt
      have HX : Hid ((sup.take k).map (·.2) ++ [sup[k].2] = (sup.take (k + 1)).map (·.2)) := by show _ = _; rw [List.take_succ_eq_append_getElem hlt, List.map_append]; rfl
      have hlen : ((sup.take k).map (·.2)).length ≤ 16777216 := by simp; omega
      go_wp2_with (at_builtin; refine wpList_append_num rfl _ _ rfl rfl (hnum.keep (below_alloc _ _)) hlen sup[k].2 (wr.heap.size + 1) _ (by simp) rfl (by simp; omega) ?_; intro g' c' w2 hnum2 hbl2 hgr2)
      rw [HX.out] at hnum2
      have HR2 := (HR.alloc hsz (.cells #[.int .i64 sup[k].1, .int .i64 sup[k].2] 51)).trans (hbl2 w.heap.size (Nat.le_refl _) (by simp; omega))
      go_roundw
      case rel => exact ⟨k + 1, g', c', by omega, by go_num, rfl, hnum2, HR2⟩
      case measure => simp [intOf]; omega
    · obtain rfl : k = sup.length := by omega
      rw [List.take_length] at hnum
      have hglt := hnum.lt
      have hnum0 := hnum.keep (below_alloc wr (.cells #[] 49))
      have hv0 : RowVal pgF 49 (wr.alloc (.cells #[] 49)) wr.heap.size (.slice (some ⟨wr.heap.size, 0, none⟩) 0 0) [] := empty_row rfl (Nat.le_refl _)
      have hR0 := HR.alloc hsz (.cells #[] 49)
      have hz0 : wr.heap.size ≤ (wr.alloc (.cells #[] 49)).heap.size := by simp
      have hLb : Hid ((sup.map (·.2)).length = sup.length ∧ ∀ a ∈ sup.map (·.2), 0 ≤ a ∧ a ≤ 1000000000) := ⟨by simp, fun a hx => by
        obtain ⟨f, hf, rfl⟩ := List.mem_map.1 hx
        have := (HS.out f hf).2
        omega⟩
      have HT1 : Hid ([] ++ pegsI (!b) sup (dem.drop 0) 0 (sup.map (·.2)) = pegsS (!b) sup dem 0 0 0) := by show _ = _; simpa using HT0.out
      go_wp2
      clear hnum
      have hw2 : w.heap.size ≤ wr.heap.size := hsz
      generalize wr.alloc (.cells #[] 49) = W0 at *
      generalize wr.heap.size = lo2 at *
      go_loopw [11, 42] (fun v ii wr => ∃ (i : Nat) (out : List Pg) (L : List Int), i ≤ dem.length ∧ ii = .int .i64 i ∧ Hid (L.length = sup.length ∧ ∀ a ∈ L, 0 ≤ a ∧ a ≤ 1000000000) ∧ Hid (out ++ pegsI (!b) sup (dem.drop i) i L = pegsS (!b) sup dem 0 0 0) ∧ NumRow wr w.heap.size g sup.length cc L ∧ RowVal pgF 49 wr lo2 v out ∧ Below w.heap.size w wr ∧ lo2 ≤ wr.heap.size) (fun _ ii _ => dem.length - (intOf ii).toNat)
      case atStart => exact ⟨0, [], sup.map (·.2), by omega, rfl, hLb, HT1, hnum0, hv0, hR0, hz0⟩
      case round =>
        clear hnum0 hv0 hR0 hz0 HR hLb HT1
        obtain ⟨i, out, L, hi, rfl, HLB, HT, hnum, hrow, HR, hlo⟩ := hrel
        by_cases hlt2 : i < dem.length
        · obtain ⟨bd, od, rfl, _, hd1, hd2⟩ := flow_at (ha.keep HR) hlt2
          obtain ⟨⟨q1, q2⟩, q3, q4⟩ := HM.out _ (List.getElem_mem hlt2)
          have hne0 := row_ne hrow (Nat.le_refl _)
          have hnum0 := hnum.keep (below_alloc wr (.cells #[.int .i64 dem[i].1, .int .i64 dem[i].2] 51))
          have hrow0 := hrow.alloc (.cells #[.int .i64 dem[i].1, .int .i64 dem[i].2] 51)
          have hR0 := HR.alloc (by omega) (.cells #[.int .i64 dem[i].1, .int .i64 dem[i].2] 51)
          have z0 : (wr.alloc (.cells #[.int .i64 dem[i].1, .int .i64 dem[i].2] 51)).cell? ⟨wr.heap.size, 0, none⟩ = some (.int .i64 dem[i].1) := by simp [go_sem]
          have hlo0 : lo2 ≤ (wr.alloc (.cells #[.int .i64 dem[i].1, .int .i64 dem[i].2] 51)).heap.size := by simp; omega
          have hHd0 : wr.heap.size < (wr.alloc (.cells #[.int .i64 dem[i].1, .int .i64 dem[i].2] 51)).heap.size := by simp
          have hHdlo : lo2 ≤ wr.heap.size := hlo
          have HE := Lib.hid (pegsI_at (t := !b) (sup := sup) (dem := dem) (i := i) (L := L) hlt2)
          have HF0 : Hid (Fills (!b) dem[i].1 i sup out out L L dem[i].2 dem[i].2 0) := Fills.start HLB.out.1 HLB.out.2
          have HLn : Hid (∀ out2 L2 need k, Fills (!b) dem[i].1 i sup out out2 L L2 dem[i].2 need k → out2.length ≤ 1600) := fun out2 L2 need k h => by
            have hT := HT.out
            rw [HE.out, ← List.append_assoc] at hT
            exact h.len hT HL.out
          go_wp2
          clear hnum hrow HR hlo
          generalize wr.alloc (.cells #[.int .i64 dem[i].1, .int .i64 dem[i].2] 51) = W0 at *
          generalize wr.heap.size = Hd at *
          go_loopw [11, 14, 51] (fun v nn kk wr => ∃ (k : Nat) (need : Int) (out2 : List Pg) (L2 : List Int), kk = .int .i64 k ∧ k ≤ sup.length ∧ nn = .int .i64 need ∧ 0 ≤ need ∧ need ≤ 1000000000 ∧ Hid (Fills (!b) dem[i].1 i sup out out2 L L2 dem[i].2 need k) ∧ NumRow wr w.heap.size g sup.length cc L2 ∧ RowVal pgF 49 wr lo2 v out2 ∧ Below w.heap.size w wr ∧ lo2 ≤ wr.heap.size ∧ Hd < wr.heap.size ∧ Hid (v.ownBlock ≠ some Hd) ∧ wr.cell? ⟨Hd, 0, none⟩ = some (.int .i64 dem[i].1)) (fun _ _ kk _ => sup.length - (intOf kk).toNat)
          case atStart => exact ⟨0, dem[i].2, out, L, rfl, by omega, rfl, by omega, by omega, HF0, hnum0, hrow0, hR0, hlo0, hHd0, hne0, z0⟩
          case round =>
            clear hnum0 hrow0 hR0 hlo0 hHd0 hne0 z0 HF0
            obtain ⟨k, need, out2, L2, rfl, hk, rfl, l0, l1, HF, hnum, hrow, HR, hlo, hHd, HOB, z0⟩ := hrel
            have hol := HLn.out _ _ _ _ HF.out
            by_cases hks : k < sup.length
            · obtain ⟨hL, a0, a1⟩ := HF.out.at_ hks
              obtain ⟨bs, os, rfl, _, hs1, hs2⟩ := flow_at (hm.keep HR) hks
              have hca := hnum.cell hL
              have hw3 := World.cell?_alloc_lt wr (.cells #[.int .i64 sup[k].1, .int .i64 sup[k].2] 51) ⟨g, k, none⟩ (by show g < _; omega)
              have hw4 := World.cell?_alloc_lt wr (.cells #[.int .i64 sup[k].1, .int .i64 sup[k].2] 51) ⟨Hd, 0, none⟩ (by show Hd < _; omega)
              rw [hca] at hw3
              rw [z0] at hw4
              clear hca z0
              have hca := hw3
              have z0 := hw4
              clear hw3 hw4
              have x0 : (wr.alloc (.cells #[.int .i64 sup[k].1, .int .i64 sup[k].2] 51)).cell? ⟨wr.heap.size, 0, none⟩ = some (.int .i64 sup[k].1) := by simp [go_sem]
              have hnum1 := hnum.keep (below_alloc wr (.cells #[.int .i64 sup[k].1, .int .i64 sup[k].2] 51))
              have hrow1 := hrow.alloc (.cells #[.int .i64 sup[k].1, .int .i64 sup[k].2] 51)
              have HR1 := HR.alloc (by omega) (.cells #[.int .i64 sup[k].1, .int .i64 sup[k].2] 51)
              have hlo1 : lo2 ≤ (wr.alloc (.cells #[.int .i64 sup[k].1, .int .i64 sup[k].2] 51)).heap.size := by simp; omega
              have hHd1 : Hd < (wr.alloc (.cells #[.int .i64 sup[k].1, .int .i64 sup[k].2] 51)).heap.size := by simp; omega
              have hglo : g < lo2 := hglt.2
              have hgw : w.heap.size ≤ g := hglt.1
              have y0 : 0 ≤ sup[k].1 := (HS.out _ (List.getElem_mem hks)).1.1
              obtain ⟨nn, hnn⟩ : ∃ nn, (if L2[k] < need then L2[k] else need) = nn := ⟨_, rfl⟩
              have n0 : 0 ≤ nn := by rw [← hnn]; split <;> omega
              have n1 : nn ≤ L2[k] := by rw [← hnn]; split <;> omega
              have n2 : nn ≤ need := by rw [← hnn]; split <;> omega
              have HNN : Hid (min need L2[k] = nn) := by show _ = _; rw [← hnn]; split <;> omega
              generalize hax : L2[k] = a at hca a0 a1 hnn n1
              clear hrow HR hnum hlo hHd
              by_cases hz : nn = 0
              · have e1 : (nn == 0) = true := by rw [beq_iff_eq]; exact hz
                have HZ := Lib.hid hz
                clear hz hax
                have HF2 := Lib.hid (HF.out.skip hks hL (by rw [HNN.out]; exact .inl HZ.out))
                go_wp2_with fail
                go_roundw
                case rel => exact ⟨k + 1, need, out2, L2, by go_num, by omega, rfl, by omega, by omega, HF2, hnum1, hrow1, HR1, by omega, by omega, HOB.out, z0⟩
                case measure => simp [intOf]; omega
              have e1 : (nn == 0) = false := by rw [beq_eq_false_iff_ne]; exact hz
              have HZ := Lib.hid hz
              clear hz
              cases b
              · by_cases hday : dem[i].1 < sup[k].1
                · clear hax
                  have hz3 : decide (dem[i].1 < sup[k].1) = true := by simpa using hday
                  have HF2 := Lib.hid (HF.out.skip hks hL (by rw [HNN.out]; exact .inr ⟨rfl, hday⟩))
                  go_wp2_with fail
                  go_roundw
                  case rel => exact ⟨k + 1, need, out2, L2, by go_num, by omega, rfl, by omega, by omega, HF2, hnum1, hrow1, HR1, by omega, by omega, HOB.out, z0⟩
                  case measure => simp [intOf]; omega
                · have hz3 : decide (dem[i].1 < sup[k].1) = false := by simpa using hday
                  subst hax
                  have HF2 := Lib.hid (HF.out.take_ hks hL (by rw [HNN.out]; exact fun h => h.elim HZ.out (fun h => hday h.2)) nn HNN.out n0 n1)
                  have m2 : (wr.alloc (.cells #[.int .i64 sup[k].1, .int .i64 sup[k].2] 51)).frozen? ⟨g, k, none⟩ = false := hnum1.frozen k
                  have hnum2 := hnum1.set k (L2[k] - nn)
                  have hrow2 := hrow1.far (p := ⟨g, k, none⟩) hglo (.int .i64 (L2[k] - nn))
                  have HR2 := HR1.setCell (p := ⟨g, k, none⟩) hgw (.int .i64 (L2[k] - nn))
                  have z2 := (cell_far (w := wr.alloc (.cells #[.int .i64 sup[k].1, .int .i64 sup[k].2] 51)) (g := g) (i := k) (b := Hd) (j := 0) (v := .int .i64 (L2[k] - nn)) (by omega)).trans z0
                  have hz2 : lo2 ≤ ((wr.alloc (.cells #[.int .i64 sup[k].1, .int .i64 sup[k].2] 51)).setCell ⟨g, k, none⟩ (.int .i64 (L2[k] - nn))).heap.size := by simpa using hlo1
                  have hz4 : Hd < ((wr.alloc (.cells #[.int .i64 sup[k].1, .int .i64 sup[k].2] 51)).setCell ⟨g, k, none⟩ (.int .i64 (L2[k] - nn))).heap.size := by simpa using hHd1
                  go_wp2_with (at_builtin; refine wpList_append_at pegElem rfl _ _ rfl rfl (l := out2) hrow2 (by omega) ((i : Int), (k : Int), nn) #[.int .i64 i, .int .i64 k, .int .i64 nn] rfl (by simp [Value.oneCell']) (wr.heap.size + 1) _ (by simp) rfl hz2 ?_; intro v' w3 hrow3 hbl3 hgr3 hfar3 hob3)
                  have hB3 := hbl3 lo2 (Nat.le_refl _) hz2
                  have hnum3 := hnum2.keepB hB3 hglo
                  have z3 := (hfar3 ⟨Hd, 0, none⟩ hz4 HOB.out).trans z2
                  have hob4 := hob3 Hd hz4 HOB.out
                  have hsz3 : wr.heap.size + 1 < w3.heap.size := by simpa using hgr3
                  have HR3 : Below w.heap.size w w3 := HR2.trans (hB3.mono (by omega))
                  go_roundw
                  case rel => exact ⟨k + 1, need - nn, out2 ++ [((i : Int), (k : Int), nn)], L2.set k (L2[k] - nn), by go_num, by omega, rfl, by omega, by omega, HF2, hnum3, hrow3, HR3, by omega, by omega, hob4, z3⟩
                  case measure => simp [intOf]; omega
              · subst hax
                have HF2 := Lib.hid (HF.out.take_ hks hL (by rw [HNN.out]; exact fun h => h.elim HZ.out (fun h => by cases h.1)) nn HNN.out n0 n1)
                have m2 : (wr.alloc (.cells #[.int .i64 sup[k].1, .int .i64 sup[k].2] 51)).frozen? ⟨g, k, none⟩ = false := hnum1.frozen k
                have hnum2 := hnum1.set k (L2[k] - nn)
                have hrow2 := hrow1.far (p := ⟨g, k, none⟩) hglo (.int .i64 (L2[k] - nn))
                have HR2 := HR1.setCell (p := ⟨g, k, none⟩) hgw (.int .i64 (L2[k] - nn))
                have z2 := (cell_far (w := wr.alloc (.cells #[.int .i64 sup[k].1, .int .i64 sup[k].2] 51)) (g := g) (i := k) (b := Hd) (j := 0) (v := .int .i64 (L2[k] - nn)) (by omega)).trans z0
                have hz2 : lo2 ≤ ((wr.alloc (.cells #[.int .i64 sup[k].1, .int .i64 sup[k].2] 51)).setCell ⟨g, k, none⟩ (.int .i64 (L2[k] - nn))).heap.size := by simpa using hlo1
                have hz4 : Hd < ((wr.alloc (.cells #[.int .i64 sup[k].1, .int .i64 sup[k].2] 51)).setCell ⟨g, k, none⟩ (.int .i64 (L2[k] - nn))).heap.size := by simpa using hHd1
                go_wp2_with (at_builtin; refine wpList_append_at pegElem rfl _ _ rfl rfl (l := out2) hrow2 (by omega) ((i : Int), (k : Int), nn) #[.int .i64 i, .int .i64 k, .int .i64 nn] rfl (by simp [Value.oneCell']) (wr.heap.size + 1) _ (by simp) rfl hz2 ?_; intro v' w3 hrow3 hbl3 hgr3 hfar3 hob3)
                have hB3 := hbl3 lo2 (Nat.le_refl _) hz2
                have hnum3 := hnum2.keepB hB3 hglo
                have z3 := (hfar3 ⟨Hd, 0, none⟩ hz4 HOB.out).trans z2
                have hob4 := hob3 Hd hz4 HOB.out
                have hsz3 : wr.heap.size + 1 < w3.heap.size := by simpa using hgr3
                have HR3 : Below w.heap.size w w3 := HR2.trans (hB3.mono (by omega))
                go_roundw
                case rel => exact ⟨k + 1, need - nn, out2 ++ [((i : Int), (k : Int), nn)], L2.set k (L2[k] - nn), by go_num, by omega, rfl, by omega, by omega, HF2, hnum3, hrow3, HR3, by omega, by omega, hob4, z3⟩
                case measure => simp [intOf]; omega
            · obtain rfl : k = sup.length := by omega
              obtain ⟨f1, f2⟩ := HF.out.end_
              have HT2 : Hid (out2 ++ pegsI (!b) sup (dem.drop (i + 1)) (i + 1) L2 = pegsS (!b) sup dem 0 0 0) := by
                have hT := HT.out
                rw [HE.out, ← List.append_assoc, ← f1, ← f2] at hT
                exact hT
              have HLB2 : Hid (L2.length = sup.length ∧ ∀ a ∈ L2, 0 ≤ a ∧ a ≤ 1000000000) := ⟨HF.out.1, HF.out.2.1⟩
              clear f1 f2
              go_wp2
              go_roundw
              case rel => exact ⟨i + 1, out2, L2, by omega, by go_num, HLB2, HT2, hnum, hrow, HR, hlo⟩
              case measure => simp [intOf]; omega
        · obtain rfl : i = dem.length := by omega
          have h := HT.out
          rw [List.drop_length, pegsI, List.append_nil] at h
          have HX := Lib.hid h
          clear h
          go_wp2
          go_ret2
          rw [HX.out] at hrow
          exact pairRowsOf_mk HY.out (own_lower hrow hw2) HR
end Go.Proofs.Ytdofhdelcendeaa
