/- Part 35 of the texts of this claim: The walks of l1Sum and TakenUpTo; The walk of the law FnExactTakenUpTo: for every input it returns true, and no memory that was there is written. -/
import Derived.Test.YtlnkofnfgemfdaaGreatTu32
import Derived.Test.YtlnkofnfgemfdaaGreatTu34
import Derived.Test.YtlnkofnfgemfdaaGreatTu25
import Derived.Test.YtlnkofnfgemfdaaGreatTu4
/- The walks of l1Sum and TakenUpTo. -/
namespace Go.Proofs.YtlnkofnfgemfdaaGreat
open Go.RowKit
theorem IntsIn.take {w : World} {A : Option Addr} {n k : Nat} {l : List Int} (h : IntsIn w A n l) (hk : k ≤ n) : IntsIn w A k (l.take k) := by
  obtain ⟨h1, h2⟩ := h
  have e : RowsIn intF w A n l := ⟨h1, by rw [intF_flat]; exact h2⟩
  have e2 := e.take hk
  exact ⟨e2.1, by have := e2.2; rw [intF_flat] at this; exact this⟩
theorem day_wf {day : Int} (h : (Lit.int .i64 day).wf = true) : -9223372036854775808 ≤ day ∧ day ≤ 9223372036854775807 := by
  simp [Lit.wf, IntKind.min, IntKind.max, IntKind.signed, IntKind.bits] at h
  omega
theorem takenUpTo_no {p : Pt} {ds : List Dm} {l : List Pl} {item : ByteArray} (day : Int) (h : takes p ds l item = false) : takenUpTo p ds l item day = (0, false) := by unfold takenUpTo; rw [if_neg (by rw [h]; decide)]
theorem takenUpTo_yes {p : Pt} {ds : List Dm} {l : List Pl} {item : ByteArray} (day : Int) (h : takes p ds l item = true) : takenUpTo p ds l item day = (prefS (takenOn p ds l item).1 (cutD day), true) := by unfold takenUpTo; rw [if_pos h]
theorem takes_eq {p : Pt} {ds : List Dm} {l : List Pl} {item : ByteArray} {b : Bool} (h1 : arePlanned p l = true) (h2 : areDemands ds = true) (h3 : 0 ≤ findIt p.it item) (h4 : (takenOn p ds l item).2 = b) : takes p ds l item = b := by unfold takes; rw [h1, h2, decide_eq_true h3, h4]; rfl
theorem pref_take (M : List Int) (k j : Nat) (h : j ≤ k) : prefS (M.take k) j = prefS M j := by unfold prefS; rw [List.take_take, Nat.min_eq_left h]
set_option maxRecDepth 100000 in
theorem l1Sum_pref (A : Option Addr) (n c : Nat) (l : List Int) (w : World) (hl : IntsIn w A n l) (hb : ∀ k, -9000000000000000000 ≤ prefS l k ∧ prefS l k ≤ 9000000000000000000) :
    Calls Tryz.prog 90 #[.slice A n c] w fun e w' => e = .returned (.int .i64 (prefS l l.length)) ∧ w = w' := by
  have hn := hl.len
  obtain rfl := hl.1
  have HB := Lib.hid hb
  clear hb
  go_enter Tryz.func90, Tryz.ntmps90
  go_wp2
  go_loop [3, 4] (fun s i => ∃ k : Nat, k ≤ l.length ∧ i = .int .i64 k ∧ s = .int .i64 (prefS l k)) (fun _ i => l.length - (intOf i).toNat)
  case atStart => exact ⟨0, by omega, rfl, by simp [prefS]⟩
  case round =>
    obtain ⟨k, hk, rfl, rfl⟩ := hrel
    by_cases hlt : k < l.length
    · obtain ⟨b, o, rfl, hbl, hc⟩ := hl.at_ hlt
      have HS : Hid (prefS l (k + 1) = prefS l k + l[k]) := by show _ = _; rw [pref_succ l k hlt, List.getD_eq_getElem?_getD, List.getElem?_eq_getElem hlt]; rfl
      have h2 := HB.out (k + 1)
      rw [HS.out] at h2
      generalize prefS l k = s at *
      have hw : IntKind.i64.wrap (s + l[k]) = s + l[k] := IntWalk.i64_in _ (by omega)
      go_wp2
      go_round
      case rel => exact ⟨k + 1, by omega, by go_num, by rw [HS.out]⟩
      case measure => simp [intOf]; omega
    · obtain rfl : k = l.length := by omega
      go_wp2
      go_ret
      exact ⟨rfl, rfl⟩
set_option maxRecDepth 100000 in
set_option maxHeartbeats 4000000 in
theorem specTakenUpTo_any (r : PtR) (p : Pt) (A B : Option Addr) (n c m d : Nat) (ds : List Dm) (l : List Pl) (item : ByteArray) (day : Int) (w : World) (hp : PlantIn w r p) (hok : okPt p) (hds : DemandsIn w A n ds) (hokd : ∀ x ∈ ds, okDm x) (hnc : n ≤ c) (hl : PlannedsIn w B m l) (hokl : ∀ x ∈ l, okPl x) (hday : -9223372036854775808 ≤ day ∧ day ≤ 9223372036854775807) :
    Calls Tryz.prog 27 #[.agg #[.slice r.i.a r.i.n r.i.c, .slice r.l.a r.l.n r.l.c, .slice r.w.a r.w.n r.w.c, .slice r.e.a r.e.n r.e.c, .slice r.p.a r.p.n r.p.c, .slice r.s.a r.s.n r.s.c, .slice r.q.a r.q.n r.q.c], .slice A n c, .slice B m d, .string item, .int .i64 day] w (PairI w (takenUpTo p ds l item day)) := by
  obtain ⟨⟨a0, n0, c0⟩, ⟨a1, n1, c1⟩, ⟨a2, n2, c2⟩, ⟨a3, n3, c3⟩, ⟨a4, n4, c4⟩, ⟨a5, n5, c5⟩, ⟨a6, n6, c6⟩⟩ := r
  have HP := Lib.hid hp
  have HQ0 := Lib.hid hp.it
  dsimp only at HQ0 ⊢
  clear hp
  have HO := Lib.hid hok
  have HOD := Lib.hid hokd
  have HOL := Lib.hid hokl
  clear hok hokd hokl
  have hb := below_alloc w (.cells #[.slice a0 n0 c0, .slice a1 n1 c1, .slice a2 n2 c2, .slice a3 n3 c3, .slice a4 n4 c4, .slice a5 n5 c5, .slice a6 n6 c6] 48)
  have B0 : BoxOf (w.alloc (.cells #[.slice a0 n0 c0, .slice a1 n1 c1, .slice a2 n2 c2, .slice a3 n3 c3, .slice a4 n4 c4, .slice a5 n5 c5, .slice a6 n6 c6] 48)) w.heap.size [.slice a0 n0 c0, .slice a1 n1 c1, .slice a2 n2 c2, .slice a3 n3 c3, .slice a4 n4 c4, .slice a5 n5 c5, .slice a6 n6 c6] := boxOf_alloc w #[.slice a0 n0 c0, .slice a1 n1 c1, .slice a2 n2 c2, .slice a3 n3 c3, .slice a4 n4 c4, .slice a5 n5 c5, .slice a6 n6 c6] 48
  go_enter Tryz.func27, Tryz.ntmps27
  go_wp2_with fail
  generalize (w.alloc (.cells #[.slice a0 n0 c0, .slice a1 n1 c1, .slice a2 n2 c2, .slice a3 n3 c3, .slice a4 n4 c4, .slice a5 n5 c5, .slice a6 n6 c6] 48)) = V at *
  refine (specArePlanned_any ⟨⟨a0, n0, c0⟩, ⟨a1, n1, c1⟩, ⟨a2, n2, c2⟩, ⟨a3, n3, c3⟩, ⟨a4, n4, c4⟩, ⟨a5, n5, c5⟩, ⟨a6, n6, c6⟩⟩ p _ _ _ l _ (HP.out.keep hb) HO.out (hl.keep hb) HOL.out).mono ?_
  rintro e w1 ⟨rfl, hs⟩
  replace hb := below_on hb hs
  replace B0 := B0.keep hs
  clear hs
  obtain ⟨b0, b1, b2, b3, b4, b5, b6, bl⟩ := B0.seven
  cases g1 : arePlanned p l
  · go_wp2_with fail
    go_ret2
    exact pairI_mk (takenUpTo_no _ (by unfold takes; rw [g1]; rfl)) hb
  go_wp2_with fail
  refine (specAreDemands_any _ _ _ ds _ (hds.keep hb) HOD.out).mono ?_
  rintro e w2 ⟨rfl, hs⟩
  clear b0 b1 b2 b3 b4 b5 b6 bl
  replace hb := below_on hb hs
  replace B0 := B0.keep hs
  clear hs
  obtain ⟨b0, b1, b2, b3, b4, b5, b6, bl⟩ := B0.seven
  cases g2 : areDemands ds
  · go_wp2_with fail
    go_ret2
    exact pairI_mk (takenUpTo_no _ (by unfold takes; rw [g1, g2]; rfl)) hb
  go_wp2_with fail
  refine (specFindItem_any _ _ _ p.it _ _ (HQ0.out.keep hb)).mono ?_
  rintro e w3 ⟨rfl, rfl⟩
  by_cases g3 : 0 ≤ findIt p.it item
  case neg =>
    have g4 : findIt p.it item < 0 := by omega
    go_wp2_with fail
    go_ret2
    exact pairI_mk (takenUpTo_no _ (by unfold takes; rw [g1, g2, decide_eq_false (by omega)]; rfl)) hb
  have g4 : ¬ findIt p.it item < 0 := by omega
  go_wp2_with fail
  clear b0 b1 b2 b3 b4 b5 b6 bl
  refine (specTaken_any ⟨⟨a0, n0, c0⟩, ⟨a1, n1, c1⟩, ⟨a2, n2, c2⟩, ⟨a3, n3, c3⟩, ⟨a4, n4, c4⟩, ⟨a5, n5, c5⟩, ⟨a6, n6, c6⟩⟩ p _ _ _ _ _ _ ds l item _ (HP.out.keep hb) (hds.keep hb) (hl.keep hb) g1 g2).mono ?_
  rintro e w4 ⟨g, M, rfl, hA, hdy, hM, hs⟩
  replace hb := below_on hb hs
  replace B0 := B0.keep hs
  cases g5 : (takenOn p ds l item).2
  · go_wp2_with fail
    go_ret2
    exact pairI_mk (takenUpTo_no _ (takes_eq g1 g2 g3 g5)) hb
  have HF : Hid (takenUpTo p ds l item day = (prefS M (cutD day), true)) := by show _ = _; rw [takenUpTo_yes _ (takes_eq g1 g2 g3 g5), hM g5]
  have hml := hdy.len
  have hin : IntsIn w4 (some ⟨g, 0, none⟩) 1000 M := hA.ints (by omega)
  have HPB : Hid (∀ k j, -9000000000000000000 ≤ prefS (M.take k) j ∧ prefS (M.take k) j ≤ 9000000000000000000) := fun k j => by
    have hd := hdy.sum
    rcases Nat.lt_or_ge k j with h | h
    · have h1 := pref_le M hdy.pos k
      have : prefS (M.take k) j = prefS M k := by unfold prefS; rw [List.take_take, Nat.min_eq_right (by omega)]
      omega
    · have h1 := pref_le M hdy.pos j
      rw [pref_take M k j h]; omega
  have HEQ : Hid (∀ k, k ≤ 1000 → prefS (M.take k) (M.take k).length = prefS M k) := fun k hk => by
    rw [List.length_take, Nat.min_eq_left (by omega), pref_take M k k (Nat.le_refl _)]
  have HIN := Lib.hid (fun k (hk : k ≤ 1000) => hin.take (k := k) hk)
  clear g1 g2 g3 g4 g5 hM hA hs hin hdy
  rcases Int.lt_or_le day 0 with d1 | d1
  · have e1 : cutD day = 0 := by unfold cutD; omega
    rw [e1] at HF
    have d2 : ¬ (999 : Int) < day := by omega
    have d3 : day < 999 := by omega
    have d4 : day + 1 ≤ 0 := by omega
    have d5 : ¬ 0 < day + 1 := by omega
    have hw : IntKind.i64.wrap (day + 1) = day + 1 := IntWalk.i64_in _ (by omega)
    have hk := HIN.out 0 (by omega)
    have h9 := HEQ.out 0 (by omega)
    go_wp2_with fail
    refine (l1Sum_pref _ _ _ (M.take 0) _ hk (fun j => HPB.out 0 j)).mono ?_
    rintro e w5 ⟨rfl, rfl⟩
    rw [h9]
    go_wp2_with fail
    go_ret2
    exact pairI_mk HF.out hb
  rcases Int.lt_or_le 999 day with d2 | d2
  · have e1 : cutD day = 1000 := by unfold cutD; omega
    rw [e1] at HF
    have hk := HIN.out 1000 (by omega)
    have h9 := HEQ.out 1000 (by omega)
    go_wp2_with fail
    refine (l1Sum_pref _ _ _ (M.take 1000) _ hk (fun j => HPB.out 1000 j)).mono ?_
    rintro e w5 ⟨rfl, rfl⟩
    rw [h9]
    go_wp2_with fail
    go_ret2
    exact pairI_mk HF.out hb
  · obtain ⟨dn, rfl⟩ : ∃ dn : Nat, day = (dn : Int) := ⟨day.toNat, by omega⟩
    have e1 : cutD (dn : Int) = dn + 1 := by unfold cutD; omega
    rw [e1] at HF
    have d3 : ¬ (999 : Int) < (dn : Int) := by omega
    have d4 : (0 : Int) < (dn : Int) + 1 := by omega
    have d5 : ¬ (dn : Int) + 1 < 0 := by omega
    have d6 : (dn : Int) + 1 ≤ 1000 := by omega
    have d7 : (0 : Int) ≤ (dn : Int) + 1 := by omega
    have d8 : ((dn : Int) + 1).toNat = dn + 1 := by omega
    have hw : IntKind.i64.wrap ((dn : Int) + 1) = (dn : Int) + 1 := IntWalk.i64_in _ (by omega)
    have hk := HIN.out (dn + 1) (by omega)
    have h9 := HEQ.out (dn + 1) (by omega)
    go_wp2_with fail
    refine (l1Sum_pref _ _ _ (M.take (dn + 1)) _ hk (fun j => HPB.out (dn + 1) j)).mono ?_
    rintro e w5 ⟨rfl, rfl⟩
    rw [h9]
    go_wp2_with fail
    go_ret2
    exact pairI_mk HF.out hb
set_option maxRecDepth 100000 in
set_option maxHeartbeats 4000000 in
theorem implTakenUpTo_any (r : PtR) (p : Pt) (A B : Option Addr) (n c m d : Nat) (ds : List Dm) (l : List Pl) (item : ByteArray) (day : Int) (w : World) (hp : PlantIn w r p) (hok : okPt p) (hds : DemandsIn w A n ds) (hokd : ∀ x ∈ ds, okDm x) (hnc : n ≤ c) (hl : PlannedsIn w B m l) (hokl : ∀ x ∈ l, okPl x) (hday : -9223372036854775808 ≤ day ∧ day ≤ 9223372036854775807) :
    Calls Tryz.prog 28 #[.agg #[.slice r.i.a r.i.n r.i.c, .slice r.l.a r.l.n r.l.c, .slice r.w.a r.w.n r.w.c, .slice r.e.a r.e.n r.e.c, .slice r.p.a r.p.n r.p.c, .slice r.s.a r.s.n r.s.c, .slice r.q.a r.q.n r.q.c], .slice A n c, .slice B m d, .string item, .int .i64 day] w (PairI w (takenUpTo p ds l item day)) := by
  obtain ⟨⟨a0, n0, c0⟩, ⟨a1, n1, c1⟩, ⟨a2, n2, c2⟩, ⟨a3, n3, c3⟩, ⟨a4, n4, c4⟩, ⟨a5, n5, c5⟩, ⟨a6, n6, c6⟩⟩ := r
  have HP := Lib.hid hp
  have HQ0 := Lib.hid hp.it
  dsimp only at HQ0 ⊢
  clear hp
  have HO := Lib.hid hok
  have HOD := Lib.hid hokd
  have HOL := Lib.hid hokl
  clear hok hokd hokl
  have hb := below_alloc w (.cells #[.slice a0 n0 c0, .slice a1 n1 c1, .slice a2 n2 c2, .slice a3 n3 c3, .slice a4 n4 c4, .slice a5 n5 c5, .slice a6 n6 c6] 48)
  have B0 : BoxOf (w.alloc (.cells #[.slice a0 n0 c0, .slice a1 n1 c1, .slice a2 n2 c2, .slice a3 n3 c3, .slice a4 n4 c4, .slice a5 n5 c5, .slice a6 n6 c6] 48)) w.heap.size [.slice a0 n0 c0, .slice a1 n1 c1, .slice a2 n2 c2, .slice a3 n3 c3, .slice a4 n4 c4, .slice a5 n5 c5, .slice a6 n6 c6] := boxOf_alloc w #[.slice a0 n0 c0, .slice a1 n1 c1, .slice a2 n2 c2, .slice a3 n3 c3, .slice a4 n4 c4, .slice a5 n5 c5, .slice a6 n6 c6] 48
  go_enter Tryz.func28, Tryz.ntmps28
  go_wp2_with fail
  generalize (w.alloc (.cells #[.slice a0 n0 c0, .slice a1 n1 c1, .slice a2 n2 c2, .slice a3 n3 c3, .slice a4 n4 c4, .slice a5 n5 c5, .slice a6 n6 c6] 48)) = V at *
  refine (implArePlanned_any ⟨⟨a0, n0, c0⟩, ⟨a1, n1, c1⟩, ⟨a2, n2, c2⟩, ⟨a3, n3, c3⟩, ⟨a4, n4, c4⟩, ⟨a5, n5, c5⟩, ⟨a6, n6, c6⟩⟩ p _ _ _ l _ (HP.out.keep hb) HO.out (hl.keep hb) HOL.out).mono ?_
  rintro e w1 ⟨rfl, hs⟩
  replace hb := below_on hb hs
  replace B0 := B0.keep hs
  clear hs
  obtain ⟨b0, b1, b2, b3, b4, b5, b6, bl⟩ := B0.seven
  cases g1 : arePlanned p l
  · go_wp2_with fail
    go_ret2
    exact pairI_mk (takenUpTo_no _ (by unfold takes; rw [g1]; rfl)) hb
  go_wp2_with fail
  refine (implAreDemands_any _ _ _ ds _ (hds.keep hb) HOD.out hnc).mono ?_
  rintro e w2 ⟨rfl, hs⟩
  clear b0 b1 b2 b3 b4 b5 b6 bl
  replace hb := below_on hb hs
  replace B0 := B0.keep hs
  clear hs
  obtain ⟨b0, b1, b2, b3, b4, b5, b6, bl⟩ := B0.seven
  cases g2 : areDemands ds
  · go_wp2_with fail
    go_ret2
    exact pairI_mk (takenUpTo_no _ (by unfold takes; rw [g1, g2]; rfl)) hb
  go_wp2_with fail
  refine (implFindItem_any _ _ _ p.it _ _ (HQ0.out.keep hb)).mono ?_
  rintro e w3 ⟨rfl, hs⟩
  clear b0 b1 b2 b3 b4 b5 b6 bl
  replace hb := below_on hb hs
  replace B0 := B0.keep hs
  clear hs
  obtain ⟨b0, b1, b2, b3, b4, b5, b6, bl⟩ := B0.seven
  by_cases g3 : 0 ≤ findIt p.it item
  case neg =>
    have g4 : findIt p.it item < 0 := by omega
    go_wp2_with fail
    go_ret2
    exact pairI_mk (takenUpTo_no _ (by unfold takes; rw [g1, g2, decide_eq_false (by omega)]; rfl)) hb
  have g4 : ¬ findIt p.it item < 0 := by omega
  go_wp2_with fail
  clear b0 b1 b2 b3 b4 b5 b6 bl
  have HDY := Lib.hid (takenOn_days (item := item) g1 g2)
  refine (implTaken_any ⟨⟨a0, n0, c0⟩, ⟨a1, n1, c1⟩, ⟨a2, n2, c2⟩, ⟨a3, n3, c3⟩, ⟨a4, n4, c4⟩, ⟨a5, n5, c5⟩, ⟨a6, n6, c6⟩⟩ p _ _ _ _ _ _ ds l item _ (HP.out.keep hb) HO.out (hds.keep hb) (hl.keep hb) g1 g2).mono ?_
  rintro e w4 ⟨A4, n4', c4', rfl, hM, hs⟩
  replace hb := below_on hb hs
  replace B0 := B0.keep hs
  cases g5 : (takenOn p ds l item).2
  · go_wp2_with fail
    go_ret2
    exact pairI_mk (takenUpTo_no _ (takes_eq g1 g2 g3 g5)) hb
  have HF : Hid (takenUpTo p ds l item day = (prefS (takenOn p ds l item).1 (cutD day), true)) := takenUpTo_yes _ (takes_eq g1 g2 g3 g5)
  obtain ⟨g, rfl, rfl, rfl, hA⟩ := hM g5
  generalize (takenOn p ds l item).1 = M at *
  have hml := HDY.out.len
  obtain ⟨D, hD⟩ : ∃ D : Int, (if (999 : Int) < day then 999 else day) = D := ⟨_, rfl⟩
  have hD1 : (D ≤ 999 ∧ cutD day = (max 0 (D + 1)).toNat) := by
    unfold cutD
    split at hD <;> omega
  have hc1000 : cutD day ≤ 1000 := by omega
  have HPB : Hid (∀ j, 0 ≤ prefS M j ∧ prefS M j ≤ 60000000000000000) := fun j => by
    have h1 := pref_le M HDY.out.pos j
    have := HDY.out.sum
    omega
  have HDD := Lib.hid hD
  have HD1 := Lib.hid hD1
  have HC := Lib.hid hc1000
  clear hD1 hc1000 hD
  clear g1 g2 g3 g4 g5 hM hs hday
  go_wp2_with fail
  go_loop [14, 15] (fun s i => ∃ k : Nat, k ≤ cutD day ∧ i = .int .i64 k ∧ s = .int .i64 (prefS M k)) (fun _ i => cutD day - (intOf i).toNat)
  case atStart => exact ⟨0, by omega, rfl, by simp [prefS]⟩
  case round =>
    obtain ⟨k, hk, rfl, rfl⟩ := hrel
    by_cases hlt : (k : Int) ≤ D
    · have hkl : k < M.length := by have := HD1.out; omega
      have hk1000 : k < 1000 := by omega
      have hkc : k + 1 ≤ cutD day := by have := HD1.out; omega
      have HS := Lib.hid (pref_succ M k hkl)
      have h2 := HPB.out (k + 1)
      rw [HS.out] at h2
      have cK := hA.cellN hk1000
      have k2 : (k : Int) < 1000 := by omega
      have h3 := HPB.out k
      generalize prefS M k = s at *
      generalize M.getD k 0 = x at *
      have hw : IntKind.i64.wrap (s + x) = s + x := IntWalk.i64_in _ (by omega)
      have hD := HDD.out
      go_wp2_with fail
      go_round
      case rel => exact ⟨k + 1, hkc, by go_num, by rw [HS.out]⟩
      case measure => simp [intOf]; omega
    · have hk2 : k = cutD day := by have := HD1.out; omega
      have hlt2 : D < (k : Int) := by omega
      have hD := HDD.out
      subst hk2
      go_wp2_with fail
      go_ret2
      exact pairI_mk HF.out hb
theorem specTakenUpTo_row (r : PtR) (p : Pt) (A : Option Addr) (n c : Nat) (ds : List Dm) (B : Option Addr) (m d : Nat) (l : List Pl) (item : ByteArray) (day : Int) (w : World) (hp : PlantIn w r p) (hok : okPt p) (hds : DemandsIn w A n ds) (hokd : ∀ x ∈ ds, okDm x) (hl : PlannedsIn w B m l) (hokl : ∀ x ∈ l, okPl x) (_hs : item.size ≤ 9223372036854775807) (wf : (Lit.int .i64 day).wf = true) (hnc : n ≤ c) :
    Calls Tryz.prog 27 #[.agg #[.slice r.i.a r.i.n r.i.c, .slice r.l.a r.l.n r.l.c, .slice r.w.a r.w.n r.w.c, .slice r.e.a r.e.n r.e.c, .slice r.p.a r.p.n r.p.c, .slice r.s.a r.s.n r.s.c, .slice r.q.a r.q.n r.q.c], .slice A n c, .slice B m d, .string item, .int .i64 day] w (PairI w (takenUpTo p ds l item day)) := specTakenUpTo_any r p A B n c m d ds l item day w hp hok hds hokd hnc hl hokl (day_wf wf)
theorem implTakenUpTo_row (r : PtR) (p : Pt) (A : Option Addr) (n c : Nat) (ds : List Dm) (B : Option Addr) (m d : Nat) (l : List Pl) (item : ByteArray) (day : Int) (w : World) (hp : PlantIn w r p) (hok : okPt p) (hds : DemandsIn w A n ds) (hokd : ∀ x ∈ ds, okDm x) (hl : PlannedsIn w B m l) (hokl : ∀ x ∈ l, okPl x) (_hs : item.size ≤ 9223372036854775807) (wf : (Lit.int .i64 day).wf = true) (hnc : n ≤ c) :
    Calls Tryz.prog 28 #[.agg #[.slice r.i.a r.i.n r.i.c, .slice r.l.a r.l.n r.l.c, .slice r.w.a r.w.n r.w.c, .slice r.e.a r.e.n r.e.c, .slice r.p.a r.p.n r.p.c, .slice r.s.a r.s.n r.s.c, .slice r.q.a r.q.n r.q.c], .slice A n c, .slice B m d, .string item, .int .i64 day] w (PairI w (takenUpTo p ds l item day)) := implTakenUpTo_any r p A B n c m d ds l item day w hp hok hds hokd hnc hl hokl (day_wf wf)
end Go.Proofs.YtlnkofnfgemfdaaGreat
/- The walk of the law FnExactTakenUpTo: for every input it returns true, and no memory that was there is written. -/
namespace Go.Proofs.YtlnkofnfgemfdaaGreat
open Go.RowKit
set_option maxRecDepth 100000 in
set_option maxHeartbeats 4000000 in
theorem lawTakenUpTo {w : World} (r : PtR) (p : Pt) (hpre : PlantPre w r p) (A0 : Option Addr) (n0 c0 : Nat) (l0 : List Dm) (hl0 : n0 ≤ 1048576 → DemandsIn w A0 n0 l0 ∧ ∀ x ∈ l0, okDm x) (hn0 : n0 ≤ 9223372036854775807) (A1 : Option Addr) (n1 c1 : Nat) (l1 : List Pl) (hl1 : n1 ≤ 1048576 → PlannedsIn w A1 n1 l1 ∧ ∀ x ∈ l1, okPl x) (hn1 : n1 ≤ 9223372036854775807) (a2 : ByteArray) (_wf2 : a2.size ≤ maxLen) (a3 : Int) (_wf3 : (Lit.int .i64 a3).wf = true) :
    Calls Tryz.prog 5 #[.agg #[.slice r.i.a r.i.n r.i.c, .slice r.l.a r.l.n r.l.c, .slice r.w.a r.w.n r.w.c, .slice r.e.a r.e.n r.e.c, .slice r.p.a r.p.n r.p.c, .slice r.s.a r.s.n r.s.c, .slice r.q.a r.q.n r.q.c], .slice A0 n0 c0, .slice A1 n1 c1, .string a2, .int .i64 a3] w fun e w' => e = .returned (.bool true) ∧ Below w.heap.size w w' := by
  have hb := below_alloc w (.cells #[.slice r.i.a r.i.n r.i.c, .slice r.l.a r.l.n r.l.c, .slice r.w.a r.w.n r.w.c, .slice r.e.a r.e.n r.e.c, .slice r.p.a r.p.n r.p.c, .slice r.s.a r.s.n r.s.c, .slice r.q.a r.q.n r.q.c] 32)
  have B0 : BoxOf (w.alloc (.cells #[.slice r.i.a r.i.n r.i.c, .slice r.l.a r.l.n r.l.c, .slice r.w.a r.w.n r.w.c, .slice r.e.a r.e.n r.e.c, .slice r.p.a r.p.n r.p.c, .slice r.s.a r.s.n r.s.c, .slice r.q.a r.q.n r.q.c] 32)) w.heap.size [.slice r.i.a r.i.n r.i.c, .slice r.l.a r.l.n r.l.c, .slice r.w.a r.w.n r.w.c, .slice r.e.a r.e.n r.e.c, .slice r.p.a r.p.n r.p.c, .slice r.s.a r.s.n r.s.c, .slice r.q.a r.q.n r.q.c] := boxOf_alloc w #[.slice r.i.a r.i.n r.i.c, .slice r.l.a r.l.n r.l.c, .slice r.w.a r.w.n r.w.c, .slice r.e.a r.e.n r.e.c, .slice r.p.a r.p.n r.p.c, .slice r.s.a r.s.n r.s.c, .slice r.q.a r.q.n r.q.c] 32
  by_cases big2 : 1048576 < a2.size
  · go_enter Tryz.func5, Tryz.ntmps5
    go_wp2_with fail
    go_ret
    exact ⟨rfl, hb⟩
  have bg2 : a2.size ≤ 1048576 := by omega
  clear big2
  go_enter Tryz.func5, Tryz.ntmps5
  go_wp2_with fail
  generalize (w.alloc (.cells #[.slice r.i.a r.i.n r.i.c, .slice r.l.a r.l.n r.l.c, .slice r.w.a r.w.n r.w.c, .slice r.e.a r.e.n r.e.c, .slice r.p.a r.p.n r.p.c, .slice r.s.a r.s.n r.s.c, .slice r.q.a r.q.n r.q.c] 32)) = V at *
  refine (szPlant_any r p _ _ w hpre hb (by omega) (by omega)).mono ?_
  rintro e V1 ⟨x, rfl, x0, x1, hin, hs⟩
  replace hb := below_on hb hs
  replace B0 := B0.keep hs
  clear hs hpre
  by_cases neg : x < 0
  · go_wp2_with fail
    go_ret
    exact ⟨rfl, hb⟩
  have x2 : 0 ≤ x := by omega
  obtain ⟨hp, hok⟩ := hin x2
  clear hin neg x0
  go_wp2_with fail
  by_cases big0 : x < (n0 : Int)
  · refine (szDemandS_big _ _ _ _ _ big0 (by omega) (by omega)).mono ?_
    rintro e w1 ⟨rfl, rfl⟩
    go_wp2_with fail
    go_ret
    exact ⟨rfl, hb⟩
  obtain ⟨hi0, ok0⟩ := hl0 (by omega)
  have len0 := hi0.len
  have bg0 : (n0 : Int) ≤ x := by omega
  clear hl0 big0
  refine (szDemandS_any _ _ _ l0 _ _ (by omega) (by omega) (hi0.keep hb) ok0).mono ?_
  rintro e u0 ⟨y0, rfl, ra0, zz0, hs⟩
  replace hb := below_on hb hs
  replace B0 := B0.keep hs
  clear hs
  by_cases neg0 : y0 < 0
  · go_wp2_with fail
    go_ret
    exact ⟨rfl, hb⟩
  have z0 : 0 ≤ y0 := by omega
  clear neg0 ra0
  have HO0 := Lib.hid ok0
  clear ok0
  go_wp2_with fail
  by_cases big1 : y0 < (n1 : Int)
  · refine (szPlannedS_big _ _ _ _ _ big1 (by omega) (by omega)).mono ?_
    rintro e w1 ⟨rfl, rfl⟩
    go_wp2_with fail
    go_ret
    exact ⟨rfl, hb⟩
  obtain ⟨hi1, ok1⟩ := hl1 (by omega)
  have len1 := hi1.len
  have bg1 : (n1 : Int) ≤ y0 := by omega
  clear hl1 big1
  refine (szPlannedS_any _ _ _ l1 _ _ (by omega) (by omega) (hi1.keep hb) ok1).mono ?_
  rintro e u1 ⟨y1, rfl, ra1, zz1, hs⟩
  replace hb := below_on hb hs
  replace B0 := B0.keep hs
  clear hs
  by_cases neg1 : y1 < 0
  · go_wp2_with fail
    go_ret
    exact ⟨rfl, hb⟩
  have z1 : 0 ≤ y1 := by omega
  clear neg1 ra1
  have HO1 := Lib.hid ok1
  clear ok1
  obtain ⟨b0, b1, b2, b3, b4, b5, b6, bl⟩ := B0.seven
  go_wp2_with fail
  clear b0 b1 b2 b3 b4 b5 b6 bl
  refine (toPlant_any r p _ (hp.keep hb)).mono ?_
  rintro e V2 ⟨pa, rfl, hpa, hs⟩
  replace hb := below_on hb hs
  replace B0 := B0.keep hs
  clear hs
  go_wp2_with fail
  refine (toDemandS_any _ _ _ l0 _ (hi0.keep hb)).mono ?_
  rintro e V20 ⟨Xpa0, rfl, hpa0, hs⟩
  replace hpa0 := hpa0.rows len0
  replace hb := below_on hb hs
  replace B0 := B0.keep hs
  replace hpa := hpa.keep hs
  clear hs
  go_wp2_with fail
  refine (toPlannedS_any _ _ _ l1 _ (hi1.keep hb)).mono ?_
  rintro e V21 ⟨Xpa1, rfl, hpa1, hs⟩
  replace hpa1 := hpa1.rows len1
  replace hb := below_on hb hs
  replace B0 := B0.keep hs
  replace hpa := hpa.keep hs
  replace hpa0 := hpa0.keep hs
  clear hs
  go_wp2_with fail
  refine (specTakenUpTo_row pa p _ _ _ l0 _ _ _ l1 a2 a3 _ hpa hok hpa0 HO0.out hpa1 HO1.out (by unfold maxLen at _wf2; omega) _wf3 (Nat.le_refl _)).mono ?_
  rintro e V3 ⟨rfl, hs⟩
  replace hb := below_on hb hs
  replace B0 := B0.keep hs
  clear hs hpa hpa0 hpa1
  obtain ⟨b0, b1, b2, b3, b4, b5, b6, bl⟩ := B0.seven
  go_wp2_with fail
  clear b0 b1 b2 b3 b4 b5 b6 bl
  refine (toPlant_any r p _ (hp.keep hb)).mono ?_
  rintro e V4 ⟨xa, rfl, hxa, hs⟩
  replace hb := below_on hb hs
  replace B0 := B0.keep hs
  clear hs
  have hs := below_alloc V4 (.cells #[.slice xa.i.a xa.i.n xa.i.c, .slice xa.l.a xa.l.n xa.l.c, .slice xa.w.a xa.w.n xa.w.c, .slice xa.e.a xa.e.n xa.e.c, .slice xa.p.a xa.p.n xa.p.c, .slice xa.s.a xa.s.n xa.s.c, .slice xa.q.a xa.q.n xa.q.c] 48)
  have B1 : BoxOf (V4.alloc (.cells #[.slice xa.i.a xa.i.n xa.i.c, .slice xa.l.a xa.l.n xa.l.c, .slice xa.w.a xa.w.n xa.w.c, .slice xa.e.a xa.e.n xa.e.c, .slice xa.p.a xa.p.n xa.p.c, .slice xa.s.a xa.s.n xa.s.c, .slice xa.q.a xa.q.n xa.q.c] 48)) V4.heap.size [.slice xa.i.a xa.i.n xa.i.c, .slice xa.l.a xa.l.n xa.l.c, .slice xa.w.a xa.w.n xa.w.c, .slice xa.e.a xa.e.n xa.e.c, .slice xa.p.a xa.p.n xa.p.c, .slice xa.s.a xa.s.n xa.s.c, .slice xa.q.a xa.q.n xa.q.c] := boxOf_alloc V4 #[.slice xa.i.a xa.i.n xa.i.c, .slice xa.l.a xa.l.n xa.l.c, .slice xa.w.a xa.w.n xa.w.c, .slice xa.e.a xa.e.n xa.e.c, .slice xa.p.a xa.p.n xa.p.c, .slice xa.s.a xa.s.n xa.s.c, .slice xa.q.a xa.q.n xa.q.c] 48
  go_wp2_with fail
  generalize (V4.alloc (.cells #[.slice xa.i.a xa.i.n xa.i.c, .slice xa.l.a xa.l.n xa.l.c, .slice xa.w.a xa.w.n xa.w.c, .slice xa.e.a xa.e.n xa.e.c, .slice xa.p.a xa.p.n xa.p.c, .slice xa.s.a xa.s.n xa.s.c, .slice xa.q.a xa.q.n xa.q.c] 48)) = V5 at *
  replace hb := below_on hb hs
  replace B0 := B0.keep hs
  replace hxa := hxa.keep hs
  clear hs
  generalize V4.heap.size = NX at *
  go_wp2_with fail
  refine (toDemandS_any _ _ _ l0 _ (hi0.keep hb)).mono ?_
  rintro e V50 ⟨Xxa0, rfl, hxa0, hs⟩
  replace hxa0 := hxa0.rows len0
  replace hb := below_on hb hs
  replace B0 := B0.keep hs
  replace hxa := hxa.keep hs
  replace B1 := B1.keep hs
  clear hs
  go_wp2_with fail
  refine (toPlannedS_any _ _ _ l1 _ (hi1.keep hb)).mono ?_
  rintro e V51 ⟨Xxa1, rfl, hxa1, hs⟩
  replace hxa1 := hxa1.rows len1
  replace hb := below_on hb hs
  replace B0 := B0.keep hs
  replace hxa := hxa.keep hs
  replace B1 := B1.keep hs
  replace hxa0 := hxa0.keep hs
  clear hs
  obtain ⟨e0, e1, e2, e3, e4, e5, e6, el⟩ := B1.seven
  go_wp2_with fail
  clear e0 e1 e2 e3 e4 e5 e6 el
  refine (implTakenUpTo_row xa p _ _ _ l0 _ _ _ l1 a2 a3 _ hxa hok hxa0 HO0.out hxa1 HO1.out (by unfold maxLen at _wf2; omega) _wf3 (Nat.le_refl _)).mono ?_
  rintro e V6 ⟨rfl, hs⟩
  replace hb := below_on hb hs
  replace B0 := B0.keep hs
  replace hxa := hxa.keep hs
  replace B1 := B1.keep hs
  replace hxa0 := hxa0.keep hs
  replace hxa1 := hxa1.keep hs
  clear hs
  try unfold pairV
  go_wp2_with fail
  obtain ⟨b0, b1, b2, b3, b4, b5, b6, bl⟩ := B0.seven
  obtain ⟨e0, e1, e2, e3, e4, e5, e6, el⟩ := B1.seven
  refine wp_region_held_drew (S := (fun w' => w'.cell? ⟨w.heap.size, 0, none⟩ = some (.slice r.i.a r.i.n r.i.c) ∧ w'.cell? ⟨w.heap.size, 1, none⟩ = some (.slice r.l.a r.l.n r.l.c) ∧ w'.cell? ⟨w.heap.size, 2, none⟩ = some (.slice r.w.a r.w.n r.w.c) ∧ w'.cell? ⟨w.heap.size, 3, none⟩ = some (.slice r.e.a r.e.n r.e.c) ∧ w'.cell? ⟨w.heap.size, 4, none⟩ = some (.slice r.p.a r.p.n r.p.c) ∧ w'.cell? ⟨w.heap.size, 5, none⟩ = some (.slice r.s.a r.s.n r.s.c) ∧ w'.cell? ⟨w.heap.size, 6, none⟩ = some (.slice r.q.a r.q.n r.q.c) ∧ w'.cell? ⟨NX, 0, none⟩ = some (.slice xa.i.a xa.i.n xa.i.c) ∧ w'.cell? ⟨NX, 1, none⟩ = some (.slice xa.l.a xa.l.n xa.l.c) ∧ w'.cell? ⟨NX, 2, none⟩ = some (.slice xa.w.a xa.w.n xa.w.c) ∧ w'.cell? ⟨NX, 3, none⟩ = some (.slice xa.e.a xa.e.n xa.e.c) ∧ w'.cell? ⟨NX, 4, none⟩ = some (.slice xa.p.a xa.p.n xa.p.c) ∧ w'.cell? ⟨NX, 5, none⟩ = some (.slice xa.s.a xa.s.n xa.s.c) ∧ w'.cell? ⟨NX, 6, none⟩ = some (.slice xa.q.a xa.q.n xa.q.c) ∧ w.heap.size < w'.heap.size ∧ NX < w'.heap.size ∧ Below V6.heap.size V6 w' ∧ Below w.heap.size w w')) (by kernel_rfl) ⟨b0, b1, b2, b3, b4, b5, b6, e0, e1, e2, e3, e4, e5, e6, bl, el, (Below.refl _ _).drew, hb.drew⟩ (fun hHeld => ?_)
  refine held_on 0 (some 72) rfl rfl (by kernel_rfl) (by kernel_rfl) (by kernel_rfl) (fun _ _ _ h => h) (by rfl) hHeld (v := ?v10) ?y10 ?r10
  case y10 => intro w hSw; (try dsimp only at hSw); go_simp; (try with_reducible rfl)
  try simp only [Act.put, List.setIfInBounds_toArray, List.set_cons_zero, List.set_cons_succ]
  refine held_on 1 (some 73) rfl rfl (by kernel_rfl) (by kernel_rfl) (by kernel_rfl) (fun _ _ _ h => h) (by rfl) hHeld (v := ?v11) ?y11 ?r11
  case y11 => intro w hSw; (try dsimp only at hSw); go_simp; (try with_reducible rfl)
  try simp only [Act.put, List.setIfInBounds_toArray, List.set_cons_zero, List.set_cons_succ]
  refine wpAnyH_ready (rs := [2]) (by kernel_rfl) (by simp) ?_
  refine AllReadyH.cons rfl (fun K hK => ?_) AllReadyH.nil
  go_simp
  go_at_call 10; refine (toPlant_any r p _ (hp.keep (by obtain ⟨y_p0, y_p1, y_p2, y_p3, y_p4, y_p5, y_p6, y_x0, y_x1, y_x2, y_x3, y_x4, y_x5, y_x6, y_l, y_k, y_V, y_B⟩ := hHeld; exact y_B))).mono ?_; rintro e w3 ⟨r9, rfl, hp9, hb3⟩; go_simp
  refine hK.out _ _ ?_ (fun hHeld => ?_)
  · obtain ⟨y_p0, y_p1, y_p2, y_p3, y_p4, y_p5, y_p6, y_x0, y_x1, y_x2, y_x3, y_x4, y_x5, y_x6, y_l, y_k, y_V, y_B⟩ := hHeld; exact ⟨(hb3.cell y_l).trans y_p0, (hb3.cell y_l).trans y_p1, (hb3.cell y_l).trans y_p2, (hb3.cell y_l).trans y_p3, (hb3.cell y_l).trans y_p4, (hb3.cell y_l).trans y_p5, (hb3.cell y_l).trans y_p6, (hb3.cell y_k).trans y_x0, (hb3.cell y_k).trans y_x1, (hb3.cell y_k).trans y_x2, (hb3.cell y_k).trans y_x3, (hb3.cell y_k).trans y_x4, (hb3.cell y_k).trans y_x5, (hb3.cell y_k).trans y_x6, Nat.lt_of_lt_of_le y_l hb3.size, Nat.lt_of_lt_of_le y_k hb3.size, below_on y_V hb3, below_on y_B hb3⟩
  clear hK K
  try simp only [Act.put, List.setIfInBounds_toArray, List.set_cons_zero, List.set_cons_succ]
  refine wpAnyH_ready (rs := [3]) (by kernel_rfl) (by simp) ?_
  refine AllReadyH.cons rfl (fun K hK => ?_) AllReadyH.nil
  go_simp
  go_at_call 14; refine (eqPlant_yes xa r9 p _ (hxa.keep (by obtain ⟨y_p0, y_p1, y_p2, y_p3, y_p4, y_p5, y_p6, y_x0, y_x1, y_x2, y_x3, y_x4, y_x5, y_x6, y_l, y_k, y_V, y_B⟩ := hHeld; exact y_V)) hp9).mono ?_; rintro e w4 ⟨rfl, hb3⟩; go_simp
  refine hK.out _ _ ?_ (fun hHeld => ?_)
  · obtain ⟨y_p0, y_p1, y_p2, y_p3, y_p4, y_p5, y_p6, y_x0, y_x1, y_x2, y_x3, y_x4, y_x5, y_x6, y_l, y_k, y_V, y_B⟩ := hHeld; exact ⟨(hb3.cell y_l).trans y_p0, (hb3.cell y_l).trans y_p1, (hb3.cell y_l).trans y_p2, (hb3.cell y_l).trans y_p3, (hb3.cell y_l).trans y_p4, (hb3.cell y_l).trans y_p5, (hb3.cell y_l).trans y_p6, (hb3.cell y_k).trans y_x0, (hb3.cell y_k).trans y_x1, (hb3.cell y_k).trans y_x2, (hb3.cell y_k).trans y_x3, (hb3.cell y_k).trans y_x4, (hb3.cell y_k).trans y_x5, (hb3.cell y_k).trans y_x6, Nat.lt_of_lt_of_le y_l hb3.size, Nat.lt_of_lt_of_le y_k hb3.size, below_on y_V hb3, below_on y_B hb3⟩
  clear hK K
  try simp only [Act.put, List.setIfInBounds_toArray, List.set_cons_zero, List.set_cons_succ]
  refine held_on 4 (some 76) rfl rfl (by kernel_rfl) (by kernel_rfl) (by kernel_rfl) (fun _ _ _ h => h) (by rfl) hHeld (v := ?v12) ?y12 ?r12
  case y12 => intro w hSw; (try dsimp only at hSw); go_simp; (try with_reducible rfl)
  try simp only [Act.put, List.setIfInBounds_toArray, List.set_cons_zero, List.set_cons_succ]
  refine wpAnyH_done (by kernel_rfl) ?_ _
  obtain ⟨y_p0, y_p1, y_p2, y_p3, y_p4, y_p5, y_p6, y_x0, y_x1, y_x2, y_x3, y_x4, y_x5, y_x6, y_l, y_k, y_V, y_B⟩ := hHeld
  replace B1 := y_V
  have hb7 := y_B
  clear y_p0 y_p1 y_p2 y_p3 y_p4 y_p5 y_p6 y_x0 y_x1 y_x2 y_x3 y_x4 y_x5 y_x6 y_l y_k
  have hy0 := hxa0.keep y_V
  have hy1 := hxa1.keep y_V
  go_wp2_with fail
  refine (toDemandS_any _ _ _ l0 _ (hi0.keep hb7)).mono ?_
  rintro e w50 ⟨Z0, rfl, hz0, hs⟩
  replace hz0 := hz0.rows len0
  have hc0 := below_on hb7 hs
  replace hy0 := hy0.keep hs
  replace hy1 := hy1.keep hs
  clear hs
  go_wp2_with fail
  refine (eqDemandS_yes _ _ _ _ _ _ l0 _ hy0 hz0).mono ?_
  rintro e w60 ⟨rfl, hs⟩
  have hd0 := below_on hc0 hs
  replace hy1 := hy1.keep hs
  clear hs hz0 hy0
  go_wp2_with fail
  refine (toPlannedS_any _ _ _ l1 _ (hi1.keep hd0)).mono ?_
  rintro e w51 ⟨Z1, rfl, hz1, hs⟩
  replace hz1 := hz1.rows len1
  have hc1 := below_on hd0 hs
  replace hy1 := hy1.keep hs
  clear hs
  go_wp2_with fail
  refine (eqPlannedS_yes _ _ _ _ _ _ l1 _ hy1 hz1).mono ?_
  rintro e w61 ⟨rfl, hs⟩
  have hd1 := below_on hc1 hs
  clear hs hz1 hy1
  go_wp2_with fail
  go_ret
  exact ⟨rfl, hd1⟩
end Go.Proofs.YtlnkofnfgemfdaaGreat
