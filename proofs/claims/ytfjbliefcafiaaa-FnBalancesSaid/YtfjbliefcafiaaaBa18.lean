/- Part 18 of the texts of this claim: The walks of l1Sum and TakenUpTo; The walk of l18Come. -/
import Derived.Test.YtfjbliefcafiaaaBa16
import Derived.Test.YtfjbliefcafiaaaBa17
import Derived.Test.YtfjbliefcafiaaaBa12
/- The walks of l1Sum and TakenUpTo. -/
namespace Go.Proofs.Ytfjbliefcafiaaa
open Go.RowKit
theorem IntsIn.take {w : World} {A : Option Addr} {n k : Nat} {l : List Int} (h : IntsIn w A n l) (hk : k ≤ n) : IntsIn w A k (l.take k) := by
  obtain ⟨h1, h2⟩ := h
  have e : RowsIn intF w A n l := ⟨h1, by rw [intF_flat]; exact h2⟩
  have e2 := e.take hk
  exact ⟨e2.1, by have := e2.2; rw [intF_flat] at this; exact this⟩
theorem takenUpTo_no {p : Pt} {ds : List Dm} {l : List Pl} {item : ByteArray} (day : Int) (h : takes p ds l item = false) : takenUpTo p ds l item day = (0, false) := by unfold takenUpTo; rw [if_neg (by rw [h]; decide)]
theorem takenUpTo_yes {p : Pt} {ds : List Dm} {l : List Pl} {item : ByteArray} (day : Int) (h : takes p ds l item = true) : takenUpTo p ds l item day = (prefS (takenOn p ds l item).1 (cutD day), true) := by unfold takenUpTo; rw [if_pos h]
theorem takes_eq {p : Pt} {ds : List Dm} {l : List Pl} {item : ByteArray} {b : Bool} (h1 : arePlanned p l = true) (h2 : areDemands ds = true) (h3 : 0 ≤ findIt p.it item) (h4 : (takenOn p ds l item).2 = b) : takes p ds l item = b := by unfold takes; rw [h1, h2, decide_eq_true h3, h4]; rfl
theorem pref_take (M : List Int) (k j : Nat) (h : j ≤ k) : prefS (M.take k) j = prefS M j := by unfold prefS; rw [List.take_take, Nat.min_eq_left h]
set_option maxRecDepth 100000 in
theorem l1Sum_pref (A : Option Addr) (n c : Nat) (l : List Int) (w : World) (hl : IntsIn w A n l) (hb : ∀ k, -9000000000000000000 ≤ prefS l k ∧ prefS l k ≤ 9000000000000000000) :
    Calls Try.prog 31 #[.slice A n c] w fun e w' => e = .returned (.int .i64 (prefS l l.length)) ∧ w = w' := by
  have hn := hl.len
  obtain rfl := hl.1
  have HB := Lib.hid hb
  clear hb
  go_enter Try.func31, Try.ntmps31
  go_wp2
  go_loop [3, 4] (fun s i => ∃ k : Nat, k ≤ l.length ∧ i = .int .i64 k ∧ s = .int .i64 (prefS l k)) (fun _ i => l.length - (intOf i).toNat)
  case atStart => exact ⟨0, by omega, rfl, by simp [prefS]⟩
  case round =>
    obtain ⟨k, hk, rfl, rfl⟩ := hrel
    by_cases hlt : k < l.length
    · obtain ⟨b, o, rfl, hbl, hc⟩ := hl.at_ hlt
      have HS : Hid (prefS l (k + 1) = prefS l k + l[k]) := by show _ = _; rw [pref_succ l k hlt, List.getD_eq_getElem?_getD, List.getElem?_eq_getElem hlt]; rfl
      have h2 := HB.out (k + 1)
      rw [HS.out] at h2
      generalize prefS l k = s at *
      have hw : IntKind.i64.wrap (s + l[k]) = s + l[k] := IntWalk.i64_in _ (by omega)
      go_wp2
      go_round
      case rel => exact ⟨k + 1, by omega, by go_num, by rw [HS.out]⟩
      case measure => simp [intOf]; omega
    · obtain rfl : k = l.length := by omega
      go_wp2
      go_ret
      exact ⟨rfl, rfl⟩
set_option maxRecDepth 100000 in
set_option maxHeartbeats 4000000 in
theorem specTakenUpTo_any (r : PtR) (p : Pt) (A B : Option Addr) (n c m d : Nat) (ds : List Dm) (l : List Pl) (item : ByteArray) (day : Int) (w : World) (hp : PlantIn w r p) (hok : okPt p) (hds : DemandsIn w A n ds) (hokd : ∀ x ∈ ds, okDm x) (_hnc : n ≤ c) (hl : PlannedsIn w B m l) (hokl : ∀ x ∈ l, okPl x) (hday : -9223372036854775808 ≤ day ∧ day ≤ 9223372036854775807) :
    Calls Try.prog 8 #[.agg #[.slice r.i.a r.i.n r.i.c, .slice r.l.a r.l.n r.l.c, .slice r.w.a r.w.n r.w.c, .slice r.e.a r.e.n r.e.c, .slice r.p.a r.p.n r.p.c, .slice r.s.a r.s.n r.s.c, .slice r.q.a r.q.n r.q.c], .slice A n c, .slice B m d, .string item, .int .i64 day] w (PairI w (takenUpTo p ds l item day)) := by
  obtain ⟨⟨a0, n0, c0⟩, ⟨a1, n1, c1⟩, ⟨a2, n2, c2⟩, ⟨a3, n3, c3⟩, ⟨a4, n4, c4⟩, ⟨a5, n5, c5⟩, ⟨a6, n6, c6⟩⟩ := r
  have HP := Lib.hid hp
  have HQ0 := Lib.hid hp.it
  dsimp only at HQ0 ⊢
  clear hp
  have HO := Lib.hid hok
  have HOD := Lib.hid hokd
  have HOL := Lib.hid hokl
  clear hok hokd hokl
  have hb := below_alloc w (.cells #[.slice a0 n0 c0, .slice a1 n1 c1, .slice a2 n2 c2, .slice a3 n3 c3, .slice a4 n4 c4, .slice a5 n5 c5, .slice a6 n6 c6] 34)
  have B0 : BoxOf (w.alloc (.cells #[.slice a0 n0 c0, .slice a1 n1 c1, .slice a2 n2 c2, .slice a3 n3 c3, .slice a4 n4 c4, .slice a5 n5 c5, .slice a6 n6 c6] 34)) w.heap.size [.slice a0 n0 c0, .slice a1 n1 c1, .slice a2 n2 c2, .slice a3 n3 c3, .slice a4 n4 c4, .slice a5 n5 c5, .slice a6 n6 c6] := boxOf_alloc w #[.slice a0 n0 c0, .slice a1 n1 c1, .slice a2 n2 c2, .slice a3 n3 c3, .slice a4 n4 c4, .slice a5 n5 c5, .slice a6 n6 c6] 34
  go_enter Try.func8, Try.ntmps8
  go_wp2_with fail
  generalize (w.alloc (.cells #[.slice a0 n0 c0, .slice a1 n1 c1, .slice a2 n2 c2, .slice a3 n3 c3, .slice a4 n4 c4, .slice a5 n5 c5, .slice a6 n6 c6] 34)) = V at *
  refine (specArePlanned_any ⟨⟨a0, n0, c0⟩, ⟨a1, n1, c1⟩, ⟨a2, n2, c2⟩, ⟨a3, n3, c3⟩, ⟨a4, n4, c4⟩, ⟨a5, n5, c5⟩, ⟨a6, n6, c6⟩⟩ p _ _ _ l _ (HP.out.keep hb) HO.out (hl.keep hb) HOL.out).mono ?_
  rintro e w1 ⟨rfl, hs⟩
  replace hb := below_on hb hs
  replace B0 := B0.keep hs
  clear hs
  obtain ⟨b0, b1, b2, b3, b4, b5, b6, bl⟩ := B0.seven
  cases g1 : arePlanned p l
  · go_wp2_with fail
    go_ret2
    exact pairI_mk (takenUpTo_no _ (by unfold takes; rw [g1]; rfl)) hb
  go_wp2_with fail
  refine (specAreDemands_any _ _ _ ds _ (hds.keep hb) HOD.out).mono ?_
  rintro e w2 ⟨rfl, hs⟩
  clear b0 b1 b2 b3 b4 b5 b6 bl
  replace hb := below_on hb hs
  replace B0 := B0.keep hs
  clear hs
  obtain ⟨b0, b1, b2, b3, b4, b5, b6, bl⟩ := B0.seven
  cases g2 : areDemands ds
  · go_wp2_with fail
    go_ret2
    exact pairI_mk (takenUpTo_no _ (by unfold takes; rw [g1, g2]; rfl)) hb
  go_wp2_with fail
  refine (specFindItem_any _ _ _ p.it _ _ (HQ0.out.keep hb)).mono ?_
  rintro e w3 ⟨rfl, rfl⟩
  by_cases g3 : 0 ≤ findIt p.it item
  case neg =>
    have g4 : findIt p.it item < 0 := by omega
    go_wp2_with fail
    go_ret2
    exact pairI_mk (takenUpTo_no _ (by unfold takes; rw [g1, g2, decide_eq_false (by omega)]; rfl)) hb
  have g4 : ¬ findIt p.it item < 0 := by omega
  go_wp2_with fail
  clear b0 b1 b2 b3 b4 b5 b6 bl
  refine (specTaken_any ⟨⟨a0, n0, c0⟩, ⟨a1, n1, c1⟩, ⟨a2, n2, c2⟩, ⟨a3, n3, c3⟩, ⟨a4, n4, c4⟩, ⟨a5, n5, c5⟩, ⟨a6, n6, c6⟩⟩ p _ _ _ _ _ _ ds l item _ (HP.out.keep hb) (hds.keep hb) (hl.keep hb) g1 g2).mono ?_
  rintro e w4 ⟨g, M, rfl, hA, hdy, hM, hs⟩
  replace hb := below_on hb hs
  replace B0 := B0.keep hs
  cases g5 : (takenOn p ds l item).2
  · go_wp2_with fail
    go_ret2
    exact pairI_mk (takenUpTo_no _ (takes_eq g1 g2 g3 g5)) hb
  have HF : Hid (takenUpTo p ds l item day = (prefS M (cutD day), true)) := by show _ = _; rw [takenUpTo_yes _ (takes_eq g1 g2 g3 g5), hM g5]
  have hml := hdy.len
  have hin : IntsIn w4 (some ⟨g, 0, none⟩) 1000 M := hA.ints (by omega)
  have HPB : Hid (∀ k j, -9000000000000000000 ≤ prefS (M.take k) j ∧ prefS (M.take k) j ≤ 9000000000000000000) := fun k j => by
    have hd := hdy.sum
    rcases Nat.lt_or_ge k j with h | h
    · have h1 := pref_le M hdy.pos k
      have : prefS (M.take k) j = prefS M k := by unfold prefS; rw [List.take_take, Nat.min_eq_right (by omega)]
      omega
    · have h1 := pref_le M hdy.pos j
      rw [pref_take M k j h]; omega
  have HEQ : Hid (∀ k, k ≤ 1000 → prefS (M.take k) (M.take k).length = prefS M k) := fun k hk => by
    rw [List.length_take, Nat.min_eq_left (by omega), pref_take M k k (Nat.le_refl _)]
  have HIN := Lib.hid (fun k (hk : k ≤ 1000) => hin.take (k := k) hk)
  clear g1 g2 g3 g4 g5 hM hA hs hin hdy
  rcases Int.lt_or_le day 0 with d1 | d1
  · have e1 : cutD day = 0 := by unfold cutD; omega
    rw [e1] at HF
    have d2 : ¬ (999 : Int) < day := by omega
    have d3 : day < 999 := by omega
    have d4 : day + 1 ≤ 0 := by omega
    have d5 : ¬ 0 < day + 1 := by omega
    have hw : IntKind.i64.wrap (day + 1) = day + 1 := IntWalk.i64_in _ (by omega)
    have hk := HIN.out 0 (by omega)
    have h9 := HEQ.out 0 (by omega)
    go_wp2_with fail
    refine (l1Sum_pref _ _ _ (M.take 0) _ hk (fun j => HPB.out 0 j)).mono ?_
    rintro e w5 ⟨rfl, rfl⟩
    rw [h9]
    go_wp2_with fail
    go_ret2
    exact pairI_mk HF.out hb
  rcases Int.lt_or_le 999 day with d2 | d2
  · have e1 : cutD day = 1000 := by unfold cutD; omega
    rw [e1] at HF
    have hk := HIN.out 1000 (by omega)
    have h9 := HEQ.out 1000 (by omega)
    go_wp2_with fail
    refine (l1Sum_pref _ _ _ (M.take 1000) _ hk (fun j => HPB.out 1000 j)).mono ?_
    rintro e w5 ⟨rfl, rfl⟩
    rw [h9]
    go_wp2_with fail
    go_ret2
    exact pairI_mk HF.out hb
  · obtain ⟨dn, rfl⟩ : ∃ dn : Nat, day = (dn : Int) := ⟨day.toNat, by omega⟩
    have e1 : cutD (dn : Int) = dn + 1 := by unfold cutD; omega
    rw [e1] at HF
    have d3 : ¬ (999 : Int) < (dn : Int) := by omega
    have d4 : (0 : Int) < (dn : Int) + 1 := by omega
    have d5 : ¬ (dn : Int) + 1 < 0 := by omega
    have d6 : (dn : Int) + 1 ≤ 1000 := by omega
    have d7 : (0 : Int) ≤ (dn : Int) + 1 := by omega
    have d8 : ((dn : Int) + 1).toNat = dn + 1 := by omega
    have hw : IntKind.i64.wrap ((dn : Int) + 1) = (dn : Int) + 1 := IntWalk.i64_in _ (by omega)
    have hk := HIN.out (dn + 1) (by omega)
    have h9 := HEQ.out (dn + 1) (by omega)
    go_wp2_with fail
    refine (l1Sum_pref _ _ _ (M.take (dn + 1)) _ hk (fun j => HPB.out (dn + 1) j)).mono ?_
    rintro e w5 ⟨rfl, rfl⟩
    rw [h9]
    go_wp2_with fail
    go_ret2
    exact pairI_mk HF.out hb
set_option maxRecDepth 100000 in
set_option maxHeartbeats 4000000 in
theorem implTakenUpTo_any (r : PtR) (p : Pt) (A B : Option Addr) (n c m d : Nat) (ds : List Dm) (l : List Pl) (item : ByteArray) (day : Int) (w : World) (hp : PlantIn w r p) (hok : okPt p) (hds : DemandsIn w A n ds) (hokd : ∀ x ∈ ds, okDm x) (hnc : n ≤ c) (hl : PlannedsIn w B m l) (hokl : ∀ x ∈ l, okPl x) (hday : -9223372036854775808 ≤ day ∧ day ≤ 9223372036854775807) :
    Calls Try.prog 7 #[.agg #[.slice r.i.a r.i.n r.i.c, .slice r.l.a r.l.n r.l.c, .slice r.w.a r.w.n r.w.c, .slice r.e.a r.e.n r.e.c, .slice r.p.a r.p.n r.p.c, .slice r.s.a r.s.n r.s.c, .slice r.q.a r.q.n r.q.c], .slice A n c, .slice B m d, .string item, .int .i64 day] w (PairI w (takenUpTo p ds l item day)) := by
  obtain ⟨⟨a0, n0, c0⟩, ⟨a1, n1, c1⟩, ⟨a2, n2, c2⟩, ⟨a3, n3, c3⟩, ⟨a4, n4, c4⟩, ⟨a5, n5, c5⟩, ⟨a6, n6, c6⟩⟩ := r
  have HP := Lib.hid hp
  have HQ0 := Lib.hid hp.it
  dsimp only at HQ0 ⊢
  clear hp
  have HO := Lib.hid hok
  have HOD := Lib.hid hokd
  have HOL := Lib.hid hokl
  clear hok hokd hokl
  have hb := below_alloc w (.cells #[.slice a0 n0 c0, .slice a1 n1 c1, .slice a2 n2 c2, .slice a3 n3 c3, .slice a4 n4 c4, .slice a5 n5 c5, .slice a6 n6 c6] 34)
  have B0 : BoxOf (w.alloc (.cells #[.slice a0 n0 c0, .slice a1 n1 c1, .slice a2 n2 c2, .slice a3 n3 c3, .slice a4 n4 c4, .slice a5 n5 c5, .slice a6 n6 c6] 34)) w.heap.size [.slice a0 n0 c0, .slice a1 n1 c1, .slice a2 n2 c2, .slice a3 n3 c3, .slice a4 n4 c4, .slice a5 n5 c5, .slice a6 n6 c6] := boxOf_alloc w #[.slice a0 n0 c0, .slice a1 n1 c1, .slice a2 n2 c2, .slice a3 n3 c3, .slice a4 n4 c4, .slice a5 n5 c5, .slice a6 n6 c6] 34
  go_enter Try.func7, Try.ntmps7
  go_wp2_with fail
  generalize (w.alloc (.cells #[.slice a0 n0 c0, .slice a1 n1 c1, .slice a2 n2 c2, .slice a3 n3 c3, .slice a4 n4 c4, .slice a5 n5 c5, .slice a6 n6 c6] 34)) = V at *
  refine (implArePlanned_any ⟨⟨a0, n0, c0⟩, ⟨a1, n1, c1⟩, ⟨a2, n2, c2⟩, ⟨a3, n3, c3⟩, ⟨a4, n4, c4⟩, ⟨a5, n5, c5⟩, ⟨a6, n6, c6⟩⟩ p _ _ _ l _ (HP.out.keep hb) HO.out (hl.keep hb) HOL.out).mono ?_
  rintro e w1 ⟨rfl, hs⟩
  replace hb := below_on hb hs
  replace B0 := B0.keep hs
  clear hs
  obtain ⟨b0, b1, b2, b3, b4, b5, b6, bl⟩ := B0.seven
  cases g1 : arePlanned p l
  · go_wp2_with fail
    go_ret2
    exact pairI_mk (takenUpTo_no _ (by unfold takes; rw [g1]; rfl)) hb
  go_wp2_with fail
  refine (implAreDemands_any _ _ _ ds _ (hds.keep hb) HOD.out hnc).mono ?_
  rintro e w2 ⟨rfl, hs⟩
  clear b0 b1 b2 b3 b4 b5 b6 bl
  replace hb := below_on hb hs
  replace B0 := B0.keep hs
  clear hs
  obtain ⟨b0, b1, b2, b3, b4, b5, b6, bl⟩ := B0.seven
  cases g2 : areDemands ds
  · go_wp2_with fail
    go_ret2
    exact pairI_mk (takenUpTo_no _ (by unfold takes; rw [g1, g2]; rfl)) hb
  go_wp2_with fail
  refine (implFindItem_any _ _ _ p.it _ _ (HQ0.out.keep hb)).mono ?_
  rintro e w3 ⟨rfl, hs⟩
  clear b0 b1 b2 b3 b4 b5 b6 bl
  replace hb := below_on hb hs
  replace B0 := B0.keep hs
  clear hs
  obtain ⟨b0, b1, b2, b3, b4, b5, b6, bl⟩ := B0.seven
  by_cases g3 : 0 ≤ findIt p.it item
  case neg =>
    have g4 : findIt p.it item < 0 := by omega
    go_wp2_with fail
    go_ret2
    exact pairI_mk (takenUpTo_no _ (by unfold takes; rw [g1, g2, decide_eq_false (by omega)]; rfl)) hb
  have g4 : ¬ findIt p.it item < 0 := by omega
  go_wp2_with fail
  clear b0 b1 b2 b3 b4 b5 b6 bl
  have HDY := Lib.hid (takenOn_days (item := item) g1 g2)
  refine (implTaken_any ⟨⟨a0, n0, c0⟩, ⟨a1, n1, c1⟩, ⟨a2, n2, c2⟩, ⟨a3, n3, c3⟩, ⟨a4, n4, c4⟩, ⟨a5, n5, c5⟩, ⟨a6, n6, c6⟩⟩ p _ _ _ _ _ _ ds l item _ (HP.out.keep hb) HO.out (hds.keep hb) (hl.keep hb) g1 g2).mono ?_
  rintro e w4 ⟨A4, n4', c4', rfl, hM, hs⟩
  replace hb := below_on hb hs
  replace B0 := B0.keep hs
  cases g5 : (takenOn p ds l item).2
  · go_wp2_with fail
    go_ret2
    exact pairI_mk (takenUpTo_no _ (takes_eq g1 g2 g3 g5)) hb
  have HF : Hid (takenUpTo p ds l item day = (prefS (takenOn p ds l item).1 (cutD day), true)) := takenUpTo_yes _ (takes_eq g1 g2 g3 g5)
  obtain ⟨g, rfl, rfl, rfl, hA⟩ := hM g5
  generalize (takenOn p ds l item).1 = M at *
  have hml := HDY.out.len
  obtain ⟨D, hD⟩ : ∃ D : Int, (if (999 : Int) < day then 999 else day) = D := ⟨_, rfl⟩
  have hD1 : (D ≤ 999 ∧ cutD day = (max 0 (D + 1)).toNat) := by
    unfold cutD
    split at hD <;> omega
  have hc1000 : cutD day ≤ 1000 := by omega
  have HPB : Hid (∀ j, 0 ≤ prefS M j ∧ prefS M j ≤ 60000000000000000) := fun j => by
    have h1 := pref_le M HDY.out.pos j
    have := HDY.out.sum
    omega
  have HDD := Lib.hid hD
  have HD1 := Lib.hid hD1
  have HC := Lib.hid hc1000
  clear hD1 hc1000 hD
  clear g1 g2 g3 g4 g5 hM hs hday
  go_wp2_with fail
  go_loop [14, 15] (fun s i => ∃ k : Nat, k ≤ cutD day ∧ i = .int .i64 k ∧ s = .int .i64 (prefS M k)) (fun _ i => cutD day - (intOf i).toNat)
  case atStart => exact ⟨0, by omega, rfl, by simp [prefS]⟩
  case round =>
    obtain ⟨k, hk, rfl, rfl⟩ := hrel
    by_cases hlt : (k : Int) ≤ D
    · have hkl : k < M.length := by have := HD1.out; omega
      have hk1000 : k < 1000 := by omega
      have hkc : k + 1 ≤ cutD day := by have := HD1.out; omega
      have HS := Lib.hid (pref_succ M k hkl)
      have h2 := HPB.out (k + 1)
      rw [HS.out] at h2
      have cK := hA.cellN hk1000
      have k2 : (k : Int) < 1000 := by omega
      have h3 := HPB.out k
      generalize prefS M k = s at *
      generalize M.getD k 0 = x at *
      have hw : IntKind.i64.wrap (s + x) = s + x := IntWalk.i64_in _ (by omega)
      have hD := HDD.out
      go_wp2_with fail
      go_round
      case rel => exact ⟨k + 1, hkc, by go_num, by rw [HS.out]⟩
      case measure => simp [intOf]; omega
    · have hk2 : k = cutD day := by have := HD1.out; omega
      have hlt2 : D < (k : Int) := by omega
      have hD := HDD.out
      subst hk2
      go_wp2_with fail
      go_ret2
      exact pairI_mk HF.out hb
end Go.Proofs.Ytfjbliefcafiaaa
/- The walk of l18Come. -/
namespace Go.Proofs.Ytfjbliefcafiaaa
open Go.RowKit
def comeEvs (p : Pt) (l : List Pl) (item : ByteArray) : List (Int × Int × Int) := evsR (receiptFlows p item) ++ evsG p item l
theorem evsR_len (l : List Fl) : (evsR l).length = l.length := by simp [evsR]
theorem comeR_step (fl : List Fl) (k : Nat) (h : k < fl.length) : tkTo ((evsR fl).take (k + 1)) = tkStep (tkTo ((evsR fl).take k)) (1, fl[k].2, fl[k].1) := by
  unfold evsR
  rw [map_take1 _ _ _ h, tkTo_snoc]
theorem comeR_all (p : Pt) (l : List Pl) (item : ByteArray) (fl : List Fl) : tkTo ((evsR fl).take fl.length) = tkTo (evsR fl ++ evsG p item (l.take 0)) := by
  rw [List.take_of_length_le (by rw [evsR_len]; omega)]; simp [evsG]
theorem evsG_take (p : Pt) (item : ByteArray) (l : List Pl) (k : Nat) (h : k < l.length) : evsG p item (l.take (k + 1)) = evsG p item (l.take k) ++ (if isOf item l[k] = true then [goodV p item l[k]] else []) := by
  unfold evsG
  rw [filter_take1 _ _ _ h, List.map_append]
  split <;> rfl
theorem comeG_yes (p : Pt) (item : ByteArray) (fl : List Fl) (l : List Pl) (k : Nat) (h : k < l.length) (hi : isOf item l[k] = true) : tkTo (evsR fl ++ evsG p item (l.take (k + 1))) = tkStep (tkTo (evsR fl ++ evsG p item (l.take k))) (goodV p item l[k]) := by
  rw [evsG_take _ _ _ _ h, if_pos hi, ← List.append_assoc, tkTo_snoc]
theorem comeG_no (p : Pt) (item : ByteArray) (fl : List Fl) (l : List Pl) (k : Nat) (h : k < l.length) (hi : isOf item l[k] = false) : tkTo (evsR fl ++ evsG p item (l.take (k + 1))) = tkTo (evsR fl ++ evsG p item (l.take k)) := by
  rw [evsG_take _ _ _ _ h, if_neg (by rw [hi]; decide), List.append_nil]
theorem comeG_all (p : Pt) (item : ByteArray) (l : List Pl) : tkTo (evsR (receiptFlows p item) ++ evsG p item (l.take l.length)) = comeOn p l item := by rw [List.take_length]; rfl
section
variable {p : Pt} {l : List Pl} {item : ByteArray} (hp : arePlanned p l = true)
include hp
theorem comeR_days (k : Nat) : Days (tkTo ((evsR (receiptFlows p item)).take k)) 60000000000000000 := by
  refine (tkTo_days (fun v hv => evsR_ok p item (arePlanned_parts hp).1 v (List.mem_of_mem_take hv))).mono ?_
  have := receiptFlows_len p item
  rw [List.length_take, evsR_len]
  omega
theorem comeG_days (k : Nat) : Days (tkTo (evsR (receiptFlows p item) ++ evsG p item (l.take k))) 60000000000000000 := by
  refine (tkTo_days (fun v hv => ?_)).mono ?_
  · rcases List.mem_append.1 hv with h | h
    · exact evsR_ok p item (arePlanned_parts hp).1 v h
    · refine evsG_ok p l item hp v ?_
      unfold evsG at h ⊢
      obtain ⟨o, ho, rfl⟩ := List.mem_map.1 h
      obtain ⟨h1, h2⟩ := List.mem_filter.1 ho
      exact List.mem_map.2 ⟨o, List.mem_filter.2 ⟨List.mem_of_mem_take h1, h2⟩, rfl⟩
  · have := receiptFlows_len p item
    have := (arePlanned_parts hp).2.1
    have h3 : (evsG p item (l.take k)).length ≤ l.length := by
      unfold evsG
      rw [List.length_map]
      exact Nat.le_trans (List.length_filter_le _ _) (by rw [List.length_take]; omega)
    rw [List.length_append, evsR_len]
    omega
theorem comeOn_days : Days (comeOn p l item) 60000000000000000 := by
  rw [← comeG_all]; exact comeG_days hp _
end
set_option maxRecDepth 100000 in
set_option maxHeartbeats 8000000 in
theorem specCome_any (r : PtR) (p : Pt) (B : Option Addr) (m d : Nat) (l : List Pl) (item : ByteArray) (w : World) (hp : PlantIn w r p) (hok : okPt p) (hs9 : item.size ≤ 9223372036854775807) (hl : PlannedsIn w B m l) (hpl : arePlanned p l = true) (h0 : 0 ≤ findIt p.it item) :
    Calls Try.prog 43 #[.agg #[.slice r.i.a r.i.n r.i.c, .slice r.l.a r.l.n r.l.c, .slice r.w.a r.w.n r.w.c, .slice r.e.a r.e.n r.e.c, .slice r.p.a r.p.n r.p.c, .slice r.s.a r.s.n r.s.c, .slice r.q.a r.q.n r.q.c], .slice B m d, .string item] w fun e w' => ∃ g, e = .returned (.slice (some ⟨g, 0, none⟩) 1000 1000) ∧ NumRow w' w.heap.size g 1000 1000 (comeOn p l item) ∧ Below w.heap.size w w' := by
  have HER := Lib.hid (fun k => comeR_days (item := item) hpl k)
  have HEG := Lib.hid (fun k => comeG_days (item := item) hpl k)
  have HPP := Lib.hid (arePlanned_parts hpl).2.2
  have hip := (arePlanned_parts hpl).1
  have HIP := Lib.hid hip
  have HR1 := Lib.hid (fun k (h : k < (receiptFlows p item).length) => comeR_step (receiptFlows p item) k h)
  have HR2 := Lib.hid (comeR_all p l item (receiptFlows p item))
  have HG1 := Lib.hid (fun k (h : k < l.length) hi => comeG_yes p item (receiptFlows p item) l k h hi)
  have HG2 := Lib.hid (fun k (h : k < l.length) hi => comeG_no p item (receiptFlows p item) l k h hi)
  have HG3 := Lib.hid (comeG_all p item l)
  have HRB := Lib.hid (rcTo_parts p item hip p.rc.length (Nat.le_refl _)).2.2
  have hrl := receiptFlows_len p item
  have HRY := Lib.hid (receiptFlows_yes (item := item) hip)
  have h500 := (arePlanned_parts hpl).2.1
  have hit0 := Lib.hid (fun q (hq : q < p.it.length) => isPlant_item hip hq)
  have HO := Lib.hid hok
  have HRCL := Lib.hid (isPlant_parts hip).2.2.2.1
  clear hpl hip hok
  have hnl := hl.1
  subst hnl
  obtain ⟨⟨a0, n0, c0⟩, ⟨a1, n1, c1⟩, ⟨a2, n2, c2⟩, ⟨a3, n3, c3⟩, ⟨a4, n4, c4⟩, ⟨a5, n5, c5⟩, ⟨a6, n6, c6⟩⟩ := r
  have HP := Lib.hid hp
  have HQ0 := Lib.hid hp.it
  dsimp only at HQ0 ⊢
  clear hp
  have hn0 : n0 = p.it.length := HQ0.out.1
  subst hn0
  have hb := below_alloc w (.cells #[.slice a0 p.it.length c0, .slice a1 n1 c1, .slice a2 n2 c2, .slice a3 n3 c3, .slice a4 n4 c4, .slice a5 n5 c5, .slice a6 n6 c6] 34)
  have B0 : BoxOf (w.alloc (.cells #[.slice a0 p.it.length c0, .slice a1 n1 c1, .slice a2 n2 c2, .slice a3 n3 c3, .slice a4 n4 c4, .slice a5 n5 c5, .slice a6 n6 c6] 34)) w.heap.size [.slice a0 p.it.length c0, .slice a1 n1 c1, .slice a2 n2 c2, .slice a3 n3 c3, .slice a4 n4 c4, .slice a5 n5 c5, .slice a6 n6 c6] := boxOf_alloc w #[.slice a0 p.it.length c0, .slice a1 n1 c1, .slice a2 n2 c2, .slice a3 n3 c3, .slice a4 n4 c4, .slice a5 n5 c5, .slice a6 n6 c6] 34
  have hz : (w.alloc (.cells #[.slice a0 p.it.length c0, .slice a1 n1 c1, .slice a2 n2 c2, .slice a3 n3 c3, .slice a4 n4 c4, .slice a5 n5 c5, .slice a6 n6 c6] 34)).heap.size = w.heap.size + 1 := by simp
  go_enter Try.func43, Try.ntmps43
  go_wp2_with (at_make; refine wpList_make_nums rfl _ _ rfl w.heap.size 1000 rfl rfl rfl rfl (by omega) (by simp) ?_; intro w5 hA hA2 hA3; have B1 := B0.keep hA2; obtain ⟨b0, b1, b2, b3, b4, b5, b6, bl⟩ := B1.seven)
  have hb1 := below_on hb hA2
  have hA1 : NumRow w5 w.heap.size (w.heap.size + 1) 1000 1000 (tkTo ((evsR (receiptFlows p item)).take 0)) := by rw [hz] at hA; exact hA
  have hgn : w.heap.size + 1 < w5.heap.size := by rw [hz] at hA3; exact hA3
  clear hA hA2 hA3 hb B0 hz b0 b1 b2 b3 b4 b5 b6 bl
  refine (specReceiptFlows_any ⟨⟨a0, p.it.length, c0⟩, ⟨a1, n1, c1⟩, ⟨a2, n2, c2⟩, ⟨a3, n3, c3⟩, ⟨a4, n4, c4⟩, ⟨a5, n5, c5⟩, ⟨a6, n6, c6⟩⟩ p item _ (HP.out.keep hb1) HO.out hs9).mono ?_
  rintro e w6 ⟨A6, q6, rfl, hfl, hs⟩
  replace hb1 := below_on hb1 hs
  replace B1 := B1.keep hs
  replace hA1 := hA1.keep hs
  have hA6 := hfl.at_
  have hflo : w5.heap.size ≤ w6.heap.size := hs.size
  clear hs hfl
  generalize hgi : w.heap.size + 1 = gi at *
  have hfo := hA6.own
  clear hA6
  generalize w5.heap.size = lo6 at *
  generalize hFL : receiptFlows p item = fl at *
  have HFL := Lib.hid hFL
  clear hFL
  go_wp2_with fail
  go_loopw [9] (fun i wr => ∃ k : Nat, k ≤ fl.length ∧ i = .int .i64 k ∧ NumRow wr w.heap.size gi 1000 1000 (tkTo ((evsR fl).take k)) ∧ OwnRows flF 80 wr lo6 A6 fl.length q6 fl ∧ BoxOf wr w.heap.size [.slice a0 p.it.length c0, .slice a1 n1 c1, .slice a2 n2 c2, .slice a3 n3 c3, .slice a4 n4 c4, .slice a5 n5 c5, .slice a6 n6 c6] ∧ Below w.heap.size w wr) (fun i _ => fl.length - (intOf i).toNat)
  case atStart => exact ⟨0, by omega, rfl, hA1, hfo, B1, hb1⟩
  case round =>
    clear hA1 hfo B1 hb1
    obtain ⟨k, hk, rfl, hA, hfo, B0, hb⟩ := hrel
    by_cases hlt : k < fl.length
    case neg =>
      obtain rfl : k = fl.length := by omega
      rw [HR2.out] at hA
      clear hfo
      go_wp2_with fail
      go_loopw [10] (fun i wr => ∃ k : Nat, k ≤ l.length ∧ i = .int .i64 k ∧ NumRow wr w.heap.size gi 1000 1000 (tkTo (evsR fl ++ evsG p item (l.take k))) ∧ BoxOf wr w.heap.size [.slice a0 p.it.length c0, .slice a1 n1 c1, .slice a2 n2 c2, .slice a3 n3 c3, .slice a4 n4 c4, .slice a5 n5 c5, .slice a6 n6 c6] ∧ Below w.heap.size w wr) (fun i _ => l.length - (intOf i).toNat)
      case atStart => exact ⟨0, by omega, rfl, hA, B0, hb⟩
      case round =>
        clear hA B0 hb
        obtain ⟨k, hk, rfl, hA, B0, hb⟩ := hrel
        by_cases hlt : k < l.length
        case neg =>
          obtain rfl : k = l.length := by omega
          rw [HG3.out] at hA
          go_wp2_with fail
          go_ret
          exact ⟨gi, rfl, hA, hb⟩
        obtain ⟨b, o, rfl, hbl, hc0, hc1, hc2, hc3, hc4⟩ := planned_at (hl.keep hb) hlt
        cases heq : (l[k].1.toList == item.toList)
        case false =>
          have HNO := Lib.hid (HG2.out k hlt heq)
          go_wp2_with fail
          go_roundw
          case rel => exact ⟨k + 1, by omega, by go_num, by rw [HNO.out]; exact hA, B0, hb⟩
          case measure => simp [intOf]; omega
        have HST := Lib.hid (HG1.out k hlt heq)
        have hdy := HEG.out k
        obtain ⟨z1, z2, ⟨z3, z4⟩, ⟨z5, z6⟩, z7, z8⟩ := HPP.out k hlt
        generalize hMM : tkTo (evsR fl ++ evsG p item (l.take k)) = M at *
        clear hMM
        obtain ⟨f1, f2⟩ := findIt_bd p.it item
        obtain ⟨qn, hqn⟩ : ∃ qn : Nat, findIt p.it item = (qn : Int) := ⟨(findIt p.it item).toNat, by omega⟩
        have q1 : qn < p.it.length := by omega
        have q2 : (qn : Int) < (p.it.length : Int) := by omega
        have q3 : (0 : Int) ≤ (qn : Int) := by omega
        have HQN := Lib.hid hqn
        have HPX := Lib.hid (planX_at hqn q1)
        have hokx := HO.out.it _ (List.getElem_mem q1)
        clear hqn f1 f2
        obtain ⟨bi, oi, hae, hbi, t0, t1, t2, t3, t4, t5, t6, t7⟩ := item_at (HQ0.out.keep hb) q1
        have HIT := Lib.hid (HQ0.out.keep hb)
        obtain ⟨b0, b1, b2, b3, b4, b5, b6, bl⟩ := B0.seven
        subst hae
        go_wp2_with fail
        refine wp_region_held_drew (S := (fun w' => w'.cell? ⟨w.heap.size, 0, none⟩ = some (.slice (some ⟨bi, oi, none⟩) p.it.length c0) ∧ w'.cell? ⟨bi, oi + qn * 8, none⟩ = some (.string p.it[qn].1) ∧ w'.cell? ⟨bi, oi + qn * 8 + 1, none⟩ = some (.string p.it[qn].2.1) ∧ w'.cell? ⟨bi, oi + qn * 8 + 2, none⟩ = some (.int .i64 p.it[qn].2.2.1) ∧ w'.cell? ⟨bi, oi + qn * 8 + 3, none⟩ = some (.int .i64 p.it[qn].2.2.2.1) ∧ w'.cell? ⟨bi, oi + qn * 8 + 4, none⟩ = some (.int .i64 p.it[qn].2.2.2.2.1) ∧ w'.cell? ⟨bi, oi + qn * 8 + 5, none⟩ = some (.int .i64 p.it[qn].2.2.2.2.2.1) ∧ w'.cell? ⟨bi, oi + qn * 8 + 6, none⟩ = some (.int .i64 p.it[qn].2.2.2.2.2.2.1) ∧ w'.cell? ⟨bi, oi + qn * 8 + 7, none⟩ = some (.int .i64 p.it[qn].2.2.2.2.2.2.2) ∧ w'.cell? ⟨b, o + k * 5 + 1, none⟩ = some (.int .i64 l[k].2.1) ∧ w.heap.size < w'.heap.size ∧ bi < w'.heap.size ∧ b < w'.heap.size ∧ Below wr.heap.size wr w')) (by kernel_rfl) ⟨b0, t0, t1, t2, t3, t4, t5, t6, t7, hc1, bl, hbi, hbl, (Below.refl _ _).drew⟩ (fun hHeld => ?_)
        refine held1 0 (some 58) hHeld ?_
        refine held1 1 (some 59) hHeld ?_
        refine held1 2 (some 60) hHeld ?_
        refine held1 3 (some 61) hHeld ?_
        refine held1 4 (some 62) hHeld ?_
        refine held1 8 (some 66) hHeld ?_
        refine held1 9 (some 67) hHeld ?_
        refine held1 10 (some 68) hHeld ?_
        refine held1 11 (some 69) hHeld ?_
        refine held1 12 (some 70) hHeld ?_
        refine held_do 5 fun K hK => ?_
        go_simp
        go_at_call 11; refine (specFindItem_any _ _ _ p.it _ _ (HIT.out.keep (by obtain ⟨y_c0, y_t0, y_t1, y_t2, y_t3, y_t4, y_t5, y_t6, y_t7, y_q, y_n, y_i, y_b, y_R⟩ := hHeld; exact y_R))).mono ?_; rintro e w6 ⟨rfl, rfl⟩; rw [HQN.out]; go_simp
        refine hK.out _ _ ?_ (fun hHeld => ?_)
        · exact hHeld
        clear hK K
        refine held1 6 (some 64) hHeld ?_
        refine held1 7 (some 65) hHeld ?_
        refine held_do 13 fun K hK => ?_
        go_simp
        go_at_call 18; refine (specNetOf_any p.it[qn] _ _ hokx).mono ?_; rintro e w7 ⟨rfl, hb3⟩; go_simp
        refine hK.out _ _ ?_ (fun hHeld => ?_)
        · obtain ⟨y_c0, y_t0, y_t1, y_t2, y_t3, y_t4, y_t5, y_t6, y_t7, y_q, y_n, y_i, y_b, y_R⟩ := hHeld; exact ⟨(hb3.cell y_n).trans y_c0, (hb3.cell y_i).trans y_t0, (hb3.cell y_i).trans y_t1, (hb3.cell y_i).trans y_t2, (hb3.cell y_i).trans y_t3, (hb3.cell y_i).trans y_t4, (hb3.cell y_i).trans y_t5, (hb3.cell y_i).trans y_t6, (hb3.cell y_i).trans y_t7, (hb3.cell y_b).trans y_q, Nat.lt_of_lt_of_le y_n hb3.size, Nat.lt_of_lt_of_le y_i hb3.size, Nat.lt_of_lt_of_le y_b hb3.size, below_on y_R hb3⟩
        clear hK K
        refine held1 14 (some 57) hHeld ?_
        refine held1 15 (some 72) hHeld ?_
        refine held1 16 (some 73) hHeld ?_
        refine held1 17 (some 11) hHeld ?_
        refine held1 18 (some 12) hHeld ?_
        refine wpAnyH_done (by kernel_rfl) ?_ _
        obtain ⟨y_c0, y_t0, y_t1, y_t2, y_t3, y_t4, y_t5, y_t6, y_t7, y_q, y_n, y_i, y_b, y_R⟩ := hHeld
        replace hA := hA.keep y_R
        replace B0 := B0.keep y_R
        replace hb := below_on hb y_R
        clear y_c0 y_t0 y_t1 y_t2 y_t3 y_t4 y_t5 y_t6 y_t7 y_q y_n y_i y_b y_R b0 b1 b2 b3 b4 b5 b6 bl hc0 hc1 hc2 hc3 hc4 hbl hbi t0 t1 t2 t3 t4 t5 t6 t7 HIT
        have hgd := netOf_bd p.it[qn] l[k].2.1 (by omega)
        have HGD : Hid (goodOf p item l[k] = (netOf p.it[qn] l[k].2.1).1) := by show _ = _; unfold goodOf; rw [HPX.out]
        generalize (netOf p.it[qn] l[k].2.1).1 = gd at *
        obtain ⟨dn, hdn⟩ : ∃ dn : Nat, l[k].2.2.2.1 = (dn : Int) := ⟨(l[k].2.2.2.1).toNat, by omega⟩
        have hd1 : dn < 1000 := by omega
        have hd2 : (dn : Int) < (1000 : Int) := by omega
        have hmc := hdy.cell dn
        generalize hma : M.getD dn 0 = mv at *
        have HMA := Lib.hid hma
        clear hma
        have HYY : Hid (tkTo (evsR fl ++ evsG p item (l.take (k + 1))) = M.set dn (mv + gd)) := by
          show _ = _
          rw [HST.out]; unfold tkStep goodV; simp only []; rw [HGD.out, hdn, Int.toNat_natCast, HMA.out, Int.one_mul]
        obtain ⟨_, _, e9, hbl, hc0, hc1, hc2, hc3, hc4⟩ := planned_at (hl.keep hb) hlt
        obtain ⟨rfl, rfl⟩ : b = _ ∧ o = _ := by simpa using e9
        clear e9
        rw [hdn] at hc3
        have cA := hA.cell (j := dn) (by rw [hA.len]; exact hd1)
        have cA2 : w7.cell? ⟨gi, dn, none⟩ = some (.int .i64 mv) := by rw [cA, ← HMA.out, List.getD_eq_getElem?_getD, List.getElem?_eq_getElem (by rw [hA.len]; exact hd1)]; rfl
        have fA := hA.frozen dn
        clear cA
        go_wp2_with fail
        go_still_tail 17, (by kernel_rfl)
        change wpList _ _ _ _ _ w7.drew
        replace hA := hA.keep (Below.refl w7.heap.size w7).drew
        replace B0 := B0.keep (Below.refl w7.heap.size w7).drew
        replace cA2 : w7.drew.cell? ⟨gi, dn, none⟩ = some (.int .i64 mv) := cA2
        replace fA : w7.drew.frozen? ⟨gi, dn, none⟩ = false := fA
        replace hb := hb.drew
        clear hc0 hc1 hc2 hc3 hc4 hbl
        generalize w7.drew = W8 at *
        go_wp2_with fail
        go_roundw
        case rel => exact ⟨k + 1, by omega, by go_num, by rw [HYY.out]; exact hA.set dn _, B0.off (by show gi ≠ w.heap.size; omega) _, hb.setCell (p := ⟨gi, dn, none⟩) (by show w.heap.size ≤ gi; omega) _⟩
        case measure => simp [intOf]; omega
    have HST := Lib.hid (HR1.out k hlt)
    have hdy := HER.out k
    obtain ⟨⟨u1, u2⟩, u3, u4⟩ := HRB.out fl[k] (by rw [← HRY.out]; exact List.getElem_mem hlt)
    generalize hMM : tkTo ((evsR fl).take k) = M at *
    clear hMM
    obtain ⟨b, o, rfl, hbl, hc0, hc1⟩ := flow_at (hfo.rows (by omega)) hlt
    obtain ⟨dn, hdn⟩ : ∃ dn : Nat, fl[k].1 = (dn : Int) := ⟨(fl[k].1).toNat, by omega⟩
    have hd1 : dn < 1000 := by omega
    have hd2 : (dn : Int) < (1000 : Int) := by omega
    have hmc := hdy.cell dn
    generalize hma : M.getD dn 0 = mv at *
    have HMA := Lib.hid hma
    clear hma
    have HYY : Hid (tkTo ((evsR fl).take (k + 1)) = M.set dn (mv + fl[k].2)) := by
      show _ = _
      rw [HST.out]; unfold tkStep; simp only []; rw [hdn, Int.toNat_natCast, HMA.out, Int.one_mul]
    rw [hdn] at hc0
    have cA := hA.cell (j := dn) (by rw [hA.len]; exact hd1)
    have cA2 : wr.cell? ⟨gi, dn, none⟩ = some (.int .i64 mv) := by rw [cA, ← HMA.out, List.getD_eq_getElem?_getD, List.getElem?_eq_getElem (by rw [hA.len]; exact hd1)]; rfl
    have fA := hA.frozen dn
    clear cA
    have hrcl := HRCL.out
    have hw1 : IntKind.i64.wrap (mv + fl[k].2) = mv + fl[k].2 := IntWalk.i64_in _ (by omega)
    go_wp2_with fail
    go_still_tail 21, (by kernel_rfl)
    change wpList _ _ _ _ _ wr.drew
    replace hA := hA.keep (Below.refl wr.heap.size wr).drew
    replace hfo := hfo.keep (Below.refl wr.heap.size wr).drew
    replace B0 := B0.keep (Below.refl wr.heap.size wr).drew
    replace cA2 : wr.drew.cell? ⟨gi, dn, none⟩ = some (.int .i64 mv) := cA2
    replace fA : wr.drew.frozen? ⟨gi, dn, none⟩ = false := fA
    replace hb := hb.drew
    clear hc0 hc1 hbl
    generalize wr.drew = W8 at *
    go_wp2_with fail
    go_roundw
    case rel => exact ⟨k + 1, by omega, by go_num, by rw [HYY.out]; exact hA.set dn _, hfo.far (p := ⟨gi, dn, none⟩) (by show gi < lo6; omega) _, B0.off (by show gi ≠ w.heap.size; omega) _, hb.setCell (p := ⟨gi, dn, none⟩) (by show w.heap.size ≤ gi; omega) _⟩
    case measure => simp [intOf]; omega
end Go.Proofs.Ytfjbliefcafiaaa
