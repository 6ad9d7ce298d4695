/- Part 18 of the texts of this claim: The walks of l1Sum and TakenUpTo; The walk of l18Come; The walks of BalanceOn; The cursor that draws a law's inputs from bytes: what its functions leave of memory; More on the cursor that draws a law's inputs: how it is made, odd numbers. -/
import Derived.Test.YtlkolehdikfddaaTr16
import Derived.Test.YtlkolehdikfddaaTr17
import Derived.Test.YtlkolehdikfddaaTr12
import Derived.Test.YtlkolehdikfddaaTr5
import Derived.Test.YtlkolehdikfddaaTr1
import Derived.Laws.BitsLemmas
import Derived.StillTailTactics
/- The walks of l1Sum and TakenUpTo. -/
namespace Go.Proofs.Ytlkolehdikfddaa
open Go.RowKit
theorem IntsIn.take {w : World} {A : Option Addr} {n k : Nat} {l : List Int} (h : IntsIn w A n l) (hk : k ≤ n) : IntsIn w A k (l.take k) := by
  obtain ⟨h1, h2⟩ := h
  have e : RowsIn intF w A n l := ⟨h1, by rw [intF_flat]; exact h2⟩
  have e2 := e.take hk
  exact ⟨e2.1, by have := e2.2; rw [intF_flat] at this; exact this⟩
theorem takenUpTo_no {p : Pt} {ds : List Dm} {l : List Pl} {item : ByteArray} (day : Int) (h : takes p ds l item = false) : takenUpTo p ds l item day = (0, false) := by unfold takenUpTo; rw [if_neg (by rw [h]; decide)]
theorem takenUpTo_yes {p : Pt} {ds : List Dm} {l : List Pl} {item : ByteArray} (day : Int) (h : takes p ds l item = true) : takenUpTo p ds l item day = (prefS (takenOn p ds l item).1 (cutD day), true) := by unfold takenUpTo; rw [if_pos h]
theorem takes_eq {p : Pt} {ds : List Dm} {l : List Pl} {item : ByteArray} {b : Bool} (h1 : arePlanned p l = true) (h2 : areDemands ds = true) (h3 : 0 ≤ findIt p.it item) (h4 : (takenOn p ds l item).2 = b) : takes p ds l item = b := by unfold takes; rw [h1, h2, decide_eq_true h3, h4]; rfl
theorem pref_take (M : List Int) (k j : Nat) (h : j ≤ k) : prefS (M.take k) j = prefS M j := by unfold prefS; rw [List.take_take, Nat.min_eq_left h]
set_option maxRecDepth 100000 in
theorem l1Sum_pref (A : Option Addr) (n c : Nat) (l : List Int) (w : World) (hl : IntsIn w A n l) (hb : ∀ k, -9000000000000000000 ≤ prefS l k ∧ prefS l k ≤ 9000000000000000000) :
    Calls Try.prog 23 #[.slice A n c] w fun e w' => e = .returned (.int .i64 (prefS l l.length)) ∧ w = w' := by
  have hn := hl.len
  obtain rfl := hl.1
  have HB := Lib.hid hb
  clear hb
  go_enter Try.func23, Try.ntmps23
  go_wp2
  go_loop [3, 4] (fun s i => ∃ k : Nat, k ≤ l.length ∧ i = .int .i64 k ∧ s = .int .i64 (prefS l k)) (fun _ i => l.length - (intOf i).toNat)
  case atStart => exact ⟨0, by omega, rfl, by simp [prefS]⟩
  case round =>
    obtain ⟨k, hk, rfl, rfl⟩ := hrel
    by_cases hlt : k < l.length
    · obtain ⟨b, o, rfl, hbl, hc⟩ := hl.at_ hlt
      have HS : Hid (prefS l (k + 1) = prefS l k + l[k]) := by show _ = _; rw [pref_succ l k hlt, List.getD_eq_getElem?_getD, List.getElem?_eq_getElem hlt]; rfl
      have h2 := HB.out (k + 1)
      rw [HS.out] at h2
      generalize prefS l k = s at *
      have hw : IntKind.i64.wrap (s + l[k]) = s + l[k] := IntWalk.i64_in _ (by omega)
      go_wp2
      go_round
      case rel => exact ⟨k + 1, by omega, by go_num, by rw [HS.out]⟩
      case measure => simp [intOf]; omega
    · obtain rfl : k = l.length := by omega
      go_wp2
      go_ret
      exact ⟨rfl, rfl⟩
set_option maxRecDepth 100000 in
set_option maxHeartbeats 4000000 in
theorem specTakenUpTo_any (r : PtR) (p : Pt) (A B : Option Addr) (n c m d : Nat) (ds : List Dm) (l : List Pl) (item : ByteArray) (day : Int) (w : World) (hp : PlantIn w r p) (hok : okPt p) (hds : DemandsIn w A n ds) (hokd : ∀ x ∈ ds, okDm x) (_hnc : n ≤ c) (hl : PlannedsIn w B m l) (hokl : ∀ x ∈ l, okPl x) (hday : -9223372036854775808 ≤ day ∧ day ≤ 9223372036854775807) :
    Calls Try.prog 7 #[.agg #[.slice r.i.a r.i.n r.i.c, .slice r.l.a r.l.n r.l.c, .slice r.w.a r.w.n r.w.c, .slice r.e.a r.e.n r.e.c, .slice r.p.a r.p.n r.p.c, .slice r.s.a r.s.n r.s.c, .slice r.q.a r.q.n r.q.c], .slice A n c, .slice B m d, .string item, .int .i64 day] w (PairI w (takenUpTo p ds l item day)) := by
  obtain ⟨⟨a0, n0, c0⟩, ⟨a1, n1, c1⟩, ⟨a2, n2, c2⟩, ⟨a3, n3, c3⟩, ⟨a4, n4, c4⟩, ⟨a5, n5, c5⟩, ⟨a6, n6, c6⟩⟩ := r
  have HP := Lib.hid hp
  have HQ0 := Lib.hid hp.it
  dsimp only at HQ0 ⊢
  clear hp
  have HO := Lib.hid hok
  have HOD := Lib.hid hokd
  have HOL := Lib.hid hokl
  clear hok hokd hokl
  have hb := below_alloc w (.cells #[.slice a0 n0 c0, .slice a1 n1 c1, .slice a2 n2 c2, .slice a3 n3 c3, .slice a4 n4 c4, .slice a5 n5 c5, .slice a6 n6 c6] 34)
  have B0 : BoxOf (w.alloc (.cells #[.slice a0 n0 c0, .slice a1 n1 c1, .slice a2 n2 c2, .slice a3 n3 c3, .slice a4 n4 c4, .slice a5 n5 c5, .slice a6 n6 c6] 34)) w.heap.size [.slice a0 n0 c0, .slice a1 n1 c1, .slice a2 n2 c2, .slice a3 n3 c3, .slice a4 n4 c4, .slice a5 n5 c5, .slice a6 n6 c6] := boxOf_alloc w #[.slice a0 n0 c0, .slice a1 n1 c1, .slice a2 n2 c2, .slice a3 n3 c3, .slice a4 n4 c4, .slice a5 n5 c5, .slice a6 n6 c6] 34
  go_enter Try.func7, Try.ntmps7
  go_wp2_with fail
  generalize (w.alloc (.cells #[.slice a0 n0 c0, .slice a1 n1 c1, .slice a2 n2 c2, .slice a3 n3 c3, .slice a4 n4 c4, .slice a5 n5 c5, .slice a6 n6 c6] 34)) = V at *
  refine (specArePlanned_any ⟨⟨a0, n0, c0⟩, ⟨a1, n1, c1⟩, ⟨a2, n2, c2⟩, ⟨a3, n3, c3⟩, ⟨a4, n4, c4⟩, ⟨a5, n5, c5⟩, ⟨a6, n6, c6⟩⟩ p _ _ _ l _ (HP.out.keep hb) HO.out (hl.keep hb) HOL.out).mono ?_
  rintro e w1 ⟨rfl, hs⟩
  replace hb := below_on hb hs
  replace B0 := B0.keep hs
  clear hs
  obtain ⟨b0, b1, b2, b3, b4, b5, b6, bl⟩ := B0.seven
  cases g1 : arePlanned p l
  · go_wp2_with fail
    go_ret2
    exact pairI_mk (takenUpTo_no _ (by unfold takes; rw [g1]; rfl)) hb
  go_wp2_with fail
  refine (specAreDemands_any _ _ _ ds _ (hds.keep hb) HOD.out).mono ?_
  rintro e w2 ⟨rfl, hs⟩
  clear b0 b1 b2 b3 b4 b5 b6 bl
  replace hb := below_on hb hs
  replace B0 := B0.keep hs
  clear hs
  obtain ⟨b0, b1, b2, b3, b4, b5, b6, bl⟩ := B0.seven
  cases g2 : areDemands ds
  · go_wp2_with fail
    go_ret2
    exact pairI_mk (takenUpTo_no _ (by unfold takes; rw [g1, g2]; rfl)) hb
  go_wp2_with fail
  refine (specFindItem_any _ _ _ p.it _ _ (HQ0.out.keep hb)).mono ?_
  rintro e w3 ⟨rfl, rfl⟩
  by_cases g3 : 0 ≤ findIt p.it item
  case neg =>
    have g4 : findIt p.it item < 0 := by omega
    go_wp2_with fail
    go_ret2
    exact pairI_mk (takenUpTo_no _ (by unfold takes; rw [g1, g2, decide_eq_false (by omega)]; rfl)) hb
  have g4 : ¬ findIt p.it item < 0 := by omega
  go_wp2_with fail
  clear b0 b1 b2 b3 b4 b5 b6 bl
  refine (specTaken_any ⟨⟨a0, n0, c0⟩, ⟨a1, n1, c1⟩, ⟨a2, n2, c2⟩, ⟨a3, n3, c3⟩, ⟨a4, n4, c4⟩, ⟨a5, n5, c5⟩, ⟨a6, n6, c6⟩⟩ p _ _ _ _ _ _ ds l item _ (HP.out.keep hb) (hds.keep hb) (hl.keep hb) g1 g2).mono ?_
  rintro e w4 ⟨g, M, rfl, hA, hdy, hM, hs⟩
  replace hb := below_on hb hs
  replace B0 := B0.keep hs
  cases g5 : (takenOn p ds l item).2
  · go_wp2_with fail
    go_ret2
    exact pairI_mk (takenUpTo_no _ (takes_eq g1 g2 g3 g5)) hb
  have HF : Hid (takenUpTo p ds l item day = (prefS M (cutD day), true)) := by show _ = _; rw [takenUpTo_yes _ (takes_eq g1 g2 g3 g5), hM g5]
  have hml := hdy.len
  have hin : IntsIn w4 (some ⟨g, 0, none⟩) 1000 M := hA.ints (by omega)
  have HPB : Hid (∀ k j, -9000000000000000000 ≤ prefS (M.take k) j ∧ prefS (M.take k) j ≤ 9000000000000000000) := fun k j => by
    have hd := hdy.sum
    rcases Nat.lt_or_ge k j with h | h
    · have h1 := pref_le M hdy.pos k
      have : prefS (M.take k) j = prefS M k := by unfold prefS; rw [List.take_take, Nat.min_eq_right (by omega)]
      omega
    · have h1 := pref_le M hdy.pos j
      rw [pref_take M k j h]; omega
  have HEQ : Hid (∀ k, k ≤ 1000 → prefS (M.take k) (M.take k).length = prefS M k) := fun k hk => by
    rw [List.length_take, Nat.min_eq_left (by omega), pref_take M k k (Nat.le_refl _)]
  have HIN := Lib.hid (fun k (hk : k ≤ 1000) => hin.take (k := k) hk)
  clear g1 g2 g3 g4 g5 hM hA hs hin hdy
  rcases Int.lt_or_le day 0 with d1 | d1
  · have e1 : cutD day = 0 := by unfold cutD; omega
    rw [e1] at HF
    have d2 : ¬ (999 : Int) < day := by omega
    have d3 : day < 999 := by omega
    have d4 : day + 1 ≤ 0 := by omega
    have d5 : ¬ 0 < day + 1 := by omega
    have hw : IntKind.i64.wrap (day + 1) = day + 1 := IntWalk.i64_in _ (by omega)
    have hk := HIN.out 0 (by omega)
    have h9 := HEQ.out 0 (by omega)
    go_wp2_with fail
    refine (l1Sum_pref _ _ _ (M.take 0) _ hk (fun j => HPB.out 0 j)).mono ?_
    rintro e w5 ⟨rfl, rfl⟩
    rw [h9]
    go_wp2_with fail
    go_ret2
    exact pairI_mk HF.out hb
  rcases Int.lt_or_le 999 day with d2 | d2
  · have e1 : cutD day = 1000 := by unfold cutD; omega
    rw [e1] at HF
    have hk := HIN.out 1000 (by omega)
    have h9 := HEQ.out 1000 (by omega)
    go_wp2_with fail
    refine (l1Sum_pref _ _ _ (M.take 1000) _ hk (fun j => HPB.out 1000 j)).mono ?_
    rintro e w5 ⟨rfl, rfl⟩
    rw [h9]
    go_wp2_with fail
    go_ret2
    exact pairI_mk HF.out hb
  · obtain ⟨dn, rfl⟩ : ∃ dn : Nat, day = (dn : Int) := ⟨day.toNat, by omega⟩
    have e1 : cutD (dn : Int) = dn + 1 := by unfold cutD; omega
    rw [e1] at HF
    have d3 : ¬ (999 : Int) < (dn : Int) := by omega
    have d4 : (0 : Int) < (dn : Int) + 1 := by omega
    have d5 : ¬ (dn : Int) + 1 < 0 := by omega
    have d6 : (dn : Int) + 1 ≤ 1000 := by omega
    have d7 : (0 : Int) ≤ (dn : Int) + 1 := by omega
    have d8 : ((dn : Int) + 1).toNat = dn + 1 := by omega
    have hw : IntKind.i64.wrap ((dn : Int) + 1) = (dn : Int) + 1 := IntWalk.i64_in _ (by omega)
    have hk := HIN.out (dn + 1) (by omega)
    have h9 := HEQ.out (dn + 1) (by omega)
    go_wp2_with fail
    refine (l1Sum_pref _ _ _ (M.take (dn + 1)) _ hk (fun j => HPB.out (dn + 1) j)).mono ?_
    rintro e w5 ⟨rfl, rfl⟩
    rw [h9]
    go_wp2_with fail
    go_ret2
    exact pairI_mk HF.out hb
set_option maxRecDepth 100000 in
set_option maxHeartbeats 4000000 in
theorem implTakenUpTo_any (r : PtR) (p : Pt) (A B : Option Addr) (n c m d : Nat) (ds : List Dm) (l : List Pl) (item : ByteArray) (day : Int) (w : World) (hp : PlantIn w r p) (hok : okPt p) (hds : DemandsIn w A n ds) (hokd : ∀ x ∈ ds, okDm x) (hnc : n ≤ c) (hl : PlannedsIn w B m l) (hokl : ∀ x ∈ l, okPl x) (hday : -9223372036854775808 ≤ day ∧ day ≤ 9223372036854775807) :
    Calls Try.prog 6 #[.agg #[.slice r.i.a r.i.n r.i.c, .slice r.l.a r.l.n r.l.c, .slice r.w.a r.w.n r.w.c, .slice r.e.a r.e.n r.e.c, .slice r.p.a r.p.n r.p.c, .slice r.s.a r.s.n r.s.c, .slice r.q.a r.q.n r.q.c], .slice A n c, .slice B m d, .string item, .int .i64 day] w (PairI w (takenUpTo p ds l item day)) := by
  obtain ⟨⟨a0, n0, c0⟩, ⟨a1, n1, c1⟩, ⟨a2, n2, c2⟩, ⟨a3, n3, c3⟩, ⟨a4, n4, c4⟩, ⟨a5, n5, c5⟩, ⟨a6, n6, c6⟩⟩ := r
  have HP := Lib.hid hp
  have HQ0 := Lib.hid hp.it
  dsimp only at HQ0 ⊢
  clear hp
  have HO := Lib.hid hok
  have HOD := Lib.hid hokd
  have HOL := Lib.hid hokl
  clear hok hokd hokl
  have hb := below_alloc w (.cells #[.slice a0 n0 c0, .slice a1 n1 c1, .slice a2 n2 c2, .slice a3 n3 c3, .slice a4 n4 c4, .slice a5 n5 c5, .slice a6 n6 c6] 34)
  have B0 : BoxOf (w.alloc (.cells #[.slice a0 n0 c0, .slice a1 n1 c1, .slice a2 n2 c2, .slice a3 n3 c3, .slice a4 n4 c4, .slice a5 n5 c5, .slice a6 n6 c6] 34)) w.heap.size [.slice a0 n0 c0, .slice a1 n1 c1, .slice a2 n2 c2, .slice a3 n3 c3, .slice a4 n4 c4, .slice a5 n5 c5, .slice a6 n6 c6] := boxOf_alloc w #[.slice a0 n0 c0, .slice a1 n1 c1, .slice a2 n2 c2, .slice a3 n3 c3, .slice a4 n4 c4, .slice a5 n5 c5, .slice a6 n6 c6] 34
  go_enter Try.func6, Try.ntmps6
  go_wp2_with fail
  generalize (w.alloc (.cells #[.slice a0 n0 c0, .slice a1 n1 c1, .slice a2 n2 c2, .slice a3 n3 c3, .slice a4 n4 c4, .slice a5 n5 c5, .slice a6 n6 c6] 34)) = V at *
  refine (implArePlanned_any ⟨⟨a0, n0, c0⟩, ⟨a1, n1, c1⟩, ⟨a2, n2, c2⟩, ⟨a3, n3, c3⟩, ⟨a4, n4, c4⟩, ⟨a5, n5, c5⟩, ⟨a6, n6, c6⟩⟩ p _ _ _ l _ (HP.out.keep hb) HO.out (hl.keep hb) HOL.out).mono ?_
  rintro e w1 ⟨rfl, hs⟩
  replace hb := below_on hb hs
  replace B0 := B0.keep hs
  clear hs
  obtain ⟨b0, b1, b2, b3, b4, b5, b6, bl⟩ := B0.seven
  cases g1 : arePlanned p l
  · go_wp2_with fail
    go_ret2
    exact pairI_mk (takenUpTo_no _ (by unfold takes; rw [g1]; rfl)) hb
  go_wp2_with fail
  refine (implAreDemands_any _ _ _ ds _ (hds.keep hb) HOD.out hnc).mono ?_
  rintro e w2 ⟨rfl, hs⟩
  clear b0 b1 b2 b3 b4 b5 b6 bl
  replace hb := below_on hb hs
  replace B0 := B0.keep hs
  clear hs
  obtain ⟨b0, b1, b2, b3, b4, b5, b6, bl⟩ := B0.seven
  cases g2 : areDemands ds
  · go_wp2_with fail
    go_ret2
    exact pairI_mk (takenUpTo_no _ (by unfold takes; rw [g1, g2]; rfl)) hb
  go_wp2_with fail
  refine (implFindItem_any _ _ _ p.it _ _ (HQ0.out.keep hb)).mono ?_
  rintro e w3 ⟨rfl, hs⟩
  clear b0 b1 b2 b3 b4 b5 b6 bl
  replace hb := below_on hb hs
  replace B0 := B0.keep hs
  clear hs
  obtain ⟨b0, b1, b2, b3, b4, b5, b6, bl⟩ := B0.seven
  by_cases g3 : 0 ≤ findIt p.it item
  case neg =>
    have g4 : findIt p.it item < 0 := by omega
    go_wp2_with fail
    go_ret2
    exact pairI_mk (takenUpTo_no _ (by unfold takes; rw [g1, g2, decide_eq_false (by omega)]; rfl)) hb
  have g4 : ¬ findIt p.it item < 0 := by omega
  go_wp2_with fail
  clear b0 b1 b2 b3 b4 b5 b6 bl
  have HDY := Lib.hid (takenOn_days (item := item) g1 g2)
  refine (implTaken_any ⟨⟨a0, n0, c0⟩, ⟨a1, n1, c1⟩, ⟨a2, n2, c2⟩, ⟨a3, n3, c3⟩, ⟨a4, n4, c4⟩, ⟨a5, n5, c5⟩, ⟨a6, n6, c6⟩⟩ p _ _ _ _ _ _ ds l item _ (HP.out.keep hb) HO.out (hds.keep hb) (hl.keep hb) g1 g2).mono ?_
  rintro e w4 ⟨A4, n4', c4', rfl, hM, hs⟩
  replace hb := below_on hb hs
  replace B0 := B0.keep hs
  cases g5 : (takenOn p ds l item).2
  · go_wp2_with fail
    go_ret2
    exact pairI_mk (takenUpTo_no _ (takes_eq g1 g2 g3 g5)) hb
  have HF : Hid (takenUpTo p ds l item day = (prefS (takenOn p ds l item).1 (cutD day), true)) := takenUpTo_yes _ (takes_eq g1 g2 g3 g5)
  obtain ⟨g, rfl, rfl, rfl, hA⟩ := hM g5
  generalize (takenOn p ds l item).1 = M at *
  have hml := HDY.out.len
  obtain ⟨D, hD⟩ : ∃ D : Int, (if (999 : Int) < day then 999 else day) = D := ⟨_, rfl⟩
  have hD1 : (D ≤ 999 ∧ cutD day = (max 0 (D + 1)).toNat) := by
    unfold cutD
    split at hD <;> omega
  have hc1000 : cutD day ≤ 1000 := by omega
  have HPB : Hid (∀ j, 0 ≤ prefS M j ∧ prefS M j ≤ 60000000000000000) := fun j => by
    have h1 := pref_le M HDY.out.pos j
    have := HDY.out.sum
    omega
  have HDD := Lib.hid hD
  have HD1 := Lib.hid hD1
  have HC := Lib.hid hc1000
  clear hD1 hc1000 hD
  clear g1 g2 g3 g4 g5 hM hs hday
  go_wp2_with fail
  go_loop [14, 15] (fun s i => ∃ k : Nat, k ≤ cutD day ∧ i = .int .i64 k ∧ s = .int .i64 (prefS M k)) (fun _ i => cutD day - (intOf i).toNat)
  case atStart => exact ⟨0, by omega, rfl, by simp [prefS]⟩
  case round =>
    obtain ⟨k, hk, rfl, rfl⟩ := hrel
    by_cases hlt : (k : Int) ≤ D
    · have hkl : k < M.length := by have := HD1.out; omega
      have hk1000 : k < 1000 := by omega
      have hkc : k + 1 ≤ cutD day := by have := HD1.out; omega
      have HS := Lib.hid (pref_succ M k hkl)
      have h2 := HPB.out (k + 1)
      rw [HS.out] at h2
      have cK := hA.cellN hk1000
      have k2 : (k : Int) < 1000 := by omega
      have h3 := HPB.out k
      generalize prefS M k = s at *
      generalize M.getD k 0 = x at *
      have hw : IntKind.i64.wrap (s + x) = s + x := IntWalk.i64_in _ (by omega)
      have hD := HDD.out
      go_wp2_with fail
      go_round
      case rel => exact ⟨k + 1, hkc, by go_num, by rw [HS.out]⟩
      case measure => simp [intOf]; omega
    · have hk2 : k = cutD day := by have := HD1.out; omega
      have hlt2 : D < (k : Int) := by omega
      have hD := HDD.out
      subst hk2
      go_wp2_with fail
      go_ret2
      exact pairI_mk HF.out hb
end Go.Proofs.Ytlkolehdikfddaa
/- The walk of l18Come. -/
namespace Go.Proofs.Ytlkolehdikfddaa
open Go.RowKit
def comeEvs (p : Pt) (l : List Pl) (item : ByteArray) : List (Int × Int × Int) := evsR (receiptFlows p item) ++ evsG p item l
section
variable {p : Pt} {l : List Pl} {item : ByteArray} (hp : arePlanned p l = true)
include hp
end
end Go.Proofs.Ytlkolehdikfddaa
/- The walks of BalanceOn. -/
namespace Go.Proofs.Ytlkolehdikfddaa
open Go.RowKit
theorem takes_parts {p : Pt} {ds : List Dm} {l : List Pl} {item : ByteArray} (h : takes p ds l item = true) : arePlanned p l = true ∧ areDemands ds = true ∧ 0 ≤ findIt p.it item ∧ (takenOn p ds l item).2 = true := by
  simp only [takes, Bool.and_eq_true, decide_eq_true_eq] at h
  exact h
end Go.Proofs.Ytlkolehdikfddaa
/- The cursor that draws a law's inputs from bytes: what its functions leave of memory. -/
namespace Go.Proofs.Ytlkolehdikfddaa
open Go.RowKit
theorem i64_and255 (n : Int) : bits .and .i64 n 255 = n % 256 := by
  have h127 : (BitVec.ofInt 64 255).toNat = 2 ^ 8 - 1 := by decide
  have key : (BitVec.ofInt 64 n &&& BitVec.ofInt 64 255).toNat = (n % ((2 ^ 64 : Nat) : Int)).toNat % 2 ^ 8 := by
    rw [BitVec.toNat_and, BitVec.toNat_ofInt, h127, Nat.and_two_pow_sub_one_eq_mod]
  show IntKind.i64.wrap ((BitVec.ofInt 64 n &&& BitVec.ofInt 64 255).toNat : Nat) = n % 256
  rw [key, IntKind.wrap_i64]
  omega
theorem i64_and30 (n : Int) : bits .and .i64 n 1073741823 = n % 1073741824 := by
  have h127 : (BitVec.ofInt 64 1073741823).toNat = 2 ^ 30 - 1 := by decide
  have key : (BitVec.ofInt 64 n &&& BitVec.ofInt 64 1073741823).toNat = (n % ((2 ^ 64 : Nat) : Int)).toNat % 2 ^ 30 := by
    rw [BitVec.toNat_and, BitVec.toNat_ofInt, h127, Nat.and_two_pow_sub_one_eq_mod]
  show IntKind.i64.wrap ((BitVec.ofInt 64 n &&& BitVec.ofInt 64 1073741823).toNat : Nat) = n % 1073741824
  rw [key, IntKind.wrap_i64]
  omega
/-- Bytes that came in: their cells, in blocks below 'base'. -/
def BytesAt (w : World) (base : Nat) (A : Option Addr) (n : Nat) : Prop :=
  n ≤ 16777216 ∧ ∀ k, k < n → ∃ (b o : Nat) (x : Int), A = some ⟨b, o, none⟩ ∧ b < base ∧ 0 ≤ x ∧ x ≤ 255 ∧ w.cell? ⟨b, o + k, none⟩ = some (.int .u8 x)
theorem BytesAt.keep {w w' : World} {base B : Nat} {A : Option Addr} {n : Nat} (h : BytesAt w base A n) (hb : Below B w w') (hB : base ≤ B) : BytesAt w' base A n :=
  ⟨h.1, fun k hk => by
    obtain ⟨b, o, x, e, hlt, h0, h1, hc⟩ := h.2 k hk
    exact ⟨b, o, x, e, hlt, h0, h1, (hb.cell (p := ⟨b, o + k, none⟩) (by show b < B; omega)).trans hc⟩⟩
/-- A cursor in block g, over bytes in blocks below 'base'. -/
def CurAt (w : World) (base g : Nat) : Prop :=
  ∃ (A : Option Addr) (n c i : Nat) (h : Int), i ≤ n ∧ base ≤ g ∧ g < w.heap.size ∧ w.cell? ⟨g, 0, none⟩ = some (.slice A n c) ∧ w.cell? ⟨g, 1, none⟩ = some (.int .i64 i) ∧ w.cell? ⟨g, 2, none⟩ = some (.int .i64 h) ∧
    w.frozen? ⟨g, 1, none⟩ = false ∧ w.frozen? ⟨g, 2, none⟩ = false ∧ BytesAt w base A n
theorem CurAt.keep {w w' : World} {base g B : Nat} (h : CurAt w base g) (hb : Below B w w') (hB : g < B) : CurAt w' base g := by
  obtain ⟨A, n, c, i, hv, h1, h2, h3, c0, c1, c2, f1, f2, hby⟩ := h
  refine ⟨A, n, c, i, hv, h1, h2, Nat.lt_of_lt_of_le h3 hb.size, ?_, ?_, ?_, ?_, ?_, hby.keep hb (by omega)⟩
  · exact (hb.cell (p := ⟨g, 0, none⟩) hB).trans c0
  · exact (hb.cell (p := ⟨g, 1, none⟩) hB).trans c1
  · exact (hb.cell (p := ⟨g, 2, none⟩) hB).trans c2
  · exact (hb.frozen (p := ⟨g, 1, none⟩) hB).trans f1
  · exact (hb.frozen (p := ⟨g, 2, none⟩) hB).trans f2
theorem only_set {w : World} {g o : Nat} {v : Value} : Only g (g + 1) w (w.setCell ⟨g, o, none⟩ v) :=
  ⟨rfl, rfl, rfl, by simp, fun k _ hn => heap_setCell_other w ⟨g, o, none⟩ k v (fun e => hn (by simp at e; omega))⟩
theorem only_drewN {lo hi : Nat} {w w' : World} (h : Only lo hi w w') (n : Nat) : Only lo hi w (w'.drewN n) := ⟨h.os, h.tape, h.output, h.size, h.block⟩
theorem curAt_drewN {w : World} {base g : Nat} (h : CurAt w base g) (n : Nat) : CurAt (w.drewN n) base g := h
theorem curAt_i {w : World} {base g A n c i h} (h1 : i ≤ n) (h2 : base ≤ g) (h3 : g < w.heap.size) (c0 : w.cell? ⟨g, 0, none⟩ = some (.slice A n c)) (c1 : w.cell? ⟨g, 1, none⟩ = some (.int .i64 (i : Nat))) (c2 : w.cell? ⟨g, 2, none⟩ = some (.int .i64 h))
    (f1 : w.frozen? ⟨g, 1, none⟩ = false) (f2 : w.frozen? ⟨g, 2, none⟩ = false) (hb : BytesAt w base A n) : CurAt w base g := ⟨A, n, c, i, h, h1, h2, h3, c0, c1, c2, f1, f2, hb⟩
/-- What a store to a cursor's number keeps. -/
theorem cur_set2 {w : World} {base g : Nat} {A : Option Addr} {n : Nat} {i : Nat} {h v : Int} {c : Nat} (h2 : base ≤ g) (c0 : w.cell? ⟨g, 0, none⟩ = some (.slice A n c)) (c1 : w.cell? ⟨g, 1, none⟩ = some (.int .i64 i)) (c2 : w.cell? ⟨g, 2, none⟩ = some (.int .i64 h))
    (f1 : w.frozen? ⟨g, 1, none⟩ = false) (f2 : w.frozen? ⟨g, 2, none⟩ = false) (hb : BytesAt w base A n) :
    (w.setCell ⟨g, 2, none⟩ (.int .i64 v)).cell? ⟨g, 0, none⟩ = some (.slice A n c) ∧ (w.setCell ⟨g, 2, none⟩ (.int .i64 v)).cell? ⟨g, 1, none⟩ = some (.int .i64 i) ∧ (w.setCell ⟨g, 2, none⟩ (.int .i64 v)).cell? ⟨g, 2, none⟩ = some (.int .i64 v) ∧
    (w.setCell ⟨g, 2, none⟩ (.int .i64 v)).frozen? ⟨g, 1, none⟩ = false ∧ (w.setCell ⟨g, 2, none⟩ (.int .i64 v)).frozen? ⟨g, 2, none⟩ = false ∧ BytesAt (w.setCell ⟨g, 2, none⟩ (.int .i64 v)) base A n := by
  refine ⟨?_, ?_, World.cell?_setCell_same _ _ _ c2, by simp [f1], by simp [f2], hb.1, fun k hk => ?_⟩
  · rw [World.cell?_setCell_other _ _ _ _ (by simp)]; exact c0
  · rw [World.cell?_setCell_other _ _ _ _ (by simp)]; exact c1
  · obtain ⟨b, o, x, e, hlt, h0, h1, hc⟩ := hb.2 k hk
    exact ⟨b, o, x, e, hlt, h0, h1, (cell_far (by omega)).trans hc⟩
theorem cur_set1 {w : World} {base g : Nat} {A : Option Addr} {n : Nat} {i : Nat} {h v : Int} {c : Nat} (h2 : base ≤ g) (c0 : w.cell? ⟨g, 0, none⟩ = some (.slice A n c)) (c1 : w.cell? ⟨g, 1, none⟩ = some (.int .i64 i)) (c2 : w.cell? ⟨g, 2, none⟩ = some (.int .i64 h))
    (f1 : w.frozen? ⟨g, 1, none⟩ = false) (f2 : w.frozen? ⟨g, 2, none⟩ = false) (hb : BytesAt w base A n) :
    (w.setCell ⟨g, 1, none⟩ (.int .i64 v)).cell? ⟨g, 0, none⟩ = some (.slice A n c) ∧ (w.setCell ⟨g, 1, none⟩ (.int .i64 v)).cell? ⟨g, 1, none⟩ = some (.int .i64 v) ∧ (w.setCell ⟨g, 1, none⟩ (.int .i64 v)).cell? ⟨g, 2, none⟩ = some (.int .i64 h) ∧
    (w.setCell ⟨g, 1, none⟩ (.int .i64 v)).frozen? ⟨g, 1, none⟩ = false ∧ (w.setCell ⟨g, 1, none⟩ (.int .i64 v)).frozen? ⟨g, 2, none⟩ = false ∧ BytesAt (w.setCell ⟨g, 1, none⟩ (.int .i64 v)) base A n := by
  refine ⟨?_, World.cell?_setCell_same _ _ _ c1, ?_, by simp [f1], by simp [f2], hb.1, fun k hk => ?_⟩
  · rw [World.cell?_setCell_other _ _ _ _ (by simp)]; exact c0
  · rw [World.cell?_setCell_other _ _ _ _ (by simp)]; exact c2
  · obtain ⟨b, o, x, e, hlt, h0, h1, hc⟩ := hb.2 k hk
    exact ⟨b, o, x, e, hlt, h0, h1, (cell_far (by omega)).trans hc⟩
theorem cur_step1 {w : World} {base g : Nat} {A : Option Addr} {n : Nat} {i : Nat} {h : Int} {c : Nat} (h1 : i < n) (h2 : base ≤ g) (h3 : g < w.heap.size) (c0 : w.cell? ⟨g, 0, none⟩ = some (.slice A n c)) (c1 : w.cell? ⟨g, 1, none⟩ = some (.int .i64 i)) (c2 : w.cell? ⟨g, 2, none⟩ = some (.int .i64 h))
    (f1 : w.frozen? ⟨g, 1, none⟩ = false) (f2 : w.frozen? ⟨g, 2, none⟩ = false) (hb : BytesAt w base A n) : CurAt (w.setCell ⟨g, 1, none⟩ (.int .i64 ((i : Int) + 1))) base g := by
  obtain ⟨d0, d1, d2, e1, e2, hb2⟩ := cur_set1 (v := (i : Int) + 1) h2 c0 c1 c2 f1 f2 hb
  exact ⟨A, n, c, i + 1, h, by omega, h2, by simpa using h3, d0, d1, d2, e1, e2, hb2⟩
/-- The ending of a call that draws a number from a cursor: nothing else has turned. -/
def DrawnInt (P : Int → Prop) (w : World) (base g : Nat) (e : Ending) (w' : World) : Prop := ∃ x : Int, e = .returned (.int .i64 x) ∧ P x ∧ CurAt w' base g ∧ Only g (g + 1) w w'
set_option maxRecDepth 100000 in
set_option maxHeartbeats 4000000 in
theorem l1Byte_any (w : World) (base g : Nat) (hc : CurAt w base g) : Calls Try.prog 61 #[.pointer (some ⟨g, 0, none⟩)] w (DrawnInt (fun x => 0 ≤ x ∧ x ≤ 255) w base g) := by
  obtain ⟨A, n, c, i, h, h1, h2, h3, c0, c1, c2, f1, f2, hby⟩ := hc
  have hnn := hby.1
  go_enter Try.func61, Try.ntmps61
  go_wp2
  obtain ⟨d0, d1, d2, e1, e2, hby2⟩ := cur_set2 (v := wrap64 (wrap64 (h * 6364136223846793005) + 1442695040888963407)) h2 c0 c1 c2 f1 f2 hby
  have HO : Only g (g + 1) w (w.setCell ⟨g, 2, none⟩ (.int .i64 (wrap64 (wrap64 (h * 6364136223846793005) + 1442695040888963407)))) := only_set
  have hsz : g < (w.setCell ⟨g, 2, none⟩ (.int .i64 (wrap64 (wrap64 (h * 6364136223846793005) + 1442695040888963407)))).heap.size := by simpa using h3
  clear c0 c1 c2 f1 f2 hby
  generalize wrap64 (wrap64 (h * 6364136223846793005) + 1442695040888963407) = v at *
  generalize hW : w.setCell ⟨g, 2, none⟩ (.int .i64 v) = W1 at *
  clear hW
  have hand : ∀ n, bits .and .i64 n 255 = n % 256 := i64_and255
  by_cases hlt : i < n
  · have hz1 : decide (i < n) = true := by simpa using hlt
    obtain ⟨b, o, x, rfl, hb, x0, x1, hx⟩ := hby2.2 i hlt
    go_quiet (fail)
    go_wp2
    have y0 : 0 ≤ bits BinOp.xor IntKind.i64 (v / 8589934592) (v / 35184372088832) % 256 ∧ bits BinOp.xor IntKind.i64 (v / 8589934592) (v / 35184372088832) % 256 ≤ 255 := by omega
    generalize bits BinOp.xor IntKind.i64 (v / 8589934592) (v / 35184372088832) % 256 = y at *
    obtain ⟨y0, y1⟩ := y0
    have m3 : IntKind.i64.wrap (y + x) = y + x := IntWalk.i64_in _ (by omega)
    go_quiet (fail)
    go_wp2
    go_quiet (fail)
    clear m3
    go_wp2
    go_ret
    exact ⟨_, rfl, by omega, cur_step1 (w := W1.drewN _) hlt h2 hsz d0 d1 d2 e1 e2 hby2, (only_drewN HO _).trans only_set⟩
  · have hz1 : decide (i < n) = false := by simpa using hlt
    go_quiet (fail)
    go_wp2
    have y0 : 0 ≤ bits BinOp.xor IntKind.i64 (v / 8589934592) (v / 35184372088832) % 256 ∧ bits BinOp.xor IntKind.i64 (v / 8589934592) (v / 35184372088832) % 256 ≤ 255 := by omega
    generalize bits BinOp.xor IntKind.i64 (v / 8589934592) (v / 35184372088832) % 256 = y at *
    go_quiet (fail)
    go_wp2
    go_ret
    exact ⟨y, rfl, y0, curAt_drewN (w := W1.drewN _) (curAt_drewN (curAt_i h1 h2 hsz d0 d1 d2 e1 e2 hby2) _) _, only_drewN (only_drewN HO _) _⟩
set_option maxRecDepth 100000 in
set_option maxHeartbeats 4000000 in
theorem l1Below_any (n : Int) (w : World) (base g : Nat) (hn : 1 ≤ n ∧ n ≤ 1000000000) (hc : CurAt w base g) : Calls Try.prog 35 #[.pointer (some ⟨g, 0, none⟩), .int .i64 n] w (DrawnInt (fun x => 0 ≤ x ∧ x ≤ n - 1) w base g) := by
  obtain ⟨n1, n2⟩ := hn
  by_cases h256 : n ≤ 256
  · go_enter Try.func35, Try.ntmps35
    go_wp2_with fail
    refine (l1Byte_any _ _ _ hc).mono ?_
    rintro e w1 ⟨x, rfl, ⟨x0, x1⟩, hc1, HO⟩
    have hm1 := Int.emod_nonneg x (show n ≠ 0 by omega)
    have hm2 := Int.emod_lt_of_pos x (show 0 < n by omega)
    go_wp2_with fail
    go_ret
    exact ⟨_, rfl, by omega, hc1, HO⟩
  · go_enter Try.func35, Try.ntmps35
    go_wp2_with fail
    refine (l1Byte_any _ _ _ hc).mono ?_
    rintro e w1 ⟨x, rfl, ⟨x0, x1⟩, hc1, HO1⟩
    go_wp2_with fail
    refine (l1Byte_any _ _ _ hc1).mono ?_
    rintro e w2 ⟨y, rfl, ⟨y0, y1⟩, hc2, HO2⟩
    go_wp2_with fail
    refine (l1Byte_any _ _ _ hc2).mono ?_
    rintro e w3 ⟨z, rfl, ⟨z0, z1⟩, hc3, HO3⟩
    go_wp2_with fail
    refine (l1Byte_any _ _ _ hc3).mono ?_
    rintro e w4 ⟨u, rfl, ⟨u0, u1⟩, hc4, HO4⟩
    have hm1 := Int.emod_nonneg (x * 16777216 + y * 65536 + z * 256 + u) (show n ≠ 0 by omega)
    have hm2 := Int.emod_lt_of_pos (x * 16777216 + y * 65536 + z * 256 + u) (show 0 < n by omega)
    go_wp2_with fail
    go_ret
    exact ⟨_, rfl, by omega, hc4, ((HO1.trans HO2).trans HO3).trans HO4⟩
def DrawnBool (w : World) (base g : Nat) (e : Ending) (w' : World) : Prop := ∃ x : Bool, e = .returned (.bool x) ∧ CurAt w' base g ∧ Only g (g + 1) w w'
set_option maxRecDepth 100000 in
theorem l1Once_any (n : Int) (w : World) (base g : Nat) (hn : 1 ≤ n ∧ n ≤ 1000000000) (hc : CurAt w base g) : Calls Try.prog 34 #[.pointer (some ⟨g, 0, none⟩), .int .i64 n] w (DrawnBool w base g) := by
  go_enter Try.func34, Try.ntmps34
  go_wp2_with fail
  refine (l1Below_any _ _ _ _ hn hc).mono ?_
  rintro e w1 ⟨x, rfl, _, hc1, HO⟩
  go_wp2_with fail
  go_ret
  exact ⟨_, rfl, hc1, HO⟩
set_option maxRecDepth 100000 in
theorem l1PickInt_any (A : Option Addr) (n c : Nat) (l : List Int) (w : World) (base g : Nat) (hl : IntsIn w A n l) (hn : 1 ≤ n) (hA : ∀ a, A = some a → a.block ≠ g) (hc : CurAt w base g) : Calls Try.prog 37 #[.pointer (some ⟨g, 0, none⟩), .slice A n c] w (DrawnInt (fun x => x ∈ l) w base g) := by
  have hln := hl.len
  obtain rfl := hl.1
  go_enter Try.func37, Try.ntmps37
  go_wp2_with fail
  refine (l1Below_any _ _ _ _ (by omega) hc).mono ?_
  rintro e w1 ⟨x, rfl, ⟨x0, x1⟩, hc1, HO⟩
  obtain ⟨k, rfl⟩ : ∃ k : Nat, x = (k : Int) := ⟨_, (Int.toNat_of_nonneg x0).symm⟩
  have hk : k < l.length := by omega
  obtain ⟨b, o, rfl, hb, hcell⟩ := hl.at_ hk
  have hne := hA _ rfl
  have hcell1 : w1.cell? ⟨b, o + k, none⟩ = some (.int .i64 l[k]) := by rw [World.cell?_of_block (HO.block b hb (by simp at hne; omega))]; exact hcell
  go_wp2_with fail
  go_ret
  exact ⟨_, rfl, List.getElem_mem hk, hc1, HO⟩
end Go.Proofs.Ytlkolehdikfddaa
/- More on the cursor that draws a law's inputs: how it is made, odd numbers. -/
namespace Go.Proofs.Ytlkolehdikfddaa
open Go.RowKit
theorem CurAt.lt {w : World} {base g : Nat} (h : CurAt w base g) : g < w.heap.size := by obtain ⟨A, n, c, i, h, h1, h2, h3, _⟩ := h; exact h3
theorem lit_ints {w : World} {H : Nat} (hH : w.heap.size = H) (cs : Array Value) (l : List Int) (n : Nat) (hn : n = l.length) (hcs : cs.toList = ints l) (hl : l.length ≤ 16777216) : IntsIn (w.alloc (.cells cs 3)) (some ⟨H, 0, none⟩) n l := by
  refine ⟨hn, by simp; omega, by omega, fun _ => ⟨H, 0, rfl, by simp; omega, fun j u hu => ?_⟩⟩
  have := news_at hH cs 3 j u (by rw [hcs]; exact hu)
  rwa [Addr.add_lit] at this
theorem RowVal.only {α : Type} {F : Flat α} {t : TypeId} {w w' : World} {lo a b : Nat} {v : Value} {l : List α} (h : RowVal F t w lo v l) (ho : Only a b w w') (hb : b ≤ lo) : RowVal F t w' lo v l := by
  refine ⟨h.1, ?_⟩
  rcases h.2 with h0 | ⟨g, cap, cur, hv, hlo, hg, hr⟩
  · exact .inl h0
  · refine .inr ⟨g, cap, cur, hv, hlo, ?_, hr⟩
    have hlt : g < w.heap.size := by
      rcases Nat.lt_or_ge g w.heap.size with h1 | h1
      · exact h1
      · rw [Array.getElem?_eq_none h1] at hg; cases hg
    rw [ho.block g hlt (by omega)]; exact hg
theorem OwnRows.only {α : Type} {F : Flat α} {t : TypeId} {w w' : World} {lo a b n c : Nat} {A : Option Addr} {l : List α} (h : OwnRows F t w lo A n c l) (ho : Only a b w w') (hb : b ≤ lo) : OwnRows F t w' lo A n c l := by
  obtain ⟨rfl, h⟩ := h
  exact ⟨rfl, RowVal.only (v := .slice A l.length c) h ho hb⟩
theorem only_below {lo hi : Nat} {w w1 w2 : World} (h : Only lo hi w w1) (k : Below w.heap.size w1 w2) : Only lo hi w w2 :=
  ⟨k.os.trans h.os, k.tape.trans h.tape, k.output.trans h.output, Nat.le_trans h.size k.size, fun i hi hn => (k.block i hi).trans (h.block i hi hn)⟩
set_option maxRecDepth 100000 in
set_option maxHeartbeats 4000000 in
theorem l1New_any (A : Option Addr) (n c : Nat) (w : World) (hb : BytesAt w w.heap.size A n) : Calls Try.prog 12 #[.slice A n c] w fun e w' => ∃ g, e = .returned (.pointer (some ⟨g, 0, none⟩)) ∧ w.heap.size ≤ g ∧ CurAt w' w.heap.size g ∧ Below w.heap.size w w' := by
  have hn := hb.1
  have HB := Lib.hid hb.2
  have hand : ∀ n, bits .and .i64 n 1073741823 = n % 1073741824 := i64_and30
  have hb0 := hb
  clear hb
  go_enter Try.func12, Try.ntmps12
  go_wp2
  go_loop [3, 4] (fun h i => ∃ (k : Nat) (x : Int), k ≤ n ∧ i = .int .i64 k ∧ h = .int .i64 x ∧ 0 ≤ x ∧ x ≤ 1100000000) (fun _ i => n - (intOf i).toNat)
  case atStart => exact ⟨0, _, by omega, rfl, rfl, by omega, by omega⟩
  case round =>
    obtain ⟨k, x, hk, rfl, rfl, x0, x1⟩ := hrel
    by_cases hlt : k < n
    · by_cases h4 : (k : Int) < 4000
      · obtain ⟨b, o, y, rfl, hbl, y0, y1, hc⟩ := HB.out k hlt
        go_wp2
        go_round
        case rel => exact ⟨k + 1, _, by omega, by go_num, rfl, by omega, by omega⟩
        case measure => simp [intOf]; omega
      · go_wp2
        go_ret
        exact ⟨_, rfl, Nat.le_refl _, ⟨A, n, c, 0, x, by omega, Nat.le_refl _, by simp, by simp [go_sem], by simp [go_sem], by simp [go_sem], by simp [go_sem], by simp [go_sem], hb0.keep (below_alloc _ _) (Nat.le_refl _)⟩, below_alloc _ _⟩
    · go_wp2
      go_ret
      exact ⟨_, rfl, Nat.le_refl _, ⟨A, n, c, 0, x, by omega, Nat.le_refl _, by simp, by simp [go_sem], by simp [go_sem], by simp [go_sem], by simp [go_sem], by simp [go_sem], hb0.keep (below_alloc _ _) (Nat.le_refl _)⟩, below_alloc _ _⟩
set_option maxRecDepth 100000 in
set_option maxHeartbeats 1000000 in
theorem l1Odd_any (w : World) (base g : Nat) (hc : CurAt w base g) : Calls Try.prog 55 #[.pointer (some ⟨g, 0, none⟩)] w (DrawnInt (fun _ => True) w base g) := by
  have hg : g < w.heap.size := by obtain ⟨A, n, c, i, h, h1, h2, h3, _⟩ := hc; exact h3
  go_enter Try.func55, Try.ntmps55
  go_wp2_with fail
  refine (l1PickInt_any _ 11 _ [0, 1, -1, 2, 1000000, 1000001, -1000001, 1000000000, 1000000001, 9223372036854775807, -9223372036854775808] _ base g (lit_ints rfl _ _ _ rfl rfl (by simp)) (by omega) (fun a ha => by have := Option.some.inj ha; rw [← this]; show w.heap.size ≠ g; omega) (hc.keep (below_alloc _ _) hg)).mono ?_
  rintro e w1 ⟨x, rfl, _, hc1, HO⟩
  go_wp2_with fail
  go_ret
  exact ⟨_, rfl, trivial, hc1, (Only.of_below (below_alloc _ _)).trans HO⟩
end Go.Proofs.Ytlkolehdikfddaa
