/- Part 19 of the texts of this claim: The walks of BalanceOn. -/
import Derived.Test.YtfjbliefcafiaaaBa18
import Derived.Test.YtfjbliefcafiaaaBa12
/- The walks of BalanceOn. -/
namespace Go.Proofs.Ytfjbliefcafiaaa
open Go.RowKit
theorem areFlows_of {l : List Fl} (ha : ascends l) (h : ∀ f ∈ l, (0 ≤ f.1 ∧ f.1 ≤ 999) ∧ 1 ≤ f.2 ∧ f.2 ≤ 1000000000) (hl : l.length ≤ 40) : areFlows l = true := by
  rw [areFlows_end (fun j hj => ?_)]
  · exact decide_eq_true (by omega)
  · have h1 := h _ (List.getElem_mem hj)
    unfold okFlow
    rw [getD_at _ _ _ hj, inB_iff.2 h1.1, inB_iff.2 h1.2]
    by_cases h0 : j = 0
    · rw [decide_eq_true h0]; rfl
    · rw [decide_eq_false h0, getD_at _ _ _ (show j - 1 < l.length by omega), decide_eq_true (ha (j - 1) j hj (by omega))]; rfl
theorem areFlows_rc {p : Pt} (item : ByteArray) (h : isPlant p = true) : areFlows (receiptFlows p item) = true := by
  rw [receiptFlows_yes h]
  obtain ⟨h1, h2, h3⟩ := rcTo_parts p item h p.rc.length (Nat.le_refl _)
  have h4 := (isPlant_parts h).2.2.2.1
  refine areFlows_of h1 (fun f hf => ?_) (by omega)
  have := h3 f hf
  omega
theorem takes_parts {p : Pt} {ds : List Dm} {l : List Pl} {item : ByteArray} (h : takes p ds l item = true) : arePlanned p l = true ∧ areDemands ds = true ∧ 0 ≤ findIt p.it item ∧ (takenOn p ds l item).2 = true := by
  simp only [takes, Bool.and_eq_true, decide_eq_true_eq] at h
  exact h
theorem balanceOn_no {p : Pt} {ds : List Dm} {l : List Pl} {item : ByteArray} (day : Int) (h : (takes p ds l item && !(phan p.it item)) = false) : balanceOn p ds l item day = (0, false) := by unfold balanceOn; rw [if_neg (by rw [h]; decide)]
theorem balanceOn_yes {p : Pt} {ds : List Dm} {l : List Pl} {item : ByteArray} (day : Int) (h1 : takes p ds l item = true) (h2 : phan p.it item = false) : balanceOn p ds l item day = (stockOf p item + prefS (comeOn p l item) (cutD day) - prefS (takenOn p ds l item).1 (cutD day), true) := by unfold balanceOn; rw [if_pos (by rw [h1, h2]; rfl)]
theorem come_pref {p : Pt} {l : List Pl} (item : ByteArray) (day : Int) (hp : arePlanned p l = true) : prefS (comeOn p l item) (cutD day) = upTo (receiptFlows p item) day + goodTo p item day l := by
  unfold comeOn
  rw [prefS_tk (fun v hv => ?_), evSum_append, evSum_R, evSum_G]
  rcases List.mem_append.1 hv with h | h
  · exact (evsR_ok p item (arePlanned_parts hp).1 v h).2
  · exact (evsG_ok p l item hp v h).2
theorem pref_ok {M : List Int} (h : Days M 60000000000000000) (k j : Nat) : -9000000000000000000 ≤ prefS (M.take k) j ∧ prefS (M.take k) j ≤ 9000000000000000000 := by
  have hd := h.sum
  rcases Nat.lt_or_ge k j with hk | hk
  · have h1 := pref_le M h.pos k
    have : prefS (M.take k) j = prefS M k := by unfold prefS; rw [List.take_take, Nat.min_eq_right (by omega)]
    omega
  · have h1 := pref_le M h.pos j
    rw [pref_take M k j hk]; omega
theorem pref_full {M : List Int} (h : Days M 60000000000000000) (k : Nat) (hk : k ≤ 1000) : prefS (M.take k) (M.take k).length = prefS M k := by
  have := h.len
  rw [List.length_take, Nat.min_eq_left (by omega), pref_take M k k (Nat.le_refl _)]
set_option maxRecDepth 100000 in
set_option maxHeartbeats 8000000 in
theorem specBalanceOn_any (r : PtR) (p : Pt) (A B : Option Addr) (n c m d : Nat) (ds : List Dm) (l : List Pl) (item : ByteArray) (day : Int) (w : World) (hp : PlantIn w r p) (hok : okPt p) (hds : DemandsIn w A n ds) (hokd : ∀ x ∈ ds, okDm x) (hnc : n ≤ c) (hl : PlannedsIn w B m l) (hokl : ∀ x ∈ l, okPl x) (hs9 : item.size ≤ 9223372036854775807) (hday : -9223372036854775808 ≤ day ∧ day ≤ 9223372036854775807) :
    Calls Try.prog 14 #[.agg #[.slice r.i.a r.i.n r.i.c, .slice r.l.a r.l.n r.l.c, .slice r.w.a r.w.n r.w.c, .slice r.e.a r.e.n r.e.c, .slice r.p.a r.p.n r.p.c, .slice r.s.a r.s.n r.s.c, .slice r.q.a r.q.n r.q.c], .slice A n c, .slice B m d, .string item, .int .i64 day] w (PairI w (balanceOn p ds l item day)) := by
  have hnl := hl.1
  subst hnl
  obtain ⟨⟨a0, n0, c0⟩, ⟨a1, n1, c1⟩, ⟨a2, n2, c2⟩, ⟨a3, n3, c3⟩, ⟨a4, n4, c4⟩, ⟨a5, n5, c5⟩, ⟨a6, n6, c6⟩⟩ := r
  have HP := Lib.hid hp
  have HQ0 := Lib.hid hp.it
  dsimp only at HQ0 ⊢
  clear hp
  have hn0 : n0 = p.it.length := HQ0.out.1
  subst hn0
  have HO := Lib.hid hok
  have HOD := Lib.hid hokd
  have HOL := Lib.hid hokl
  clear hok hokd hokl
  have hb := below_alloc w (.cells #[.slice a0 p.it.length c0, .slice a1 n1 c1, .slice a2 n2 c2, .slice a3 n3 c3, .slice a4 n4 c4, .slice a5 n5 c5, .slice a6 n6 c6] 34)
  have B0 : BoxOf (w.alloc (.cells #[.slice a0 p.it.length c0, .slice a1 n1 c1, .slice a2 n2 c2, .slice a3 n3 c3, .slice a4 n4 c4, .slice a5 n5 c5, .slice a6 n6 c6] 34)) w.heap.size [.slice a0 p.it.length c0, .slice a1 n1 c1, .slice a2 n2 c2, .slice a3 n3 c3, .slice a4 n4 c4, .slice a5 n5 c5, .slice a6 n6 c6] := boxOf_alloc w #[.slice a0 p.it.length c0, .slice a1 n1 c1, .slice a2 n2 c2, .slice a3 n3 c3, .slice a4 n4 c4, .slice a5 n5 c5, .slice a6 n6 c6] 34
  go_enter Try.func14, Try.ntmps14
  go_wp2_with fail
  generalize (w.alloc (.cells #[.slice a0 p.it.length c0, .slice a1 n1 c1, .slice a2 n2 c2, .slice a3 n3 c3, .slice a4 n4 c4, .slice a5 n5 c5, .slice a6 n6 c6] 34)) = V at *
  refine (specTakenUpTo_any ⟨⟨a0, p.it.length, c0⟩, ⟨a1, n1, c1⟩, ⟨a2, n2, c2⟩, ⟨a3, n3, c3⟩, ⟨a4, n4, c4⟩, ⟨a5, n5, c5⟩, ⟨a6, n6, c6⟩⟩ p _ _ _ _ _ _ ds l item day _ (HP.out.keep hb) HO.out (hds.keep hb) HOD.out hnc (hl.keep hb) HOL.out hday).mono ?_
  rintro e w1 ⟨rfl, hs⟩
  replace hb := below_on hb hs
  replace B0 := B0.keep hs
  clear hs
  cases g1 : takes p ds l item
  · rw [takenUpTo_no day g1]
    go_wp2_with fail
    refine wp_region_held_drew (S := (fun w' => Below w1.heap.size w1 w' ∧ True)) (by kernel_rfl) ⟨(Below.refl _ _).drew, trivial⟩ (fun hHeld => ?_)
    refine held1 0 (some 24) hHeld ?_
    refine held1 1 (some 25) hHeld ?_
    refine held1 2 (some 26) hHeld ?_
    refine held0 3 (some 27) hHeld ?_
    refine held0 4 (some 28) hHeld ?_
    refine held0 5 (some 29) hHeld ?_
    refine held0 6 (some 30) hHeld ?_
    refine held0 7 (some 31) hHeld ?_
    refine held0 8 (some 32) hHeld ?_
    refine held0 9 (some 33) hHeld ?_
    refine held0 10 (some 34) hHeld ?_
    refine held0 11 (some 35) hHeld ?_
    refine held0 12 (some 36) hHeld ?_
    refine held1 13 (some 37) hHeld ?_
    refine wpAnyH_done (by kernel_rfl) ?_ _
    have hbo := below_on hb hHeld.1
    go_wp2_with fail
    go_ret2
    exact pairI_mk (balanceOn_no _ (by rw [g1]; rfl)) hbo
  rw [takenUpTo_yes day g1]
  obtain ⟨t1, t2, t3, t4⟩ := takes_parts g1
  have HDT := Lib.hid (takenOn_days (item := item) t1 t2)
  have hTK := Lib.hid g1
  have htb : 0 ≤ prefS (takenOn p ds l item).1 (cutD day) ∧ prefS (takenOn p ds l item).1 (cutD day) ≤ 60000000000000000 := by
    have h1 := pref_le _ HDT.out.pos (cutD day)
    have := HDT.out.sum
    omega
  generalize hTN : prefS (takenOn p ds l item).1 (cutD day) = tn at *
  have HTN := Lib.hid hTN
  clear hTN HDT
  obtain ⟨f1, f2⟩ := findIt_bd p.it item
  obtain ⟨qn, hqn⟩ : ∃ qn : Nat, findIt p.it item = (qn : Int) := ⟨(findIt p.it item).toNat, by omega⟩
  have q1 : qn < p.it.length := by omega
  have q2 : (qn : Int) < (p.it.length : Int) := by omega
  have q3 : (0 : Int) ≤ (qn : Int) := by omega
  have HQN := Lib.hid hqn
  have HPX := Lib.hid (planX_at hqn q1)
  have HPH : Hid (phan p.it item = (p.it[qn].2.2.1 == 2)) := by show _ = _; unfold phan; rw [hqn, Int.toNat_natCast, List.getD_eq_getElem?_getD, List.getElem?_eq_getElem q1]; rfl
  have hokx := HO.out.it _ (List.getElem_mem q1)
  have h0 : 0 ≤ findIt p.it item := t3
  clear hqn f1 f2
  obtain ⟨bi, oi, hae, hbi, _, _, t2, _⟩ := item_at (HQ0.out.keep hb) q1
  have HIT := Lib.hid (HQ0.out.keep hb)
  obtain ⟨b0, b1, b2, b3, b4, b5, b6, bl⟩ := B0.seven
  subst hae
  go_wp2_with fail
  refine wp_region_held_drew (S := (fun w' => w'.cell? ⟨w.heap.size, 0, none⟩ = some (.slice (some ⟨bi, oi, none⟩) p.it.length c0) ∧ w'.cell? ⟨bi, oi + qn * 8 + 2, none⟩ = some (.int .i64 p.it[qn].2.2.1) ∧ w' = w1.drew)) (by kernel_rfl) ⟨b0, t2, rfl⟩ (fun hHeld => ?_)
  refine held1 0 (some 24) hHeld ?_
  refine held1 1 (some 25) hHeld ?_
  refine held1 2 (some 26) hHeld ?_
  refine held1 3 (some 27) hHeld ?_
  refine held1 4 (some 28) hHeld ?_
  refine held1 5 (some 29) hHeld ?_
  refine held1 6 (some 30) hHeld ?_
  refine held1 7 (some 31) hHeld ?_
  refine held_do 8 fun K hK => ?_
  go_simp
  go_at_call 11; refine (specFindItem_any _ _ _ p.it _ _ (HIT.out.keep (by obtain ⟨y_c0, y_t2, y_W⟩ := hHeld; rw [y_W]; exact (Below.refl _ _).drew))).mono ?_; rintro e w6 ⟨rfl, rfl⟩; rw [HQN.out]; go_simp
  refine hK.out _ _ ?_ (fun hHeld => ?_)
  · exact hHeld
  clear hK K
  refine held1 9 (some 33) hHeld ?_
  refine held1 10 (some 34) hHeld ?_
  refine held1 11 (some 35) hHeld ?_
  refine held1 12 (some 36) hHeld ?_
  refine held1 13 (some 37) hHeld ?_
  refine wpAnyH_done (by kernel_rfl) ?_ _
  obtain ⟨y_c0, y_t2, y_W⟩ := hHeld
  clear y_c0 y_t2 b0 b1 b2 b3 b4 b5 b6 bl t2 hbi HIT
  try (have y_W2 := y_W; clear y_W2)
  replace hb := hb.drew
  replace B0 := B0.keep (Below.refl w1.heap.size w1).drew
  try subst y_W
  cases g2 : (p.it[qn].2.2.1 == 2)
  case true =>
    go_wp2_with fail
    go_ret2
    exact pairI_mk (balanceOn_no _ (by rw [HPH.out, g2]; simp)) hb
  have HF := Lib.hid (balanceOn_yes day g1 (HPH.out.trans g2))
  rw [HTN.out] at HF
  generalize w1.drew = w2 at *
  obtain ⟨b0, b1, b2, b3, b4, b5, b6, bl⟩ := B0.seven
  go_wp2_with fail
  clear b0 b1 b2 b3 b4 b5 b6 bl
  refine (specCome_any ⟨⟨(some ⟨bi, oi, none⟩), p.it.length, c0⟩, ⟨a1, n1, c1⟩, ⟨a2, n2, c2⟩, ⟨a3, n3, c3⟩, ⟨a4, n4, c4⟩, ⟨a5, n5, c5⟩, ⟨a6, n6, c6⟩⟩ p _ _ _ l item _ (HP.out.keep hb) HO.out hs9 (hl.keep hb) t1 h0).mono ?_
  rintro e w3 ⟨g, rfl, hA, hs⟩
  replace hb := below_on hb hs
  replace B0 := B0.keep hs
  clear hs
  have hdy : Days (comeOn p l item) 60000000000000000 := comeOn_days t1
  generalize comeOn p l item = M at *
  have hml := hdy.len
  have hin : IntsIn w3 (some ⟨g, 0, none⟩) 1000 M := hA.ints (by omega)
  have HPB := Lib.hid (fun k j => pref_ok hdy k j)
  have HEQ := Lib.hid (fun k (hk : k ≤ 1000) => pref_full hdy k hk)
  have HIN := Lib.hid (fun k (hk : k ≤ 1000) => hin.take (k := k) hk)
  have hsb := stockOf_bd p item
  have HMS := Lib.hid (fun k => pref_le M hdy.pos k)
  have hsum := hdy.sum
  clear g1 g2 t1 t2 t3 t4 hA hin hdy
  go_wp2_with fail
  obtain ⟨b0, b1, b2, b3, b4, b5, b6, bl⟩ := B0.seven
  rcases Int.lt_or_le day 0 with d1 | d1
  · have e1 : cutD day = 0 := by unfold cutD; omega
    rw [e1] at HF
    have d2 : ¬ (999 : Int) < day := by omega
    have d3 : day < 999 := by omega
    have d4 : day + 1 ≤ 0 := by omega
    have d5 : ¬ 0 < day + 1 := by omega
    have hw : IntKind.i64.wrap (day + 1) = day + 1 := IntWalk.i64_in _ (by omega)
    have hk := HIN.out 0 (by omega)
    have h9 := HEQ.out 0 (by omega)
    have hms := HMS.out 0
    have hw1 : IntKind.i64.wrap (stockOf p item + prefS M 0) = stockOf p item + prefS M 0 := IntWalk.i64_in _ (by omega)
    have hw2 : IntKind.i64.wrap (stockOf p item + prefS M 0 - tn) = stockOf p item + prefS M 0 - tn := IntWalk.i64_in _ (by omega)
    refine wp_region_held_drew (S := (fun w' => w'.cell? ⟨w.heap.size, 0, none⟩ = some (.slice (some ⟨bi, oi, none⟩) p.it.length c0) ∧ w'.cell? ⟨w.heap.size, 1, none⟩ = some (.slice a1 n1 c1) ∧ w'.cell? ⟨w.heap.size, 2, none⟩ = some (.slice a2 n2 c2) ∧ w'.cell? ⟨w.heap.size, 3, none⟩ = some (.slice a3 n3 c3) ∧ w'.cell? ⟨w.heap.size, 4, none⟩ = some (.slice a4 n4 c4) ∧ w'.cell? ⟨w.heap.size, 5, none⟩ = some (.slice a5 n5 c5) ∧ w'.cell? ⟨w.heap.size, 6, none⟩ = some (.slice a6 n6 c6) ∧ w.heap.size < w'.heap.size ∧ Below w3.heap.size w3 w')) (by kernel_rfl) ⟨b0, b1, b2, b3, b4, b5, b6, bl, (Below.refl _ _).drew⟩ (fun hHeld => ?_)
    refine held1 0 (some 42) hHeld ?_
    refine held1 1 (some 43) hHeld ?_
    refine held1 3 (some 45) hHeld ?_
    refine held1 4 (some 46) hHeld ?_
    refine held1 5 (some 47) hHeld ?_
    refine held1 6 (some 48) hHeld ?_
    refine held1 7 (some 49) hHeld ?_
    refine held1 8 (some 50) hHeld ?_
    refine held1 11 (some 53) hHeld ?_
    refine held_do 2 fun K hK => ?_
    go_simp
    go_at_call 15; refine (specStockOf_any ⟨⟨(some ⟨bi, oi, none⟩), p.it.length, c0⟩, ⟨a1, n1, c1⟩, ⟨a2, n2, c2⟩, ⟨a3, n3, c3⟩, ⟨a4, n4, c4⟩, ⟨a5, n5, c5⟩, ⟨a6, n6, c6⟩⟩ p item _ (HP.out.keep (below_on hb (by obtain ⟨y_c0, y_c1, y_c2, y_c3, y_c4, y_c5, y_c6, y_n, y_R⟩ := hHeld; exact y_R))) HO.out hs9).mono ?_; rintro e w8 ⟨rfl, hb3⟩; go_simp
    refine hK.out _ _ ?_ (fun hHeld => ?_)
    · obtain ⟨y_c0, y_c1, y_c2, y_c3, y_c4, y_c5, y_c6, y_n, y_R⟩ := hHeld; exact ⟨(hb3.cell y_n).trans y_c0, (hb3.cell y_n).trans y_c1, (hb3.cell y_n).trans y_c2, (hb3.cell y_n).trans y_c3, (hb3.cell y_n).trans y_c4, (hb3.cell y_n).trans y_c5, (hb3.cell y_n).trans y_c6, Nat.lt_of_lt_of_le y_n hb3.size, below_on y_R hb3⟩
    clear hK K
    try simp only [Act.put, List.setIfInBounds_toArray, List.set_cons_zero, List.set_cons_succ]
    refine held_do 9 fun K hK => ?_
    go_simp
    go_at_call 31; refine (l1Sum_pref _ _ _ (M.take 0) _ (hk.keep (by obtain ⟨y_c0, y_c1, y_c2, y_c3, y_c4, y_c5, y_c6, y_n, y_R⟩ := hHeld; exact y_R)) (fun j => HPB.out 0 j)).mono ?_; rintro e w9 ⟨rfl, rfl⟩; rw [h9]; go_simp
    refine hK.out _ _ ?_ (fun hHeld => ?_)
    · exact hHeld
    clear hK K
    refine held1 10 (some 52) hHeld ?_
    refine held1 12 (some 54) hHeld ?_
    refine held1 13 (some 10) hHeld ?_
    refine held1 14 (some 11) hHeld ?_
    refine wpAnyH_done (by kernel_rfl) ?_ _
    obtain ⟨y_c0, y_c1, y_c2, y_c3, y_c4, y_c5, y_c6, y_n, y_R⟩ := hHeld
    have hbF := below_on hb y_R
    go_wp2_with fail
    go_ret2
    exact pairI_mk HF.out hbF
  rcases Int.lt_or_le 999 day with d2 | d2
  · have e1 : cutD day = 1000 := by unfold cutD; omega
    rw [e1] at HF
    have hw : IntKind.i64.wrap 1000 = 1000 := IntWalk.i64_in _ (by omega)
    have hk := HIN.out 1000 (by omega)
    have h9 := HEQ.out 1000 (by omega)
    have hms := HMS.out 1000
    have hw1 : IntKind.i64.wrap (stockOf p item + prefS M 1000) = stockOf p item + prefS M 1000 := IntWalk.i64_in _ (by omega)
    have hw2 : IntKind.i64.wrap (stockOf p item + prefS M 1000 - tn) = stockOf p item + prefS M 1000 - tn := IntWalk.i64_in _ (by omega)
    refine wp_region_held_drew (S := (fun w' => w'.cell? ⟨w.heap.size, 0, none⟩ = some (.slice (some ⟨bi, oi, none⟩) p.it.length c0) ∧ w'.cell? ⟨w.heap.size, 1, none⟩ = some (.slice a1 n1 c1) ∧ w'.cell? ⟨w.heap.size, 2, none⟩ = some (.slice a2 n2 c2) ∧ w'.cell? ⟨w.heap.size, 3, none⟩ = some (.slice a3 n3 c3) ∧ w'.cell? ⟨w.heap.size, 4, none⟩ = some (.slice a4 n4 c4) ∧ w'.cell? ⟨w.heap.size, 5, none⟩ = some (.slice a5 n5 c5) ∧ w'.cell? ⟨w.heap.size, 6, none⟩ = some (.slice a6 n6 c6) ∧ w.heap.size < w'.heap.size ∧ Below w3.heap.size w3 w')) (by kernel_rfl) ⟨b0, b1, b2, b3, b4, b5, b6, bl, (Below.refl _ _).drew⟩ (fun hHeld => ?_)
    refine held1 0 (some 42) hHeld ?_
    refine held1 1 (some 43) hHeld ?_
    refine held1 3 (some 45) hHeld ?_
    refine held1 4 (some 46) hHeld ?_
    refine held1 5 (some 47) hHeld ?_
    refine held1 6 (some 48) hHeld ?_
    refine held1 7 (some 49) hHeld ?_
    refine held1 8 (some 50) hHeld ?_
    refine held1 11 (some 53) hHeld ?_
    refine held_do 2 fun K hK => ?_
    go_simp
    go_at_call 15; refine (specStockOf_any ⟨⟨(some ⟨bi, oi, none⟩), p.it.length, c0⟩, ⟨a1, n1, c1⟩, ⟨a2, n2, c2⟩, ⟨a3, n3, c3⟩, ⟨a4, n4, c4⟩, ⟨a5, n5, c5⟩, ⟨a6, n6, c6⟩⟩ p item _ (HP.out.keep (below_on hb (by obtain ⟨y_c0, y_c1, y_c2, y_c3, y_c4, y_c5, y_c6, y_n, y_R⟩ := hHeld; exact y_R))) HO.out hs9).mono ?_; rintro e w8 ⟨rfl, hb3⟩; go_simp
    refine hK.out _ _ ?_ (fun hHeld => ?_)
    · obtain ⟨y_c0, y_c1, y_c2, y_c3, y_c4, y_c5, y_c6, y_n, y_R⟩ := hHeld; exact ⟨(hb3.cell y_n).trans y_c0, (hb3.cell y_n).trans y_c1, (hb3.cell y_n).trans y_c2, (hb3.cell y_n).trans y_c3, (hb3.cell y_n).trans y_c4, (hb3.cell y_n).trans y_c5, (hb3.cell y_n).trans y_c6, Nat.lt_of_lt_of_le y_n hb3.size, below_on y_R hb3⟩
    clear hK K
    try simp only [Act.put, List.setIfInBounds_toArray, List.set_cons_zero, List.set_cons_succ]
    refine held_do 9 fun K hK => ?_
    go_simp
    go_at_call 31; refine (l1Sum_pref _ _ _ (M.take 1000) _ (hk.keep (by obtain ⟨y_c0, y_c1, y_c2, y_c3, y_c4, y_c5, y_c6, y_n, y_R⟩ := hHeld; exact y_R)) (fun j => HPB.out 1000 j)).mono ?_; rintro e w9 ⟨rfl, rfl⟩; rw [h9]; go_simp
    refine hK.out _ _ ?_ (fun hHeld => ?_)
    · exact hHeld
    clear hK K
    refine held1 10 (some 52) hHeld ?_
    refine held1 12 (some 54) hHeld ?_
    refine held1 13 (some 10) hHeld ?_
    refine held1 14 (some 11) hHeld ?_
    refine wpAnyH_done (by kernel_rfl) ?_ _
    obtain ⟨y_c0, y_c1, y_c2, y_c3, y_c4, y_c5, y_c6, y_n, y_R⟩ := hHeld
    have hbF := below_on hb y_R
    go_wp2_with fail
    go_ret2
    exact pairI_mk HF.out hbF
  · obtain ⟨dn, rfl⟩ : ∃ dn : Nat, day = (dn : Int) := ⟨day.toNat, by omega⟩
    have e1 : cutD (dn : Int) = dn + 1 := by unfold cutD; omega
    rw [e1] at HF
    have d3 : ¬ (999 : Int) < (dn : Int) := by omega
    have d4 : (0 : Int) < (dn : Int) + 1 := by omega
    have d5 : ¬ (dn : Int) + 1 < 0 := by omega
    have d6 : (dn : Int) + 1 ≤ 1000 := by omega
    have d7 : (0 : Int) ≤ (dn : Int) + 1 := by omega
    have d8 : ((dn : Int) + 1).toNat = dn + 1 := by omega
    have hw : IntKind.i64.wrap ((dn : Int) + 1) = (dn : Int) + 1 := IntWalk.i64_in _ (by omega)
    have hk := HIN.out (dn + 1) (by omega)
    have h9 := HEQ.out (dn + 1) (by omega)
    have hms := HMS.out (dn + 1)
    have hw1 : IntKind.i64.wrap (stockOf p item + prefS M (dn + 1)) = stockOf p item + prefS M (dn + 1) := IntWalk.i64_in _ (by omega)
    have hw2 : IntKind.i64.wrap (stockOf p item + prefS M (dn + 1) - tn) = stockOf p item + prefS M (dn + 1) - tn := IntWalk.i64_in _ (by omega)
    refine wp_region_held_drew (S := (fun w' => w'.cell? ⟨w.heap.size, 0, none⟩ = some (.slice (some ⟨bi, oi, none⟩) p.it.length c0) ∧ w'.cell? ⟨w.heap.size, 1, none⟩ = some (.slice a1 n1 c1) ∧ w'.cell? ⟨w.heap.size, 2, none⟩ = some (.slice a2 n2 c2) ∧ w'.cell? ⟨w.heap.size, 3, none⟩ = some (.slice a3 n3 c3) ∧ w'.cell? ⟨w.heap.size, 4, none⟩ = some (.slice a4 n4 c4) ∧ w'.cell? ⟨w.heap.size, 5, none⟩ = some (.slice a5 n5 c5) ∧ w'.cell? ⟨w.heap.size, 6, none⟩ = some (.slice a6 n6 c6) ∧ w.heap.size < w'.heap.size ∧ Below w3.heap.size w3 w')) (by kernel_rfl) ⟨b0, b1, b2, b3, b4, b5, b6, bl, (Below.refl _ _).drew⟩ (fun hHeld => ?_)
    refine held1 0 (some 42) hHeld ?_
    refine held1 1 (some 43) hHeld ?_
    refine held1 3 (some 45) hHeld ?_
    refine held1 4 (some 46) hHeld ?_
    refine held1 5 (some 47) hHeld ?_
    refine held1 6 (some 48) hHeld ?_
    refine held1 7 (some 49) hHeld ?_
    refine held1 8 (some 50) hHeld ?_
    refine held1 11 (some 53) hHeld ?_
    refine held_do 2 fun K hK => ?_
    go_simp
    go_at_call 15; refine (specStockOf_any ⟨⟨(some ⟨bi, oi, none⟩), p.it.length, c0⟩, ⟨a1, n1, c1⟩, ⟨a2, n2, c2⟩, ⟨a3, n3, c3⟩, ⟨a4, n4, c4⟩, ⟨a5, n5, c5⟩, ⟨a6, n6, c6⟩⟩ p item _ (HP.out.keep (below_on hb (by obtain ⟨y_c0, y_c1, y_c2, y_c3, y_c4, y_c5, y_c6, y_n, y_R⟩ := hHeld; exact y_R))) HO.out hs9).mono ?_; rintro e w8 ⟨rfl, hb3⟩; go_simp
    refine hK.out _ _ ?_ (fun hHeld => ?_)
    · obtain ⟨y_c0, y_c1, y_c2, y_c3, y_c4, y_c5, y_c6, y_n, y_R⟩ := hHeld; exact ⟨(hb3.cell y_n).trans y_c0, (hb3.cell y_n).trans y_c1, (hb3.cell y_n).trans y_c2, (hb3.cell y_n).trans y_c3, (hb3.cell y_n).trans y_c4, (hb3.cell y_n).trans y_c5, (hb3.cell y_n).trans y_c6, Nat.lt_of_lt_of_le y_n hb3.size, below_on y_R hb3⟩
    clear hK K
    try simp only [Act.put, List.setIfInBounds_toArray, List.set_cons_zero, List.set_cons_succ]
    refine held_do 9 fun K hK => ?_
    go_simp
    go_at_call 31; refine (l1Sum_pref _ _ _ (M.take (dn + 1)) _ (hk.keep (by obtain ⟨y_c0, y_c1, y_c2, y_c3, y_c4, y_c5, y_c6, y_n, y_R⟩ := hHeld; exact y_R)) (fun j => HPB.out (dn + 1) j)).mono ?_; rintro e w9 ⟨rfl, rfl⟩; rw [h9]; go_simp
    refine hK.out _ _ ?_ (fun hHeld => ?_)
    · exact hHeld
    clear hK K
    refine held1 10 (some 52) hHeld ?_
    refine held1 12 (some 54) hHeld ?_
    refine held1 13 (some 10) hHeld ?_
    refine held1 14 (some 11) hHeld ?_
    refine wpAnyH_done (by kernel_rfl) ?_ _
    obtain ⟨y_c0, y_c1, y_c2, y_c3, y_c4, y_c5, y_c6, y_n, y_R⟩ := hHeld
    have hbF := below_on hb y_R
    go_wp2_with fail
    go_ret2
    exact pairI_mk HF.out hbF
set_option maxRecDepth 100000 in
set_option maxHeartbeats 8000000 in
theorem implBalanceOn_any (r : PtR) (p : Pt) (A B : Option Addr) (n c m d : Nat) (ds : List Dm) (l : List Pl) (item : ByteArray) (day : Int) (w : World) (hp : PlantIn w r p) (hok : okPt p) (hds : DemandsIn w A n ds) (hokd : ∀ x ∈ ds, okDm x) (hnc : n ≤ c) (hl : PlannedsIn w B m l) (hokl : ∀ x ∈ l, okPl x) (hs9 : item.size ≤ 9223372036854775807) (hday : -9223372036854775808 ≤ day ∧ day ≤ 9223372036854775807) :
    Calls Try.prog 13 #[.agg #[.slice r.i.a r.i.n r.i.c, .slice r.l.a r.l.n r.l.c, .slice r.w.a r.w.n r.w.c, .slice r.e.a r.e.n r.e.c, .slice r.p.a r.p.n r.p.c, .slice r.s.a r.s.n r.s.c, .slice r.q.a r.q.n r.q.c], .slice A n c, .slice B m d, .string item, .int .i64 day] w (PairI w (balanceOn p ds l item day)) := by
  have hnl := hl.1
  subst hnl
  obtain ⟨⟨a0, n0, c0⟩, ⟨a1, n1, c1⟩, ⟨a2, n2, c2⟩, ⟨a3, n3, c3⟩, ⟨a4, n4, c4⟩, ⟨a5, n5, c5⟩, ⟨a6, n6, c6⟩⟩ := r
  have HP := Lib.hid hp
  have HQ0 := Lib.hid hp.it
  dsimp only at HQ0 ⊢
  clear hp
  have hn0 : n0 = p.it.length := HQ0.out.1
  subst hn0
  have HO := Lib.hid hok
  have HOD := Lib.hid hokd
  have HOL := Lib.hid hokl
  clear hok hokd hokl
  have hb := below_alloc w (.cells #[.slice a0 p.it.length c0, .slice a1 n1 c1, .slice a2 n2 c2, .slice a3 n3 c3, .slice a4 n4 c4, .slice a5 n5 c5, .slice a6 n6 c6] 34)
  have B0 : BoxOf (w.alloc (.cells #[.slice a0 p.it.length c0, .slice a1 n1 c1, .slice a2 n2 c2, .slice a3 n3 c3, .slice a4 n4 c4, .slice a5 n5 c5, .slice a6 n6 c6] 34)) w.heap.size [.slice a0 p.it.length c0, .slice a1 n1 c1, .slice a2 n2 c2, .slice a3 n3 c3, .slice a4 n4 c4, .slice a5 n5 c5, .slice a6 n6 c6] := boxOf_alloc w #[.slice a0 p.it.length c0, .slice a1 n1 c1, .slice a2 n2 c2, .slice a3 n3 c3, .slice a4 n4 c4, .slice a5 n5 c5, .slice a6 n6 c6] 34
  go_enter Try.func13, Try.ntmps13
  go_wp2_with fail
  generalize (w.alloc (.cells #[.slice a0 p.it.length c0, .slice a1 n1 c1, .slice a2 n2 c2, .slice a3 n3 c3, .slice a4 n4 c4, .slice a5 n5 c5, .slice a6 n6 c6] 34)) = V at *
  refine (implTakenUpTo_any ⟨⟨a0, p.it.length, c0⟩, ⟨a1, n1, c1⟩, ⟨a2, n2, c2⟩, ⟨a3, n3, c3⟩, ⟨a4, n4, c4⟩, ⟨a5, n5, c5⟩, ⟨a6, n6, c6⟩⟩ p _ _ _ _ _ _ ds l item day _ (HP.out.keep hb) HO.out (hds.keep hb) HOD.out hnc (hl.keep hb) HOL.out hday).mono ?_
  rintro e w1 ⟨rfl, hs⟩
  replace hb := below_on hb hs
  replace B0 := B0.keep hs
  clear hs
  cases g1 : takes p ds l item
  · rw [takenUpTo_no day g1]
    go_wp2_with fail
    skip
    go_ret2
    exact pairI_mk (balanceOn_no _ (by rw [g1]; rfl)) hb
  rw [takenUpTo_yes day g1]
  obtain ⟨t1, t2, t3, t4⟩ := takes_parts g1
  have HDT := Lib.hid (takenOn_days (item := item) t1 t2)
  have hTK := Lib.hid g1
  have htb : 0 ≤ prefS (takenOn p ds l item).1 (cutD day) ∧ prefS (takenOn p ds l item).1 (cutD day) ≤ 60000000000000000 := by
    have h1 := pref_le _ HDT.out.pos (cutD day)
    have := HDT.out.sum
    omega
  generalize hTN : prefS (takenOn p ds l item).1 (cutD day) = tn at *
  have HTN := Lib.hid hTN
  clear hTN HDT
  obtain ⟨f1, f2⟩ := findIt_bd p.it item
  obtain ⟨qn, hqn⟩ : ∃ qn : Nat, findIt p.it item = (qn : Int) := ⟨(findIt p.it item).toNat, by omega⟩
  have q1 : qn < p.it.length := by omega
  have q2 : (qn : Int) < (p.it.length : Int) := by omega
  have q3 : (0 : Int) ≤ (qn : Int) := by omega
  have HQN := Lib.hid hqn
  have HPX := Lib.hid (planX_at hqn q1)
  have HPH : Hid (phan p.it item = (p.it[qn].2.2.1 == 2)) := by show _ = _; unfold phan; rw [hqn, Int.toNat_natCast, List.getD_eq_getElem?_getD, List.getElem?_eq_getElem q1]; rfl
  have hokx := HO.out.it _ (List.getElem_mem q1)
  have h0 : 0 ≤ findIt p.it item := t3
  clear hqn f1 f2
  obtain ⟨bi, oi, hae, hbi, t0, t1', t2, t3', t4', t5', t6', t7'⟩ := item_at (HQ0.out.keep hb) q1
  obtain ⟨b0, b1, b2, b3, b4, b5, b6, bl⟩ := B0.seven
  subst hae
  have hz1 := hb.size
  go_wp2_with fail
  have g0 := fun (v : World) (h : Below w1.heap.size w1 v) => (h.cell (p := ⟨w.heap.size, 0, none⟩) bl).trans b0
  have g1 := fun (v : World) (h : Below w1.heap.size w1 v) => (h.cell (p := ⟨bi, oi + qn * 8, none⟩) hbi).trans t0
  have g2 := fun (v : World) (h : Below w1.heap.size w1 v) => (h.cell (p := ⟨bi, oi + qn * 8 + 1, none⟩) hbi).trans t1'
  have g3 := fun (v : World) (h : Below w1.heap.size w1 v) => (h.cell (p := ⟨bi, oi + qn * 8 + 2, none⟩) hbi).trans t2
  have g4 := fun (v : World) (h : Below w1.heap.size w1 v) => (h.cell (p := ⟨bi, oi + qn * 8 + 3, none⟩) hbi).trans t3'
  have g5 := fun (v : World) (h : Below w1.heap.size w1 v) => (h.cell (p := ⟨bi, oi + qn * 8 + 4, none⟩) hbi).trans t4'
  have g6 := fun (v : World) (h : Below w1.heap.size w1 v) => (h.cell (p := ⟨bi, oi + qn * 8 + 5, none⟩) hbi).trans t5'
  have g7 := fun (v : World) (h : Below w1.heap.size w1 v) => (h.cell (p := ⟨bi, oi + qn * 8 + 6, none⟩) hbi).trans t6'
  have g8 := fun (v : World) (h : Below w1.heap.size w1 v) => (h.cell (p := ⟨bi, oi + qn * 8 + 7, none⟩) hbi).trans t7'
  refine wp_region_held_drew (S := (fun w' => Below w1.heap.size w1 w' ∧ True)) (by kernel_rfl) ⟨(Below.refl _ _).drew, trivial⟩ (fun hHeld => ?_)
  refine held_on 0 (some 31) rfl rfl (by kernel_rfl) (by kernel_rfl) (by kernel_rfl) (fun _ _ _ h => h) (by rfl) hHeld (v := ?v57) ?y57 ?r57
  case y57 => intro w hSw; (try dsimp only at hSw); have v0 := g0 w hSw.1; have v1 := g1 w hSw.1; have v2 := g2 w hSw.1; have v3 := g3 w hSw.1; have v4 := g4 w hSw.1; have v5 := g5 w hSw.1; have v6 := g6 w hSw.1; have v7 := g7 w hSw.1; have v8 := g8 w hSw.1; go_simp; (try with_reducible rfl)
  try simp only [Act.put, List.setIfInBounds_toArray, List.set_cons_zero, List.set_cons_succ]
  refine held_on 1 (some 32) rfl rfl (by kernel_rfl) (by kernel_rfl) (by kernel_rfl) (fun _ _ _ h => h) (by rfl) hHeld (v := ?v58) ?y58 ?r58
  case y58 => intro w hSw; (try dsimp only at hSw); have v0 := g0 w hSw.1; have v1 := g1 w hSw.1; have v2 := g2 w hSw.1; have v3 := g3 w hSw.1; have v4 := g4 w hSw.1; have v5 := g5 w hSw.1; have v6 := g6 w hSw.1; have v7 := g7 w hSw.1; have v8 := g8 w hSw.1; go_simp; (try with_reducible rfl)
  try simp only [Act.put, List.setIfInBounds_toArray, List.set_cons_zero, List.set_cons_succ]
  refine held_on 2 (some 33) rfl rfl (by kernel_rfl) (by kernel_rfl) (by kernel_rfl) (fun _ _ _ h => h) (by rfl) hHeld (v := ?v59) ?y59 ?r59
  case y59 => intro w hSw; (try dsimp only at hSw); have v0 := g0 w hSw.1; have v1 := g1 w hSw.1; have v2 := g2 w hSw.1; have v3 := g3 w hSw.1; have v4 := g4 w hSw.1; have v5 := g5 w hSw.1; have v6 := g6 w hSw.1; have v7 := g7 w hSw.1; have v8 := g8 w hSw.1; go_simp; (try with_reducible rfl)
  try simp only [Act.put, List.setIfInBounds_toArray, List.set_cons_zero, List.set_cons_succ]
  refine held_on 3 (some 34) rfl rfl (by kernel_rfl) (by kernel_rfl) (by kernel_rfl) (fun _ _ _ h => h) (by rfl) hHeld (v := ?v60) ?y60 ?r60
  case y60 => intro w hSw; (try dsimp only at hSw); have v0 := g0 w hSw.1; have v1 := g1 w hSw.1; have v2 := g2 w hSw.1; have v3 := g3 w hSw.1; have v4 := g4 w hSw.1; have v5 := g5 w hSw.1; have v6 := g6 w hSw.1; have v7 := g7 w hSw.1; have v8 := g8 w hSw.1; go_simp; (try with_reducible rfl)
  try simp only [Act.put, List.setIfInBounds_toArray, List.set_cons_zero, List.set_cons_succ]
  refine held_on 4 (some 35) rfl rfl (by kernel_rfl) (by kernel_rfl) (by kernel_rfl) (fun _ _ _ h => h) (by rfl) hHeld (v := ?v61) ?y61 ?r61
  case y61 => intro w hSw; (try dsimp only at hSw); have v0 := g0 w hSw.1; have v1 := g1 w hSw.1; have v2 := g2 w hSw.1; have v3 := g3 w hSw.1; have v4 := g4 w hSw.1; have v5 := g5 w hSw.1; have v6 := g6 w hSw.1; have v7 := g7 w hSw.1; have v8 := g8 w hSw.1; go_simp; (try with_reducible rfl)
  try simp only [Act.put, List.setIfInBounds_toArray, List.set_cons_zero, List.set_cons_succ]
  refine wpAnyH_ready (rs := [5, 8]) (by kernel_rfl) (by simp) ?_
  refine AllReadyH.cons rfl (fun K hK => ?_) (AllReadyH.cons rfl (fun K hK => ?_) (AllReadyH.nil))
  · skip
    go_simp
    go_at_call 26; refine (implFindItem_any _ _ _ p.it _ _ (HQ0.out.keep (below_on hb hHeld.1))).mono ?_; rintro e w6 ⟨rfl, hb3⟩; rw [HQN.out]; go_simp
    have hk6 := below_on hHeld.1 hb3
    refine hK.out _ _ ?_ (fun hHeld => ?_)
    · exact ⟨hk6, trivial⟩
    clear hK K
    try simp only [Act.put, List.setIfInBounds_toArray, List.set_cons_zero, List.set_cons_succ]
    refine held_on 6 (some 37) rfl rfl (by kernel_rfl) (by kernel_rfl) (by kernel_rfl) (fun _ _ _ h => h) (by rfl) hHeld (v := ?v62) ?y62 ?r62
    case y62 => intro w hSw; (try dsimp only at hSw); have v0 := g0 w hSw.1; have v1 := g1 w hSw.1; have v2 := g2 w hSw.1; have v3 := g3 w hSw.1; have v4 := g4 w hSw.1; have v5 := g5 w hSw.1; have v6 := g6 w hSw.1; have v7 := g7 w hSw.1; have v8 := g8 w hSw.1; go_simp; (try with_reducible rfl)
    try simp only [Act.put, List.setIfInBounds_toArray, List.set_cons_zero, List.set_cons_succ]
    refine held_on 7 (some 38) rfl rfl (by kernel_rfl) (by kernel_rfl) (by kernel_rfl) (fun _ _ _ h => h) (by rfl) hHeld (v := ?v63) ?y63 ?r63
    case y63 => intro w hSw; (try dsimp only at hSw); have v0 := g0 w hSw.1; have v1 := g1 w hSw.1; have v2 := g2 w hSw.1; have v3 := g3 w hSw.1; have v4 := g4 w hSw.1; have v5 := g5 w hSw.1; have v6 := g6 w hSw.1; have v7 := g7 w hSw.1; have v8 := g8 w hSw.1; go_simp; (try with_reducible rfl)
    try simp only [Act.put, List.setIfInBounds_toArray, List.set_cons_zero, List.set_cons_succ]
    refine held_do 8 fun K hK => ?_
    go_simp
    refine hK.out _ _ ?_ (fun hHeld => ?_)
    · exact ⟨hk6.alloc hk6.size _, trivial⟩
    clear hK K
    try simp only [Act.put, List.setIfInBounds_toArray, List.set_cons_zero, List.set_cons_succ]
    refine held_do 9 fun K hK => ?_
    go_simp
    refine hK.out _ _ ?_ (fun hHeld => ?_)
    · exact ⟨hk6.alloc hk6.size _, trivial⟩
    clear hK K
    try simp only [Act.put, List.setIfInBounds_toArray, List.set_cons_zero, List.set_cons_succ]
    refine wpAnyH_done (by kernel_rfl) ?_ _
    have BX : BoxOf (w6.alloc (.cells #[.string p.it[qn].1, .string p.it[qn].2.1, .int .i64 p.it[qn].2.2.1, .int .i64 p.it[qn].2.2.2.1, .int .i64 p.it[qn].2.2.2.2.1, .int .i64 p.it[qn].2.2.2.2.2.1, .int .i64 p.it[qn].2.2.2.2.2.2.1, .int .i64 p.it[qn].2.2.2.2.2.2.2] 47)) w6.heap.size [.string p.it[qn].1, .string p.it[qn].2.1, .int .i64 p.it[qn].2.2.1, .int .i64 p.it[qn].2.2.2.1, .int .i64 p.it[qn].2.2.2.2.1, .int .i64 p.it[qn].2.2.2.2.2.1, .int .i64 p.it[qn].2.2.2.2.2.2.1, .int .i64 p.it[qn].2.2.2.2.2.2.2] := boxOf_alloc w6 #[.string p.it[qn].1, .string p.it[qn].2.1, .int .i64 p.it[qn].2.2.1, .int .i64 p.it[qn].2.2.2.1, .int .i64 p.it[qn].2.2.2.2.1, .int .i64 p.it[qn].2.2.2.2.2.1, .int .i64 p.it[qn].2.2.2.2.2.2.1, .int .i64 p.it[qn].2.2.2.2.2.2.2] 47
    clear hk6
    have B0W := B0.keep hHeld.1
    have hbW := below_on hb hHeld.1
    clear g0 g1 g2 g3 g4 g5 g6 g7 g8 b0 b1 b2 b3 b4 b5 b6 bl t0 t1' t2 t3' t4' t5' t6' t7' hbi hHeld B0 hb hz1
    generalize (w6.alloc (.cells #[.string p.it[qn].1, .string p.it[qn].2.1, .int .i64 p.it[qn].2.2.1, .int .i64 p.it[qn].2.2.2.1, .int .i64 p.it[qn].2.2.2.2.1, .int .i64 p.it[qn].2.2.2.2.2.1, .int .i64 p.it[qn].2.2.2.2.2.2.1, .int .i64 p.it[qn].2.2.2.2.2.2.2] 47)) = w2 at *
    generalize w6.heap.size = NX at *
    have x2 := BX.2 2 _ rfl
    cases k2 : (p.it[qn].2.2.1 == 2)
    case true =>
      go_wp2_with fail
      go_ret2
      exact pairI_mk (balanceOn_no _ (by rw [HPH.out, k2]; simp)) hbW
    have hip := (arePlanned_parts t1).1
    have HF : Hid (balanceOn p ds l item day = (stockOf p item + upTo (receiptFlows p item) day - tn + goodTo p item day (l.take l.length), true)) := by
      show _ = _
      rw [balanceOn_yes day hTK.out (HPH.out.trans k2), HTN.out, come_pref item day t1, List.take_length]
      congr 1; omega
    have hsb := stockOf_bd p item
    have hfb := areFlows_bd (areFlows_rc item hip) day (receiptFlows p item).length
    rw [List.take_length] at hfb
    have hrl := receiptFlows_len p item
    have HAF := Lib.hid (areFlows_rc item hip)
    have HPP := Lib.hid (arePlanned_parts t1).2.2
    have h500 := (arePlanned_parts t1).2.1
    have HGB := Lib.hid (goodTo_bd p item day l (fun o ho => by obtain ⟨j, hj, rfl⟩ := List.mem_iff_getElem.1 ho; have := ((arePlanned_parts t1).2.2 j hj).2.2.1; omega))
    generalize hup : upTo (receiptFlows p item) day = up at *
    have HUP := Lib.hid hup
    have hw1 : IntKind.i64.wrap (stockOf p item + up) = stockOf p item + up := IntWalk.i64_in _ (by omega)
    have hw2 : IntKind.i64.wrap (stockOf p item + up - tn) = stockOf p item + up - tn := IntWalk.i64_in _ (by omega)
    clear hup t1 hip
    go_wp2_with fail
    clear x2 k2
    obtain ⟨b0, b1, b2, b3, b4, b5, b6, bl⟩ := B0W.seven
    refine wp_region_held_drew (S := (fun w' => w'.cell? ⟨w.heap.size, 0, none⟩ = some (.slice (some ⟨bi, oi, none⟩) p.it.length c0) ∧ w'.cell? ⟨w.heap.size, 1, none⟩ = some (.slice a1 n1 c1) ∧ w'.cell? ⟨w.heap.size, 2, none⟩ = some (.slice a2 n2 c2) ∧ w'.cell? ⟨w.heap.size, 3, none⟩ = some (.slice a3 n3 c3) ∧ w'.cell? ⟨w.heap.size, 4, none⟩ = some (.slice a4 n4 c4) ∧ w'.cell? ⟨w.heap.size, 5, none⟩ = some (.slice a5 n5 c5) ∧ w'.cell? ⟨w.heap.size, 6, none⟩ = some (.slice a6 n6 c6) ∧ w.heap.size < w'.heap.size ∧ Below w2.heap.size w2 w')) (by kernel_rfl) ⟨b0, b1, b2, b3, b4, b5, b6, bl, (Below.refl _ _).drew⟩ (fun hHeld => ?_)
    refine held1 0 (some 42) hHeld ?_
    refine held1 1 (some 43) hHeld ?_
    refine held1 3 (some 45) hHeld ?_
    refine held1 4 (some 46) hHeld ?_
    refine held1 6 (some 48) hHeld ?_
    refine held1 9 (some 51) hHeld ?_
    refine held_do 2 fun K hK => ?_
    go_simp
    go_at_call 39; refine (implStockOf_any ⟨⟨(some ⟨bi, oi, none⟩), p.it.length, c0⟩, ⟨a1, n1, c1⟩, ⟨a2, n2, c2⟩, ⟨a3, n3, c3⟩, ⟨a4, n4, c4⟩, ⟨a5, n5, c5⟩, ⟨a6, n6, c6⟩⟩ p item _ (HP.out.keep (below_on hbW (by obtain ⟨y_c0, y_c1, y_c2, y_c3, y_c4, y_c5, y_c6, y_n, y_R⟩ := hHeld; exact y_R))) HO.out hs9).mono ?_; rintro e w8 ⟨rfl, hb3⟩; go_simp
    refine hK.out _ _ ?_ (fun hHeld => ?_)
    · obtain ⟨y_c0, y_c1, y_c2, y_c3, y_c4, y_c5, y_c6, y_n, y_R⟩ := hHeld; exact ⟨(hb3.cell y_n).trans y_c0, (hb3.cell y_n).trans y_c1, (hb3.cell y_n).trans y_c2, (hb3.cell y_n).trans y_c3, (hb3.cell y_n).trans y_c4, (hb3.cell y_n).trans y_c5, (hb3.cell y_n).trans y_c6, Nat.lt_of_lt_of_le y_n hb3.size, below_on y_R hb3⟩
    clear hK K
    try simp only [Act.put, List.setIfInBounds_toArray, List.set_cons_zero, List.set_cons_succ]
    refine held_do 5 fun K hK => ?_
    go_simp
    go_at_call 41; refine (implReceiptFlows_any ⟨⟨(some ⟨bi, oi, none⟩), p.it.length, c0⟩, ⟨a1, n1, c1⟩, ⟨a2, n2, c2⟩, ⟨a3, n3, c3⟩, ⟨a4, n4, c4⟩, ⟨a5, n5, c5⟩, ⟨a6, n6, c6⟩⟩ p item _ (HP.out.keep (below_on hbW (by obtain ⟨y_c0, y_c1, y_c2, y_c3, y_c4, y_c5, y_c6, y_n, y_R⟩ := hHeld; exact y_R))) HO.out hs9).mono ?_; rintro e w9 ⟨A9, q9, rfl, hfl, hb3⟩; have hfl2 := hfl.rows (by omega); go_simp
    refine hK.out _ _ ?_ (fun hHeld => ?_)
    · obtain ⟨y_c0, y_c1, y_c2, y_c3, y_c4, y_c5, y_c6, y_n, y_R⟩ := hHeld; exact ⟨(hb3.cell y_n).trans y_c0, (hb3.cell y_n).trans y_c1, (hb3.cell y_n).trans y_c2, (hb3.cell y_n).trans y_c3, (hb3.cell y_n).trans y_c4, (hb3.cell y_n).trans y_c5, (hb3.cell y_n).trans y_c6, Nat.lt_of_lt_of_le y_n hb3.size, below_on y_R hb3⟩
    clear hK K
    try simp only [Act.put, List.setIfInBounds_toArray, List.set_cons_zero, List.set_cons_succ]
    refine held_do 7 fun K hK => ?_
    go_simp
    go_at_call 40; refine (implFlowUpTo_any _ _ _ (receiptFlows p item) day _ hfl2).mono ?_; rintro e w10 ⟨rfl, hb3⟩; rw [flowUpTo_yes HAF.out, HUP.out]; go_simp
    refine hK.out _ _ ?_ (fun hHeld => ?_)
    · obtain ⟨y_c0, y_c1, y_c2, y_c3, y_c4, y_c5, y_c6, y_n, y_R⟩ := hHeld; exact ⟨(hb3.cell y_n).trans y_c0, (hb3.cell y_n).trans y_c1, (hb3.cell y_n).trans y_c2, (hb3.cell y_n).trans y_c3, (hb3.cell y_n).trans y_c4, (hb3.cell y_n).trans y_c5, (hb3.cell y_n).trans y_c6, Nat.lt_of_lt_of_le y_n hb3.size, below_on y_R hb3⟩
    clear hK K
    refine held1 8 (some 50) hHeld ?_
    refine held1 10 (some 52) hHeld ?_
    refine held1 11 (some 15) hHeld ?_
    refine wpAnyH_done (by kernel_rfl) ?_ _
    obtain ⟨y_c0, y_c1, y_c2, y_c3, y_c4, y_c5, y_c6, y_n, y_R⟩ := hHeld
    replace BX := BX.keep y_R
    have hb := below_on hbW y_R
    clear y_c0 y_c1 y_c2 y_c3 y_c4 y_c5 y_c6 y_n y_R b0 b1 b2 b3 b4 b5 b6 bl B0W hbW hfl hfl2
    go_wp2_with fail
    go_loopw [15, 55] (fun s i wr => ∃ k : Nat, k ≤ l.length ∧ i = .int .i64 k ∧ s = .int .i64 (stockOf p item + up - tn + goodTo p item day (l.take k)) ∧ BoxOf wr NX [.string p.it[qn].1, .string p.it[qn].2.1, .int .i64 p.it[qn].2.2.1, .int .i64 p.it[qn].2.2.2.1, .int .i64 p.it[qn].2.2.2.2.1, .int .i64 p.it[qn].2.2.2.2.2.1, .int .i64 p.it[qn].2.2.2.2.2.2.1, .int .i64 p.it[qn].2.2.2.2.2.2.2] ∧ Below w.heap.size w wr) (fun _ i _ => l.length - (intOf i).toNat)
    case atStart => exact ⟨0, by omega, rfl, by simp [goodTo], BX, hb⟩
    case round =>
      clear BX hb
      obtain ⟨k, hk, rfl, rfl, BX, hb⟩ := hrel
      by_cases hlt : k < l.length
      case neg =>
        obtain rfl : k = l.length := by omega
        go_wp2_with fail
        go_ret2
        exact pairI_mk HF.out hb
      obtain ⟨b, o, rfl, hbl, hc0, hc1, hc2, hc3, hc4⟩ := planned_at (hl.keep hb) hlt
      have hs := below_alloc wr (.cells #[.string l[k].1, .int .i64 l[k].2.1, .int .i64 l[k].2.2.1, .int .i64 l[k].2.2.2.1, .bool l[k].2.2.2.2] 44)
      have BO : BoxOf (wr.alloc (.cells #[.string l[k].1, .int .i64 l[k].2.1, .int .i64 l[k].2.2.1, .int .i64 l[k].2.2.2.1, .bool l[k].2.2.2.2] 44)) wr.heap.size [.string l[k].1, .int .i64 l[k].2.1, .int .i64 l[k].2.2.1, .int .i64 l[k].2.2.2.1, .bool l[k].2.2.2.2] := boxOf_alloc wr #[.string l[k].1, .int .i64 l[k].2.1, .int .i64 l[k].2.2.1, .int .i64 l[k].2.2.2.1, .bool l[k].2.2.2.2] 44
      replace hb := below_on hb hs
      replace BX := BX.keep hs
      have HGT := Lib.hid (goodTo_take p item day l k hlt)
      have hg0 := HGB.out k
      have hg1 := HGB.out (k + 1)
      obtain ⟨z1, z2, ⟨z3, z4⟩, ⟨z5, z6⟩, z7, z8⟩ := HPP.out k hlt
      generalize goodTo p item day (l.take k) = gs at *
      cases heq : (l[k].1.toList == item.toList)
      case false =>
        have HNO : Hid (goodTo p item day (l.take (k + 1)) = gs) := by show _ = _; rw [HGT.out, if_neg (by unfold isOf; rw [heq]; simp), Int.add_zero]
        go_wp2_with fail
        go_roundw
        case rel => exact ⟨k + 1, by omega, by go_num, by rw [HNO.out], BX, hb⟩
        case measure => simp [intOf]; omega
      by_cases hdue : l[k].2.2.2.1 ≤ day
      case neg =>
        have HNO : Hid (goodTo p item day (l.take (k + 1)) = gs) := by show _ = _; rw [HGT.out, if_neg (by rw [decide_eq_false (by omega)]; simp), Int.add_zero]
        go_wp2_with fail
        go_roundw
        case rel => exact ⟨k + 1, by omega, by go_num, by rw [HNO.out], BX, hb⟩
        case measure => simp [intOf]; omega
      have hgd := netOf_bd p.it[qn] l[k].2.1 (by omega)
      have HYS : Hid (goodTo p item day (l.take (k + 1)) = gs + (netOf p.it[qn] l[k].2.1).1) := by show _ = _; rw [HGT.out, if_pos (by unfold isOf; rw [heq, decide_eq_true hdue]; rfl)]; unfold goodOf; rw [HPX.out]
      have x0 := BX.2 0 _ rfl
      have x1 := BX.2 1 _ rfl
      have x2 := BX.2 2 _ rfl
      have x3 := BX.2 3 _ rfl
      have x4 := BX.2 4 _ rfl
      have x5 := BX.2 5 _ rfl
      have x6 := BX.2 6 _ rfl
      have x7 := BX.2 7 _ rfl
      go_wp2_with fail
      refine (implNetOf_any p.it[qn] _ _ hokx).mono ?_
      rintro e w12 ⟨rfl, hs⟩
      replace hb := below_on hb hs
      replace BX := BX.keep hs
      clear hs x0 x1 x2 x3 x4 x5 x6 x7
      generalize hgg : netOf p.it[qn] l[k].2.1 = gg at *
      have hw3 : IntKind.i64.wrap (stockOf p item + up - tn + gs + gg.1) = stockOf p item + up - tn + gs + gg.1 := IntWalk.i64_in _ (by omega)
      go_wp2_with fail
      go_roundw
      case rel => exact ⟨k + 1, by omega, by go_num, by rw [HYS.out, Int.add_assoc], BX, hb⟩
      case measure => simp [intOf]; omega
  · skip
    go_simp
    refine hK.out _ _ ?_ (fun hHeld => ?_)
    · exact ⟨hHeld.1.alloc hHeld.1.size _, trivial⟩
    clear hK K
    try simp only [Act.put, List.setIfInBounds_toArray, List.set_cons_zero, List.set_cons_succ]
    refine held_do 5 fun K hK => ?_
    have BZ : BoxOf (w1.drew.alloc (.cells #[.string { data := #[] }, .string { data := #[] }, .int .i64 0, .int .i64 0, .int .i64 0, .int .i64 0, .int .i64 0, .int .i64 0] 47)) w1.heap.size [.string { data := #[] }, .string { data := #[] }, .int .i64 0, .int .i64 0, .int .i64 0, .int .i64 0, .int .i64 0, .int .i64 0] := boxOf_alloc w1.drew #[.string { data := #[] }, .string { data := #[] }, .int .i64 0, .int .i64 0, .int .i64 0, .int .i64 0, .int .i64 0, .int .i64 0] 47
    have FZ : ∀ j, (w1.drew.alloc (.cells #[.string { data := #[] }, .string { data := #[] }, .int .i64 0, .int .i64 0, .int .i64 0, .int .i64 0, .int .i64 0, .int .i64 0] 47)).frozen? ⟨w1.heap.size, j, none⟩ = false := fun j => by simp [go_sem]
    go_simp
    go_at_call 26; refine (implFindItem_any _ _ _ p.it _ _ (HQ0.out.keep (below_on hb hHeld.1))).mono ?_; rintro e w6 ⟨rfl, hb3⟩; rw [HQN.out]; go_simp
    have hk6 := below_on hHeld.1 hb3
    have BZ6 := BZ.keep hb3
    have FZ6 : ∀ j, w6.frozen? ⟨w1.heap.size, j, none⟩ = false := fun j => (hb3.frozen (p := ⟨w1.heap.size, j, none⟩) BZ.1).trans (FZ j)
    refine hK.out _ _ ?_ (fun hHeld => ?_)
    · exact ⟨hk6, trivial⟩
    clear hK K
    try simp only [Act.put, List.setIfInBounds_toArray, List.set_cons_zero, List.set_cons_succ]
    refine held_on 6 (some 37) rfl rfl (by kernel_rfl) (by kernel_rfl) (by kernel_rfl) (fun _ _ _ h => h) (by rfl) hHeld (v := ?v73) ?y73 ?r73
    case y73 => intro w hSw; (try dsimp only at hSw); have v0 := g0 w hSw.1; have v1 := g1 w hSw.1; have v2 := g2 w hSw.1; have v3 := g3 w hSw.1; have v4 := g4 w hSw.1; have v5 := g5 w hSw.1; have v6 := g6 w hSw.1; have v7 := g7 w hSw.1; have v8 := g8 w hSw.1; go_simp; (try with_reducible rfl)
    try simp only [Act.put, List.setIfInBounds_toArray, List.set_cons_zero, List.set_cons_succ]
    refine held_on 7 (some 38) rfl rfl (by kernel_rfl) (by kernel_rfl) (by kernel_rfl) (fun _ _ _ h => h) (by rfl) hHeld (v := ?v74) ?y74 ?r74
    case y74 => intro w hSw; (try dsimp only at hSw); have v0 := g0 w hSw.1; have v1 := g1 w hSw.1; have v2 := g2 w hSw.1; have v3 := g3 w hSw.1; have v4 := g4 w hSw.1; have v5 := g5 w hSw.1; have v6 := g6 w hSw.1; have v7 := g7 w hSw.1; have v8 := g8 w hSw.1; go_simp; (try with_reducible rfl)
    try simp only [Act.put, List.setIfInBounds_toArray, List.set_cons_zero, List.set_cons_succ]
    refine held_do 9 fun K hK => ?_
    have x0 := BZ6.2 0 _ rfl
    have x1 := BZ6.2 1 _ rfl
    have x2 := BZ6.2 2 _ rfl
    have x3 := BZ6.2 3 _ rfl
    have x4 := BZ6.2 4 _ rfl
    have x5 := BZ6.2 5 _ rfl
    have x6 := BZ6.2 6 _ rfl
    have x7 := BZ6.2 7 _ rfl
    have z0 := FZ6 0
    have z1 := FZ6 1
    have z2 := FZ6 2
    have z3 := FZ6 3
    have z4 := FZ6 4
    have z5 := FZ6 5
    have z6 := FZ6 6
    have z7 := FZ6 7
    go_simp
    refine hK.out _ _ ?_ (fun hHeld => ?_)
    · exact ⟨((((((((hk6.setCell (p := ⟨w1.heap.size, 0, none⟩) (Nat.le_refl _) (.string p.it[qn].1)).setCell (p := ⟨w1.heap.size, 1, none⟩) (Nat.le_refl _) (.string p.it[qn].2.1)).setCell (p := ⟨w1.heap.size, 2, none⟩) (Nat.le_refl _) (.int .i64 p.it[qn].2.2.1)).setCell (p := ⟨w1.heap.size, 3, none⟩) (Nat.le_refl _) (.int .i64 p.it[qn].2.2.2.1)).setCell (p := ⟨w1.heap.size, 4, none⟩) (Nat.le_refl _) (.int .i64 p.it[qn].2.2.2.2.1)).setCell (p := ⟨w1.heap.size, 5, none⟩) (Nat.le_refl _) (.int .i64 p.it[qn].2.2.2.2.2.1)).setCell (p := ⟨w1.heap.size, 6, none⟩) (Nat.le_refl _) (.int .i64 p.it[qn].2.2.2.2.2.2.1)).setCell (p := ⟨w1.heap.size, 7, none⟩) (Nat.le_refl _) (.int .i64 p.it[qn].2.2.2.2.2.2.2)), trivial⟩
    clear hK K
    try simp only [Act.put, List.setIfInBounds_toArray, List.set_cons_zero, List.set_cons_succ]
    refine wpAnyH_done (by kernel_rfl) ?_ _
    have D0 := BZ6
    have G0 := FZ6
    have D1 := D0.set G0 0 (.string p.it[qn].1) (by simp)
    have G1 := frozen_set (M := w1.heap.size) G0 0 (.string p.it[qn].1)
    have D2 := D1.set G1 1 (.string p.it[qn].2.1) (by simp)
    have G2 := frozen_set (M := w1.heap.size) G1 1 (.string p.it[qn].2.1)
    have D3 := D2.set G2 2 (.int .i64 p.it[qn].2.2.1) (by simp)
    have G3 := frozen_set (M := w1.heap.size) G2 2 (.int .i64 p.it[qn].2.2.1)
    have D4 := D3.set G3 3 (.int .i64 p.it[qn].2.2.2.1) (by simp)
    have G4 := frozen_set (M := w1.heap.size) G3 3 (.int .i64 p.it[qn].2.2.2.1)
    have D5 := D4.set G4 4 (.int .i64 p.it[qn].2.2.2.2.1) (by simp)
    have G5 := frozen_set (M := w1.heap.size) G4 4 (.int .i64 p.it[qn].2.2.2.2.1)
    have D6 := D5.set G5 5 (.int .i64 p.it[qn].2.2.2.2.2.1) (by simp)
    have G6 := frozen_set (M := w1.heap.size) G5 5 (.int .i64 p.it[qn].2.2.2.2.2.1)
    have D7 := D6.set G6 6 (.int .i64 p.it[qn].2.2.2.2.2.2.1) (by simp)
    have G7 := frozen_set (M := w1.heap.size) G6 6 (.int .i64 p.it[qn].2.2.2.2.2.2.1)
    have D8 := D7.set G7 7 (.int .i64 p.it[qn].2.2.2.2.2.2.2) (by simp)
    have G8 := frozen_set (M := w1.heap.size) G7 7 (.int .i64 p.it[qn].2.2.2.2.2.2.2)
    simp only [List.set_cons_zero, List.set_cons_succ] at D8
    have BX : BoxOf ((((((((w6.setCell ⟨w1.heap.size, 0, none⟩ (.string p.it[qn].1)).setCell ⟨w1.heap.size, 1, none⟩ (.string p.it[qn].2.1)).setCell ⟨w1.heap.size, 2, none⟩ (.int .i64 p.it[qn].2.2.1)).setCell ⟨w1.heap.size, 3, none⟩ (.int .i64 p.it[qn].2.2.2.1)).setCell ⟨w1.heap.size, 4, none⟩ (.int .i64 p.it[qn].2.2.2.2.1)).setCell ⟨w1.heap.size, 5, none⟩ (.int .i64 p.it[qn].2.2.2.2.2.1)).setCell ⟨w1.heap.size, 6, none⟩ (.int .i64 p.it[qn].2.2.2.2.2.2.1)).setCell ⟨w1.heap.size, 7, none⟩ (.int .i64 p.it[qn].2.2.2.2.2.2.2)) w1.heap.size [.string p.it[qn].1, .string p.it[qn].2.1, .int .i64 p.it[qn].2.2.1, .int .i64 p.it[qn].2.2.2.1, .int .i64 p.it[qn].2.2.2.2.1, .int .i64 p.it[qn].2.2.2.2.2.1, .int .i64 p.it[qn].2.2.2.2.2.2.1, .int .i64 p.it[qn].2.2.2.2.2.2.2] := D8
    clear D0 D1 D2 D3 D4 D5 D6 D7 D8 G0 G1 G2 G3 G4 G5 G6 G7 G8 BZ6 FZ6 hk6 BZ FZ x0 x1 x2 x3 x4 x5 x6 x7 z0 z1 z2 z3 z4 z5 z6 z7
    have B0W := B0.keep hHeld.1
    have hbW := below_on hb hHeld.1
    clear g0 g1 g2 g3 g4 g5 g6 g7 g8 b0 b1 b2 b3 b4 b5 b6 bl t0 t1' t2 t3' t4' t5' t6' t7' hbi hHeld B0 hb hz1
    generalize ((((((((w6.setCell ⟨w1.heap.size, 0, none⟩ (.string p.it[qn].1)).setCell ⟨w1.heap.size, 1, none⟩ (.string p.it[qn].2.1)).setCell ⟨w1.heap.size, 2, none⟩ (.int .i64 p.it[qn].2.2.1)).setCell ⟨w1.heap.size, 3, none⟩ (.int .i64 p.it[qn].2.2.2.1)).setCell ⟨w1.heap.size, 4, none⟩ (.int .i64 p.it[qn].2.2.2.2.1)).setCell ⟨w1.heap.size, 5, none⟩ (.int .i64 p.it[qn].2.2.2.2.2.1)).setCell ⟨w1.heap.size, 6, none⟩ (.int .i64 p.it[qn].2.2.2.2.2.2.1)).setCell ⟨w1.heap.size, 7, none⟩ (.int .i64 p.it[qn].2.2.2.2.2.2.2)) = w2 at *
    generalize w1.heap.size = NX at *
    have x2 := BX.2 2 _ rfl
    cases k2 : (p.it[qn].2.2.1 == 2)
    case true =>
      go_wp2_with fail
      go_ret2
      exact pairI_mk (balanceOn_no _ (by rw [HPH.out, k2]; simp)) hbW
    have hip := (arePlanned_parts t1).1
    have HF : Hid (balanceOn p ds l item day = (stockOf p item + upTo (receiptFlows p item) day - tn + goodTo p item day (l.take l.length), true)) := by
      show _ = _
      rw [balanceOn_yes day hTK.out (HPH.out.trans k2), HTN.out, come_pref item day t1, List.take_length]
      congr 1; omega
    have hsb := stockOf_bd p item
    have hfb := areFlows_bd (areFlows_rc item hip) day (receiptFlows p item).length
    rw [List.take_length] at hfb
    have hrl := receiptFlows_len p item
    have HAF := Lib.hid (areFlows_rc item hip)
    have HPP := Lib.hid (arePlanned_parts t1).2.2
    have h500 := (arePlanned_parts t1).2.1
    have HGB := Lib.hid (goodTo_bd p item day l (fun o ho => by obtain ⟨j, hj, rfl⟩ := List.mem_iff_getElem.1 ho; have := ((arePlanned_parts t1).2.2 j hj).2.2.1; omega))
    generalize hup : upTo (receiptFlows p item) day = up at *
    have HUP := Lib.hid hup
    have hw1 : IntKind.i64.wrap (stockOf p item + up) = stockOf p item + up := IntWalk.i64_in _ (by omega)
    have hw2 : IntKind.i64.wrap (stockOf p item + up - tn) = stockOf p item + up - tn := IntWalk.i64_in _ (by omega)
    clear hup t1 hip
    go_wp2_with fail
    clear x2 k2
    obtain ⟨b0, b1, b2, b3, b4, b5, b6, bl⟩ := B0W.seven
    refine wp_region_held_drew (S := (fun w' => w'.cell? ⟨w.heap.size, 0, none⟩ = some (.slice (some ⟨bi, oi, none⟩) p.it.length c0) ∧ w'.cell? ⟨w.heap.size, 1, none⟩ = some (.slice a1 n1 c1) ∧ w'.cell? ⟨w.heap.size, 2, none⟩ = some (.slice a2 n2 c2) ∧ w'.cell? ⟨w.heap.size, 3, none⟩ = some (.slice a3 n3 c3) ∧ w'.cell? ⟨w.heap.size, 4, none⟩ = some (.slice a4 n4 c4) ∧ w'.cell? ⟨w.heap.size, 5, none⟩ = some (.slice a5 n5 c5) ∧ w'.cell? ⟨w.heap.size, 6, none⟩ = some (.slice a6 n6 c6) ∧ w.heap.size < w'.heap.size ∧ Below w2.heap.size w2 w')) (by kernel_rfl) ⟨b0, b1, b2, b3, b4, b5, b6, bl, (Below.refl _ _).drew⟩ (fun hHeld => ?_)
    refine held1 0 (some 42) hHeld ?_
    refine held1 1 (some 43) hHeld ?_
    refine held1 3 (some 45) hHeld ?_
    refine held1 4 (some 46) hHeld ?_
    refine held1 6 (some 48) hHeld ?_
    refine held1 9 (some 51) hHeld ?_
    refine held_do 2 fun K hK => ?_
    go_simp
    go_at_call 39; refine (implStockOf_any ⟨⟨(some ⟨bi, oi, none⟩), p.it.length, c0⟩, ⟨a1, n1, c1⟩, ⟨a2, n2, c2⟩, ⟨a3, n3, c3⟩, ⟨a4, n4, c4⟩, ⟨a5, n5, c5⟩, ⟨a6, n6, c6⟩⟩ p item _ (HP.out.keep (below_on hbW (by obtain ⟨y_c0, y_c1, y_c2, y_c3, y_c4, y_c5, y_c6, y_n, y_R⟩ := hHeld; exact y_R))) HO.out hs9).mono ?_; rintro e w8 ⟨rfl, hb3⟩; go_simp
    refine hK.out _ _ ?_ (fun hHeld => ?_)
    · obtain ⟨y_c0, y_c1, y_c2, y_c3, y_c4, y_c5, y_c6, y_n, y_R⟩ := hHeld; exact ⟨(hb3.cell y_n).trans y_c0, (hb3.cell y_n).trans y_c1, (hb3.cell y_n).trans y_c2, (hb3.cell y_n).trans y_c3, (hb3.cell y_n).trans y_c4, (hb3.cell y_n).trans y_c5, (hb3.cell y_n).trans y_c6, Nat.lt_of_lt_of_le y_n hb3.size, below_on y_R hb3⟩
    clear hK K
    try simp only [Act.put, List.setIfInBounds_toArray, List.set_cons_zero, List.set_cons_succ]
    refine held_do 5 fun K hK => ?_
    go_simp
    go_at_call 41; refine (implReceiptFlows_any ⟨⟨(some ⟨bi, oi, none⟩), p.it.length, c0⟩, ⟨a1, n1, c1⟩, ⟨a2, n2, c2⟩, ⟨a3, n3, c3⟩, ⟨a4, n4, c4⟩, ⟨a5, n5, c5⟩, ⟨a6, n6, c6⟩⟩ p item _ (HP.out.keep (below_on hbW (by obtain ⟨y_c0, y_c1, y_c2, y_c3, y_c4, y_c5, y_c6, y_n, y_R⟩ := hHeld; exact y_R))) HO.out hs9).mono ?_; rintro e w9 ⟨A9, q9, rfl, hfl, hb3⟩; have hfl2 := hfl.rows (by omega); go_simp
    refine hK.out _ _ ?_ (fun hHeld => ?_)
    · obtain ⟨y_c0, y_c1, y_c2, y_c3, y_c4, y_c5, y_c6, y_n, y_R⟩ := hHeld; exact ⟨(hb3.cell y_n).trans y_c0, (hb3.cell y_n).trans y_c1, (hb3.cell y_n).trans y_c2, (hb3.cell y_n).trans y_c3, (hb3.cell y_n).trans y_c4, (hb3.cell y_n).trans y_c5, (hb3.cell y_n).trans y_c6, Nat.lt_of_lt_of_le y_n hb3.size, below_on y_R hb3⟩
    clear hK K
    try simp only [Act.put, List.setIfInBounds_toArray, List.set_cons_zero, List.set_cons_succ]
    refine held_do 7 fun K hK => ?_
    go_simp
    go_at_call 40; refine (implFlowUpTo_any _ _ _ (receiptFlows p item) day _ hfl2).mono ?_; rintro e w10 ⟨rfl, hb3⟩; rw [flowUpTo_yes HAF.out, HUP.out]; go_simp
    refine hK.out _ _ ?_ (fun hHeld => ?_)
    · obtain ⟨y_c0, y_c1, y_c2, y_c3, y_c4, y_c5, y_c6, y_n, y_R⟩ := hHeld; exact ⟨(hb3.cell y_n).trans y_c0, (hb3.cell y_n).trans y_c1, (hb3.cell y_n).trans y_c2, (hb3.cell y_n).trans y_c3, (hb3.cell y_n).trans y_c4, (hb3.cell y_n).trans y_c5, (hb3.cell y_n).trans y_c6, Nat.lt_of_lt_of_le y_n hb3.size, below_on y_R hb3⟩
    clear hK K
    refine held1 8 (some 50) hHeld ?_
    refine held1 10 (some 52) hHeld ?_
    refine held1 11 (some 15) hHeld ?_
    refine wpAnyH_done (by kernel_rfl) ?_ _
    obtain ⟨y_c0, y_c1, y_c2, y_c3, y_c4, y_c5, y_c6, y_n, y_R⟩ := hHeld
    replace BX := BX.keep y_R
    have hb := below_on hbW y_R
    clear y_c0 y_c1 y_c2 y_c3 y_c4 y_c5 y_c6 y_n y_R b0 b1 b2 b3 b4 b5 b6 bl B0W hbW hfl hfl2
    go_wp2_with fail
    go_loopw [15, 55] (fun s i wr => ∃ k : Nat, k ≤ l.length ∧ i = .int .i64 k ∧ s = .int .i64 (stockOf p item + up - tn + goodTo p item day (l.take k)) ∧ BoxOf wr NX [.string p.it[qn].1, .string p.it[qn].2.1, .int .i64 p.it[qn].2.2.1, .int .i64 p.it[qn].2.2.2.1, .int .i64 p.it[qn].2.2.2.2.1, .int .i64 p.it[qn].2.2.2.2.2.1, .int .i64 p.it[qn].2.2.2.2.2.2.1, .int .i64 p.it[qn].2.2.2.2.2.2.2] ∧ Below w.heap.size w wr) (fun _ i _ => l.length - (intOf i).toNat)
    case atStart => exact ⟨0, by omega, rfl, by simp [goodTo], BX, hb⟩
    case round =>
      clear BX hb
      obtain ⟨k, hk, rfl, rfl, BX, hb⟩ := hrel
      by_cases hlt : k < l.length
      case neg =>
        obtain rfl : k = l.length := by omega
        go_wp2_with fail
        go_ret2
        exact pairI_mk HF.out hb
      obtain ⟨b, o, rfl, hbl, hc0, hc1, hc2, hc3, hc4⟩ := planned_at (hl.keep hb) hlt
      have hs := below_alloc wr (.cells #[.string l[k].1, .int .i64 l[k].2.1, .int .i64 l[k].2.2.1, .int .i64 l[k].2.2.2.1, .bool l[k].2.2.2.2] 44)
      have BO : BoxOf (wr.alloc (.cells #[.string l[k].1, .int .i64 l[k].2.1, .int .i64 l[k].2.2.1, .int .i64 l[k].2.2.2.1, .bool l[k].2.2.2.2] 44)) wr.heap.size [.string l[k].1, .int .i64 l[k].2.1, .int .i64 l[k].2.2.1, .int .i64 l[k].2.2.2.1, .bool l[k].2.2.2.2] := boxOf_alloc wr #[.string l[k].1, .int .i64 l[k].2.1, .int .i64 l[k].2.2.1, .int .i64 l[k].2.2.2.1, .bool l[k].2.2.2.2] 44
      replace hb := below_on hb hs
      replace BX := BX.keep hs
      have HGT := Lib.hid (goodTo_take p item day l k hlt)
      have hg0 := HGB.out k
      have hg1 := HGB.out (k + 1)
      obtain ⟨z1, z2, ⟨z3, z4⟩, ⟨z5, z6⟩, z7, z8⟩ := HPP.out k hlt
      generalize goodTo p item day (l.take k) = gs at *
      cases heq : (l[k].1.toList == item.toList)
      case false =>
        have HNO : Hid (goodTo p item day (l.take (k + 1)) = gs) := by show _ = _; rw [HGT.out, if_neg (by unfold isOf; rw [heq]; simp), Int.add_zero]
        go_wp2_with fail
        go_roundw
        case rel => exact ⟨k + 1, by omega, by go_num, by rw [HNO.out], BX, hb⟩
        case measure => simp [intOf]; omega
      by_cases hdue : l[k].2.2.2.1 ≤ day
      case neg =>
        have HNO : Hid (goodTo p item day (l.take (k + 1)) = gs) := by show _ = _; rw [HGT.out, if_neg (by rw [decide_eq_false (by omega)]; simp), Int.add_zero]
        go_wp2_with fail
        go_roundw
        case rel => exact ⟨k + 1, by omega, by go_num, by rw [HNO.out], BX, hb⟩
        case measure => simp [intOf]; omega
      have hgd := netOf_bd p.it[qn] l[k].2.1 (by omega)
      have HYS : Hid (goodTo p item day (l.take (k + 1)) = gs + (netOf p.it[qn] l[k].2.1).1) := by show _ = _; rw [HGT.out, if_pos (by unfold isOf; rw [heq, decide_eq_true hdue]; rfl)]; unfold goodOf; rw [HPX.out]
      have x0 := BX.2 0 _ rfl
      have x1 := BX.2 1 _ rfl
      have x2 := BX.2 2 _ rfl
      have x3 := BX.2 3 _ rfl
      have x4 := BX.2 4 _ rfl
      have x5 := BX.2 5 _ rfl
      have x6 := BX.2 6 _ rfl
      have x7 := BX.2 7 _ rfl
      go_wp2_with fail
      refine (implNetOf_any p.it[qn] _ _ hokx).mono ?_
      rintro e w12 ⟨rfl, hs⟩
      replace hb := below_on hb hs
      replace BX := BX.keep hs
      clear hs x0 x1 x2 x3 x4 x5 x6 x7
      generalize hgg : netOf p.it[qn] l[k].2.1 = gg at *
      have hw3 : IntKind.i64.wrap (stockOf p item + up - tn + gs + gg.1) = stockOf p item + up - tn + gs + gg.1 := IntWalk.i64_in _ (by omega)
      go_wp2_with fail
      go_roundw
      case rel => exact ⟨k + 1, by omega, by go_num, by rw [HYS.out, Int.add_assoc], BX, hb⟩
      case measure => simp [intOf]; omega
end Go.Proofs.Ytfjbliefcafiaaa
