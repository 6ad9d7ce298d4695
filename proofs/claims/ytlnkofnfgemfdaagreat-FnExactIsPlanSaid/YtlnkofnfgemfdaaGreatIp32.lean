/- Part 32 of the texts of this claim: What a plan must be (plain). -/
import Derived.Test.YtlnkofnfgemfdaaGreatIp31
import Derived.Sort.Walk0
/- What a plan must be (plain). -/
namespace Go.Proofs.YtlnkofnfgemfdaaGreat
theorem itLt_lt {a b : ByteArray} : itLt a b = true ↔ a.toList < b.toList := by
  unfold itLt
  rw [bytesLess_eq, decide_eq_true_eq]
theorem cat_lt {it : List It} (h : isCat it = true) : ∀ (d i j : Nat) (_ : j = i + d + 1) (hj : j < it.length), (it[i]'(by omega)).1.toList < it[j].1.toList := by
  simp only [isCat, Bool.and_eq_true, List.all_eq_true, List.mem_range] at h
  have step : ∀ j (hj : j < it.length) (h0 : 0 < j), (it[j - 1]'(by omega)).1.toList < it[j].1.toList := by
    intro j hj h0
    have h1 := h.1 j hj
    unfold catAt at h1
    rw [it_getD _ _ hj, it_getD _ _ (show j - 1 < it.length by omega), decide_eq_false (by omega)] at h1
    simp only [Bool.and_eq_true, Bool.false_or] at h1
    exact itLt_lt.1 h1.2
  intro d
  induction d with
  | zero =>
    intro i j hij hj
    have := step j hj (by omega)
    have e : j - 1 = i := by omega
    simp only [e] at this
    exact this
  | succ d ih =>
    intro i j hij hj
    have h1 := ih i (j - 1) (by omega) (by omega)
    have h2 := step j hj (by omega)
    exact List.lt_trans h1 h2
theorem find_self {it : List It} (h : isCat it = true) (k : Nat) (hk : k < it.length) : findIt it it[k].1 = (k : Int) := by
  rcases findIt_cases it it[k].1 with e | ⟨q, hq, e1, e2⟩
  · exfalso
    unfold findIt at e
    split at e
    · omega
    · next hn =>
      rw [List.findIdx?_eq_none_iff] at hn
      have := hn _ (List.getElem_mem hk)
      simp at this
  · have e3 : it[q].1.toList = it[k].1.toList := by simpa using e2
    rcases Nat.lt_trichotomy q k with hlt | heq | hgt
    · have := cat_lt h (k - q - 1) q k (by omega) hk
      rw [e3] at this
      exact absurd this (List.lt_irrefl _)
    · rw [e1, heq]
    · have := cat_lt h (q - k - 1) k q (by omega) hq
      rw [e3] at this
      exact absurd this (List.lt_irrefl _)
def relOf (p : Pt) (o : Pl) : Int × Bool := addWd p.wk p.ex o.2.2.2.1 (-(planX p o.1).2.2.2.1)
def okRel (p : Pt) (o : Pl) : Bool := (o.2.2.1 == (relOf p o).1) && (o.2.2.2.2 == !(relOf p o).2)
def netDay (p : Pt) (ds : List Dm) (l : List Pl) (item : ByteArray) (k : Nat) : Int := stockOf p item + prefS (comeOn p l item) k - prefS (takenOn p ds l item).1 k
def fineItem (p : Pt) (ds : List Dm) (l : List Pl) (x : It) : Bool := (x.2.2.1 == 2) || ((takenOn p ds l x.1).2 && (List.range 1000).all fun d => decide (x.2.2.2.2.2.2.1 ≤ netDay p ds l x.1 (d + 1)))
def isPlan (p : Pt) (ds : List Dm) (l : List Pl) : Bool := (arePlanned p l && areDemands ds) && (l.all (okRel p) && p.it.all (fineItem p ds l))
theorem isPlan_no {p : Pt} {ds : List Dm} {l : List Pl} (h : (arePlanned p l && areDemands ds) = false) : isPlan p ds l = false := by unfold isPlan; rw [h]; rfl
theorem isPlan_rel {p : Pt} {ds : List Dm} {l : List Pl} {k : Nat} (hk : k < l.length) (h : okRel p l[k] = false) : isPlan p ds l = false := by unfold isPlan; rw [all_false l _ k hk h]; simp
theorem isPlan_item {p : Pt} {ds : List Dm} {l : List Pl} {k : Nat} (hk : k < p.it.length) (h : fineItem p ds l p.it[k] = false) : isPlan p ds l = false := by unfold isPlan; rw [all_false p.it _ k hk h]; simp
theorem isPlan_yes {p : Pt} {ds : List Dm} {l : List Pl} (h1 : arePlanned p l = true) (h2 : areDemands ds = true) (h3 : (l.take l.length).all (okRel p) = true) (h4 : (p.it.take p.it.length).all (fineItem p ds l) = true) : isPlan p ds l = true := by
  rw [List.take_length] at h3 h4
  unfold isPlan; rw [h1, h2, h3, h4]; rfl
theorem fine_phan {p : Pt} {ds : List Dm} {l : List Pl} {x : It} (h : (x.2.2.1 == 2) = true) : fineItem p ds l x = true := by unfold fineItem; rw [h]; rfl
theorem fine_few {p : Pt} {ds : List Dm} {l : List Pl} {x : It} (h0 : (x.2.2.1 == 2) = false) (h : (takenOn p ds l x.1).2 = false) : fineItem p ds l x = false := by unfold fineItem; rw [h0, h]; rfl
theorem fine_day {p : Pt} {ds : List Dm} {l : List Pl} {x : It} (h0 : (x.2.2.1 == 2) = false) {d : Nat} (hd : d < 1000) (h : ¬ x.2.2.2.2.2.2.1 ≤ netDay p ds l x.1 (d + 1)) : fineItem p ds l x = false := by
  unfold fineItem
  have : ((List.range 1000).all fun d => decide (x.2.2.2.2.2.2.1 ≤ netDay p ds l x.1 (d + 1))) = false := by
    rw [List.all_eq_false]
    exact ⟨d, List.mem_range.2 hd, by rw [decide_eq_false h]; decide⟩
  rw [h0, this]; simp
theorem fine_yes {p : Pt} {ds : List Dm} {l : List Pl} {x : It} (h : (takenOn p ds l x.1).2 = true) (hd : ∀ d < 1000, x.2.2.2.2.2.2.1 ≤ netDay p ds l x.1 (d + 1)) : fineItem p ds l x = true := by
  unfold fineItem
  have : ((List.range 1000).all fun d => decide (x.2.2.2.2.2.2.1 ≤ netDay p ds l x.1 (d + 1))) = true := by
    rw [List.all_eq_true]
    intro d hm
    exact decide_eq_true (hd d (List.mem_range.1 hm))
  rw [h, this]; simp
theorem netDay_zero (p : Pt) (ds : List Dm) (l : List Pl) (item : ByteArray) : netDay p ds l item 0 = stockOf p item := by unfold netDay prefS; simp
theorem netDay_succ {p : Pt} {ds : List Dm} {l : List Pl} {item : ByteArray} (hp : arePlanned p l = true) (hd : areDemands ds = true) (k : Nat) (hk : k < 1000) : netDay p ds l item (k + 1) = netDay p ds l item k + (comeOn p l item).getD k 0 - (takenOn p ds l item).1.getD k 0 := by
  unfold netDay
  rw [pref_succ _ _ (by rw [(comeOn_days hp).len]; exact hk), pref_succ _ _ (by rw [(takenOn_days hp hd).len]; exact hk)]
  omega
theorem netDay_bd {p : Pt} {ds : List Dm} {l : List Pl} {item : ByteArray} (hp : arePlanned p l = true) (hd : areDemands ds = true) (k : Nat) : -60000000000000000 ≤ netDay p ds l item k ∧ netDay p ds l item k ≤ 60000000000100000 := by
  have h1 := comeOn_days (item := item) hp
  have h2 := takenOn_days (item := item) hp hd
  have a1 := pref_le _ h1.pos k
  have a2 := pref_le _ h2.pos k
  have a3 := h1.sum
  have a4 := h2.sum
  have a5 := stockOf_bd p item
  unfold netDay
  omega
/-! The program's changes: what is taken counts against, what comes is added. -/
def negL (m : List Int) : List Int := m.map fun x => -x
theorem negL_at (m : List Int) (i : Nat) : (negL m).getD i 0 = -(m.getD i 0) := by
  unfold negL
  rw [List.getD_eq_getElem?_getD, List.getD_eq_getElem?_getD, List.getElem?_map]
  cases m[i]? <;> simp
/-- The first j days turned about. -/
def negTo (m : List Int) (j : Nat) : List Int := (m.take j).map (fun x => -x) ++ m.drop j
theorem negTo_zero (m : List Int) : negTo m 0 = m := by simp [negTo]
theorem negTo_len (m : List Int) (j : Nat) : (negTo m j).length = m.length := by
  unfold negTo
  rw [List.length_append, List.length_map, List.length_take, List.length_drop]; omega
theorem negTo_all (m : List Int) : negTo m m.length = negL m := by simp [negTo, negL]
theorem negTo_at (m : List Int) (j : Nat) (hj : j < m.length) : (negTo m j).getD j 0 = m.getD j 0 := by
  unfold negTo
  rw [List.getD_eq_getElem?_getD, List.getElem?_append_right (by rw [List.length_map, List.length_take]; omega), List.length_map, List.length_take, Nat.min_eq_left (by omega), Nat.sub_self, List.getElem?_drop, List.getD_eq_getElem?_getD]; simp
theorem negTo_succ (m : List Int) (j : Nat) (hj : j < m.length) : negTo m (j + 1) = (negTo m j).set j (-(m.getD j 0)) := by
  unfold negTo
  rw [List.set_append_right _ _ (by rw [List.length_map, List.length_take]; omega), List.length_map, List.length_take, Nat.min_eq_left (by omega), Nat.sub_self, List.drop_eq_getElem_cons hj, List.set_cons_zero, List.take_add_one, List.getElem?_eq_getElem hj, Option.toList_some, List.map_append, List.append_assoc, List.getD_eq_getElem?_getD, List.getElem?_eq_getElem hj]
  rfl
def chgR (p : Pt) (ds : List Dm) (l : List Pl) (item : ByteArray) (evs : List (Int × Int × Int)) : List Int := evs.foldl tkStep (negL (takenOn p ds l item).1)
theorem fold_lin (c : Nat → Int) : ∀ (evs : List (Int × Int × Int)), (∀ v ∈ evs, 0 ≤ v.2.2 ∧ v.2.2 ≤ 999) → ∀ m z : List Int, m.length = 1000 → z.length = 1000 → (∀ i, m.getD i 0 = c i + z.getD i 0) → ∀ i, (evs.foldl tkStep m).getD i 0 = c i + (evs.foldl tkStep z).getD i 0 := by
  intro evs
  induction evs with
  | nil => intro _ m z _ _ h i; exact h i
  | cons v t ih =>
    intro hv m z hm hz h i
    have h0 := hv v List.mem_cons_self
    rw [List.foldl_cons, List.foldl_cons]
    refine ih (fun x hx => hv x (List.mem_cons_of_mem _ hx)) _ _ (by rw [tkStep_len, hm]) (by rw [tkStep_len, hz]) (fun j => ?_) i
    unfold tkStep
    rw [intD_set _ _ _ _ (by omega), intD_set _ _ _ _ (by omega)]
    split
    · next e => rw [h, ← e]; omega
    · exact h j
theorem chg_len (p : Pt) (ds : List Dm) (l : List Pl) (item : ByteArray) (evs : List (Int × Int × Int)) : (chgR p ds l item evs).length = (takenOn p ds l item).1.length := by
  unfold chgR
  have : ∀ (e : List (Int × Int × Int)) (m : List Int), (e.foldl tkStep m).length = m.length := by
    intro e
    induction e with
    | nil => intro m; rfl
    | cons v t ih => intro m; rw [List.foldl_cons, ih, tkStep_len]
  rw [this]; simp [negL]
theorem chg_at {p : Pt} {ds : List Dm} {l : List Pl} (item : ByteArray) (hp : arePlanned p l = true) (hd : areDemands ds = true) {evs : List (Int × Int × Int)} (hv : ∀ v ∈ evs, okEv v) (i : Nat) : (chgR p ds l item evs).getD i 0 = (tkTo evs).getD i 0 - (takenOn p ds l item).1.getD i 0 := by
  unfold chgR tkTo
  have hl := (takenOn_days (item := item) hp hd).len
  rw [fold_lin (fun i => -((takenOn p ds l item).1.getD i 0)) evs (fun v h => (hv v h).2) _ (List.replicate 1000 0) (by simp [negL, hl]) List.length_replicate (fun j => by rw [negL_at, zeros_at]; omega) i]
  omega
theorem chg_snoc (p : Pt) (ds : List Dm) (l : List Pl) (item : ByteArray) (evs : List (Int × Int × Int)) (v : Int × Int × Int) : chgR p ds l item (evs ++ [v]) = tkStep (chgR p ds l item evs) v := by unfold chgR; rw [List.foldl_append]; rfl
theorem comeEv_ok {p : Pt} {l : List Pl} (item : ByteArray) (hp : arePlanned p l = true) (k j : Nat) : ∀ v ∈ (evsR (receiptFlows p item)).take j ++ evsG p item (l.take k), okEv v := by
  intro v hv
  rcases List.mem_append.1 hv with h | h
  · exact evsR_ok p item (arePlanned_parts hp).1 v (List.mem_of_mem_take h)
  · refine evsG_ok p l item hp v ?_
    unfold evsG at h ⊢
    obtain ⟨o, ho, rfl⟩ := List.mem_map.1 h
    obtain ⟨h1, h2⟩ := List.mem_filter.1 ho
    exact List.mem_map.2 ⟨o, List.mem_filter.2 ⟨List.mem_of_mem_take h1, h2⟩, rfl⟩
/-- What the changes can be at a day. -/
theorem chg_bd {p : Pt} {ds : List Dm} {l : List Pl} (item : ByteArray) (hp : arePlanned p l = true) (hd : areDemands ds = true) (k j i : Nat) : -60000000000000000 ≤ (chgR p ds l item ((evsR (receiptFlows p item)).take j ++ evsG p item (l.take k))).getD i 0 ∧ (chgR p ds l item ((evsR (receiptFlows p item)).take j ++ evsG p item (l.take k))).getD i 0 ≤ 60000000000000000 := by
  rw [chg_at item hp hd (comeEv_ok item hp k j) i]
  have h1 := (takenOn_days (item := item) hp hd).cell i
  have h2 : Days (tkTo ((evsR (receiptFlows p item)).take j ++ evsG p item (l.take k))) 60000000000000000 := by
    refine (tkTo_days (comeEv_ok item hp k j)).mono ?_
    have := receiptFlows_len p item
    have := (arePlanned_parts hp).2.1
    have h3 : (evsG p item (l.take k)).length ≤ l.length := by
      unfold evsG
      rw [List.length_map]
      exact Nat.le_trans (List.length_filter_le _ _) (by rw [List.length_take]; omega)
    rw [List.length_append, List.length_take, evsR_len]
    omega
  have h3 := h2.cell i
  omega
theorem chg_net {p : Pt} {ds : List Dm} {l : List Pl} (item : ByteArray) (hp : arePlanned p l = true) (hd : areDemands ds = true) (k : Nat) (hk : k < 1000) : netDay p ds l item (k + 1) = netDay p ds l item k + (chgR p ds l item (evsR (receiptFlows p item) ++ evsG p item l)).getD k 0 := by
  have h1 : ∀ v ∈ evsR (receiptFlows p item) ++ evsG p item l, okEv v := fun v hv => by
    rcases List.mem_append.1 hv with h | h
    · exact evsR_ok p item (arePlanned_parts hp).1 v h
    · exact evsG_ok p l item hp v h
  rw [netDay_succ hp hd k hk, chg_at item hp hd h1 k]
  show _ + (comeOn p l item).getD k 0 - _ = _
  unfold comeOn
  omega
end Go.Proofs.YtlnkofnfgemfdaaGreat
