/- Part 24 of the texts of this claim: Balances: what came less what was taken (plain); Takings step by step (plain); The walks of l10Times, l10Plus, l10Order; Rows of truth values of the call's own: they grow and shrink; The walks of l6Has and l6Eval. -/
import Derived.Test.YtlnkofnfgemfdaaGreatIp19
import Derived.Test.YtlnkofnfgemfdaaGreatIp23
import Derived.Test.YtlnkofnfgemfdaaGreatIp9
import Derived.Test.YtlnkofnfgemfdaaGreatIp3
import Derived.Test.YtlnkofnfgemfdaaGreatIp7
/- Balances: what came less what was taken (plain). -/
namespace Go.Proofs.YtlnkofnfgemfdaaGreat
def goodOf (p : Pt) (item : ByteArray) (o : Pl) : Int := (netOf (planX p item) o.2.1).1
def evsR (l : List Fl) : List (Int × Int × Int) := l.map fun f => ((1 : Int), f.2, f.1)
def isOf (item : ByteArray) (o : Pl) : Bool := o.1.toList == item.toList
def goodV (p : Pt) (item : ByteArray) (o : Pl) : Int × Int × Int := (1, goodOf p item o, o.2.2.2.1)
def evsG (p : Pt) (item : ByteArray) (l : List Pl) : List (Int × Int × Int) := (l.filter (isOf item)).map (goodV p item)
def comeOn (p : Pt) (l : List Pl) (item : ByteArray) : List Int := tkTo (evsR (receiptFlows p item) ++ evsG p item l)
def cutD (day : Int) : Nat := (max 0 (min day 999 + 1)).toNat
def takes (p : Pt) (ds : List Dm) (l : List Pl) (item : ByteArray) : Bool := arePlanned p l && (areDemands ds && (decide (0 ≤ findIt p.it item) && (takenOn p ds l item).2))
def takenUpTo (p : Pt) (ds : List Dm) (l : List Pl) (item : ByteArray) (day : Int) : Int × Bool := if takes p ds l item = true then (prefS (takenOn p ds l item).1 (cutD day), true) else (0, false)
def balanceOn (p : Pt) (ds : List Dm) (l : List Pl) (item : ByteArray) (day : Int) : Int × Bool :=
  if (takes p ds l item && !(phan p.it item)) = true then (stockOf p item + prefS (comeOn p l item) (cutD day) - prefS (takenOn p ds l item).1 (cutD day), true) else (0, false)
theorem prefS_set (m : List Int) (i k : Nat) (x : Int) (h : i < m.length) : prefS (m.set i x) k = prefS m k + (if i < k then x - m.getD i 0 else 0) := by
  unfold prefS
  rw [List.take_set]
  by_cases hk : i < k
  · rw [if_pos hk, sum_set _ _ _ (by rw [List.length_take]; omega)]
    have : (m.take k).getD i 0 = m.getD i 0 := by
      rw [List.getD_eq_getElem?_getD, List.getElem?_take, if_pos hk, List.getD_eq_getElem?_getD]
    omega
  · rw [if_neg hk, List.set_eq_of_length_le (by rw [List.length_take]; omega)]; omega
def evSum (l : List (Int × Int × Int)) (day : Int) : Int := (l.map fun v => if v.2.2 ≤ day then v.1 * v.2.1 else 0).sum
theorem evSum_append (a b : List (Int × Int × Int)) (day : Int) : evSum (a ++ b) day = evSum a day + evSum b day := by unfold evSum; rw [List.map_append, List.sum_append]
theorem cutD_lt {d day : Int} (h : 0 ≤ d ∧ d ≤ 999) : d.toNat < cutD day ↔ d ≤ day := by unfold cutD; omega
theorem prefS_run (day : Int) : ∀ (l : List (Int × Int × Int)), (∀ v ∈ l, 0 ≤ v.2.2 ∧ v.2.2 ≤ 999) → ∀ m : List Int, m.length = 1000 → prefS (l.foldl tkStep m) (cutD day) = prefS m (cutD day) + evSum l day := by
  intro l
  induction l with
  | nil => intro _ m _; simp [evSum]
  | cons v t ih =>
    intro h m hm
    have hv := h v List.mem_cons_self
    rw [List.foldl_cons, ih (fun x hx => h x (List.mem_cons_of_mem _ hx)) _ (by rw [tkStep_len, hm])]
    have hs : prefS (tkStep m v) (cutD day) = prefS m (cutD day) + (if v.2.2 ≤ day then v.1 * v.2.1 else 0) := by
      unfold tkStep
      rw [prefS_set _ _ _ _ (by omega)]
      by_cases hc : v.2.2 ≤ day
      · rw [if_pos ((cutD_lt hv).2 hc), if_pos hc]; omega
      · rw [if_neg (fun e => hc ((cutD_lt hv).1 e)), if_neg hc]
    rw [hs]
    unfold evSum
    rw [List.map_cons, List.sum_cons]; omega
theorem prefS_zero (n k : Nat) : prefS (List.replicate n 0) k = 0 := by
  unfold prefS; rw [List.take_replicate, zeros_sum]
theorem prefS_tk {l : List (Int × Int × Int)} (h : ∀ v ∈ l, 0 ≤ v.2.2 ∧ v.2.2 ≤ 999) (day : Int) : prefS (tkTo l) (cutD day) = evSum l day := by
  unfold tkTo
  rw [prefS_run day l h _ List.length_replicate, prefS_zero, Int.zero_add]
theorem evSum_R (l : List Fl) (day : Int) : evSum (evsR l) day = upTo l day := by
  unfold evSum evsR
  induction l with
  | nil => rfl
  | cons f t ih =>
    simp only [List.map_cons, List.sum_cons, upTo, Int.one_mul] at ih ⊢
    rw [ih]
/-- What is good of the orders that are due by a day. -/
def goodTo (p : Pt) (item : ByteArray) (day : Int) (l : List Pl) : Int := (l.map fun o => if (isOf item o && decide (o.2.2.2.1 ≤ day)) = true then goodOf p item o else 0).sum
theorem evSum_G (p : Pt) (item : ByteArray) (l : List Pl) (day : Int) : evSum (evsG p item l) day = goodTo p item day l := by
  unfold evSum evsG goodTo
  induction l with
  | nil => rfl
  | cons o t ih =>
    by_cases hc : isOf item o = true
    · rw [List.filter_cons_of_pos hc, List.map_cons, List.map_cons, List.sum_cons, ih, List.map_cons, List.sum_cons, hc]
      simp only [goodV, Bool.true_and, decide_eq_true_eq, Int.one_mul]
    · rw [List.filter_cons_of_neg hc, ih, List.map_cons, List.sum_cons]
      simp only [Bool.not_eq_true] at hc
      rw [hc]; simp
theorem goodTo_take (p : Pt) (item : ByteArray) (day : Int) (l : List Pl) (k : Nat) (h : k < l.length) : goodTo p item day (l.take (k + 1)) = goodTo p item day (l.take k) + (if (isOf item l[k] && decide (l[k].2.2.2.1 ≤ day)) = true then goodOf p item l[k] else 0) := by
  unfold goodTo
  rw [List.take_add_one, List.getElem?_eq_getElem h, Option.toList_some, List.map_append, List.sum_append]; simp
theorem netOf_bd (x : It) (g : Int) (h0 : 0 ≤ g) : 0 ≤ (netOf x g).1 ∧ (netOf x g).1 ≤ g := by
  unfold netOf
  split
  · next hc =>
    simp only [Bool.and_eq_true] at hc
    obtain ⟨_, _, _, _, _, h6, _⟩ := isItem_lots x hc.1
    simp only
    have hm : 0 ≤ g * (100 - x.2.2.2.2.2.2.2) := Int.mul_nonneg h0 (by omega)
    have hm2 : g * (100 - x.2.2.2.2.2.2.2) ≤ g * 100 := Int.mul_le_mul_of_nonneg_left (by omega) h0
    omega
  · exact ⟨by simp, h0⟩
theorem goodTo_bd (p : Pt) (item : ByteArray) (day : Int) (l : List Pl) (h : ∀ o ∈ l, 0 ≤ o.2.1 ∧ o.2.1 ≤ 100000) (k : Nat) : 0 ≤ goodTo p item day (l.take k) ∧ goodTo p item day (l.take k) ≤ 100000 * k := by
  induction k with
  | zero => simp [goodTo]
  | succ k ih =>
    by_cases hk : k < l.length
    · rw [goodTo_take _ _ _ _ _ hk]
      have hq := h _ (List.getElem_mem hk)
      have hn := netOf_bd (planX p item) l[k].2.1 hq.1
      unfold goodOf
      split <;> omega
    · rw [List.take_of_length_le (by omega)]
      rw [List.take_of_length_le (by omega)] at ih
      omega
theorem evs_ok (p : Pt) (ds : List Dm) (l : List Pl) (item : ByteArray) (hp : arePlanned p l = true) (hd : areDemands ds = true) : ∀ v ∈ evsD p item ds ++ evsP p item l, okEv v := by
  obtain ⟨h1, h2, h3⟩ := arePlanned_parts hp
  obtain ⟨hL, _⟩ := lev_of (isPlant_parts h1).1
  have hu := fun (c : ByteArray) (d : Int) => unitV_bd hL (lineOn p.ch d) item c
  intro v hv
  rcases List.mem_append.1 hv with hv | hv
  · obtain ⟨d, hd2, rfl⟩ := List.mem_map.1 hv
    obtain ⟨k, hk, rfl⟩ := List.mem_iff_getElem.1 hd2
    have hdm := areDemands_mem hd hk
    refine okEv_mk ?_ ⟨by omega, by omega⟩ hdm.2.2
    unfold dmN unitAt
    split
    · omega
    · split
      · exact hu _ _
      · omega
  · obtain ⟨o, ho, rfl⟩ := List.mem_map.1 hv
    obtain ⟨k, hk, rfl⟩ := List.mem_iff_getElem.1 ho
    obtain ⟨_, _, h4, h5, h6⟩ := h3 k hk
    exact okEv_mk (hu _ _) ⟨by omega, by omega⟩ ⟨by omega, by omega⟩
theorem evsG_ok (p : Pt) (l : List Pl) (item : ByteArray) (hp : arePlanned p l = true) : ∀ v ∈ evsG p item l, okEv v := by
  obtain ⟨h1, h2, h3⟩ := arePlanned_parts hp
  intro v hv
  obtain ⟨o, ho, rfl⟩ := List.mem_map.1 hv
  obtain ⟨k, hk, rfl⟩ := List.mem_iff_getElem.1 (List.mem_filter.1 ho).1
  obtain ⟨_, _, h4, h5, h6⟩ := h3 k hk
  have := netOf_bd (planX p item) l[k].2.1 (by omega)
  exact okEv_mk (by omega) ⟨this.1, by unfold goodOf; omega⟩ ⟨by omega, by omega⟩
theorem evsR_ok (p : Pt) (item : ByteArray) (hp : isPlant p = true) : ∀ v ∈ evsR (receiptFlows p item), okEv v := by
  intro v hv
  obtain ⟨f, hf, rfl⟩ := List.mem_map.1 hv
  rw [receiptFlows_yes hp] at hf
  have h := (rcTo_parts p item hp p.rc.length (Nat.le_refl _)).2.2 f hf
  have := (isPlant_parts hp).2.2.2.1
  exact ⟨⟨by simp only [Int.one_mul]; omega, by simp only [Int.one_mul]; omega⟩, h.1⟩
end Go.Proofs.YtlnkofnfgemfdaaGreat
/- Takings step by step (plain). -/
namespace Go.Proofs.YtlnkofnfgemfdaaGreat
theorem Days.mono {m : List Int} {B C : Int} (h : Days m B) (hBC : B ≤ C) : Days m C := ⟨h.len, h.pos, Int.le_trans h.sum hBC⟩
theorem Days.cell {m : List Int} {B : Int} (h : Days m B) (i : Nat) : 0 ≤ m.getD i 0 ∧ m.getD i 0 ≤ B := ⟨h.pos i, Int.le_trans (getD_le_sum m h.pos i) h.sum⟩
theorem evsD_len (p : Pt) (item : ByteArray) (ds : List Dm) : (evsD p item ds).length = ds.length := by simp [evsD]
theorem evsP_len (p : Pt) (item : ByteArray) (l : List Pl) : (evsP p item l).length = l.length := by simp [evsP]
section
variable (p : Pt) (ds : List Dm) (l : List Pl) (item : ByteArray)
theorem takenD_step (k : Nat) (h : k < ds.length) : tkTo ((evsD p item ds).take (k + 1)) = tkStep (tkTo ((evsD p item ds).take k)) (dmV p item ds[k]) := by
  unfold evsD
  rw [map_take1 _ _ _ h, tkTo_snoc]
theorem takenD_few (k : Nat) (h : k < ds.length) : few ((evsD p item ds).take (k + 1)) = (few ((evsD p item ds).take k) && decide (dmN p item ds[k] ≤ 1000000000)) := by
  unfold evsD
  rw [map_take1 _ _ _ h, few_snoc]; rfl
theorem takenD_bad (k : Nat) (h : k < ds.length) (hb : ¬ dmN p item ds[k] ≤ 1000000000) : (takenOn p ds l item).2 = false := by
  refine few_bad (k := k) (by rw [List.length_append, evsD_len]; omega) ?_
  rw [List.getElem_append_left (by rw [evsD_len]; exact h)]
  simpa [evsD, dmV] using hb
theorem takenP_step (k : Nat) (h : k < l.length) : tkTo (evsD p item ds ++ (evsP p item l).take (k + 1)) = tkStep (tkTo (evsD p item ds ++ (evsP p item l).take k)) (plV p item l[k]) := by
  unfold evsP
  rw [map_take1 _ _ _ h, ← List.append_assoc, tkTo_snoc]
theorem takenP_few (k : Nat) (h : k < l.length) : few (evsD p item ds ++ (evsP p item l).take (k + 1)) = (few (evsD p item ds ++ (evsP p item l).take k) && decide (unitAt p item l[k].1 l[k].2.2.1 ≤ 1000000000)) := by
  unfold evsP
  rw [map_take1 _ _ _ h, ← List.append_assoc, few_snoc]; rfl
theorem takenP_bad (k : Nat) (h : k < l.length) (hb : ¬ unitAt p item l[k].1 l[k].2.2.1 ≤ 1000000000) : (takenOn p ds l item).2 = false := by
  refine few_bad (k := ds.length + k) (by rw [List.length_append, evsD_len, evsP_len]; omega) ?_
  rw [List.getElem_append_right (by rw [evsD_len]; omega)]
  simpa [evsD_len, evsP, plV] using hb
theorem takenD_all : tkTo ((evsD p item ds).take ds.length) = tkTo (evsD p item ds ++ (evsP p item l).take 0) := by
  rw [List.take_of_length_le (by rw [evsD_len]; omega)]; simp
theorem takenD_fewall : few ((evsD p item ds).take ds.length) = few (evsD p item ds ++ (evsP p item l).take 0) := by
  rw [List.take_of_length_le (by rw [evsD_len]; omega)]; simp
theorem takenP_all : tkTo (evsD p item ds ++ (evsP p item l).take l.length) = (takenOn p ds l item).1 := by
  rw [List.take_of_length_le (by rw [evsP_len]; omega)]; rfl
theorem takenP_fewall : few (evsD p item ds ++ (evsP p item l).take l.length) = (takenOn p ds l item).2 := by
  rw [List.take_of_length_le (by rw [evsP_len]; omega)]; rfl
variable {p ds l item} (hp : arePlanned p l = true) (hd : areDemands ds = true)
include hp hd
theorem takenD_days (k : Nat) : Days (tkTo ((evsD p item ds).take k)) 60000000000000000 := by
  refine (tkTo_days (fun v hv => evs_ok p ds l item hp hd v (List.mem_append_left _ (List.mem_of_mem_take hv)))).mono ?_
  have := areDemands_len hd
  rw [List.length_take, evsD_len]
  omega
theorem takenP_days (k : Nat) : Days (tkTo (evsD p item ds ++ (evsP p item l).take k)) 60000000000000000 := by
  refine (tkTo_days (fun v hv => evs_ok p ds l item hp hd v ?_)).mono ?_
  · rcases List.mem_append.1 hv with h | h
    · exact List.mem_append_left _ h
    · exact List.mem_append_right _ (List.mem_of_mem_take h)
  · have := areDemands_len hd
    have := (arePlanned_parts hp).2.1
    rw [List.length_append, List.length_take, evsD_len, evsP_len]
    omega
theorem takenOn_days : Days (takenOn p ds l item).1 60000000000000000 := by
  rw [← takenP_all]; exact takenP_days hp hd _
end
theorem dmN_bd {p : Pt} {ds : List Dm} {l : List Pl} {item : ByteArray} (hp : arePlanned p l = true) (k : Nat) (_h : k < ds.length) : 0 ≤ dmN p item ds[k] ∧ dmN p item ds[k] ≤ 1000000001 := by
  obtain ⟨hL, _⟩ := lev_of (isPlant_parts (arePlanned_parts hp).1).1
  unfold dmN unitAt
  split
  · omega
  · split
    · exact unitV_bd hL _ item _
    · omega
theorem unitAt_bd {p : Pt} (hp : isPlant p = true) (item code : ByteArray) (day : Int) : 0 ≤ unitAt p item code day ∧ unitAt p item code day ≤ 1000000001 := by
  obtain ⟨hL, _⟩ := lev_of (isPlant_parts hp).1
  exact unitV_bd hL _ item _
end Go.Proofs.YtlnkofnfgemfdaaGreat
/- The walks of l10Times, l10Plus, l10Order. -/
namespace Go.Proofs.YtlnkofnfgemfdaaGreat
open Go.RowKit
set_option maxRecDepth 100000 in
theorem l10Times_any (a b : Int) (w : World) (h1 : -1 ≤ a ∧ a ≤ 1000000000) (h2 : 1 ≤ b ∧ b ≤ 1000) : Calls Tryz.prog 157 #[.int .i64 a, .int .i64 b] w fun e w' => e = .returned (.int .i64 (timesC a b)) ∧ w = w' := by
  by_cases ha : a < 0
  · have HF : Hid (timesC a b = -1) := by show _ = _; unfold timesC; rw [if_pos (.inl ha)]
    go_enter Tryz.func157, Tryz.ntmps157
    go_wp2
    go_ret
    exact ⟨ret_int HF.out.symm, rfl⟩
  have hb : ¬ b < 0 := by omega
  by_cases h0 : 0 < a
  case neg =>
    obtain rfl : a = 0 := by omega
    have HF : Hid (timesC 0 b = 0) := by show _ = _; unfold timesC; rw [if_neg (by omega)]; simp
    go_enter Tryz.func157, Tryz.ntmps157
    go_wp2
    go_ret
    exact ⟨ret_int (by rw [HF.out]), rfl⟩
  have hd : (1000000000 : Int).tdiv a = 1000000000 / a := Int.tdiv_eq_ediv_of_nonneg (by omega)
  have hdb : 0 ≤ (1000000000 : Int) / a := Int.ediv_nonneg (by omega) (by omega)
  have hdb2 : (1000000000 : Int) / a ≤ 1000000000 := Int.ediv_le_self _ (by omega)
  have hz : (a == 0) = false := by simp; omega
  have hw : IntKind.i64.wrap ((1000000000 : Int).tdiv a) = 1000000000 / a := by rw [hd]; apply IntWalk.i64_in <;> omega
  by_cases hq : 1000000000 / a < b
  · have HF : Hid (timesC a b = -1) := by show _ = _; unfold timesC; rw [if_pos (.inr (.inr ⟨h0, hq⟩))]
    go_enter Tryz.func157, Tryz.ntmps157
    go_wp2
    go_ret
    exact ⟨ret_int HF.out.symm, rfl⟩
  · have HF : Hid (timesC a b = a * b) := by show _ = _; unfold timesC; rw [if_neg (by omega)]
    have hm : a * b ≤ 1000000000 * 1000 := Int.mul_le_mul h1.2 h2.2 (by omega) (by omega)
    have hm0 : 0 ≤ a * b := Int.mul_nonneg (by omega) (by omega)
    have hwm : IntKind.i64.wrap (a * b) = a * b := by apply IntWalk.i64_in <;> omega
    go_enter Tryz.func157, Tryz.ntmps157
    go_wp2
    go_ret
    exact ⟨ret_int HF.out.symm, rfl⟩
set_option maxRecDepth 100000 in
theorem l10Plus_any (a b : Int) (w : World) (h1 : -1 ≤ a ∧ a ≤ 1000000000) (h2 : -1 ≤ b ∧ b ≤ 1000000000) : Calls Tryz.prog 156 #[.int .i64 a, .int .i64 b] w fun e w' => e = .returned (.int .i64 (plusC a b)) ∧ w = w' := by
  by_cases ha : a < 0
  · have HF : Hid (plusC a b = -1) := by show _ = _; unfold plusC; rw [if_pos (.inl ha)]
    go_enter Tryz.func156, Tryz.ntmps156
    go_wp2
    go_ret
    exact ⟨ret_int HF.out.symm, rfl⟩
  by_cases hb : b < 0
  · have HF : Hid (plusC a b = -1) := by show _ = _; unfold plusC; rw [if_pos (.inr (.inl hb))]
    go_enter Tryz.func156, Tryz.ntmps156
    go_wp2
    go_ret
    exact ⟨ret_int HF.out.symm, rfl⟩
  by_cases hc : 1000000000 < a + b
  · have HF : Hid (plusC a b = -1) := by show _ = _; unfold plusC; rw [if_pos (.inr (.inr hc))]
    go_enter Tryz.func156, Tryz.ntmps156
    go_wp2
    go_ret
    exact ⟨ret_int HF.out.symm, rfl⟩
  · have HF : Hid (plusC a b = a + b) := by show _ = _; unfold plusC; rw [if_neg (by omega)]
    go_enter Tryz.func156, Tryz.ntmps156
    go_wp2
    go_ret
    exact ⟨ret_int HF.out.symm, rfl⟩
set_option maxRecDepth 100000 in
set_option maxHeartbeats 4000000 in
theorem l10Order_any (A : Option Addr) (n c : Nat) (lev : List Nat) (w : World) (hl : IntsIn w A n (natI lev)) (h12 : lev.length ≤ 12) :
    Calls Tryz.prog 154 #[.slice A n c] w fun e w' => ∃ g q, e = .returned (.slice (some ⟨g, 0, none⟩) (ordOf lev lev.length).length q) ∧ NumRow w' w.heap.size g (ordOf lev lev.length).length q (natI (ordOf lev lev.length)) ∧ Below w.heap.size w w' := by
  have hn : n = lev.length := hl.1.trans (natI_len lev)
  subst hn
  have HL := Lib.hid hl
  clear hl
  have hb0 := below_alloc w (.cells #[] 3)
  have hr0 : NumRow (w.alloc (.cells #[] 3)) w.heap.size w.heap.size 0 0 [] := numRow_empty rfl (Nat.le_refl _)
  go_enter Tryz.func154, Tryz.ntmps154
  go_wp2_with fail
  generalize hV : (w.alloc (.cells #[] 3)) = V at *
  clear hV
  go_loopw [3, 4] (fun s i wr => ∃ v g q : Nat, v ≤ lev.length ∧ i = .int .i64 v ∧ s = .slice (some ⟨g, 0, none⟩) (ordOf lev v).length q ∧ NumRow wr w.heap.size g (ordOf lev v).length q (natI (ordOf lev v)) ∧ Below w.heap.size w wr) (fun _ i _ => lev.length - (intOf i).toNat)
  case atStart => exact ⟨0, w.heap.size, 0, by omega, rfl, rfl, hr0, hb0⟩
  case round =>
    clear hr0 hb0
    obtain ⟨v, g, q, hv, rfl, rfl, hr, hb⟩ := hrel
    by_cases hlt : v < lev.length
    · have HO := Lib.hid (ordOf_succ lev v)
      have HLN := Lib.hid (ordOf_len lev v)
      have hmul : v * lev.length ≤ 12 * 12 := Nat.mul_le_mul (by omega) h12
      have HA0 : Hid (ordOf lev v = ordOf lev v ++ lvAt lev v 0) := by show _ = _; unfold lvAt; simp
      rw [HA0.out] at hr
      have hE : (ordOf lev v).length = (ordOf lev v ++ lvAt lev v 0).length := congrArg List.length HA0.out
      rw [hE]
      clear hE
      go_wp2_with fail
      go_loopw [3, 5] (fun s i wr => ∃ j g q : Nat, j ≤ lev.length ∧ i = .int .i64 j ∧ s = .slice (some ⟨g, 0, none⟩) (ordOf lev v ++ lvAt lev v j).length q ∧ NumRow wr w.heap.size g (ordOf lev v ++ lvAt lev v j).length q (natI (ordOf lev v ++ lvAt lev v j)) ∧ Below w.heap.size w wr) (fun _ i _ => lev.length - (intOf i).toNat)
      case atStart => exact ⟨0, g, q, by omega, rfl, rfl, hr, hb⟩
      case round =>
        clear hr hb
        obtain ⟨j, g, q, hj, rfl, rfl, hr, hb⟩ := hrel
        by_cases hjl : j < lev.length
        · have hjl2 : j < (natI lev).length := by rw [natI_len]; exact hjl
          obtain ⟨b, o, hA, _, hc⟩ := (HL.out.keep hb).at_ hjl2
          have hcv : (natI lev)[j] = ((lev.getD j 0 : Nat) : Int) := by
            have := natI_getD lev j
            rw [List.getD_eq_getElem?_getD, List.getElem?_eq_getElem hjl2] at this
            exact this
          rw [hcv] at hc
          clear hcv
          have HLV := Lib.hid (lvAt_len lev v j)
          have hll : (natI (ordOf lev v ++ lvAt lev v j)).length ≤ 16777216 := by
            rw [natI_len, List.length_append]
            have := HLN.out; have := HLV.out; omega
          have hsz := hb.size
          subst hA
          by_cases he : lev.getD j 0 = v
          · have HY := Lib.hid (lvAt_yes lev v j he)
            rw [he] at hc
            have HZ : Hid (natI (ordOf lev v ++ lvAt lev v (j + 1)) = natI (ordOf lev v ++ lvAt lev v j) ++ [(j : Int)] ∧ (ordOf lev v ++ lvAt lev v (j + 1)).length = (ordOf lev v ++ lvAt lev v j).length + 1) := by
              show _ ∧ _
              rw [HY.out, ← List.append_assoc]
              exact ⟨by simp [natI], by rw [List.length_append]; rfl⟩
            generalize hG : ordOf lev v ++ lvAt lev v j = st at *
            go_wp2_with (at_builtin; refine wpList_append_num rfl _ _ rfl rfl hr hll (j : Int) (wr.heap.size) _ rfl rfl hsz ?_; intro g' c' w9 hnum2 hbl2 hgr2)
            go_roundw
            case rel => exact ⟨j + 1, g', c', by omega, by go_num, by rw [HZ.out.2], by rw [HZ.out.2, HZ.out.1]; exact hnum2, hb.trans (hbl2 _ (Nat.le_refl _) hsz)⟩
            case measure => simp [intOf]; omega
          · have HY := Lib.hid (lvAt_no lev v j he)
            have he2 : ¬ ((lev.getD j 0 : Nat) : Int) = (v : Int) := by omega
            generalize lev.getD j 0 = lj at *
            go_wp2_with fail
            go_roundw
            case rel => exact ⟨j + 1, g, q, by omega, by go_num, by rw [HY.out], by rw [HY.out]; exact hr, hb⟩
            case measure => simp [intOf]; omega
        · obtain rfl : j = lev.length := by omega
          go_wp2_with fail
          go_roundw
          case rel => exact ⟨v + 1, g, q, by omega, by go_num, by rw [HO.out], by rw [HO.out]; exact hr, hb⟩
          case measure => simp [intOf]; omega
    · obtain rfl : v = lev.length := by omega
      go_wp2_with fail
      go_ret
      exact ⟨g, q, rfl, hr, hb⟩
end Go.Proofs.YtlnkofnfgemfdaaGreat
/- Rows of truth values of the call's own: they grow and shrink. -/
namespace Go.Proofs.YtlnkofnfgemfdaaGreat
open Go.RowKit
abbrev bools (l : List Bool) : List Value := l.map Value.bool
/-- The row of truth values in block g. -/
def BRow (w : World) (lo g n c : Nat) (l : List Bool) : Prop := n = l.length ∧ w.ownsRow lo 4 1 (.slice (some ⟨g, 0, none⟩) n c) n (bools l)
theorem boolInfo : (Tryz.prog.info? 4).map (fun i => (i.zero, i.size, i.bytes)) = some (some (.bool false), 1, 1) := by kernel_rfl
def boolF : Flat Bool := ⟨fun x => [.bool x], 1, fun _ => rfl⟩
theorem boolF_flat (l : List Bool) : l.flatMap boolF.enc = bools l := by
  induction l with
  | nil => rfl
  | cons a l ih => rw [List.flatMap_cons, ih]; rfl
theorem boolElem : ElemOk boolF 210 4 := by
  obtain ⟨i, h1, h2, h3, h4⟩ := info_parts boolInfo
  exact ⟨i, _, 1, Tryz.underlying210, h1, h2, h3, h4, rfl, by decide, by omega⟩
section
variable {w w' : World} {lo g n c : Nat} {l : List Bool}
theorem BRow.cell (h : BRow w lo g n c l) {j : Nat} (hj : j < l.length) : w.cell? ⟨g, j, none⟩ = some (.bool (l.getD j false)) := by
  rw [h.2.cellAt j (by have := h.1; omega), List.getD_eq_getElem?_getD]; simp [hj]
theorem BRow.frozen (h : BRow w lo g n c l) (j : Nat) : w.frozen? ⟨g, j, none⟩ = false := h.2.frozenAt j
theorem BRow.set (h : BRow w lo g n c l) (j : Nat) (x : Bool) : BRow (w.setCell ⟨g, j, none⟩ (.bool x)) lo g n c (l.set j x) :=
  ⟨by simp [h.1], by rw [bools, List.map_set]; exact (h.2.stored j (.bool x)).1⟩
theorem BRow.keep (h : BRow w lo g n c l) (hb : Below w.heap.size w w') : BRow w' lo g n c l := ⟨h.1, own_keep h.2 hb⟩
theorem BRow.drew (h : BRow w lo g n c l) : BRow w.drew lo g n c l := h
theorem BRow.lt (h : BRow w lo g n c l) : lo ≤ g ∧ g < w.heap.size := own_lt h.2 _ rfl
theorem BRow.len (h : BRow w lo g n c l) : l.length = n := h.1.symm
theorem BRow.cap (h : BRow w lo g n c l) : n ≤ c ∧ c ≤ maxLen := by
  rcases h.2.2 with ⟨hv, _⟩ | ⟨g2, cap, cur, hv, _, _, h1, h2, _⟩
  · injection hv with e; cases e
  · injection hv with e1 e2 e3
    subst e3; exact ⟨h1, h2⟩
theorem BRow.own (h : BRow w lo g n c l) : RowVal boolF 4 w lo (.slice (some ⟨g, 0, none⟩) n c) l := by
  obtain ⟨rfl, h⟩ := h
  unfold RowVal
  rw [boolF_flat]; exact h
theorem BRow.of_own (h : OwnRows boolF 4 w lo (some ⟨g, 0, none⟩) n c l) : BRow w lo g n c l := ⟨h.1, by have := h.2; rw [boolF_flat] at this; exact this⟩
theorem BRow.take (h : BRow w lo g n c l) (k : Nat) (hk : k ≤ n) : BRow w lo g k c (l.take k) := by
  obtain ⟨rfl, h⟩ := h
  refine ⟨by simp; omega, by simp; omega, ?_⟩
  rcases h.2 with ⟨hv, _⟩ | ⟨g2, cap, cur, hv, h1, h2, h3, h4, h5, h6⟩
  · injection hv with e; cases e
  · injection hv with e1 e2 e3
    subst e3
    refine .inr ⟨g2, c, cur, by rw [e1], h1, h2, by omega, h4, h5, ?_⟩
    have e9 : bools (l.take k) = (bools l).take k := List.map_take
    rw [e9, ← h6, List.take_take]
    congr 1; omega
theorem BRow.of_val (h : RowVal boolF 4 w lo (.slice (some ⟨g, 0, none⟩) n c) l) (hn : n = l.length) : BRow w lo g n c l := by
  subst hn
  unfold RowVal at h
  rw [boolF_flat] at h
  exact ⟨rfl, h⟩
theorem boolOne : ∀ (a : Bool), ∀ u ∈ boolF.enc a, u.oneCell' = true := by
  intro a u hu
  simp [boolF] at hu
  subst hu; rfl
theorem bRow_empty {H : Nat} (hH : w.heap.size = H) (h : lo ≤ w.heap.size) : BRow (w.alloc (.cells #[] 4)) lo H 0 0 [] := by
  subst hH
  exact ⟨rfl, empty_own w lo 4 1 h⟩
end
theorem RowVal.some_v {α : Type} {F : Flat α} {t : TypeId} {w : World} {lo n : Nat} {v : Value} {l : List α} (h : RowVal F t w lo v l) (hn : l.length = n + 1) : ∃ b c, v = .slice (some ⟨b, 0, none⟩) (n + 1) c := by
  obtain ⟨A, c, rfl, ho⟩ := h.form
  obtain ⟨g, rfl⟩ := rowOf_some ho (by omega)
  exact ⟨g, c, by rw [hn]⟩
theorem lit_rowB {α : Type} {F : Flat α} {t : TypeId} {w : World} {H : Nat} (hH : w.heap.size = H) (cs : Array Value) (x : α) (hcs : cs.toList = F.enc x) : RowsIn F (w.alloc (.cells cs t)) (some ⟨H, 0, none⟩) 1 [x] := by
  refine ⟨rfl, by rw [flatMap_len F.enc F.sz F.len]; rfl, by omega, fun _ => ⟨H, 0, rfl, by simp; omega, fun j u hu => ?_⟩⟩
  have := news_at hH cs t j u (by rw [hcs]; simpa using hu)
  rwa [Addr.add_lit] at this
/-- out = append(out, x) on a row of truth values. -/
theorem wpList_append_bool {w1 : World} {ops : Array Oper} {rest : List Oper} {o : Oper} {a : Act} {Q : Exit → Act → World → Prop} (hgd : o.guard = none) (s x : Operand)
    (ho : o.op = .call { callee := .builtin .append, args := #[s, x], argTypes := #[210, 210] }) {lo g n c : Nat} {l : List Bool} (hs : a.eval s = .slice (some ⟨g, 0, none⟩) n c) (hrow : BRow w1 lo g n c l) (hlen : l.length ≤ 16777216)
    (y : Bool) (H cx : Nat) (hH : w1.heap.size = H) (hx : a.eval x = .slice (some ⟨H, 0, none⟩) 1 cx) (hlo : lo ≤ w1.heap.size)
    (h : ∀ g' c' w', BRow w' lo g' (n + 1) c' (l ++ [y]) → (∀ B, B ≤ lo → B ≤ w1.heap.size → Below B w1 w') → w1.heap.size < w'.heap.size → wpList Tryz.prog ops Q rest (a.put o.dst (.slice (some ⟨g', 0, none⟩) (n + 1) c')) w') :
    wpList Tryz.prog ops Q (o :: rest) a (w1.alloc (.cells #[.bool y] 4)) := by
  refine wpList_append_one boolElem hgd s x ho hs hrow.own hlen y #[.bool y] rfl (by simp [Value.oneCell']) H cx hH hx hlo (fun v' w' h1 h2 h3 => ?_)
  obtain ⟨A, c', hv, ho'⟩ := h1.form
  obtain ⟨g', rfl⟩ := rowOf_some ho' (by simp)
  have e : (l ++ [y]).length = n + 1 := by rw [List.length_append, hrow.1]; rfl
  rw [e] at ho' hv
  subst hv
  exact h g' c' w' (BRow.of_own ho') h2 h3
end Go.Proofs.YtlnkofnfgemfdaaGreat
/- The walks of l6Has and l6Eval. -/
namespace Go.Proofs.YtlnkofnfgemfdaaGreat
open Go.RowKit
set_option maxRecDepth 100000 in
theorem specHas_any (A : Option Addr) (n c : Nat) (ch : List Pk) (o v : ByteArray) (w : World) (hl : PicksIn w A n ch) :
    Calls Tryz.prog 165 #[.slice A n c, .string o, .string v] w fun e w' => e = .returned (.bool (hasPk ch o v)) ∧ w = w' := by
  have hn := hl.len
  obtain rfl := hl.1
  go_enter Tryz.func165, Tryz.ntmps165
  go_wp2
  go_loop [7] (fun i => ∃ k : Nat, k ≤ ch.length ∧ i = .int .i64 k ∧ Hid ((ch.take k).any (fun p => (p.1.toList == o.toList) && (p.2.toList == v.toList)) = false)) (fun i => ch.length - (intOf i).toNat)
  case atStart => exact ⟨0, by omega, rfl, rfl⟩
  case round =>
    obtain ⟨k, hk, rfl, HI⟩ := hrel
    by_cases hlt : k < ch.length
    · obtain ⟨b, o1, rfl, hbl, hc0, hc1⟩ := pick_at hl hlt
      cases h1 : (ch[k].1.toList == o.toList)
      · have HX : Hid ((ch.take (k + 1)).any (fun p => (p.1.toList == o.toList) && (p.2.toList == v.toList)) = false) := by show _ = _; rw [any_take _ _ _ hlt, HI.out, h1]; rfl
        go_wp2
        go_round
        case rel => exact ⟨k + 1, by omega, by go_num, HX.out⟩
        case measure => simp [intOf]; omega
      cases h2 : (ch[k].2.toList == v.toList)
      · have HX : Hid ((ch.take (k + 1)).any (fun p => (p.1.toList == o.toList) && (p.2.toList == v.toList)) = false) := by show _ = _; rw [any_take _ _ _ hlt, HI.out, h2]; simp
        go_wp2
        go_round
        case rel => exact ⟨k + 1, by omega, by go_num, HX.out⟩
        case measure => simp [intOf]; omega
      · have HF := Lib.hid (has_hit hlt (by rw [h1, h2]; rfl))
        go_wp2
        go_ret
        exact ⟨ret_bool HF.out.symm, rfl⟩
    · obtain rfl : k = ch.length := by omega
      have HF := Lib.hid (has_miss HI.out)
      go_wp2
      go_ret
      exact ⟨ret_bool HF.out.symm, rfl⟩
set_option maxRecDepth 100000 in
set_option maxHeartbeats 4000000 in
theorem specEval_any (A B : Option Addr) (n c m d : Nat) (l : List Cn) (ch : List Pk) (w : World) (hl : CondsIn w A n l) (hp : PicksIn w B m ch) (hi : isCond l = true) :
    Calls Tryz.prog 164 #[.slice A n c, .slice B m d] w fun e w' => e = .returned (.bool (condVal l ch)) ∧ Below w.heap.size w w' := by
  have hn := hl.len
  have hm := hp.len
  obtain rfl := hl.1
  obtain rfl := hp.1
  have h30 := (isCond_parts hi).1
  have HK := Lib.hid (ev_kinds hi ch)
  have HEND := Lib.hid (ev_end hi ch)
  have HS := Lib.hid (evTo_succ l ch)
  clear hi
  go_enter Tryz.func164, Tryz.ntmps164
  go_wp2_with fail
  have hr : BRow (w.alloc (.cells #[] 4)) w.heap.size w.heap.size 0 0 [] := bRow_empty rfl (Nat.le_refl _)
  have hb := below_alloc w (.cells #[] 4)
  generalize (w.alloc (.cells #[] 4)) = V at *
  go_loopw [5, 6] (fun s i wr => ∃ k g q : Nat, k ≤ l.length ∧ i = .int .i64 k ∧ s = .slice (some ⟨g, 0, none⟩) (evTo l ch k).length q ∧ BRow wr w.heap.size g (evTo l ch k).length q (evTo l ch k) ∧ Below w.heap.size w wr) (fun _ i _ => l.length - (intOf i).toNat)
  case atStart => exact ⟨0, w.heap.size, 0, by omega, rfl, rfl, hr, hb⟩
  case round =>
    clear hr hb
    obtain ⟨k, g, q, hk, rfl, rfl, hr, hb⟩ := hrel
    by_cases hlt : k < l.length
    · obtain ⟨b, o, rfl, hbl, hc0, hc1, hc2⟩ := cond_at (hl.keep hb) hlt
      obtain ⟨hst, hkind⟩ := HK.out k hlt
      have HE := Lib.hid (HS.out k hlt)
      generalize evTo l ch k = st at *
      have hsz := hb.size
      have hl1 : st.length ≤ 16777216 := by omega
      rcases hkind with e0 | e1 | ⟨e2, hz⟩ | ⟨e3, hz⟩ | ⟨e4, hz⟩
      · have HX := Lib.hid (HE.out.trans (evNext_0 ch st l[k] e0))
        rw [e0] at hc0
        clear e0 HE
        go_wp2_with (at_builtin; refine wpList_append_bool rfl _ _ rfl rfl hr hl1 true wr.heap.size _ rfl rfl hsz ?_; intro g' c' w2 hr2 hbl2 hgr2)
        go_roundw
        case rel => exact ⟨k + 1, g', c', by omega, by go_num, by rw [HX.out]; simp, by rw [HX.out]; simpa using hr2, hb.trans (hbl2 _ (Nat.le_refl _) hsz)⟩
        case measure => simp [intOf]; omega
      · have HX := Lib.hid (HE.out.trans (evNext_1 ch st l[k] e1))
        rw [e1] at hc0
        clear e1 HE
        have hh := specHas_any _ _ d ch l[k].2.1 l[k].2.2 wr.drew (hp.keep hb.drew)
        generalize hasPk ch l[k].2.1 l[k].2.2 = y at *
        have hv5 : RowVal boolF 4 ((wr.alloc (.cells #[.bool y] 4)).drew) w.heap.size (.slice (some ⟨g, 0, none⟩) st.length q) st := RowVal.drew (RowVal.alloc hr.own _)
        have hsrc : RowsIn boolF ((wr.alloc (.cells #[.bool y] 4)).drew) (some ⟨wr.heap.size, 0, none⟩) 1 [y] := RowsIn.drew (lit_rowB rfl _ _ rfl)
        have hsz6 : w.heap.size ≤ ((wr.alloc (.cells #[.bool y] 4)).drew).heap.size := by simp; omega
        go_wp2_with fail
        go_region_law (first | (go_simp; go_at_call 165; refine hh.mono ?_; rintro e w' ⟨rfl, rfl⟩) | (refine step_append_rows boolElem boolOne rfl (.tmp 49) (.tmp 62) rfl ((wr.alloc (.cells #[.bool y] 4)).drew) (lo := w.heap.size) rfl hv5 hl1 rfl hsrc hsz6 ?_; intro v9 w9 hr9 hg9; obtain ⟨b9, c9, rfl⟩ := hr9.some_v (n := st.length) (by simp)))
        all_goals
          have hB9 : Below w.heap.size wr w9 := (((below_alloc wr (.cells #[.bool y] 4)).drew).mono hsz).trans (RowVal.below hv5 hg9 (Nat.le_refl _) hsz6)
          go_wp2_with fail
          go_roundw
          case rel => exact ⟨k + 1, b9, c9, by omega, by go_num, by rw [HX.out]; simp, by rw [HX.out]; have h7 := BRow.of_val (n := st.length + 1) hr9 (by simp); rw [List.length_append]; exact h7, hb.trans hB9⟩
          case measure => simp [intOf]; omega
      · have HX := Lib.hid (HE.out.trans (evNext_2 ch st l[k] e2))
        rw [e2] at hc0
        clear e2 HE
        have j1 : IntKind.i64.wrap ((st.length : Int) - 1) = (st.length : Int) - 1 := IntWalk.i64_in _ (by omega)
        have j2 : (0 : Int) ≤ (st.length : Int) - 1 := by omega
        have j3 : (1 : Int) ≤ (st.length : Int) := by omega
        have j4 : st.length - 1 < st.length := by omega
        have j5 : (st.length : Int) - 1 < (st.length : Int) := by omega
        have cy := hr.cell j4
        have fy := hr.frozen (st.length - 1)
        generalize st.getD (st.length - 1) false = y at *
        have hr2 := hr.set (st.length - 1) (!y)
        have hbs := hb.setCell (p := ⟨g, st.length - 1, none⟩) (by exact hr.lt.1) (.bool (!y))
        go_wp2_with fail
        go_roundw
        case rel => exact ⟨k + 1, g, q, by omega, by go_num, by rw [HX.out, List.length_set], by rw [HX.out, List.length_set]; exact hr2, hbs⟩
        case measure => simp [intOf]; omega
      · have HX := Lib.hid (HE.out.trans (evNext_3 ch st l[k] e3))
        rw [e3] at hc0
        clear e3 HE
        have j1 : IntKind.i64.wrap ((st.length : Int) - 1) = (st.length : Int) - 1 := IntWalk.i64_in _ (by omega)
        have j2 : (0 : Int) ≤ (st.length : Int) - 1 := by omega
        have j4 : st.length - 1 < st.length := by omega
        have j5 : (st.length : Int) - 1 < (st.length : Int) := by omega
        have i1 : IntKind.i64.wrap ((st.length : Int) - 2) = (st.length : Int) - 2 := IntWalk.i64_in _ (by omega)
        have i2 : (0 : Int) ≤ (st.length : Int) - 2 := by omega
        have i4 : st.length - 2 < st.length := by omega
        have i5 : (st.length : Int) - 2 < (st.length : Int) := by omega
        have cy := hr.cell j4
        have cx := hr.cell i4
        have fx := hr.frozen (st.length - 2)
        have hqc := hr.cap
        have HTW := Lib.hid (fun y => set_two st y hz)
        generalize st.getD (st.length - 1) false = y1 at *
        generalize st.getD (st.length - 2) false = y2 at *
        have HR2 : Hid (BRow (wr.setCell ⟨g, st.length - 2, none⟩ (.bool (y2 && y1))) w.heap.size g (st.length - 1) q (evTo l ch (k + 1)) ∧ (evTo l ch (k + 1)).length = st.length - 1) := by
          show _ ∧ _
          rw [HX.out, ← HTW.out]
          exact ⟨(hr.set _ _).take _ (by omega), by simp⟩
        have hbs := hb.setCell (p := ⟨g, st.length - 2, none⟩) (by exact hr.lt.1) (.bool (y2 && y1))
        cases y2
        all_goals
          go_wp2_with fail
          go_roundw
          case rel => exact ⟨k + 1, g, q, by omega, by go_num, by rw [HR2.out.2], by rw [HR2.out.2]; exact HR2.out.1, hbs⟩
          case measure => simp [intOf]; omega
      · have HX := Lib.hid (HE.out.trans (evNext_4 ch st l[k] e4))
        rw [e4] at hc0
        clear e4 HE
        have j1 : IntKind.i64.wrap ((st.length : Int) - 1) = (st.length : Int) - 1 := IntWalk.i64_in _ (by omega)
        have j2 : (0 : Int) ≤ (st.length : Int) - 1 := by omega
        have j4 : st.length - 1 < st.length := by omega
        have j5 : (st.length : Int) - 1 < (st.length : Int) := by omega
        have i1 : IntKind.i64.wrap ((st.length : Int) - 2) = (st.length : Int) - 2 := IntWalk.i64_in _ (by omega)
        have i2 : (0 : Int) ≤ (st.length : Int) - 2 := by omega
        have i4 : st.length - 2 < st.length := by omega
        have i5 : (st.length : Int) - 2 < (st.length : Int) := by omega
        have cy := hr.cell j4
        have cx := hr.cell i4
        have fx := hr.frozen (st.length - 2)
        have hqc := hr.cap
        have HTW := Lib.hid (fun y => set_two st y hz)
        generalize st.getD (st.length - 1) false = y1 at *
        generalize st.getD (st.length - 2) false = y2 at *
        have HR2 : Hid (BRow (wr.setCell ⟨g, st.length - 2, none⟩ (.bool (y2 || y1))) w.heap.size g (st.length - 1) q (evTo l ch (k + 1)) ∧ (evTo l ch (k + 1)).length = st.length - 1) := by
          show _ ∧ _
          rw [HX.out, ← HTW.out]
          exact ⟨(hr.set _ _).take _ (by omega), by simp⟩
        have hbs := hb.setCell (p := ⟨g, st.length - 2, none⟩) (by exact hr.lt.1) (.bool (y2 || y1))
        cases y2
        all_goals
          go_wp2_with fail
          go_roundw
          case rel => exact ⟨k + 1, g, q, by omega, by go_num, by rw [HR2.out.2], by rw [HR2.out.2]; exact HR2.out.1, hbs⟩
          case measure => simp [intOf]; omega
    · obtain rfl : k = l.length := by omega
      have h1 := HEND.out
      have HV : Hid ((evTo l ch l.length).getD 0 false = condVal l ch) := rfl
      generalize evTo l ch l.length = st at *
      have c0 := hr.cell (j := 0) (by omega)
      rw [HV.out] at c0
      rw [h1]
      go_wp2_with fail
      go_ret
      exact ⟨rfl, hb⟩
end Go.Proofs.YtlnkofnfgemfdaaGreat
