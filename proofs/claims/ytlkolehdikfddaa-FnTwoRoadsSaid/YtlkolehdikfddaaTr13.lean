/- Part 13 of the texts of this claim: The walks of LotsFor; PlanItem (plain): what both the reference and the program plan for an item; Balances: what came less what was taken (plain); Takings step by step (plain); The walks of l10Times, l10Plus, l10Order; Rows of truth values of the call's own: they grow and shrink. -/
import Derived.Test.YtlkolehdikfddaaTr12
import Derived.Test.YtlkolehdikfddaaTr7
import Derived.Test.YtlkolehdikfddaaTr5
import Derived.StillTailTactics
import Derived.Test.YtlkolehdikfddaaTr11
import Derived.Test.YtlkolehdikfddaaTr10
import Derived.Test.YtlkolehdikfddaaTr6
import Derived.Test.YtlkolehdikfddaaTr2
/- The walks of LotsFor. -/
namespace Go.Proofs.Ytlkolehdikfddaa
open Go.RowKit
theorem lotRule_parts {r s : Int} (h : lotRule r s = true) : (r = 0 ∧ s = 0) ∨ (r = 1 ∧ 1 ≤ s ∧ s ≤ 1000) ∨ (r = 2 ∧ 1 ≤ s ∧ s ≤ 1000) := by
  simp only [lotRule, Bool.or_eq_true, Bool.and_eq_true, beq_iff_eq, inB_iff] at h
  omega
theorem flSet (l : List Fl) (k : Nat) (x : Int) (hk : k < l.length) : (l.flatMap flF.enc).set (k * 2 + 1) (.int .i64 x) = (l.set k (l[k].1, x)).flatMap flF.enc := by
  induction l generalizing k with
  | nil => simp at hk
  | cons f t ih =>
    cases k with
    | zero => simp [flF]
    | succ k =>
      have h := ih k (by simpa using hk)
      simp only [List.flatMap_cons, List.set_cons_succ, List.getElem_cons_succ]
      rw [← h, List.set_append_right _ _ (by simp [flF]; omega)]
      congr 2
      simp [flF]
      omega
/-- What a store to the last flow's quantity makes of a row. -/
theorem bump_row {w : World} {lo g c : Nat} {l : List Fl} (h : OwnRows flF 107 w lo (some ⟨g, 0, none⟩) l.length c l) (hl : 0 < l.length) (q x : Int) (hx : x = (l.getD (l.length - 1) (0, 0)).2 + q) :
    RowVal flF 107 (w.setCell ⟨g, (l.length - 1) * 2 + 1, none⟩ (.int .i64 x)) lo (.slice (some ⟨g, 0, none⟩) l.length c) (bump l q) := by
  have s1 := (h.2.stored ((l.length - 1) * 2 + 1) (.int .i64 x)).1
  have e : bump l q = l.set (l.length - 1) ((l[l.length - 1]'(by omega)).1, x) := by
    unfold bump lastDay
    rw [hx, getD_at _ _ _ (show l.length - 1 < l.length by omega)]
  unfold RowVal
  rw [bump_len, e, ← flSet l (l.length - 1) x (by omega)]
  exact s1
theorem last_cells {w : World} {lo g c : Nat} {l : List Fl} (h : OwnRows flF 107 w lo (some ⟨g, 0, none⟩) l.length c l) (hl : 0 < l.length) :
    w.cell? ⟨g, (l.length - 1) * 2, none⟩ = some (.int .i64 (lastDay l)) ∧ w.cell? ⟨g, (l.length - 1) * 2 + 1, none⟩ = some (.int .i64 (l.getD (l.length - 1) (0, 0)).2) ∧ w.frozen? ⟨g, (l.length - 1) * 2 + 1, none⟩ = false := by
  have hk : l.length - 1 < l.length := by omega
  have h0 := flatMap_at flF.enc 2 flF.len l (l.length - 1) 0 hk (by omega)
  have h1 := flatMap_at flF.enc 2 flF.len l (l.length - 1) 1 hk (by omega)
  refine ⟨?_, ?_, h.2.frozenAt _⟩
  · rw [h.2.cellAt ((l.length - 1) * 2) (by show _ < l.length * 2; omega)]
    unfold lastDay
    rw [getD_at _ _ _ hk]
    exact h0
  · rw [h.2.cellAt ((l.length - 1) * 2 + 1) (by show _ < l.length * 2; omega), getD_at _ _ _ hk]
    exact h1
theorem lotStep_new {rule size : Int} {out : List Fl} {sp : Int} {f : Fl} (h1 : rule ≠ 1) (h : ¬ (rule = 2 ∧ 0 < out.length ∧ f.1 < lastDay out + size)) : lotStep rule size (out, sp) f = (out ++ [f], sp) := by
  unfold lotStep; rw [if_neg h1, if_neg h]
theorem lotStep_more {size : Int} {out : List Fl} {sp : Int} {f : Fl} (h : 0 < out.length) (h2 : f.1 < lastDay out + size) : lotStep 2 size (out, sp) f = (bump out f.2, sp) := by
  unfold lotStep; rw [if_neg (by omega), if_pos ⟨rfl, h, h2⟩]
theorem lotStep_lot {size : Int} {out : List Fl} {sp : Int} {f : Fl} (h : sp < f.2) : lotStep 1 size (out, sp) f = (out ++ [(f.1, (f.2 - sp + size - 1) / size * size)], (f.2 - sp + size - 1) / size * size - (f.2 - sp)) := by
  unfold lotStep; rw [if_pos rfl, if_pos h]; rfl
theorem lotStep_have {size : Int} {out : List Fl} {sp : Int} {f : Fl} (h : ¬ sp < f.2) : lotStep 1 size (out, sp) f = (out, sp - f.2) := by
  unfold lotStep; rw [if_pos rfl, if_neg h]
set_option maxRecDepth 100000 in
set_option maxHeartbeats 4000000 in
theorem specLotsFor_any (A : Option Addr) (n c : Nat) (needs : List Fl) (rule size : Int) (w : World) (ha : FlowsIn w A n needs) :
    Calls Try.prog 80 #[.int .i64 rule, .int .i64 size, .slice A n c] w (PairRows w (lotsFor needs rule size)) := by
  have hb : Below w.heap.size w w := Below.refl _ _
  have hln := ha.len
  obtain rfl := ha.1
  go_enter Try.func80, Try.ntmps80
  go_wp2_with fail
  refine (l15Rule_any _ _ _).mono ?_
  rintro e v ⟨rfl, rfl⟩
  cases g1 : lotRule rule size
  · go_wp2_with fail
    go_ret2
    exact pairRows_mk (l := []) (lotsFor_no (by simp [g1])) (empty_row rfl hb.size) (hb.alloc hb.size _)
  go_wp2_with fail
  refine (specAreFlows_any _ _ _ needs _ (ha.keep hb)).mono ?_
  rintro e u2 ⟨rfl, hs⟩
  replace hb := below_on hb (hs.below _)
  clear hs
  cases g2 : areFlows needs
  · go_wp2_with fail
    go_ret2
    exact pairRows_mk (l := []) (lotsFor_no (by simp [g2])) (empty_row rfl hb.size) (hb.alloc hb.size _)
  have HB := Lib.hid (fun k hk => lotTo_parts rule size needs g2 g1 k hk)
  have HM := Lib.hid (areFlows_mem g2)
  have hn4 := (areFlows_parts g2).2
  have hru := lotRule_parts g1
  have hsz0 := hb.size
  go_wp2
  have hb0 := hb.alloc hsz0 (.cells #[] 107)
  have hv0 : RowVal flF 107 (u2.alloc (.cells #[] 107)) w.heap.size (.slice (some ⟨u2.heap.size, 0, none⟩) 0 0) [] := empty_row rfl hsz0
  clear hb
  go_loopw [8, 9, 10] (fun v s i wr => ∃ k : Nat, k ≤ needs.length ∧ i = .int .i64 k ∧ s = .int .i64 (lotTo rule size needs k).2 ∧ RowVal flF 107 wr w.heap.size v (lotTo rule size needs k).1 ∧ Below w.heap.size w wr) (fun _ _ i _ => needs.length - (intOf i).toNat)
  case atStart => exact ⟨0, by omega, rfl, rfl, hv0, hb0⟩
  case round =>
    clear hv0 hb0
    obtain ⟨k, hk, rfl, rfl, hrow, HR⟩ := hrel
    by_cases hlt : k < needs.length
    · have HS := Lib.hid (lotTo_succ rule size needs k hlt)
      obtain ⟨n1, n2, n3, n4⟩ := HB.out k hk
      have HN4 := Lib.hid n4
      clear n4
      generalize hst : lotTo rule size needs k = st at *
      obtain ⟨out, sp⟩ := st
      dsimp only at hrow n1 n2 n3 HS HN4 ⊢
      have HST := Lib.hid hst
      clear hst
      have hout : out.length ≤ 1000 := by omega
      obtain ⟨⟨m1, m2⟩, m3, m4⟩ := HM.out _ (List.getElem_mem hlt)
      obtain ⟨b, o, rfl, _, hc1, hc2⟩ := flow_at (ha.keep HR) hlt
      have hsz := HR.size
      obtain ⟨X, C, rfl, hrow2⟩ := hrow.form
      have hid1 : 0 ≤ needs[k].2 - sp ∨ needs[k].2 - sp < 0 := by omega
      rcases hru with ⟨rfl, rfl⟩ | ⟨rfl, s1, s2⟩ | ⟨rfl, s1, s2⟩
      · have HE := Lib.hid (lotStep_new (rule := 0) (size := 0) (out := out) (sp := sp) (f := needs[k]) (by omega) (by omega))
        go_wp2_with fail
        go_quiet (fail)
        have hrow3 : RowVal flF 107 (wr.drewN nq) w.heap.size _ out := hrow.keep (below_drewN (Below.refl _ _) _)
        have HR3 : Below w.heap.size w (wr.drewN nq) := below_drewN HR _
        obtain ⟨b', o', e', _, hd1, hd2⟩ := flow_at (ha.keep HR3) hlt
        obtain ⟨rfl, rfl⟩ : b = b' ∧ o = o' := by simpa using e'
        clear hrow HR hrow2 hc1 hc2 e'
        generalize wr.drewN nq = W1 at *
        have hsz3 := HR3.size
        go_wp2_with (at_builtin; refine wpList_append_one flowElem rfl _ _ rfl rfl (l := out) hrow3 (by omega) needs[k] #[.int .i64 needs[k].1, .int .i64 needs[k].2] rfl (by simp [Value.oneCell']) W1.heap.size _ rfl rfl hsz3 ?_; intro v' w2 hrow' hbl hgr)
        go_roundw
        case rel => exact ⟨k + 1, by omega, by go_num, by rw [HS.out, HE.out], by rw [HS.out, HE.out]; exact hrow', HR3.trans (hbl _ (Nat.le_refl _) hsz3)⟩
        case measure => simp [intOf]; omega
      · by_cases hs : sp < needs[k].2
        · have HE := Lib.hid (lotStep_lot (size := size) (out := out) (f := needs[k]) hs)
          obtain ⟨l1, l2, l3, l4, l5⟩ := lotUp_bd (needs[k].2 - sp) size s1 s2 (by omega) (by omega)
          unfold lotUp at l1 l2 l3
          have hp : 0 < needs[k].2 - sp := by omega
          have hz1 : decide (0 < needs[k].2 - sp) = true := by simpa using hp
          go_wp2_with (at_builtin; refine wpList_append_one flowElem rfl _ _ rfl rfl (l := out) hrow (by omega) (needs[k].1, (needs[k].2 - sp + size - 1) / size * size) #[.int .i64 needs[k].1, .int .i64 ((needs[k].2 - sp + size - 1) / size * size)] rfl (by simp [Value.oneCell']) wr.heap.size _ rfl rfl hsz ?_; intro v' w2 hrow' hbl hgr)
          go_roundw
          case rel => exact ⟨k + 1, by omega, by go_num, by rw [HS.out, HE.out], by rw [HS.out, HE.out]; exact hrow', HR.trans (hbl _ (Nat.le_refl _) hsz)⟩
          case measure => simp [intOf]; omega
        · have HE := Lib.hid (lotStep_have (size := size) (out := out) (f := needs[k]) hs)
          have hp : ¬ 0 < needs[k].2 - sp := by omega
          have hz1 : decide (0 < needs[k].2 - sp) = false := by simpa using hp
          go_wp2_with fail
          go_roundw
          case rel => exact ⟨k + 1, by omega, by go_num, by rw [HS.out, HE.out]; go_num, by rw [HS.out, HE.out]; exact hrow, HR⟩
          case measure => simp [intOf]; omega
      · by_cases h0 : 0 < out.length
        · obtain ⟨g, rfl⟩ := rowOf_some hrow2 h0
          obtain ⟨x1, x2, x3⟩ := last_cells hrow2 h0
          have hlast : out.length - 1 < out.length := by omega
          obtain ⟨d1, d2, d3, d4⟩ := HN4.out _ (List.getElem_mem hlast)
          have e1 : lastDay out = out[out.length - 1].1 := by unfold lastDay; rw [getD_at _ _ _ hlast]
          have e2 : (out.getD (out.length - 1) (0, 0)).2 = out[out.length - 1].2 := by rw [getD_at _ _ _ hlast]
          rw [← e1] at d1 d2
          rw [← e2] at d3 d4
          clear e1 e2
          have hi1 : (0 : Int) ≤ (out.length : Int) - 1 := by omega
          have hi2 : (out.length : Int) - 1 < (out.length : Int) := by omega
          have hi3 : ((out.length : Int) - 1).toNat = out.length - 1 := by omega
          have hz1 : decide (0 < out.length) = true := by simpa using h0
          have hz2 : decide ((0 : Int) < (out.length : Int)) = true := by simp; omega
          have hz5 : IntKind.i64.wrap (lastDay out + size) = lastDay out + size := IntWalk.i64_in _ (by omega)
          by_cases hday : needs[k].1 < lastDay out + size
          · have HE := Lib.hid (lotStep_more (size := size) (out := out) (sp := sp) (f := needs[k]) h0 hday)
            have hz3 : decide (needs[k].1 < lastDay out + size) = true := by simpa using hday
            go_wp2_with fail
            go_quiet (fail)
            go_wp2_with fail
            have hrow3 := hrow2.keep (below_drewN (Below.refl _ _) nq)
            have HR3 : Below w.heap.size w (wr.drewN nq) := below_drewN HR _
            obtain ⟨b', o', e', _, hd1, hd2⟩ := flow_at (ha.keep HR3) hlt
            obtain ⟨rfl, rfl⟩ : b = b' ∧ o = o' := by simpa using e'
            obtain ⟨y1, y2, y3⟩ := last_cells hrow3 h0
            obtain ⟨lq, hlq⟩ : ∃ q, (out.getD (out.length - 1) (0, 0)).2 = q := ⟨_, rfl⟩
            rw [hlq] at y2 d3 d4
            have HLQ := Lib.hid hlq
            clear hlq
            have hgw := (own_lt hrow2.2 _ rfl).1
            clear hrow HR hrow2 hc1 hc2 e' x1 x2 x3
            generalize wr.drewN nq = W1 at *
            have m3 : IntKind.i64.wrap (lq + needs[k].2) = lq + needs[k].2 := IntWalk.i64_in _ (by omega)
            have hi4 : (1 : Int) ≤ (out.length : Int) := by omega
            have hi5 : 1 ≤ out.length := by omega
            have hi6 : out.length - 1 < out.length := by omega
            have m4 : IntKind.i64.wrap ((out.length : Int) - 1) = (out.length : Int) - 1 := IntWalk.i64_in _ (by omega)
            go_still_tail 15, (by kernel_rfl)
            change wpList _ _ _ _ _ W1.drew
            have hrow4 : OwnRows flF 107 W1.drew w.heap.size (some ⟨g, 0, none⟩) out.length C out := hrow3
            have HR4 := HR3.drew
            change W1.drew.cell? _ = _ at y2
            change W1.drew.frozen? _ = _ at y3
            have HB3 := Lib.hid (bump_row hrow4 h0 needs[k].2 (lq + needs[k].2) (by rw [HLQ.out]))
            have HR5 := HR4.setCell (p := ⟨g, (out.length - 1) * 2 + 1, none⟩) hgw (.int .i64 (lq + needs[k].2))
            clear m3 m4 hrow4 hrow3 HR3 HR4
            generalize W1.drew = W2 at *
            go_wp2_with fail
            go_roundw
            case rel => exact ⟨k + 1, by omega, by go_num, by rw [HS.out, HE.out], by rw [HS.out, HE.out]; exact HB3.out, HR5⟩
            case measure => simp [intOf]; omega
          · have HE := Lib.hid (lotStep_new (rule := 2) (size := size) (out := out) (sp := sp) (f := needs[k]) (by omega) (fun h => hday h.2.2))
            have hz3 : decide (needs[k].1 < lastDay out + size) = false := by simpa using hday
            go_wp2_with fail
            go_quiet (fail)
            have hrow3 : RowVal flF 107 (wr.drewN nq) w.heap.size _ out := hrow.keep (below_drewN (Below.refl _ _) _)
            have HR3 : Below w.heap.size w (wr.drewN nq) := below_drewN HR _
            obtain ⟨b', o', e', _, hd1, hd2⟩ := flow_at (ha.keep HR3) hlt
            obtain ⟨rfl, rfl⟩ : b = b' ∧ o = o' := by simpa using e'
            clear hrow HR hrow2 hc1 hc2 e' x1 x2 x3
            generalize wr.drewN nq = W1 at *
            have hsz3 := HR3.size
            go_wp2_with (at_builtin; refine wpList_append_one flowElem rfl _ _ rfl rfl (l := out) hrow3 (by omega) needs[k] #[.int .i64 needs[k].1, .int .i64 needs[k].2] rfl (by simp [Value.oneCell']) W1.heap.size _ rfl rfl hsz3 ?_; intro v' w2 hrow' hbl hgr)
            go_roundw
            case rel => exact ⟨k + 1, by omega, by go_num, by rw [HS.out, HE.out], by rw [HS.out, HE.out]; exact hrow', HR3.trans (hbl _ (Nat.le_refl _) hsz3)⟩
            case measure => simp [intOf]; omega
        · have hz1 : decide (0 < out.length) = false := by simpa using h0
          have HE := Lib.hid (lotStep_new (rule := 2) (size := size) (out := out) (sp := sp) (f := needs[k]) (by omega) (fun h => h0 h.2.1))
          have h00 : (out.length : Int) ≤ 0 := by omega
          have hz2 : decide ((0 : Int) < (out.length : Int)) = false := decide_eq_false (by omega)
          go_wp2_with fail
          go_quiet (fail)
          have hrow3 : RowVal flF 107 (wr.drewN nq) w.heap.size _ out := hrow.keep (below_drewN (Below.refl _ _) _)
          have HR3 : Below w.heap.size w (wr.drewN nq) := below_drewN HR _
          obtain ⟨b', o', e', _, hd1, hd2⟩ := flow_at (ha.keep HR3) hlt
          obtain ⟨rfl, rfl⟩ : b = b' ∧ o = o' := by simpa using e'
          clear hrow HR hrow2 hc1 hc2 e'
          generalize wr.drewN nq = W1 at *
          have hsz3 := HR3.size
          go_wp2_with (at_builtin; refine wpList_append_one flowElem rfl _ _ rfl rfl (l := out) hrow3 (by omega) needs[k] #[.int .i64 needs[k].1, .int .i64 needs[k].2] rfl (by simp [Value.oneCell']) W1.heap.size _ rfl rfl hsz3 ?_; intro v' w2 hrow' hbl hgr)
          go_roundw
          case rel => exact ⟨k + 1, by omega, by go_num, by rw [HS.out, HE.out], by rw [HS.out, HE.out]; exact hrow', HR3.trans (hbl _ (Nat.le_refl _) hsz3)⟩
          case measure => simp [intOf]; omega
    · obtain rfl : k = needs.length := by omega
      obtain ⟨n1, n2, n3, n4⟩ := HB.out needs.length (Nat.le_refl _)
      clear n4
      obtain ⟨X, C, rfl, hrow2⟩ := hrow.form
      go_wp2_with fail
      refine (specAreFlows_any _ _ _ (lotTo rule size needs needs.length).1 _ (hrow2.rows (by omega))).mono ?_
      rintro e v1 ⟨rfl, hs⟩
      replace hrow2 := hrow2.keep (hs.below _)
      replace HR := HR.trans (hs.below _)
      clear hs
      have hsz := HR.size
      cases hfl : areFlows (lotTo rule size needs needs.length).1
      · go_wp2_with fail
        go_ret2
        exact pairRows_mk (l := []) (lotsFor_no (by rw [hfl, Bool.and_false])) (empty_row rfl hsz) (HR.alloc hsz _)
      · go_wp2_with fail
        go_ret2
        exact pairRows_mk (lotsFor_yes (by rw [hfl, g1, g2]; rfl)) hrow2.val HR
end Go.Proofs.Ytlkolehdikfddaa
/- PlanItem (plain): what both the reference and the program plan for an item. -/
namespace Go.Proofs.Ytlkolehdikfddaa
open Go.RowKit
def plOf (p : Pt) (item : ByteArray) (x : It) (f : Fl) : Pl := (item, (grossOf x f.2).1, (addWd p.wk p.ex f.1 (-x.2.2.2.1)).1, f.1, !(addWd p.wk p.ex f.1 (-x.2.2.2.1)).2)
def planX (p : Pt) (item : ByteArray) : It := p.it.getD (findIt p.it item).toNat itNone
def planNet (p : Pt) (item : ByteArray) (needs : List Fl) : List Fl × Bool := netNeeds (receiptFlows p item) needs (stockOf p item) (planX p item).2.2.2.2.2.2.1
def planLots (p : Pt) (item : ByteArray) (needs : List Fl) : List Fl × Bool := lotsFor (planNet p item needs).1 (planX p item).2.2.2.2.1 (planX p item).2.2.2.2.2.1
def smallF (x : It) (f : Fl) : Bool := decide ((grossOf x f.2).1 ≤ 100000)
def planOk (p : Pt) (item : ByteArray) (needs : List Fl) : Bool := isPlant p && (decide (0 ≤ findIt p.it item) && ((!((planX p item).2.2.1 == 2)) && areFlows needs))
def planItem (p : Pt) (item : ByteArray) (needs : List Fl) : List Pl × Bool :=
  if (planOk p item needs && ((planNet p item needs).2 && ((planLots p item needs).2 && (planLots p item needs).1.all (smallF (planX p item))))) = true then ((planLots p item needs).1.map (plOf p item (planX p item)), true) else ([], false)
theorem planItem_no {p : Pt} {item : ByteArray} {needs : List Fl} (h : (planOk p item needs && ((planNet p item needs).2 && ((planLots p item needs).2 && (planLots p item needs).1.all (smallF (planX p item))))) = false) : planItem p item needs = ([], false) := by unfold planItem; rw [if_neg (by rw [h]; decide)]
theorem planItem_yes {p : Pt} {item : ByteArray} {needs : List Fl} (h1 : planOk p item needs = true) (h2 : (planNet p item needs).2 = true) (h3 : (planLots p item needs).2 = true) (h4 : (planLots p item needs).1.all (smallF (planX p item)) = true) : planItem p item needs = ((planLots p item needs).1.map (plOf p item (planX p item)), true) := by
  unfold planItem; rw [if_pos (by rw [h1, h2, h3, h4]; rfl)]
theorem planX_at {p : Pt} {item : ByteArray} {q : Nat} (h : findIt p.it item = (q : Int)) (hq : q < p.it.length) : planX p item = p.it[q] := by
  unfold planX; rw [h, Int.toNat_natCast, it_getD _ _ hq]
theorem planOk_eq {p : Pt} {item : ByteArray} {needs : List Fl} {q : Nat} {b1 b2 b3 : Bool} (h : findIt p.it item = (q : Int)) (hq : q < p.it.length) (h1 : isPlant p = b1) (h2 : (p.it[q].2.2.1 == 2) = b2) (h3 : areFlows needs = b3) : planOk p item needs = (b1 && (!b2 && b3)) := by
  unfold planOk; rw [planX_at h hq, h1, h2, h3, h, decide_eq_true (by omega)]; rfl
theorem planLots_40 (p : Pt) (item : ByteArray) (needs : List Fl) : (planLots p item needs).1.length ≤ 40 := (areFlows_parts (lotsFor_flows _ _ _)).2
theorem lotsFor_nil' {needs : List Fl} {rule size : Int} (h : (lotsFor needs rule size).2 = false) : (lotsFor needs rule size).1 = [] := by
  cases hb : ((lotRule rule size && areFlows needs) && areFlows (lotTo rule size needs needs.length).1)
  · rw [lotsFor_no hb]
  · rw [lotsFor_yes hb] at h; cases h
theorem planItem_len (p : Pt) (item : ByteArray) (needs : List Fl) : (planItem p item needs).1.length ≤ 40 := by
  unfold planItem
  split
  · rw [List.length_map]; exact planLots_40 _ _ _
  · simp
theorem map_take {α β : Type} (f : α → β) (l : List α) (k : Nat) (h : k < l.length) : (l.take (k + 1)).map f = (l.take k).map f ++ [f l[k]] := by
  rw [List.take_succ_eq_append_getElem h, List.map_append]; rfl
theorem isPlant_item {p : Pt} (h : isPlant p = true) {q : Nat} (hq : q < p.it.length) : isItem p.it[q] = true := isCat_item (isBills_parts (isPlant_parts h).1).1 hq
end Go.Proofs.Ytlkolehdikfddaa
/- Balances: what came less what was taken (plain). -/
namespace Go.Proofs.Ytlkolehdikfddaa
def goodOf (p : Pt) (item : ByteArray) (o : Pl) : Int := (netOf (planX p item) o.2.1).1
def evsR (l : List Fl) : List (Int × Int × Int) := l.map fun f => ((1 : Int), f.2, f.1)
def isOf (item : ByteArray) (o : Pl) : Bool := o.1.toList == item.toList
def goodV (p : Pt) (item : ByteArray) (o : Pl) : Int × Int × Int := (1, goodOf p item o, o.2.2.2.1)
def evsG (p : Pt) (item : ByteArray) (l : List Pl) : List (Int × Int × Int) := (l.filter (isOf item)).map (goodV p item)
def comeOn (p : Pt) (l : List Pl) (item : ByteArray) : List Int := tkTo (evsR (receiptFlows p item) ++ evsG p item l)
def cutD (day : Int) : Nat := (max 0 (min day 999 + 1)).toNat
def takes (p : Pt) (ds : List Dm) (l : List Pl) (item : ByteArray) : Bool := arePlanned p l && (areDemands ds && (decide (0 ≤ findIt p.it item) && (takenOn p ds l item).2))
def takenUpTo (p : Pt) (ds : List Dm) (l : List Pl) (item : ByteArray) (day : Int) : Int × Bool := if takes p ds l item = true then (prefS (takenOn p ds l item).1 (cutD day), true) else (0, false)
def balanceOn (p : Pt) (ds : List Dm) (l : List Pl) (item : ByteArray) (day : Int) : Int × Bool :=
  if (takes p ds l item && !(phan p.it item)) = true then (stockOf p item + prefS (comeOn p l item) (cutD day) - prefS (takenOn p ds l item).1 (cutD day), true) else (0, false)
theorem prefS_set (m : List Int) (i k : Nat) (x : Int) (h : i < m.length) : prefS (m.set i x) k = prefS m k + (if i < k then x - m.getD i 0 else 0) := by
  unfold prefS
  rw [List.take_set]
  by_cases hk : i < k
  · rw [if_pos hk, sum_set _ _ _ (by rw [List.length_take]; omega)]
    have : (m.take k).getD i 0 = m.getD i 0 := by
      rw [List.getD_eq_getElem?_getD, List.getElem?_take, if_pos hk, List.getD_eq_getElem?_getD]
    omega
  · rw [if_neg hk, List.set_eq_of_length_le (by rw [List.length_take]; omega)]; omega
def evSum (l : List (Int × Int × Int)) (day : Int) : Int := (l.map fun v => if v.2.2 ≤ day then v.1 * v.2.1 else 0).sum
theorem evSum_append (a b : List (Int × Int × Int)) (day : Int) : evSum (a ++ b) day = evSum a day + evSum b day := by unfold evSum; rw [List.map_append, List.sum_append]
theorem cutD_lt {d day : Int} (h : 0 ≤ d ∧ d ≤ 999) : d.toNat < cutD day ↔ d ≤ day := by unfold cutD; omega
theorem prefS_run (day : Int) : ∀ (l : List (Int × Int × Int)), (∀ v ∈ l, 0 ≤ v.2.2 ∧ v.2.2 ≤ 999) → ∀ m : List Int, m.length = 1000 → prefS (l.foldl tkStep m) (cutD day) = prefS m (cutD day) + evSum l day := by
  intro l
  induction l with
  | nil => intro _ m _; simp [evSum]
  | cons v t ih =>
    intro h m hm
    have hv := h v List.mem_cons_self
    rw [List.foldl_cons, ih (fun x hx => h x (List.mem_cons_of_mem _ hx)) _ (by rw [tkStep_len, hm])]
    have hs : prefS (tkStep m v) (cutD day) = prefS m (cutD day) + (if v.2.2 ≤ day then v.1 * v.2.1 else 0) := by
      unfold tkStep
      rw [prefS_set _ _ _ _ (by omega)]
      by_cases hc : v.2.2 ≤ day
      · rw [if_pos ((cutD_lt hv).2 hc), if_pos hc]; omega
      · rw [if_neg (fun e => hc ((cutD_lt hv).1 e)), if_neg hc]
    rw [hs]
    unfold evSum
    rw [List.map_cons, List.sum_cons]; omega
theorem prefS_zero (n k : Nat) : prefS (List.replicate n 0) k = 0 := by
  unfold prefS; rw [List.take_replicate, zeros_sum]
theorem prefS_tk {l : List (Int × Int × Int)} (h : ∀ v ∈ l, 0 ≤ v.2.2 ∧ v.2.2 ≤ 999) (day : Int) : prefS (tkTo l) (cutD day) = evSum l day := by
  unfold tkTo
  rw [prefS_run day l h _ List.length_replicate, prefS_zero, Int.zero_add]
/-- What is good of the orders that are due by a day. -/
def goodTo (p : Pt) (item : ByteArray) (day : Int) (l : List Pl) : Int := (l.map fun o => if (isOf item o && decide (o.2.2.2.1 ≤ day)) = true then goodOf p item o else 0).sum
theorem evs_ok (p : Pt) (ds : List Dm) (l : List Pl) (item : ByteArray) (hp : arePlanned p l = true) (hd : areDemands ds = true) : ∀ v ∈ evsD p item ds ++ evsP p item l, okEv v := by
  obtain ⟨h1, h2, h3⟩ := arePlanned_parts hp
  obtain ⟨hL, _⟩ := lev_of (isPlant_parts h1).1
  have hu := fun (c : ByteArray) (d : Int) => unitV_bd hL (lineOn p.ch d) item c
  intro v hv
  rcases List.mem_append.1 hv with hv | hv
  · obtain ⟨d, hd2, rfl⟩ := List.mem_map.1 hv
    obtain ⟨k, hk, rfl⟩ := List.mem_iff_getElem.1 hd2
    have hdm := areDemands_mem hd hk
    refine okEv_mk ?_ ⟨by omega, by omega⟩ hdm.2.2
    unfold dmN unitAt
    split
    · omega
    · split
      · exact hu _ _
      · omega
  · obtain ⟨o, ho, rfl⟩ := List.mem_map.1 hv
    obtain ⟨k, hk, rfl⟩ := List.mem_iff_getElem.1 ho
    obtain ⟨_, _, h4, h5, h6⟩ := h3 k hk
    exact okEv_mk (hu _ _) ⟨by omega, by omega⟩ ⟨by omega, by omega⟩
end Go.Proofs.Ytlkolehdikfddaa
/- Takings step by step (plain). -/
namespace Go.Proofs.Ytlkolehdikfddaa
theorem Days.mono {m : List Int} {B C : Int} (h : Days m B) (hBC : B ≤ C) : Days m C := ⟨h.len, h.pos, Int.le_trans h.sum hBC⟩
theorem Days.cell {m : List Int} {B : Int} (h : Days m B) (i : Nat) : 0 ≤ m.getD i 0 ∧ m.getD i 0 ≤ B := ⟨h.pos i, Int.le_trans (getD_le_sum m h.pos i) h.sum⟩
theorem evsD_len (p : Pt) (item : ByteArray) (ds : List Dm) : (evsD p item ds).length = ds.length := by simp [evsD]
theorem evsP_len (p : Pt) (item : ByteArray) (l : List Pl) : (evsP p item l).length = l.length := by simp [evsP]
section
variable (p : Pt) (ds : List Dm) (l : List Pl) (item : ByteArray)
theorem takenD_step (k : Nat) (h : k < ds.length) : tkTo ((evsD p item ds).take (k + 1)) = tkStep (tkTo ((evsD p item ds).take k)) (dmV p item ds[k]) := by
  unfold evsD
  rw [map_take1 _ _ _ h, tkTo_snoc]
theorem takenD_few (k : Nat) (h : k < ds.length) : few ((evsD p item ds).take (k + 1)) = (few ((evsD p item ds).take k) && decide (dmN p item ds[k] ≤ 1000000000)) := by
  unfold evsD
  rw [map_take1 _ _ _ h, few_snoc]; rfl
theorem takenD_bad (k : Nat) (h : k < ds.length) (hb : ¬ dmN p item ds[k] ≤ 1000000000) : (takenOn p ds l item).2 = false := by
  refine few_bad (k := k) (by rw [List.length_append, evsD_len]; omega) ?_
  rw [List.getElem_append_left (by rw [evsD_len]; exact h)]
  simpa [evsD, dmV] using hb
theorem takenP_step (k : Nat) (h : k < l.length) : tkTo (evsD p item ds ++ (evsP p item l).take (k + 1)) = tkStep (tkTo (evsD p item ds ++ (evsP p item l).take k)) (plV p item l[k]) := by
  unfold evsP
  rw [map_take1 _ _ _ h, ← List.append_assoc, tkTo_snoc]
theorem takenP_few (k : Nat) (h : k < l.length) : few (evsD p item ds ++ (evsP p item l).take (k + 1)) = (few (evsD p item ds ++ (evsP p item l).take k) && decide (unitAt p item l[k].1 l[k].2.2.1 ≤ 1000000000)) := by
  unfold evsP
  rw [map_take1 _ _ _ h, ← List.append_assoc, few_snoc]; rfl
theorem takenP_bad (k : Nat) (h : k < l.length) (hb : ¬ unitAt p item l[k].1 l[k].2.2.1 ≤ 1000000000) : (takenOn p ds l item).2 = false := by
  refine few_bad (k := ds.length + k) (by rw [List.length_append, evsD_len, evsP_len]; omega) ?_
  rw [List.getElem_append_right (by rw [evsD_len]; omega)]
  simpa [evsD_len, evsP, plV] using hb
theorem takenD_all : tkTo ((evsD p item ds).take ds.length) = tkTo (evsD p item ds ++ (evsP p item l).take 0) := by
  rw [List.take_of_length_le (by rw [evsD_len]; omega)]; simp
theorem takenD_fewall : few ((evsD p item ds).take ds.length) = few (evsD p item ds ++ (evsP p item l).take 0) := by
  rw [List.take_of_length_le (by rw [evsD_len]; omega)]; simp
theorem takenP_all : tkTo (evsD p item ds ++ (evsP p item l).take l.length) = (takenOn p ds l item).1 := by
  rw [List.take_of_length_le (by rw [evsP_len]; omega)]; rfl
theorem takenP_fewall : few (evsD p item ds ++ (evsP p item l).take l.length) = (takenOn p ds l item).2 := by
  rw [List.take_of_length_le (by rw [evsP_len]; omega)]; rfl
variable {p ds l item} (hp : arePlanned p l = true) (hd : areDemands ds = true)
include hp hd
theorem takenD_days (k : Nat) : Days (tkTo ((evsD p item ds).take k)) 60000000000000000 := by
  refine (tkTo_days (fun v hv => evs_ok p ds l item hp hd v (List.mem_append_left _ (List.mem_of_mem_take hv)))).mono ?_
  have := areDemands_len hd
  rw [List.length_take, evsD_len]
  omega
theorem takenP_days (k : Nat) : Days (tkTo (evsD p item ds ++ (evsP p item l).take k)) 60000000000000000 := by
  refine (tkTo_days (fun v hv => evs_ok p ds l item hp hd v ?_)).mono ?_
  · rcases List.mem_append.1 hv with h | h
    · exact List.mem_append_left _ h
    · exact List.mem_append_right _ (List.mem_of_mem_take h)
  · have := areDemands_len hd
    have := (arePlanned_parts hp).2.1
    rw [List.length_append, List.length_take, evsD_len, evsP_len]
    omega
theorem takenOn_days : Days (takenOn p ds l item).1 60000000000000000 := by
  rw [← takenP_all]; exact takenP_days hp hd _
end
theorem dmN_bd {p : Pt} {ds : List Dm} {l : List Pl} {item : ByteArray} (hp : arePlanned p l = true) (k : Nat) (_h : k < ds.length) : 0 ≤ dmN p item ds[k] ∧ dmN p item ds[k] ≤ 1000000001 := by
  obtain ⟨hL, _⟩ := lev_of (isPlant_parts (arePlanned_parts hp).1).1
  unfold dmN unitAt
  split
  · omega
  · split
    · exact unitV_bd hL _ item _
    · omega
theorem unitAt_bd {p : Pt} (hp : isPlant p = true) (item code : ByteArray) (day : Int) : 0 ≤ unitAt p item code day ∧ unitAt p item code day ≤ 1000000001 := by
  obtain ⟨hL, _⟩ := lev_of (isPlant_parts hp).1
  exact unitV_bd hL _ item _
end Go.Proofs.Ytlkolehdikfddaa
/- The walks of l10Times, l10Plus, l10Order. -/
namespace Go.Proofs.Ytlkolehdikfddaa
open Go.RowKit
set_option maxRecDepth 100000 in
theorem l10Times_any (a b : Int) (w : World) (h1 : -1 ≤ a ∧ a ≤ 1000000000) (h2 : 1 ≤ b ∧ b ≤ 1000) : Calls Try.prog 68 #[.int .i64 a, .int .i64 b] w fun e w' => e = .returned (.int .i64 (timesC a b)) ∧ w = w' := by
  by_cases ha : a < 0
  · have HF : Hid (timesC a b = -1) := by show _ = _; unfold timesC; rw [if_pos (.inl ha)]
    go_enter Try.func68, Try.ntmps68
    go_wp2
    go_ret
    exact ⟨ret_int HF.out.symm, rfl⟩
  have hb : ¬ b < 0 := by omega
  by_cases h0 : 0 < a
  case neg =>
    obtain rfl : a = 0 := by omega
    have HF : Hid (timesC 0 b = 0) := by show _ = _; unfold timesC; rw [if_neg (by omega)]; simp
    go_enter Try.func68, Try.ntmps68
    go_wp2
    go_ret
    exact ⟨ret_int (by rw [HF.out]), rfl⟩
  have hd : (1000000000 : Int).tdiv a = 1000000000 / a := Int.tdiv_eq_ediv_of_nonneg (by omega)
  have hdb : 0 ≤ (1000000000 : Int) / a := Int.ediv_nonneg (by omega) (by omega)
  have hdb2 : (1000000000 : Int) / a ≤ 1000000000 := Int.ediv_le_self _ (by omega)
  have hz : (a == 0) = false := by simp; omega
  have hw : IntKind.i64.wrap ((1000000000 : Int).tdiv a) = 1000000000 / a := by rw [hd]; apply IntWalk.i64_in <;> omega
  by_cases hq : 1000000000 / a < b
  · have HF : Hid (timesC a b = -1) := by show _ = _; unfold timesC; rw [if_pos (.inr (.inr ⟨h0, hq⟩))]
    go_enter Try.func68, Try.ntmps68
    go_wp2
    go_ret
    exact ⟨ret_int HF.out.symm, rfl⟩
  · have HF : Hid (timesC a b = a * b) := by show _ = _; unfold timesC; rw [if_neg (by omega)]
    have hm : a * b ≤ 1000000000 * 1000 := Int.mul_le_mul h1.2 h2.2 (by omega) (by omega)
    have hm0 : 0 ≤ a * b := Int.mul_nonneg (by omega) (by omega)
    have hwm : IntKind.i64.wrap (a * b) = a * b := by apply IntWalk.i64_in <;> omega
    go_enter Try.func68, Try.ntmps68
    go_wp2
    go_ret
    exact ⟨ret_int HF.out.symm, rfl⟩
set_option maxRecDepth 100000 in
theorem l10Plus_any (a b : Int) (w : World) (h1 : -1 ≤ a ∧ a ≤ 1000000000) (h2 : -1 ≤ b ∧ b ≤ 1000000000) : Calls Try.prog 67 #[.int .i64 a, .int .i64 b] w fun e w' => e = .returned (.int .i64 (plusC a b)) ∧ w = w' := by
  by_cases ha : a < 0
  · have HF : Hid (plusC a b = -1) := by show _ = _; unfold plusC; rw [if_pos (.inl ha)]
    go_enter Try.func67, Try.ntmps67
    go_wp2
    go_ret
    exact ⟨ret_int HF.out.symm, rfl⟩
  by_cases hb : b < 0
  · have HF : Hid (plusC a b = -1) := by show _ = _; unfold plusC; rw [if_pos (.inr (.inl hb))]
    go_enter Try.func67, Try.ntmps67
    go_wp2
    go_ret
    exact ⟨ret_int HF.out.symm, rfl⟩
  by_cases hc : 1000000000 < a + b
  · have HF : Hid (plusC a b = -1) := by show _ = _; unfold plusC; rw [if_pos (.inr (.inr hc))]
    go_enter Try.func67, Try.ntmps67
    go_wp2
    go_ret
    exact ⟨ret_int HF.out.symm, rfl⟩
  · have HF : Hid (plusC a b = a + b) := by show _ = _; unfold plusC; rw [if_neg (by omega)]
    go_enter Try.func67, Try.ntmps67
    go_wp2
    go_ret
    exact ⟨ret_int HF.out.symm, rfl⟩
set_option maxRecDepth 100000 in
set_option maxHeartbeats 4000000 in
theorem l10Order_any (A : Option Addr) (n c : Nat) (lev : List Nat) (w : World) (hl : IntsIn w A n (natI lev)) (h12 : lev.length ≤ 12) :
    Calls Try.prog 57 #[.slice A n c] w fun e w' => ∃ g q, e = .returned (.slice (some ⟨g, 0, none⟩) (ordOf lev lev.length).length q) ∧ NumRow w' w.heap.size g (ordOf lev lev.length).length q (natI (ordOf lev lev.length)) ∧ Below w.heap.size w w' := by
  have hn : n = lev.length := hl.1.trans (natI_len lev)
  subst hn
  have HL := Lib.hid hl
  clear hl
  have hb0 := below_alloc w (.cells #[] 3)
  have hr0 : NumRow (w.alloc (.cells #[] 3)) w.heap.size w.heap.size 0 0 [] := numRow_empty rfl (Nat.le_refl _)
  go_enter Try.func57, Try.ntmps57
  go_wp2_with fail
  generalize hV : (w.alloc (.cells #[] 3)) = V at *
  clear hV
  go_loopw [3, 4] (fun s i wr => ∃ v g q : Nat, v ≤ lev.length ∧ i = .int .i64 v ∧ s = .slice (some ⟨g, 0, none⟩) (ordOf lev v).length q ∧ NumRow wr w.heap.size g (ordOf lev v).length q (natI (ordOf lev v)) ∧ Below w.heap.size w wr) (fun _ i _ => lev.length - (intOf i).toNat)
  case atStart => exact ⟨0, w.heap.size, 0, by omega, rfl, rfl, hr0, hb0⟩
  case round =>
    clear hr0 hb0
    obtain ⟨v, g, q, hv, rfl, rfl, hr, hb⟩ := hrel
    by_cases hlt : v < lev.length
    · have HO := Lib.hid (ordOf_succ lev v)
      have HLN := Lib.hid (ordOf_len lev v)
      have hmul : v * lev.length ≤ 12 * 12 := Nat.mul_le_mul (by omega) h12
      have HA0 : Hid (ordOf lev v = ordOf lev v ++ lvAt lev v 0) := by show _ = _; unfold lvAt; simp
      rw [HA0.out] at hr
      have hE : (ordOf lev v).length = (ordOf lev v ++ lvAt lev v 0).length := congrArg List.length HA0.out
      rw [hE]
      clear hE
      go_wp2_with fail
      go_loopw [3, 5] (fun s i wr => ∃ j g q : Nat, j ≤ lev.length ∧ i = .int .i64 j ∧ s = .slice (some ⟨g, 0, none⟩) (ordOf lev v ++ lvAt lev v j).length q ∧ NumRow wr w.heap.size g (ordOf lev v ++ lvAt lev v j).length q (natI (ordOf lev v ++ lvAt lev v j)) ∧ Below w.heap.size w wr) (fun _ i _ => lev.length - (intOf i).toNat)
      case atStart => exact ⟨0, g, q, by omega, rfl, rfl, hr, hb⟩
      case round =>
        clear hr hb
        obtain ⟨j, g, q, hj, rfl, rfl, hr, hb⟩ := hrel
        by_cases hjl : j < lev.length
        · have hjl2 : j < (natI lev).length := by rw [natI_len]; exact hjl
          obtain ⟨b, o, hA, _, hc⟩ := (HL.out.keep hb).at_ hjl2
          have hcv : (natI lev)[j] = ((lev.getD j 0 : Nat) : Int) := by
            have := natI_getD lev j
            rw [List.getD_eq_getElem?_getD, List.getElem?_eq_getElem hjl2] at this
            exact this
          rw [hcv] at hc
          clear hcv
          have HLV := Lib.hid (lvAt_len lev v j)
          have hll : (natI (ordOf lev v ++ lvAt lev v j)).length ≤ 16777216 := by
            rw [natI_len, List.length_append]
            have := HLN.out; have := HLV.out; omega
          have hsz := hb.size
          subst hA
          by_cases he : lev.getD j 0 = v
          · have HY := Lib.hid (lvAt_yes lev v j he)
            rw [he] at hc
            have HZ : Hid (natI (ordOf lev v ++ lvAt lev v (j + 1)) = natI (ordOf lev v ++ lvAt lev v j) ++ [(j : Int)] ∧ (ordOf lev v ++ lvAt lev v (j + 1)).length = (ordOf lev v ++ lvAt lev v j).length + 1) := by
              show _ ∧ _
              rw [HY.out, ← List.append_assoc]
              exact ⟨by simp [natI], by rw [List.length_append]; rfl⟩
            generalize hG : ordOf lev v ++ lvAt lev v j = st at *
            go_wp2_with (at_builtin; refine wpList_append_num rfl _ _ rfl rfl hr hll (j : Int) (wr.heap.size) _ rfl rfl hsz ?_; intro g' c' w9 hnum2 hbl2 hgr2)
            go_roundw
            case rel => exact ⟨j + 1, g', c', by omega, by go_num, by rw [HZ.out.2], by rw [HZ.out.2, HZ.out.1]; exact hnum2, hb.trans (hbl2 _ (Nat.le_refl _) hsz)⟩
            case measure => simp [intOf]; omega
          · have HY := Lib.hid (lvAt_no lev v j he)
            have he2 : ¬ ((lev.getD j 0 : Nat) : Int) = (v : Int) := by omega
            generalize lev.getD j 0 = lj at *
            go_wp2_with fail
            go_roundw
            case rel => exact ⟨j + 1, g, q, by omega, by go_num, by rw [HY.out], by rw [HY.out]; exact hr, hb⟩
            case measure => simp [intOf]; omega
        · obtain rfl : j = lev.length := by omega
          go_wp2_with fail
          go_roundw
          case rel => exact ⟨v + 1, g, q, by omega, by go_num, by rw [HO.out], by rw [HO.out]; exact hr, hb⟩
          case measure => simp [intOf]; omega
    · obtain rfl : v = lev.length := by omega
      go_wp2_with fail
      go_ret
      exact ⟨g, q, rfl, hr, hb⟩
end Go.Proofs.Ytlkolehdikfddaa
/- Rows of truth values of the call's own: they grow and shrink. -/
namespace Go.Proofs.Ytlkolehdikfddaa
open Go.RowKit
abbrev bools (l : List Bool) : List Value := l.map Value.bool
/-- The row of truth values in block g. -/
def BRow (w : World) (lo g n c : Nat) (l : List Bool) : Prop := n = l.length ∧ w.ownsRow lo 4 1 (.slice (some ⟨g, 0, none⟩) n c) n (bools l)
theorem boolInfo : (Try.prog.info? 4).map (fun i => (i.zero, i.size, i.bytes)) = some (some (.bool false), 1, 1) := by kernel_rfl
def boolF : Flat Bool := ⟨fun x => [.bool x], 1, fun _ => rfl⟩
theorem boolF_flat (l : List Bool) : l.flatMap boolF.enc = bools l := by
  induction l with
  | nil => rfl
  | cons a l ih => rw [List.flatMap_cons, ih]; rfl
theorem boolElem : ElemOk boolF 116 4 := by
  obtain ⟨i, h1, h2, h3, h4⟩ := info_parts boolInfo
  exact ⟨i, _, 1, Try.underlying116, h1, h2, h3, h4, rfl, by decide, by omega⟩
section
variable {w w' : World} {lo g n c : Nat} {l : List Bool}
theorem BRow.cell (h : BRow w lo g n c l) {j : Nat} (hj : j < l.length) : w.cell? ⟨g, j, none⟩ = some (.bool (l.getD j false)) := by
  rw [h.2.cellAt j (by have := h.1; omega), List.getD_eq_getElem?_getD]; simp [hj]
theorem BRow.frozen (h : BRow w lo g n c l) (j : Nat) : w.frozen? ⟨g, j, none⟩ = false := h.2.frozenAt j
theorem BRow.set (h : BRow w lo g n c l) (j : Nat) (x : Bool) : BRow (w.setCell ⟨g, j, none⟩ (.bool x)) lo g n c (l.set j x) :=
  ⟨by simp [h.1], by rw [bools, List.map_set]; exact (h.2.stored j (.bool x)).1⟩
theorem BRow.keep (h : BRow w lo g n c l) (hb : Below w.heap.size w w') : BRow w' lo g n c l := ⟨h.1, own_keep h.2 hb⟩
theorem BRow.drew (h : BRow w lo g n c l) : BRow w.drew lo g n c l := h
theorem BRow.lt (h : BRow w lo g n c l) : lo ≤ g ∧ g < w.heap.size := own_lt h.2 _ rfl
theorem BRow.len (h : BRow w lo g n c l) : l.length = n := h.1.symm
theorem BRow.cap (h : BRow w lo g n c l) : n ≤ c ∧ c ≤ maxLen := by
  rcases h.2.2 with ⟨hv, _⟩ | ⟨g2, cap, cur, hv, _, _, h1, h2, _⟩
  · injection hv with e; cases e
  · injection hv with e1 e2 e3
    subst e3; exact ⟨h1, h2⟩
theorem BRow.own (h : BRow w lo g n c l) : RowVal boolF 4 w lo (.slice (some ⟨g, 0, none⟩) n c) l := by
  obtain ⟨rfl, h⟩ := h
  unfold RowVal
  rw [boolF_flat]; exact h
theorem BRow.of_own (h : OwnRows boolF 4 w lo (some ⟨g, 0, none⟩) n c l) : BRow w lo g n c l := ⟨h.1, by have := h.2; rw [boolF_flat] at this; exact this⟩
theorem BRow.take (h : BRow w lo g n c l) (k : Nat) (hk : k ≤ n) : BRow w lo g k c (l.take k) := by
  obtain ⟨rfl, h⟩ := h
  refine ⟨by simp; omega, by simp; omega, ?_⟩
  rcases h.2 with ⟨hv, _⟩ | ⟨g2, cap, cur, hv, h1, h2, h3, h4, h5, h6⟩
  · injection hv with e; cases e
  · injection hv with e1 e2 e3
    subst e3
    refine .inr ⟨g2, c, cur, by rw [e1], h1, h2, by omega, h4, h5, ?_⟩
    have e9 : bools (l.take k) = (bools l).take k := List.map_take
    rw [e9, ← h6, List.take_take]
    congr 1; omega
theorem BRow.of_val (h : RowVal boolF 4 w lo (.slice (some ⟨g, 0, none⟩) n c) l) (hn : n = l.length) : BRow w lo g n c l := by
  subst hn
  unfold RowVal at h
  rw [boolF_flat] at h
  exact ⟨rfl, h⟩
theorem boolOne : ∀ (a : Bool), ∀ u ∈ boolF.enc a, u.oneCell' = true := by
  intro a u hu
  simp [boolF] at hu
  subst hu; rfl
theorem bRow_empty {H : Nat} (hH : w.heap.size = H) (h : lo ≤ w.heap.size) : BRow (w.alloc (.cells #[] 4)) lo H 0 0 [] := by
  subst hH
  exact ⟨rfl, empty_own w lo 4 1 h⟩
end
theorem RowVal.some_v {α : Type} {F : Flat α} {t : TypeId} {w : World} {lo n : Nat} {v : Value} {l : List α} (h : RowVal F t w lo v l) (hn : l.length = n + 1) : ∃ b c, v = .slice (some ⟨b, 0, none⟩) (n + 1) c := by
  obtain ⟨A, c, rfl, ho⟩ := h.form
  obtain ⟨g, rfl⟩ := rowOf_some ho (by omega)
  exact ⟨g, c, by rw [hn]⟩
theorem lit_rowB {α : Type} {F : Flat α} {t : TypeId} {w : World} {H : Nat} (hH : w.heap.size = H) (cs : Array Value) (x : α) (hcs : cs.toList = F.enc x) : RowsIn F (w.alloc (.cells cs t)) (some ⟨H, 0, none⟩) 1 [x] := by
  refine ⟨rfl, by rw [flatMap_len F.enc F.sz F.len]; rfl, by omega, fun _ => ⟨H, 0, rfl, by simp; omega, fun j u hu => ?_⟩⟩
  have := news_at hH cs t j u (by rw [hcs]; simpa using hu)
  rwa [Addr.add_lit] at this
/-- out = append(out, x) on a row of truth values. -/
theorem wpList_append_bool {w1 : World} {ops : Array Oper} {rest : List Oper} {o : Oper} {a : Act} {Q : Exit → Act → World → Prop} (hgd : o.guard = none) (s x : Operand)
    (ho : o.op = .call { callee := .builtin .append, args := #[s, x], argTypes := #[116, 116] }) {lo g n c : Nat} {l : List Bool} (hs : a.eval s = .slice (some ⟨g, 0, none⟩) n c) (hrow : BRow w1 lo g n c l) (hlen : l.length ≤ 16777216)
    (y : Bool) (H cx : Nat) (hH : w1.heap.size = H) (hx : a.eval x = .slice (some ⟨H, 0, none⟩) 1 cx) (hlo : lo ≤ w1.heap.size)
    (h : ∀ g' c' w', BRow w' lo g' (n + 1) c' (l ++ [y]) → (∀ B, B ≤ lo → B ≤ w1.heap.size → Below B w1 w') → w1.heap.size < w'.heap.size → wpList Try.prog ops Q rest (a.put o.dst (.slice (some ⟨g', 0, none⟩) (n + 1) c')) w') :
    wpList Try.prog ops Q (o :: rest) a (w1.alloc (.cells #[.bool y] 4)) := by
  refine wpList_append_one boolElem hgd s x ho hs hrow.own hlen y #[.bool y] rfl (by simp [Value.oneCell']) H cx hH hx hlo (fun v' w' h1 h2 h3 => ?_)
  obtain ⟨A, c', hv, ho'⟩ := h1.form
  obtain ⟨g', rfl⟩ := rowOf_some ho' (by simp)
  have e : (l ++ [y]).length = n + 1 := by rw [List.length_append, hrow.1]; rfl
  rw [e] at ho' hv
  subst hv
  exact h g' c' w' (BRow.of_own ho') h2 h3
end Go.Proofs.Ytlkolehdikfddaa
