/- Part 27 of the texts of this claim: Planned: its cells, and the walks of the laws' own helpers on lists of it; PlanItem (plain): what both the reference and the program plan for an item. -/
import Derived.Test.YtlnkofnfgemfdaaGreatPi1
import Derived.StillTailTactics
import Derived.Test.YtlnkofnfgemfdaaGreatPi22
import Derived.Test.YtlnkofnfgemfdaaGreatPi24
import Derived.Test.YtlnkofnfgemfdaaGreatPi25
import Derived.Test.YtlnkofnfgemfdaaGreatPi26
/- Planned: its cells, and the walks of the laws' own helpers on lists of it. -/
namespace Go.Proofs.YtlnkofnfgemfdaaGreat
open Go.RowKit

abbrev Pl := ByteArray × Int × Int × Int × Bool
def plF : Flat Pl := ⟨fun f => [.string (f.1), .int .i64 (f.2.1), .int .i64 (f.2.2.1), .int .i64 (f.2.2.2.1), .bool (f.2.2.2.2)], 5, fun _ => rfl⟩
abbrev PlannedsIn (w : World) (A : Option Addr) (n : Nat) (l : List Pl) : Prop := RowsIn plF w A n l
theorem planned_at {w : World} {A : Option Addr} {n : Nat} {l : List Pl} (h : PlannedsIn w A n l) {k : Nat} (hk : k < l.length) :
    ∃ b o, A = some ⟨b, o, none⟩ ∧ b < w.heap.size ∧ w.cell? ⟨b, o + k * 5, none⟩ = some (.string (l[k].1)) ∧ w.cell? ⟨b, o + k * 5 + 1, none⟩ = some (.int .i64 (l[k].2.1)) ∧ w.cell? ⟨b, o + k * 5 + 2, none⟩ = some (.int .i64 (l[k].2.2.1)) ∧ w.cell? ⟨b, o + k * 5 + 3, none⟩ = some (.int .i64 (l[k].2.2.2.1)) ∧ w.cell? ⟨b, o + k * 5 + 4, none⟩ = some (.bool (l[k].2.2.2.2)) := by
  obtain ⟨b, o, e, hlt, hc⟩ := h.at_ hk
  exact ⟨b, o, e, hlt, hc 0 _ rfl, hc 1 _ rfl, hc 2 _ rfl, hc 3 _ rfl, hc 4 _ rfl⟩
theorem plannedInfo : (Tryz.prog.info? 93).map (fun i => (i.zero, i.size, i.bytes)) = some (some (.agg #[.string ByteArray.empty, .int .i64 0, .int .i64 0, .int .i64 0, .bool false]), 5, 48) := by kernel_rfl
theorem plannedElem : ElemOk plF 36 93 := by
  obtain ⟨i, h1, h2, h3, h4⟩ := info_parts plannedInfo
  exact ⟨i, _, 48, Tryz.underlying36, h1, h2, h3, h4, rfl, by decide, by omega⟩
theorem toPlanned_any (x0 : ByteArray) (x1 : Int) (x2 : Int) (x3 : Int) (x4 : Bool) (w : World) : Calls Tryz.prog 84 #[.agg #[.string (x0), .int .i64 (x1), .int .i64 (x2), .int .i64 (x3), .bool (x4)]] w fun e w' => e = .returned (.agg #[.string (x0), .int .i64 (x1), .int .i64 (x2), .int .i64 (x3), .bool (x4)]) ∧ Below w.heap.size w w' := by
  go_enter Tryz.func84, Tryz.ntmps84
  go_wp2
  refine bodyPost_ret (v := .agg #[.string (x0), .int .i64 (x1), .int .i64 (x2), .int .i64 (x3), .bool (x4)]) (by simp [results, Tryz.results84, go_sem]) rfl ⟨rfl, ?_⟩
  exact (((Below.refl _ _).alloc (Nat.le_refl _) _).alloc (by simp) _).alloc (by simp; omega) _
set_option maxRecDepth 100000 in
set_option maxHeartbeats 2000000 in
theorem toPlannedS_any (A : Option Addr) (n c : Nat) (l : List Pl) (w : World) (hl : PlannedsIn w A n l) :
    Calls Tryz.prog 24 #[.slice A n c] w fun e w' => ∃ A', e = .returned (.slice A' n n) ∧ OwnRows plF 93 w' w.heap.size A' n n l ∧ Below w.heap.size w w' := by
  obtain ⟨i0, hi0, hz0, hz1, hz2⟩ := info_parts plannedInfo
  have hn := hl.len
  obtain rfl := hl.1
  go_enter Tryz.func24, Tryz.ntmps24
  go_wp2_with (at_make; refine wpList_make_full _ rfl (.tmp 6) (.tmp 6) _ rfl w.heap.size 93 i0 _ 5 Tryz.underlying36 hi0 hz0 hz1 .i64 .i64 _ _ l.length rfl rfl rfl rfl (by rw [hz2]; omega) (by unfold maxLen; omega) (Nat.le_refl _) ?_; intro w1 hown hg)
  have hb1 := below_none hg
  generalize hzs : (madeCells (Value.agg #[.string ByteArray.empty, .int .i64 0, .int .i64 0, .int .i64 0, .bool false]).cells (l.length * 5)).toList = zs at hown
  have hzl : zs.length = (l.flatMap plF.enc).length := by rw [flatMap_len plF.enc 5 plF.len, hown.1]
  clear hg hzs
  have HZ := Lib.hid hzl; clear hzl
  have hown1 : w1.ownsRow w.heap.size 93 5 (.slice (some ⟨w.heap.size, 0, none⟩) l.length l.length) l.length (fillC zs (l.flatMap plF.enc) 0) := by
    rw [fillC_zero]; exact hown
  clear hown
  go_loopw [4] (fun i wr => ∃ k : Nat, k ≤ l.length ∧ i = .int .i64 k ∧ wr.ownsRow w.heap.size 93 5 (.slice (some ⟨w.heap.size, 0, none⟩) l.length l.length) l.length (fillC zs (l.flatMap plF.enc) (k * 5)) ∧ Below w.heap.size w wr) (fun i _ => l.length - (intOf i).toNat)
  case atStart => exact ⟨0, by omega, rfl, by rw [Nat.zero_mul]; exact hown1, hb1⟩
  case round =>
    obtain ⟨k, hk, rfl, hown, hb⟩ := hrel
    by_cases hlt : k < l.length
    · obtain ⟨b, o, rfl, _, hc0, hc1, hc2, hc3, hc4⟩ := planned_at (hl.keep hb) hlt
      go_wp2_with fail
      refine (toPlanned_any _ _ _ _ _ _).mono ?_
      rintro e w2 ⟨rfl, hb2⟩
      have ho := own_keep hown hb2
      have hlen : (l.flatMap plF.enc).length = l.length * 5 := flatMap_len plF.enc 5 plF.len l
      have hz := HZ.out
      have e0 : (l.flatMap plF.enc)[k * 5]? = some (.string (l[k].1)) := flatMap_at plF.enc 5 plF.len l k 0 hlt (by omega)
      obtain ⟨u0, c0, f0⟩ := own_cell ho (k * 5) (by omega)
      have e1 : (l.flatMap plF.enc)[k * 5 + 1]? = some (.int .i64 (l[k].2.1)) := flatMap_at plF.enc 5 plF.len l k 1 hlt (by omega)
      obtain ⟨u1, c1, f1⟩ := own_cell ho (k * 5 + 1) (by omega)
      have e2 : (l.flatMap plF.enc)[k * 5 + 2]? = some (.int .i64 (l[k].2.2.1)) := flatMap_at plF.enc 5 plF.len l k 2 hlt (by omega)
      obtain ⟨u2, c2, f2⟩ := own_cell ho (k * 5 + 2) (by omega)
      have e3 : (l.flatMap plF.enc)[k * 5 + 3]? = some (.int .i64 (l[k].2.2.2.1)) := flatMap_at plF.enc 5 plF.len l k 3 hlt (by omega)
      obtain ⟨u3, c3, f3⟩ := own_cell ho (k * 5 + 3) (by omega)
      have e4 : (l.flatMap plF.enc)[k * 5 + 4]? = some (.bool (l[k].2.2.2.2)) := flatMap_at plF.enc 5 plF.len l k 4 hlt (by omega)
      obtain ⟨u4, c4, f4⟩ := own_cell ho (k * 5 + 4) (by omega)
      have s0 := (ho.stored (k * 5) (.string (l[k].1))).1
      rw [fillC_set _ _ _ _ e0 hz] at s0
      have s1 := (s0.stored (k * 5 + 1) (.int .i64 (l[k].2.1))).1
      rw [fillC_set _ _ _ _ e1 hz] at s1
      have s2 := (s1.stored (k * 5 + 2) (.int .i64 (l[k].2.2.1))).1
      rw [fillC_set _ _ _ _ e2 hz] at s2
      have s3 := (s2.stored (k * 5 + 3) (.int .i64 (l[k].2.2.2.1))).1
      rw [fillC_set _ _ _ _ e3 hz] at s3
      have s4 := (s3.stored (k * 5 + 4) (.bool (l[k].2.2.2.2))).1
      rw [fillC_set _ _ _ _ e4 hz] at s4
      have hb3 : Below w.heap.size w w2 := hb.trans (hb2.mono hb.size)
      have S2 := Lib.hid s4
      clear ho e0 e1 e2 e3 e4 s0 s1 s2 s3 s4 hown hz hlen hb hb2
      go_wp2
      go_roundw
      case rel => exact ⟨k + 1, by omega, by go_num, by rw [show (k + 1) * 5 = k * 5 + 1 + 1 + 1 + 1 + 1 by omega]; exact S2.out, (((((hb3.setCell (Nat.le_refl _) _).setCell (Nat.le_refl _) _).setCell (Nat.le_refl _) _).setCell (Nat.le_refl _) _).setCell (Nat.le_refl _) _)⟩
      case measure => simp [intOf]; omega
    · obtain rfl : k = l.length := by omega
      go_wp2
      go_ret
      refine ⟨_, rfl, ⟨rfl, ?_⟩, hb⟩
      have h2 : (l.flatMap plF.enc).length = l.length * 5 := flatMap_len plF.enc 5 plF.len l
      rw [← h2, fillC_all _ _ HZ.out] at hown
      exact hown
theorem eqPlanned_yes (x0 : ByteArray) (x1 : Int) (x2 : Int) (x3 : Int) (x4 : Bool) (w : World) : Calls Tryz.prog 62 #[.agg #[.string (x0), .int .i64 (x1), .int .i64 (x2), .int .i64 (x3), .bool (x4)], .agg #[.string (x0), .int .i64 (x1), .int .i64 (x2), .int .i64 (x3), .bool (x4)]] w fun e w' => e = .returned (.bool true) ∧ Below w.heap.size w w' := by
  go_enter Tryz.func62, Tryz.ntmps62
  go_wp2
  go_ret
  exact ⟨rfl, ((Below.refl _ _).alloc (Nat.le_refl _) _).alloc (by simp) _⟩
set_option maxRecDepth 100000 in
set_option maxHeartbeats 2000000 in
theorem eqPlannedS_yes (A B : Option Addr) (n m c d : Nat) (l : List Pl) (w : World) (ha : PlannedsIn w A n l) (hb : PlannedsIn w B m l) :
    Calls Tryz.prog 13 #[.slice A n c, .slice B m d] w fun e w' => e = .returned (.bool true) ∧ Below w.heap.size w w' := by
  have hn := ha.len
  obtain rfl := ha.1
  obtain rfl := hb.1
  go_enter Tryz.func13, Tryz.ntmps13
  go_wp2
  go_loopw [5] (fun i wr => ∃ k : Nat, k ≤ l.length ∧ i = .int .i64 k ∧ Below w.heap.size w wr) (fun i _ => l.length - (intOf i).toNat)
  case atStart => exact ⟨0, by omega, rfl, Below.refl _ _⟩
  case round =>
    obtain ⟨k, hk, rfl, HD⟩ := hrel
    by_cases hlt : k < l.length
    · obtain ⟨b1, o1, rfl, _, hc0, hc1, hc2, hc3, hc4⟩ := planned_at (ha.keep HD) hlt
      obtain ⟨b2, o2, rfl, _, hd0, hd1, hd2, hd3, hd4⟩ := planned_at (hb.keep HD) hlt
      go_wp2
      go_still_tail 8, (by kernel_rfl)
      change wpList _ _ _ _ _ wr.drew
      have HE : Below w.heap.size w wr.drew := HD.drew
      generalize wr.drew = w2 at *
      go_wp2_with (go_at_call 62; refine (eqPlanned_yes _ _ _ _ _ _).mono ?_; rintro e w3 ⟨rfl, hb3⟩)
      go_roundw
      case rel => exact ⟨k + 1, by omega, by go_num, HE.trans (hb3.mono HE.size)⟩
      case measure => simp [intOf]; omega
    · obtain rfl : k = l.length := by omega
      go_wp2
      go_ret
      exact ⟨rfl, HD⟩
def okPl (x : Pl) : Prop := x.1.size ≤ 9223372036854775807
theorem szPlanned_any (x0 : ByteArray) (x1 : Int) (x2 : Int) (x3 : Int) (x4 : Bool) (left : Int) (w : World) (h0 : 0 ≤ left) (h1 : left ≤ 1048576) (hs : x0.size ≤ 9223372036854775807) :
    Calls Tryz.prog 78 #[.agg #[.string (x0), .int .i64 (x1), .int .i64 (x2), .int .i64 (x3), .bool (x4)], .int .i64 left] w fun e w' => e = .returned (.int .i64 (if left < (x0.size : Int) then -1 else left - x0.size)) ∧ Below w.heap.size w w' := by
  by_cases hlt : left < (x0.size : Int)
  · go_enter Tryz.func78, Tryz.ntmps78
    go_wp2
    go_ret
    exact ⟨rfl, below_alloc _ _⟩
  · go_enter Tryz.func78, Tryz.ntmps78
    go_wp2
    go_ret
    exact ⟨rfl, below_alloc _ _⟩
theorem szPlannedS_big (A : Option Addr) (n c : Nat) (left : Int) (w : World) (h : left < (n : Int)) (h0 : 0 ≤ left) (hn : n ≤ 9223372036854775807) :
    Calls Tryz.prog 21 #[.slice A n c, .int .i64 left] w fun e w' => e = .returned (.int .i64 (-1)) ∧ w = w' := by
  go_enter Tryz.func21, Tryz.ntmps21
  go_wp2
  go_ret
  exact ⟨rfl, rfl⟩
set_option maxRecDepth 100000 in
set_option maxHeartbeats 2000000 in
theorem szPlannedS_any (A : Option Addr) (n c : Nat) (l : List Pl) (left : Int) (w : World) (h : (n : Int) ≤ left) (hl : left ≤ 1048576) (ha : PlannedsIn w A n l) (hok : ∀ x ∈ l, okPl x) :
    Calls Tryz.prog 21 #[.slice A n c, .int .i64 left] w fun e w' => ∃ r : Int, e = .returned (.int .i64 r) ∧ -1 ≤ r ∧ r ≤ 1048576 ∧ Below w.heap.size w w' := by
  have hn := ha.len
  obtain rfl := ha.1
  have HO := Lib.hid hok
  clear hok
  go_enter Tryz.func21, Tryz.ntmps21
  go_wp2
  go_loopw [1, 5] (fun r i wr => ∃ (k : Nat) (x : Int), k ≤ l.length ∧ i = .int .i64 k ∧ r = .int .i64 x ∧ 0 ≤ x ∧ x ≤ 1048576 ∧ Below w.heap.size w wr) (fun _ i _ => l.length - (intOf i).toNat)
  case atStart => exact ⟨0, _, by omega, rfl, rfl, by omega, by omega, Below.refl _ _⟩
  case round =>
    obtain ⟨k, x, hk, rfl, rfl, x0, x1, HR⟩ := hrel
    by_cases hlt : k < l.length
    · obtain ⟨b, o, rfl, _, hc0, hc1, hc2, hc3, hc4⟩ := planned_at (ha.keep HR) hlt
      have hs := HO.out _ (List.getElem_mem hlt)
      unfold okPl at hs
      by_cases hneg : x < (l[k].1.size : Int)
      · go_wp2_with fail
        refine (szPlanned_any _ _ _ _ _ _ _ x0 x1 hs).mono ?_
        rintro e v ⟨rfl, hb⟩
        rw [if_pos (by omega)]
        go_wp2_with fail
        go_ret
        exact ⟨-1, rfl, by omega, by omega, below_on HR hb⟩
      · go_wp2_with fail
        refine (szPlanned_any _ _ _ _ _ _ _ x0 x1 hs).mono ?_
        rintro e v ⟨rfl, hb⟩
        rw [if_neg (by omega)]
        go_wp2_with fail
        go_roundw
        case rel => exact ⟨k + 1, _, by omega, by go_num, rfl, by omega, by omega, below_on HR hb⟩
        case measure => simp [intOf]; omega
    · obtain rfl : k = l.length := by omega
      go_wp2
      go_ret
      exact ⟨x, rfl, by omega, by omega, HR⟩
end Go.Proofs.YtlnkofnfgemfdaaGreat
/- PlanItem (plain): what both the reference and the program plan for an item. -/
namespace Go.Proofs.YtlnkofnfgemfdaaGreat
open Go.RowKit
def plOf (p : Pt) (item : ByteArray) (x : It) (f : Fl) : Pl := (item, (grossOf x f.2).1, (addWd p.wk p.ex f.1 (-x.2.2.2.1)).1, f.1, !(addWd p.wk p.ex f.1 (-x.2.2.2.1)).2)
def planX (p : Pt) (item : ByteArray) : It := p.it.getD (findIt p.it item).toNat itNone
def planNet (p : Pt) (item : ByteArray) (needs : List Fl) : List Fl × Bool := netNeeds (receiptFlows p item) needs (stockOf p item) (planX p item).2.2.2.2.2.2.1
def planLots (p : Pt) (item : ByteArray) (needs : List Fl) : List Fl × Bool := lotsFor (planNet p item needs).1 (planX p item).2.2.2.2.1 (planX p item).2.2.2.2.2.1
def smallF (x : It) (f : Fl) : Bool := decide ((grossOf x f.2).1 ≤ 100000)
def planOk (p : Pt) (item : ByteArray) (needs : List Fl) : Bool := isPlant p && (decide (0 ≤ findIt p.it item) && ((!((planX p item).2.2.1 == 2)) && areFlows needs))
def planItem (p : Pt) (item : ByteArray) (needs : List Fl) : List Pl × Bool :=
  if (planOk p item needs && ((planNet p item needs).2 && ((planLots p item needs).2 && (planLots p item needs).1.all (smallF (planX p item))))) = true then ((planLots p item needs).1.map (plOf p item (planX p item)), true) else ([], false)
theorem planItem_no {p : Pt} {item : ByteArray} {needs : List Fl} (h : (planOk p item needs && ((planNet p item needs).2 && ((planLots p item needs).2 && (planLots p item needs).1.all (smallF (planX p item))))) = false) : planItem p item needs = ([], false) := by unfold planItem; rw [if_neg (by rw [h]; decide)]
theorem planItem_yes {p : Pt} {item : ByteArray} {needs : List Fl} (h1 : planOk p item needs = true) (h2 : (planNet p item needs).2 = true) (h3 : (planLots p item needs).2 = true) (h4 : (planLots p item needs).1.all (smallF (planX p item)) = true) : planItem p item needs = ((planLots p item needs).1.map (plOf p item (planX p item)), true) := by
  unfold planItem; rw [if_pos (by rw [h1, h2, h3, h4]; rfl)]
theorem planX_at {p : Pt} {item : ByteArray} {q : Nat} (h : findIt p.it item = (q : Int)) (hq : q < p.it.length) : planX p item = p.it[q] := by
  unfold planX; rw [h, Int.toNat_natCast, it_getD _ _ hq]
theorem planOk_eq {p : Pt} {item : ByteArray} {needs : List Fl} {q : Nat} {b1 b2 b3 : Bool} (h : findIt p.it item = (q : Int)) (hq : q < p.it.length) (h1 : isPlant p = b1) (h2 : (p.it[q].2.2.1 == 2) = b2) (h3 : areFlows needs = b3) : planOk p item needs = (b1 && (!b2 && b3)) := by
  unfold planOk; rw [planX_at h hq, h1, h2, h3, h, decide_eq_true (by omega)]; rfl
theorem planLots_40 (p : Pt) (item : ByteArray) (needs : List Fl) : (planLots p item needs).1.length ≤ 40 := (areFlows_parts (lotsFor_flows _ _ _)).2
theorem lotsFor_nil' {needs : List Fl} {rule size : Int} (h : (lotsFor needs rule size).2 = false) : (lotsFor needs rule size).1 = [] := by
  cases hb : ((lotRule rule size && areFlows needs) && areFlows (lotTo rule size needs needs.length).1)
  · rw [lotsFor_no hb]
  · rw [lotsFor_yes hb] at h; cases h
theorem planItem_len (p : Pt) (item : ByteArray) (needs : List Fl) : (planItem p item needs).1.length ≤ 40 := by
  unfold planItem
  split
  · rw [List.length_map]; exact planLots_40 _ _ _
  · simp
theorem map_take {α β : Type} (f : α → β) (l : List α) (k : Nat) (h : k < l.length) : (l.take (k + 1)).map f = (l.take k).map f ++ [f l[k]] := by
  rw [List.take_succ_eq_append_getElem h, List.map_append]; rfl
theorem isPlant_item {p : Pt} (h : isPlant p = true) {q : Nat} (hq : q < p.it.length) : isItem p.it[q] = true := isCat_item (isBills_parts (isPlant_parts h).1).1 hq
set_option maxRecDepth 100000 in
set_option maxHeartbeats 4000000 in
theorem releaseOf_any (r : PtR) (p : Pt) (x : It) (due : Int) (w : World) (hp : PlantIn w r p) (kn : Nat) (hkn : x.2.2.2.1 = (kn : Int)) (hk : kn ≤ 30) :
    Calls Tryz.prog 61 #[.agg #[.slice r.i.a r.i.n r.i.c, .slice r.l.a r.l.n r.l.c, .slice r.w.a r.w.n r.w.c, .slice r.e.a r.e.n r.e.c, .slice r.p.a r.p.n r.p.c, .slice r.s.a r.s.n r.s.c, .slice r.q.a r.q.n r.q.c], .agg #[.string x.1, .string x.2.1, .int .i64 x.2.2.1, .int .i64 x.2.2.2.1, .int .i64 x.2.2.2.2.1, .int .i64 x.2.2.2.2.2.1, .int .i64 x.2.2.2.2.2.2.1, .int .i64 x.2.2.2.2.2.2.2], .int .i64 due] w (PairI w ((addWd p.wk p.ex due (-x.2.2.2.1)).1, !(addWd p.wk p.ex due (-x.2.2.2.1)).2)) := by
  have HK := Lib.hid hkn
  have hb : Below w.heap.size w ((w.alloc (.cells #[.slice r.i.a r.i.n r.i.c, .slice r.l.a r.l.n r.l.c, .slice r.w.a r.w.n r.w.c, .slice r.e.a r.e.n r.e.c, .slice r.p.a r.p.n r.p.c, .slice r.s.a r.s.n r.s.c, .slice r.q.a r.q.n r.q.c] 48)).alloc (.cells #[.string x.1, .string x.2.1, .int .i64 x.2.2.1, .int .i64 x.2.2.2.1, .int .i64 x.2.2.2.2.1, .int .i64 x.2.2.2.2.2.1, .int .i64 x.2.2.2.2.2.2.1, .int .i64 x.2.2.2.2.2.2.2] 81)) := below_on (below_alloc _ _) (below_alloc _ _)
  have B0 : BoxOf ((w.alloc (.cells #[.slice r.i.a r.i.n r.i.c, .slice r.l.a r.l.n r.l.c, .slice r.w.a r.w.n r.w.c, .slice r.e.a r.e.n r.e.c, .slice r.p.a r.p.n r.p.c, .slice r.s.a r.s.n r.s.c, .slice r.q.a r.q.n r.q.c] 48)).alloc (.cells #[.string x.1, .string x.2.1, .int .i64 x.2.2.1, .int .i64 x.2.2.2.1, .int .i64 x.2.2.2.2.1, .int .i64 x.2.2.2.2.2.1, .int .i64 x.2.2.2.2.2.2.1, .int .i64 x.2.2.2.2.2.2.2] 81)) w.heap.size [.slice r.i.a r.i.n r.i.c, .slice r.l.a r.l.n r.l.c, .slice r.w.a r.w.n r.w.c, .slice r.e.a r.e.n r.e.c, .slice r.p.a r.p.n r.p.c, .slice r.s.a r.s.n r.s.c, .slice r.q.a r.q.n r.q.c] := (boxOf_alloc w #[.slice r.i.a r.i.n r.i.c, .slice r.l.a r.l.n r.l.c, .slice r.w.a r.w.n r.w.c, .slice r.e.a r.e.n r.e.c, .slice r.p.a r.p.n r.p.c, .slice r.s.a r.s.n r.s.c, .slice r.q.a r.q.n r.q.c] 48).keep (below_alloc _ _)
  have B1 : BoxOf ((w.alloc (.cells #[.slice r.i.a r.i.n r.i.c, .slice r.l.a r.l.n r.l.c, .slice r.w.a r.w.n r.w.c, .slice r.e.a r.e.n r.e.c, .slice r.p.a r.p.n r.p.c, .slice r.s.a r.s.n r.s.c, .slice r.q.a r.q.n r.q.c] 48)).alloc (.cells #[.string x.1, .string x.2.1, .int .i64 x.2.2.1, .int .i64 x.2.2.2.1, .int .i64 x.2.2.2.2.1, .int .i64 x.2.2.2.2.2.1, .int .i64 x.2.2.2.2.2.2.1, .int .i64 x.2.2.2.2.2.2.2] 81)) (w.heap.size + 1) [.string x.1, .string x.2.1, .int .i64 x.2.2.1, .int .i64 x.2.2.2.1, .int .i64 x.2.2.2.2.1, .int .i64 x.2.2.2.2.2.1, .int .i64 x.2.2.2.2.2.2.1, .int .i64 x.2.2.2.2.2.2.2] := by simpa using boxOf_alloc (w.alloc (.cells #[.slice r.i.a r.i.n r.i.c, .slice r.l.a r.l.n r.l.c, .slice r.w.a r.w.n r.w.c, .slice r.e.a r.e.n r.e.c, .slice r.p.a r.p.n r.p.c, .slice r.s.a r.s.n r.s.c, .slice r.q.a r.q.n r.q.c] 48)) #[.string x.1, .string x.2.1, .int .i64 x.2.2.1, .int .i64 x.2.2.2.1, .int .i64 x.2.2.2.2.1, .int .i64 x.2.2.2.2.2.1, .int .i64 x.2.2.2.2.2.2.1, .int .i64 x.2.2.2.2.2.2.2] 81
  obtain ⟨b0, b1, b2, b3, b4, b5, b6, bl⟩ := B0.seven
  have hwn : IntKind.i64.wrap (-x.2.2.2.1) = -x.2.2.2.1 := IntWalk.i64_in _ (by omega)
  clear hkn
  have HPK := Lib.hid (hp.keep hb)
  obtain ⟨res, hres⟩ : ∃ res, addWd p.wk p.ex due (-x.2.2.2.1) = res := ⟨_, rfl⟩
  have HR := Lib.hid hres
  rw [hres]
  have HR2 : Hid (addWd p.wk p.ex due (-(kn : Int)) = res) := by show _ = _; rw [← HK.out]; exact hres
  clear hres
  go_enter Tryz.func61, Tryz.ntmps61
  go_wp2_with fail
  generalize ((w.alloc (.cells #[.slice r.i.a r.i.n r.i.c, .slice r.l.a r.l.n r.l.c, .slice r.w.a r.w.n r.w.c, .slice r.e.a r.e.n r.e.c, .slice r.p.a r.p.n r.p.c, .slice r.s.a r.s.n r.s.c, .slice r.q.a r.q.n r.q.c] 48)).alloc (.cells #[.string x.1, .string x.2.1, .int .i64 x.2.2.1, .int .i64 x.2.2.2.1, .int .i64 x.2.2.2.2.1, .int .i64 x.2.2.2.2.2.1, .int .i64 x.2.2.2.2.2.2.1, .int .i64 x.2.2.2.2.2.2.2] 81)) = V at *
  rw [HK.out]
  refine (implAddWorkdays_any _ _ _ _ _ _ p.wk p.ex due kn _ HPK.out.wk HPK.out.ex (by omega)).mono ?_
  rintro e V1 ⟨rfl, hs⟩
  rw [HR2.out]
  have hb1 := below_on hb hs
  have HZ : Hid (res.2 = false → res.1 = 0) := fun h => by
    rw [← HR.out] at h ⊢
    unfold addWd at h ⊢
    split at h
    · next hc =>
      rw [if_pos hc]
      cases hbk : backD (fun d => hoursTo p.wk p.ex d p.ex.length) due.toNat (- -x.2.2.2.1).toNat with
      | none => rfl
      | some d => rw [hbk] at h; cases h
    · next hc => rw [if_neg hc]
  clear b0 b1 b2 b3 b4 b5 b6 bl hs
  obtain ⟨ra, rb⟩ := res
  cases rb
  · have hz := HZ.out rfl
    dsimp only at hz
    subst hz
    go_wp2_with fail
    go_ret2
    exact ⟨rfl, hb1⟩
  · go_wp2_with fail
    go_ret2
    exact ⟨rfl, hb1⟩
end Go.Proofs.YtlnkofnfgemfdaaGreat
