/- Part 11 of the texts of this claim: Planned: its cells, and the walks of the laws' own helpers on lists of it; The loads of orders (plain). -/
import Derived.Test.YtlnkofnfgemfdaaLd2
import Derived.StillTailTactics
import Derived.Test.YtlnkofnfgemfdaaLd10
import Derived.Test.YtlnkofnfgemfdaaLd5
/- Planned: its cells, and the walks of the laws' own helpers on lists of it. -/
namespace Go.Proofs.Ytlnkofnfgemfdaa
open Go.RowKit

abbrev Pl := ByteArray × Int × Int × Int × Bool
def plF : Flat Pl := ⟨fun f => [.string (f.1), .int .i64 (f.2.1), .int .i64 (f.2.2.1), .int .i64 (f.2.2.2.1), .bool (f.2.2.2.2)], 5, fun _ => rfl⟩
abbrev PlannedsIn (w : World) (A : Option Addr) (n : Nat) (l : List Pl) : Prop := RowsIn plF w A n l
theorem planned_at {w : World} {A : Option Addr} {n : Nat} {l : List Pl} (h : PlannedsIn w A n l) {k : Nat} (hk : k < l.length) :
    ∃ b o, A = some ⟨b, o, none⟩ ∧ b < w.heap.size ∧ w.cell? ⟨b, o + k * 5, none⟩ = some (.string (l[k].1)) ∧ w.cell? ⟨b, o + k * 5 + 1, none⟩ = some (.int .i64 (l[k].2.1)) ∧ w.cell? ⟨b, o + k * 5 + 2, none⟩ = some (.int .i64 (l[k].2.2.1)) ∧ w.cell? ⟨b, o + k * 5 + 3, none⟩ = some (.int .i64 (l[k].2.2.2.1)) ∧ w.cell? ⟨b, o + k * 5 + 4, none⟩ = some (.bool (l[k].2.2.2.2)) := by
  obtain ⟨b, o, e, hlt, hc⟩ := h.at_ hk
  exact ⟨b, o, e, hlt, hc 0 _ rfl, hc 1 _ rfl, hc 2 _ rfl, hc 3 _ rfl, hc 4 _ rfl⟩
theorem plannedInfo : (Try.prog.info? 44).map (fun i => (i.zero, i.size, i.bytes)) = some (some (.agg #[.string ByteArray.empty, .int .i64 0, .int .i64 0, .int .i64 0, .bool false]), 5, 48) := by kernel_rfl
theorem plannedElem : ElemOk plF 36 44 := by
  obtain ⟨i, h1, h2, h3, h4⟩ := info_parts plannedInfo
  exact ⟨i, _, 48, Try.underlying36, h1, h2, h3, h4, rfl, by decide, by omega⟩
theorem toPlanned_any (x0 : ByteArray) (x1 : Int) (x2 : Int) (x3 : Int) (x4 : Bool) (w : World) : Calls Try.prog 96 #[.agg #[.string (x0), .int .i64 (x1), .int .i64 (x2), .int .i64 (x3), .bool (x4)]] w fun e w' => e = .returned (.agg #[.string (x0), .int .i64 (x1), .int .i64 (x2), .int .i64 (x3), .bool (x4)]) ∧ Below w.heap.size w w' := by
  go_enter Try.func96, Try.ntmps96
  go_wp2
  refine bodyPost_ret (v := .agg #[.string (x0), .int .i64 (x1), .int .i64 (x2), .int .i64 (x3), .bool (x4)]) (by simp [results, Try.results96, go_sem]) rfl ⟨rfl, ?_⟩
  exact (((Below.refl _ _).alloc (Nat.le_refl _) _).alloc (by simp) _).alloc (by simp; omega) _
set_option maxRecDepth 100000 in
set_option maxHeartbeats 2000000 in
theorem toPlannedS_any (A : Option Addr) (n c : Nat) (l : List Pl) (w : World) (hl : PlannedsIn w A n l) :
    Calls Try.prog 33 #[.slice A n c] w fun e w' => ∃ A', e = .returned (.slice A' n n) ∧ OwnRows plF 44 w' w.heap.size A' n n l ∧ Below w.heap.size w w' := by
  obtain ⟨i0, hi0, hz0, hz1, hz2⟩ := info_parts plannedInfo
  have hn := hl.len
  obtain rfl := hl.1
  go_enter Try.func33, Try.ntmps33
  go_wp2_with (at_make; refine wpList_make_full _ rfl (.tmp 6) (.tmp 6) _ rfl w.heap.size 44 i0 _ 5 Try.underlying36 hi0 hz0 hz1 .i64 .i64 _ _ l.length rfl rfl rfl rfl (by rw [hz2]; omega) (by unfold maxLen; omega) (Nat.le_refl _) ?_; intro w1 hown hg)
  have hb1 := below_none hg
  generalize hzs : (madeCells (Value.agg #[.string ByteArray.empty, .int .i64 0, .int .i64 0, .int .i64 0, .bool false]).cells (l.length * 5)).toList = zs at hown
  have hzl : zs.length = (l.flatMap plF.enc).length := by rw [flatMap_len plF.enc 5 plF.len, hown.1]
  clear hg hzs
  have HZ := Lib.hid hzl; clear hzl
  have hown1 : w1.ownsRow w.heap.size 44 5 (.slice (some ⟨w.heap.size, 0, none⟩) l.length l.length) l.length (fillC zs (l.flatMap plF.enc) 0) := by
    rw [fillC_zero]; exact hown
  clear hown
  go_loopw [4] (fun i wr => ∃ k : Nat, k ≤ l.length ∧ i = .int .i64 k ∧ wr.ownsRow w.heap.size 44 5 (.slice (some ⟨w.heap.size, 0, none⟩) l.length l.length) l.length (fillC zs (l.flatMap plF.enc) (k * 5)) ∧ Below w.heap.size w wr) (fun i _ => l.length - (intOf i).toNat)
  case atStart => exact ⟨0, by omega, rfl, by rw [Nat.zero_mul]; exact hown1, hb1⟩
  case round =>
    obtain ⟨k, hk, rfl, hown, hb⟩ := hrel
    by_cases hlt : k < l.length
    · obtain ⟨b, o, rfl, _, hc0, hc1, hc2, hc3, hc4⟩ := planned_at (hl.keep hb) hlt
      go_wp2_with fail
      refine (toPlanned_any _ _ _ _ _ _).mono ?_
      rintro e w2 ⟨rfl, hb2⟩
      have ho := own_keep hown hb2
      have hlen : (l.flatMap plF.enc).length = l.length * 5 := flatMap_len plF.enc 5 plF.len l
      have hz := HZ.out
      have e0 : (l.flatMap plF.enc)[k * 5]? = some (.string (l[k].1)) := flatMap_at plF.enc 5 plF.len l k 0 hlt (by omega)
      obtain ⟨u0, c0, f0⟩ := own_cell ho (k * 5) (by omega)
      have e1 : (l.flatMap plF.enc)[k * 5 + 1]? = some (.int .i64 (l[k].2.1)) := flatMap_at plF.enc 5 plF.len l k 1 hlt (by omega)
      obtain ⟨u1, c1, f1⟩ := own_cell ho (k * 5 + 1) (by omega)
      have e2 : (l.flatMap plF.enc)[k * 5 + 2]? = some (.int .i64 (l[k].2.2.1)) := flatMap_at plF.enc 5 plF.len l k 2 hlt (by omega)
      obtain ⟨u2, c2, f2⟩ := own_cell ho (k * 5 + 2) (by omega)
      have e3 : (l.flatMap plF.enc)[k * 5 + 3]? = some (.int .i64 (l[k].2.2.2.1)) := flatMap_at plF.enc 5 plF.len l k 3 hlt (by omega)
      obtain ⟨u3, c3, f3⟩ := own_cell ho (k * 5 + 3) (by omega)
      have e4 : (l.flatMap plF.enc)[k * 5 + 4]? = some (.bool (l[k].2.2.2.2)) := flatMap_at plF.enc 5 plF.len l k 4 hlt (by omega)
      obtain ⟨u4, c4, f4⟩ := own_cell ho (k * 5 + 4) (by omega)
      have s0 := (ho.stored (k * 5) (.string (l[k].1))).1
      rw [fillC_set _ _ _ _ e0 hz] at s0
      have s1 := (s0.stored (k * 5 + 1) (.int .i64 (l[k].2.1))).1
      rw [fillC_set _ _ _ _ e1 hz] at s1
      have s2 := (s1.stored (k * 5 + 2) (.int .i64 (l[k].2.2.1))).1
      rw [fillC_set _ _ _ _ e2 hz] at s2
      have s3 := (s2.stored (k * 5 + 3) (.int .i64 (l[k].2.2.2.1))).1
      rw [fillC_set _ _ _ _ e3 hz] at s3
      have s4 := (s3.stored (k * 5 + 4) (.bool (l[k].2.2.2.2))).1
      rw [fillC_set _ _ _ _ e4 hz] at s4
      have hb3 : Below w.heap.size w w2 := hb.trans (hb2.mono hb.size)
      have S2 := Lib.hid s4
      clear ho e0 e1 e2 e3 e4 s0 s1 s2 s3 s4 hown hz hlen hb hb2
      go_wp2
      go_roundw
      case rel => exact ⟨k + 1, by omega, by go_num, by rw [show (k + 1) * 5 = k * 5 + 1 + 1 + 1 + 1 + 1 by omega]; exact S2.out, (((((hb3.setCell (Nat.le_refl _) _).setCell (Nat.le_refl _) _).setCell (Nat.le_refl _) _).setCell (Nat.le_refl _) _).setCell (Nat.le_refl _) _)⟩
      case measure => simp [intOf]; omega
    · obtain rfl : k = l.length := by omega
      go_wp2
      go_ret
      refine ⟨_, rfl, ⟨rfl, ?_⟩, hb⟩
      have h2 : (l.flatMap plF.enc).length = l.length * 5 := flatMap_len plF.enc 5 plF.len l
      rw [← h2, fillC_all _ _ HZ.out] at hown
      exact hown
theorem eqPlanned_yes (x0 : ByteArray) (x1 : Int) (x2 : Int) (x3 : Int) (x4 : Bool) (w : World) : Calls Try.prog 103 #[.agg #[.string (x0), .int .i64 (x1), .int .i64 (x2), .int .i64 (x3), .bool (x4)], .agg #[.string (x0), .int .i64 (x1), .int .i64 (x2), .int .i64 (x3), .bool (x4)]] w fun e w' => e = .returned (.bool true) ∧ Below w.heap.size w w' := by
  go_enter Try.func103, Try.ntmps103
  go_wp2
  go_ret
  exact ⟨rfl, ((Below.refl _ _).alloc (Nat.le_refl _) _).alloc (by simp) _⟩
set_option maxRecDepth 100000 in
set_option maxHeartbeats 2000000 in
theorem eqPlannedS_yes (A B : Option Addr) (n m c d : Nat) (l : List Pl) (w : World) (ha : PlannedsIn w A n l) (hb : PlannedsIn w B m l) :
    Calls Try.prog 37 #[.slice A n c, .slice B m d] w fun e w' => e = .returned (.bool true) ∧ Below w.heap.size w w' := by
  have hn := ha.len
  obtain rfl := ha.1
  obtain rfl := hb.1
  go_enter Try.func37, Try.ntmps37
  go_wp2
  go_loopw [5] (fun i wr => ∃ k : Nat, k ≤ l.length ∧ i = .int .i64 k ∧ Below w.heap.size w wr) (fun i _ => l.length - (intOf i).toNat)
  case atStart => exact ⟨0, by omega, rfl, Below.refl _ _⟩
  case round =>
    obtain ⟨k, hk, rfl, HD⟩ := hrel
    by_cases hlt : k < l.length
    · obtain ⟨b1, o1, rfl, _, hc0, hc1, hc2, hc3, hc4⟩ := planned_at (ha.keep HD) hlt
      obtain ⟨b2, o2, rfl, _, hd0, hd1, hd2, hd3, hd4⟩ := planned_at (hb.keep HD) hlt
      go_wp2
      go_still_tail 8, (by kernel_rfl)
      change wpList _ _ _ _ _ wr.drew
      have HE : Below w.heap.size w wr.drew := HD.drew
      generalize wr.drew = w2 at *
      go_wp2_with (go_at_call 103; refine (eqPlanned_yes _ _ _ _ _ _).mono ?_; rintro e w3 ⟨rfl, hb3⟩)
      go_roundw
      case rel => exact ⟨k + 1, by omega, by go_num, HE.trans (hb3.mono HE.size)⟩
      case measure => simp [intOf]; omega
    · obtain rfl : k = l.length := by omega
      go_wp2
      go_ret
      exact ⟨rfl, HD⟩
def okPl (x : Pl) : Prop := x.1.size ≤ 9223372036854775807
theorem szPlanned_any (x0 : ByteArray) (x1 : Int) (x2 : Int) (x3 : Int) (x4 : Bool) (left : Int) (w : World) (h0 : 0 ≤ left) (h1 : left ≤ 1048576) (hs : x0.size ≤ 9223372036854775807) :
    Calls Try.prog 90 #[.agg #[.string (x0), .int .i64 (x1), .int .i64 (x2), .int .i64 (x3), .bool (x4)], .int .i64 left] w fun e w' => e = .returned (.int .i64 (if left < (x0.size : Int) then -1 else left - x0.size)) ∧ Below w.heap.size w w' := by
  by_cases hlt : left < (x0.size : Int)
  · go_enter Try.func90, Try.ntmps90
    go_wp2
    go_ret
    exact ⟨rfl, below_alloc _ _⟩
  · go_enter Try.func90, Try.ntmps90
    go_wp2
    go_ret
    exact ⟨rfl, below_alloc _ _⟩
theorem szPlannedS_big (A : Option Addr) (n c : Nat) (left : Int) (w : World) (h : left < (n : Int)) (h0 : 0 ≤ left) (hn : n ≤ 9223372036854775807) :
    Calls Try.prog 30 #[.slice A n c, .int .i64 left] w fun e w' => e = .returned (.int .i64 (-1)) ∧ w = w' := by
  go_enter Try.func30, Try.ntmps30
  go_wp2
  go_ret
  exact ⟨rfl, rfl⟩
set_option maxRecDepth 100000 in
set_option maxHeartbeats 2000000 in
theorem szPlannedS_any (A : Option Addr) (n c : Nat) (l : List Pl) (left : Int) (w : World) (h : (n : Int) ≤ left) (hl : left ≤ 1048576) (ha : PlannedsIn w A n l) (hok : ∀ x ∈ l, okPl x) :
    Calls Try.prog 30 #[.slice A n c, .int .i64 left] w fun e w' => ∃ r : Int, e = .returned (.int .i64 r) ∧ -1 ≤ r ∧ r ≤ 1048576 ∧ Below w.heap.size w w' := by
  have hn := ha.len
  obtain rfl := ha.1
  have HO := Lib.hid hok
  clear hok
  go_enter Try.func30, Try.ntmps30
  go_wp2
  go_loopw [1, 5] (fun r i wr => ∃ (k : Nat) (x : Int), k ≤ l.length ∧ i = .int .i64 k ∧ r = .int .i64 x ∧ 0 ≤ x ∧ x ≤ 1048576 ∧ Below w.heap.size w wr) (fun _ i _ => l.length - (intOf i).toNat)
  case atStart => exact ⟨0, _, by omega, rfl, rfl, by omega, by omega, Below.refl _ _⟩
  case round =>
    obtain ⟨k, x, hk, rfl, rfl, x0, x1, HR⟩ := hrel
    by_cases hlt : k < l.length
    · obtain ⟨b, o, rfl, _, hc0, hc1, hc2, hc3, hc4⟩ := planned_at (ha.keep HR) hlt
      have hs := HO.out _ (List.getElem_mem hlt)
      unfold okPl at hs
      by_cases hneg : x < (l[k].1.size : Int)
      · go_wp2_with fail
        refine (szPlanned_any _ _ _ _ _ _ _ x0 x1 hs).mono ?_
        rintro e v ⟨rfl, hb⟩
        rw [if_pos (by omega)]
        go_wp2_with fail
        go_ret
        exact ⟨-1, rfl, by omega, by omega, below_on HR hb⟩
      · go_wp2_with fail
        refine (szPlanned_any _ _ _ _ _ _ _ x0 x1 hs).mono ?_
        rintro e v ⟨rfl, hb⟩
        rw [if_neg (by omega)]
        go_wp2_with fail
        go_roundw
        case rel => exact ⟨k + 1, _, by omega, by go_num, rfl, by omega, by omega, below_on HR hb⟩
        case measure => simp [intOf]; omega
    · obtain rfl : k = l.length := by omega
      go_wp2
      go_ret
      exact ⟨x, rfl, by omega, by omega, HR⟩
end Go.Proofs.Ytlnkofnfgemfdaa
/- The loads of orders (plain). -/
namespace Go.Proofs.Ytlnkofnfgemfdaa
open Go.RowKit
def okPl1 (o : Pl) : Bool := inB o.2.1 1 100000 && inB o.2.2.1 0 999
def stepsOf (r : List Rt) (o : Pl) : List Sp := if 0 ≤ findRt r o.1 then (r.getD (findRt r o.1).toNat rtNone).2 else []
def loadsOne (o : Pl) (s : List Ld) (x : Sp) : List Ld := addL s x.1 o.2.2.1 (stepTime x o.2.1).1
def loadsPl (r : List Rt) (s : List Ld) (o : Pl) : List Ld := (stepsOf r o).foldl (loadsOne o) s
def loadsTo (r : List Rt) (l : List Pl) (k : Nat) : List Ld := (l.take k).foldl (loadsPl r) []
def loadsOf (r : List Rt) (l : List Pl) : List Ld × Bool := if ((areRoutings r && decide ((l.length : Int) ≤ 500)) && l.all okPl1) = true then (loadsTo r l l.length, true) else ([], false)
theorem loadsOf_no {r : List Rt} {l : List Pl} (h : (areRoutings r && decide ((l.length : Int) ≤ 500)) = false) : loadsOf r l = ([], false) := by unfold loadsOf; rw [h]; rfl
theorem loadsOf_bad {r : List Rt} {l : List Pl} {k : Nat} (hk : k < l.length) (h : okPl1 l[k] = false) : loadsOf r l = ([], false) := by unfold loadsOf; rw [all_false l _ k hk h]; simp
theorem loadsOf_yes {r : List Rt} {l : List Pl} (h1 : areRoutings r = true) (h2 : (l.length : Int) ≤ 500) (h3 : (l.take l.length).all okPl1 = true) : loadsOf r l = (loadsTo r l l.length, true) := by
  rw [List.take_length] at h3
  unfold loadsOf; rw [h1, decide_eq_true h2, h3]; rfl
theorem loadsTo_succ (r : List Rt) (l : List Pl) (k : Nat) (h : k < l.length) : loadsTo r l (k + 1) = loadsPl r (loadsTo r l k) l[k] := by
  unfold loadsTo
  rw [List.take_add_one, List.getElem?_eq_getElem h, Option.toList_some, List.foldl_append]; rfl
theorem loadsF_succ (o : Pl) (st : List Sp) (s : List Ld) (j : Nat) (h : j < st.length) : (st.take (j + 1)).foldl (loadsOne o) s = loadsOne o ((st.take j).foldl (loadsOne o) s) st[j] := by
  rw [List.take_add_one, List.getElem?_eq_getElem h, Option.toList_some, List.foldl_append]; rfl
theorem stepTime_bd (x : Sp) (n : Int) : 0 ≤ (stepTime x n).1 ∧ (stepTime x n).1 ≤ 100001000 := by
  unfold stepTime
  split
  · next h =>
    simp only [Bool.and_eq_true] at h
    obtain ⟨_, h1, h2⟩ := isStep_parts h.1
    have h3 := inB_iff.1 h.2
    have p0 : 0 ≤ x.2.2 * n := Int.mul_nonneg (by omega) (by omega)
    have p1 : x.2.2 * n ≤ 1000 * 100000 := Int.mul_le_mul (by omega) (by omega) (by omega) (by omega)
    simp only
    omega
  · exact ⟨by simp, by simp⟩
theorem loadsF_bd (o : Pl) (st : List Sp) (s : List Ld) (j : Nat) (h : ∀ x ∈ s, 0 ≤ x.2.2 ∧ x.2.2 ≤ 300003000000) : ((st.take j).foldl (loadsOne o) s).length ≤ s.length + j ∧ ∀ x ∈ (st.take j).foldl (loadsOne o) s, 0 ≤ x.2.2 ∧ x.2.2 ≤ 300003000000 + 100001000 * j := by
  induction j with
  | zero => exact ⟨by simp, fun x hx => by have := h x hx; simp; omega⟩
  | succ j ih =>
    by_cases hj : j < st.length
    · rw [loadsF_succ o st s j hj]
      unfold loadsOne
      obtain ⟨h1, h2⟩ := ih
      have hb := stepTime_bd st[j] o.2.1
      refine ⟨by have := addL_len ((st.take j).foldl (loadsOne o) s) st[j].1 o.2.2.1 (stepTime st[j] o.2.1).1; unfold loadsOne at this h1; omega, fun x hx => ?_⟩
      have := addL_bd _ st[j].1 o.2.2.1 (stepTime st[j] o.2.1).1 (300003000000 + 100001000 * j) 100001000 h2 hb (by omega) x hx
      omega
    · rw [List.take_of_length_le (by omega)]
      rw [List.take_of_length_le (by omega)] at ih
      obtain ⟨h1, h2⟩ := ih
      exact ⟨by omega, fun x hx => by have := h2 x hx; omega⟩
theorem loadsF_bd2 (o : Pl) (st : List Sp) (s : List Ld) (j : Nat) (B : Int) (hB : 0 ≤ B) (h : ∀ x ∈ s, 0 ≤ x.2.2 ∧ x.2.2 ≤ B) : ((st.take j).foldl (loadsOne o) s).length ≤ s.length + j ∧ ∀ x ∈ (st.take j).foldl (loadsOne o) s, 0 ≤ x.2.2 ∧ x.2.2 ≤ B + 100001000 * j := by
  induction j with
  | zero => exact ⟨by simp, fun x hx => by have := h x hx; simp; omega⟩
  | succ j ih =>
    by_cases hj : j < st.length
    · rw [loadsF_succ o st s j hj]
      unfold loadsOne
      obtain ⟨h1, h2⟩ := ih
      have hb := stepTime_bd st[j] o.2.1
      refine ⟨by have := addL_len ((st.take j).foldl (loadsOne o) s) st[j].1 o.2.2.1 (stepTime st[j] o.2.1).1; unfold loadsOne at this h1; omega, fun x hx => ?_⟩
      have := addL_bd _ st[j].1 o.2.2.1 (stepTime st[j] o.2.1).1 (B + 100001000 * j) 100001000 h2 hb (by omega) x hx
      omega
    · rw [List.take_of_length_le (by omega)]
      rw [List.take_of_length_le (by omega)] at ih
      obtain ⟨h1, h2⟩ := ih
      exact ⟨by omega, fun x hx => by have := h2 x hx; omega⟩
theorem stepsOf_len {r : List Rt} (hr : areRoutings r = true) (o : Pl) : (stepsOf r o).length ≤ 6 := by
  unfold stepsOf
  split
  · next h =>
    have hb := findRt_bd r o.1
    have hq : (findRt r o.1).toNat < r.length := by omega
    rw [rt_getD _ _ hq]
    exact (isRouting_parts ((areRoutings_parts hr).2 _ hq)).2
  · simp
theorem loadsTo_bd0 (r : List Rt) (l : List Pl) (k : Nat) (hr : areRoutings r = true) : (loadsTo r l k).length ≤ 6 * k ∧ ∀ x ∈ loadsTo r l k, 0 ≤ x.2.2 ∧ x.2.2 ≤ 600006000 * k := by
  induction k with
  | zero => exact ⟨by simp [loadsTo], fun x hx => by simp [loadsTo] at hx⟩
  | succ k ih =>
    by_cases hk : k < l.length
    · rw [loadsTo_succ r l k hk]
      unfold loadsPl
      have h6 := stepsOf_len hr l[k]
      obtain ⟨h1, h2⟩ := loadsF_bd2 l[k] (stepsOf r l[k]) (loadsTo r l k) (stepsOf r l[k]).length (600006000 * k) (by omega) ih.2
      rw [List.take_length] at h1 h2
      exact ⟨by omega, fun x hx => by have := h2 x hx; omega⟩
    · have e : loadsTo r l (k + 1) = loadsTo r l k := by unfold loadsTo; rw [List.take_of_length_le (by omega), List.take_of_length_le (by omega)]
      rw [e]
      exact ⟨by omega, fun x hx => by have := ih.2 x hx; omega⟩
theorem loadsTo_over (r : List Rt) (l : List Pl) (k : Nat) (h : l.length ≤ k) : loadsTo r l k = loadsTo r l l.length := by unfold loadsTo; rw [List.take_of_length_le h, List.take_length]
theorem own_capL {w : World} {lo n c : Nat} {A : Option Addr} {l : List Ld} (h : OwnRows ldF 91 w lo A n c l) : n ≤ c ∧ c ≤ maxLen := by
  rcases h.2.2 with ⟨hv, h0⟩ | ⟨g2, cap, cur, hv, _, _, h1, h2, _⟩
  · injection hv with e1 e2 e3
    subst e3
    exact ⟨by omega, by unfold maxLen; omega⟩
  · injection hv with e1 e2 e3
    subst e3; exact ⟨h1, h2⟩
end Go.Proofs.Ytlnkofnfgemfdaa
