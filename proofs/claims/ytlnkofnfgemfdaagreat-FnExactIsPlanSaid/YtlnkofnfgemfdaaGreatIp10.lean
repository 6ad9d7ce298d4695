/- Part 10 of the texts of this claim: Demand: its cells, and the walks of the laws' own helpers on lists of it; The walks of AreDemands; The walks of the functions on flows that all later ones use. -/
import Derived.Test.YtlnkofnfgemfdaaGreatIp2
import Derived.StillTailTactics
import Derived.Test.YtlnkofnfgemfdaaGreatIp1
/- Demand: its cells, and the walks of the laws' own helpers on lists of it. -/
namespace Go.Proofs.YtlnkofnfgemfdaaGreat
open Go.RowKit

abbrev Dm := Int × ByteArray × Int × Int × Int
def dmF : Flat Dm := ⟨fun f => [.int .i64 (f.1), .string (f.2.1), .int .i64 (f.2.2.1), .int .i64 (f.2.2.2.1), .int .i64 (f.2.2.2.2)], 5, fun _ => rfl⟩
abbrev DemandsIn (w : World) (A : Option Addr) (n : Nat) (l : List Dm) : Prop := RowsIn dmF w A n l
theorem demand_at {w : World} {A : Option Addr} {n : Nat} {l : List Dm} (h : DemandsIn w A n l) {k : Nat} (hk : k < l.length) :
    ∃ b o, A = some ⟨b, o, none⟩ ∧ b < w.heap.size ∧ w.cell? ⟨b, o + k * 5, none⟩ = some (.int .i64 (l[k].1)) ∧ w.cell? ⟨b, o + k * 5 + 1, none⟩ = some (.string (l[k].2.1)) ∧ w.cell? ⟨b, o + k * 5 + 2, none⟩ = some (.int .i64 (l[k].2.2.1)) ∧ w.cell? ⟨b, o + k * 5 + 3, none⟩ = some (.int .i64 (l[k].2.2.2.1)) ∧ w.cell? ⟨b, o + k * 5 + 4, none⟩ = some (.int .i64 (l[k].2.2.2.2)) := by
  obtain ⟨b, o, e, hlt, hc⟩ := h.at_ hk
  exact ⟨b, o, e, hlt, hc 0 _ rfl, hc 1 _ rfl, hc 2 _ rfl, hc 3 _ rfl, hc 4 _ rfl⟩
theorem demandInfo : (Tryz.prog.info? 128).map (fun i => (i.zero, i.size, i.bytes)) = some (some (.agg #[.int .i64 0, .string ByteArray.empty, .int .i64 0, .int .i64 0, .int .i64 0]), 5, 48) := by kernel_rfl
theorem demandElem : ElemOk dmF 64 128 := by
  obtain ⟨i, h1, h2, h3, h4⟩ := info_parts demandInfo
  exact ⟨i, _, 48, Tryz.underlying64, h1, h2, h3, h4, rfl, by decide, by omega⟩
theorem toDemand_any (x0 : Int) (x1 : ByteArray) (x2 : Int) (x3 : Int) (x4 : Int) (w : World) : Calls Tryz.prog 83 #[.agg #[.int .i64 (x0), .string (x1), .int .i64 (x2), .int .i64 (x3), .int .i64 (x4)]] w fun e w' => e = .returned (.agg #[.int .i64 (x0), .string (x1), .int .i64 (x2), .int .i64 (x3), .int .i64 (x4)]) ∧ Below w.heap.size w w' := by
  go_enter Tryz.func83, Tryz.ntmps83
  go_wp2
  refine bodyPost_ret (v := .agg #[.int .i64 (x0), .string (x1), .int .i64 (x2), .int .i64 (x3), .int .i64 (x4)]) (by simp [results, Tryz.results83, go_sem]) rfl ⟨rfl, ?_⟩
  exact (((Below.refl _ _).alloc (Nat.le_refl _) _).alloc (by simp) _).alloc (by simp; omega) _
set_option maxRecDepth 100000 in
set_option maxHeartbeats 2000000 in
theorem toDemandS_any (A : Option Addr) (n c : Nat) (l : List Dm) (w : World) (hl : DemandsIn w A n l) :
    Calls Tryz.prog 23 #[.slice A n c] w fun e w' => ∃ A', e = .returned (.slice A' n n) ∧ OwnRows dmF 128 w' w.heap.size A' n n l ∧ Below w.heap.size w w' := by
  obtain ⟨i0, hi0, hz0, hz1, hz2⟩ := info_parts demandInfo
  have hn := hl.len
  obtain rfl := hl.1
  go_enter Tryz.func23, Tryz.ntmps23
  go_wp2_with (at_make; refine wpList_make_full _ rfl (.tmp 6) (.tmp 6) _ rfl w.heap.size 128 i0 _ 5 Tryz.underlying64 hi0 hz0 hz1 .i64 .i64 _ _ l.length rfl rfl rfl rfl (by rw [hz2]; omega) (by unfold maxLen; omega) (Nat.le_refl _) ?_; intro w1 hown hg)
  have hb1 := below_none hg
  generalize hzs : (madeCells (Value.agg #[.int .i64 0, .string ByteArray.empty, .int .i64 0, .int .i64 0, .int .i64 0]).cells (l.length * 5)).toList = zs at hown
  have hzl : zs.length = (l.flatMap dmF.enc).length := by rw [flatMap_len dmF.enc 5 dmF.len, hown.1]
  clear hg hzs
  have HZ := Lib.hid hzl; clear hzl
  have hown1 : w1.ownsRow w.heap.size 128 5 (.slice (some ⟨w.heap.size, 0, none⟩) l.length l.length) l.length (fillC zs (l.flatMap dmF.enc) 0) := by
    rw [fillC_zero]; exact hown
  clear hown
  go_loopw [4] (fun i wr => ∃ k : Nat, k ≤ l.length ∧ i = .int .i64 k ∧ wr.ownsRow w.heap.size 128 5 (.slice (some ⟨w.heap.size, 0, none⟩) l.length l.length) l.length (fillC zs (l.flatMap dmF.enc) (k * 5)) ∧ Below w.heap.size w wr) (fun i _ => l.length - (intOf i).toNat)
  case atStart => exact ⟨0, by omega, rfl, by rw [Nat.zero_mul]; exact hown1, hb1⟩
  case round =>
    obtain ⟨k, hk, rfl, hown, hb⟩ := hrel
    by_cases hlt : k < l.length
    · obtain ⟨b, o, rfl, _, hc0, hc1, hc2, hc3, hc4⟩ := demand_at (hl.keep hb) hlt
      go_wp2_with fail
      refine (toDemand_any _ _ _ _ _ _).mono ?_
      rintro e w2 ⟨rfl, hb2⟩
      have ho := own_keep hown hb2
      have hlen : (l.flatMap dmF.enc).length = l.length * 5 := flatMap_len dmF.enc 5 dmF.len l
      have hz := HZ.out
      have e0 : (l.flatMap dmF.enc)[k * 5]? = some (.int .i64 (l[k].1)) := flatMap_at dmF.enc 5 dmF.len l k 0 hlt (by omega)
      obtain ⟨u0, c0, f0⟩ := own_cell ho (k * 5) (by omega)
      have e1 : (l.flatMap dmF.enc)[k * 5 + 1]? = some (.string (l[k].2.1)) := flatMap_at dmF.enc 5 dmF.len l k 1 hlt (by omega)
      obtain ⟨u1, c1, f1⟩ := own_cell ho (k * 5 + 1) (by omega)
      have e2 : (l.flatMap dmF.enc)[k * 5 + 2]? = some (.int .i64 (l[k].2.2.1)) := flatMap_at dmF.enc 5 dmF.len l k 2 hlt (by omega)
      obtain ⟨u2, c2, f2⟩ := own_cell ho (k * 5 + 2) (by omega)
      have e3 : (l.flatMap dmF.enc)[k * 5 + 3]? = some (.int .i64 (l[k].2.2.2.1)) := flatMap_at dmF.enc 5 dmF.len l k 3 hlt (by omega)
      obtain ⟨u3, c3, f3⟩ := own_cell ho (k * 5 + 3) (by omega)
      have e4 : (l.flatMap dmF.enc)[k * 5 + 4]? = some (.int .i64 (l[k].2.2.2.2)) := flatMap_at dmF.enc 5 dmF.len l k 4 hlt (by omega)
      obtain ⟨u4, c4, f4⟩ := own_cell ho (k * 5 + 4) (by omega)
      have s0 := (ho.stored (k * 5) (.int .i64 (l[k].1))).1
      rw [fillC_set _ _ _ _ e0 hz] at s0
      have s1 := (s0.stored (k * 5 + 1) (.string (l[k].2.1))).1
      rw [fillC_set _ _ _ _ e1 hz] at s1
      have s2 := (s1.stored (k * 5 + 2) (.int .i64 (l[k].2.2.1))).1
      rw [fillC_set _ _ _ _ e2 hz] at s2
      have s3 := (s2.stored (k * 5 + 3) (.int .i64 (l[k].2.2.2.1))).1
      rw [fillC_set _ _ _ _ e3 hz] at s3
      have s4 := (s3.stored (k * 5 + 4) (.int .i64 (l[k].2.2.2.2))).1
      rw [fillC_set _ _ _ _ e4 hz] at s4
      have hb3 : Below w.heap.size w w2 := hb.trans (hb2.mono hb.size)
      have S2 := Lib.hid s4
      clear ho e0 e1 e2 e3 e4 s0 s1 s2 s3 s4 hown hz hlen hb hb2
      go_wp2
      go_roundw
      case rel => exact ⟨k + 1, by omega, by go_num, by rw [show (k + 1) * 5 = k * 5 + 1 + 1 + 1 + 1 + 1 by omega]; exact S2.out, (((((hb3.setCell (Nat.le_refl _) _).setCell (Nat.le_refl _) _).setCell (Nat.le_refl _) _).setCell (Nat.le_refl _) _).setCell (Nat.le_refl _) _)⟩
      case measure => simp [intOf]; omega
    · obtain rfl : k = l.length := by omega
      go_wp2
      go_ret
      refine ⟨_, rfl, ⟨rfl, ?_⟩, hb⟩
      have h2 : (l.flatMap dmF.enc).length = l.length * 5 := flatMap_len dmF.enc 5 dmF.len l
      rw [← h2, fillC_all _ _ HZ.out] at hown
      exact hown
theorem eqDemand_yes (x0 : Int) (x1 : ByteArray) (x2 : Int) (x3 : Int) (x4 : Int) (w : World) : Calls Tryz.prog 89 #[.agg #[.int .i64 (x0), .string (x1), .int .i64 (x2), .int .i64 (x3), .int .i64 (x4)], .agg #[.int .i64 (x0), .string (x1), .int .i64 (x2), .int .i64 (x3), .int .i64 (x4)]] w fun e w' => e = .returned (.bool true) ∧ Below w.heap.size w w' := by
  go_enter Tryz.func89, Tryz.ntmps89
  go_wp2
  go_ret
  exact ⟨rfl, ((Below.refl _ _).alloc (Nat.le_refl _) _).alloc (by simp) _⟩
set_option maxRecDepth 100000 in
set_option maxHeartbeats 2000000 in
theorem eqDemandS_yes (A B : Option Addr) (n m c d : Nat) (l : List Dm) (w : World) (ha : DemandsIn w A n l) (hb : DemandsIn w B m l) :
    Calls Tryz.prog 26 #[.slice A n c, .slice B m d] w fun e w' => e = .returned (.bool true) ∧ Below w.heap.size w w' := by
  have hn := ha.len
  obtain rfl := ha.1
  obtain rfl := hb.1
  go_enter Tryz.func26, Tryz.ntmps26
  go_wp2
  go_loopw [5] (fun i wr => ∃ k : Nat, k ≤ l.length ∧ i = .int .i64 k ∧ Below w.heap.size w wr) (fun i _ => l.length - (intOf i).toNat)
  case atStart => exact ⟨0, by omega, rfl, Below.refl _ _⟩
  case round =>
    obtain ⟨k, hk, rfl, HD⟩ := hrel
    by_cases hlt : k < l.length
    · obtain ⟨b1, o1, rfl, _, hc0, hc1, hc2, hc3, hc4⟩ := demand_at (ha.keep HD) hlt
      obtain ⟨b2, o2, rfl, _, hd0, hd1, hd2, hd3, hd4⟩ := demand_at (hb.keep HD) hlt
      go_wp2
      go_still_tail 8, (by kernel_rfl)
      change wpList _ _ _ _ _ wr.drew
      have HE : Below w.heap.size w wr.drew := HD.drew
      generalize wr.drew = w2 at *
      go_wp2_with (go_at_call 89; refine (eqDemand_yes _ _ _ _ _ _).mono ?_; rintro e w3 ⟨rfl, hb3⟩)
      go_roundw
      case rel => exact ⟨k + 1, by omega, by go_num, HE.trans (hb3.mono HE.size)⟩
      case measure => simp [intOf]; omega
    · obtain rfl : k = l.length := by omega
      go_wp2
      go_ret
      exact ⟨rfl, HD⟩
def okDm (x : Dm) : Prop := x.2.1.size ≤ 9223372036854775807
theorem szDemand_any (x0 : Int) (x1 : ByteArray) (x2 : Int) (x3 : Int) (x4 : Int) (left : Int) (w : World) (h0 : 0 ≤ left) (h1 : left ≤ 1048576) (hs : x1.size ≤ 9223372036854775807) :
    Calls Tryz.prog 77 #[.agg #[.int .i64 (x0), .string (x1), .int .i64 (x2), .int .i64 (x3), .int .i64 (x4)], .int .i64 left] w fun e w' => e = .returned (.int .i64 (if left < (x1.size : Int) then -1 else left - x1.size)) ∧ Below w.heap.size w w' := by
  by_cases hlt : left < (x1.size : Int)
  · go_enter Tryz.func77, Tryz.ntmps77
    go_wp2
    go_ret
    exact ⟨rfl, below_alloc _ _⟩
  · go_enter Tryz.func77, Tryz.ntmps77
    go_wp2
    go_ret
    exact ⟨rfl, below_alloc _ _⟩
theorem szDemandS_big (A : Option Addr) (n c : Nat) (left : Int) (w : World) (h : left < (n : Int)) (h0 : 0 ≤ left) (hn : n ≤ 9223372036854775807) :
    Calls Tryz.prog 20 #[.slice A n c, .int .i64 left] w fun e w' => e = .returned (.int .i64 (-1)) ∧ w = w' := by
  go_enter Tryz.func20, Tryz.ntmps20
  go_wp2
  go_ret
  exact ⟨rfl, rfl⟩
set_option maxRecDepth 100000 in
set_option maxHeartbeats 2000000 in
theorem szDemandS_any (A : Option Addr) (n c : Nat) (l : List Dm) (left : Int) (w : World) (h : (n : Int) ≤ left) (hl : left ≤ 1048576) (ha : DemandsIn w A n l) (hok : ∀ x ∈ l, okDm x) :
    Calls Tryz.prog 20 #[.slice A n c, .int .i64 left] w fun e w' => ∃ r : Int, e = .returned (.int .i64 r) ∧ -1 ≤ r ∧ r ≤ 1048576 ∧ Below w.heap.size w w' := by
  have hn := ha.len
  obtain rfl := ha.1
  have HO := Lib.hid hok
  clear hok
  go_enter Tryz.func20, Tryz.ntmps20
  go_wp2
  go_loopw [1, 5] (fun r i wr => ∃ (k : Nat) (x : Int), k ≤ l.length ∧ i = .int .i64 k ∧ r = .int .i64 x ∧ 0 ≤ x ∧ x ≤ 1048576 ∧ Below w.heap.size w wr) (fun _ i _ => l.length - (intOf i).toNat)
  case atStart => exact ⟨0, _, by omega, rfl, rfl, by omega, by omega, Below.refl _ _⟩
  case round =>
    obtain ⟨k, x, hk, rfl, rfl, x0, x1, HR⟩ := hrel
    by_cases hlt : k < l.length
    · obtain ⟨b, o, rfl, _, hc0, hc1, hc2, hc3, hc4⟩ := demand_at (ha.keep HR) hlt
      have hs := HO.out _ (List.getElem_mem hlt)
      unfold okDm at hs
      by_cases hneg : x < (l[k].2.1.size : Int)
      · go_wp2_with fail
        refine (szDemand_any _ _ _ _ _ _ _ x0 x1 hs).mono ?_
        rintro e v ⟨rfl, hb⟩
        rw [if_pos (by omega)]
        go_wp2_with fail
        go_ret
        exact ⟨-1, rfl, by omega, by omega, below_on HR hb⟩
      · go_wp2_with fail
        refine (szDemand_any _ _ _ _ _ _ _ x0 x1 hs).mono ?_
        rintro e v ⟨rfl, hb⟩
        rw [if_neg (by omega)]
        go_wp2_with fail
        go_roundw
        case rel => exact ⟨k + 1, _, by omega, by go_num, rfl, by omega, by omega, below_on HR hb⟩
        case measure => simp [intOf]; omega
    · obtain rfl : k = l.length := by omega
      go_wp2
      go_ret
      exact ⟨x, rfl, by omega, by omega, HR⟩
end Go.Proofs.YtlnkofnfgemfdaaGreat
/- The walks of AreDemands. -/
namespace Go.Proofs.YtlnkofnfgemfdaaGreat
open Go.RowKit
def dmNone : Dm := (0, ByteArray.empty, 0, 0, 0)
def okDem (l : List Dm) (k : Nat) : Bool :=
  inB (l.getD k dmNone).1 1 9999 && (isCode (l.getD k dmNone).2.1 && (inB (l.getD k dmNone).2.2.1 1 100000 && (inB (l.getD k dmNone).2.2.2.1 0 999 && (inB (l.getD k dmNone).2.2.2.2 0 9 && !((List.range k).any fun j => (l.getD j dmNone).1 == (l.getD k dmNone).1)))))
def areDemands (l : List Dm) : Bool := (List.range l.length).all (okDem l) && decide ((l.length : Int) ≤ 16)
theorem areDemands_no {l : List Dm} {k : Nat} (hk : k < l.length) (h : okDem l k = false) : areDemands l = false := by
  unfold areDemands
  have : (List.range l.length).all (okDem l) = false := by rw [List.all_eq_false]; exact ⟨k, by simpa using hk, by simp [h]⟩
  simp [this]
theorem areDemands_end {l : List Dm} (h : ∀ j < l.length, okDem l j = true) : areDemands l = decide ((l.length : Int) ≤ 16) := by
  unfold areDemands
  have : (List.range l.length).all (okDem l) = true := by rw [List.all_eq_true]; intro x hx; exact h x (by simpa using hx)
  simp [this]
theorem areDemands_16 {l : List Dm} (h : ¬ (l.length : Int) ≤ 16) : areDemands l = false := by unfold areDemands; rw [decide_eq_false h, Bool.and_false]
theorem dm_getD (l : List Dm) (k : Nat) (h : k < l.length) : l.getD k dmNone = l[k] := by
  rw [List.getD_eq_getElem?_getD, List.getElem?_eq_getElem h]; rfl
theorem dm_any {l : List Dm} {k : Nat} (hk : k < l.length) (h : ∀ j (hj : j < l.length), j < k → l[j].1 ≠ l[k].1) : ((List.range k).any fun j => (l.getD j dmNone).1 == l[k].1) = false := by
  rw [List.any_eq_false]
  intro j hj
  rw [List.mem_range] at hj
  rw [dm_getD l j (by omega)]
  simpa using h j (by omega) hj
theorem dm_any_yes {l : List Dm} {k : Nat} (hk : k < l.length) (j : Nat) (hj : j < l.length) (hjk : j < k) (he : l[j].1 = l[k].1) : ((List.range k).any fun j => (l.getD j dmNone).1 == l[k].1) = true := by
  rw [List.any_eq_true]
  exact ⟨j, by rw [List.mem_range]; exact hjk, by rw [dm_getD l j hj]; simpa using he⟩
set_option maxRecDepth 100000 in
set_option maxHeartbeats 4000000 in
theorem specAreDemands_any (A : Option Addr) (n c : Nat) (l : List Dm) (w : World) (hl : DemandsIn w A n l) (hok : ∀ x ∈ l, okDm x) :
    Calls Tryz.prog 80 #[.slice A n c] w fun e w' => e = .returned (.bool (areDemands l)) ∧ Below w.heap.size w w' := by
  have hn := hl.len
  obtain rfl := hl.1
  have HO := Lib.hid hok
  clear hok
  by_cases h16 : (l.length : Int) ≤ 16
  case neg =>
    go_enter Tryz.func80, Tryz.ntmps80
    go_wp2
    refine wp_loop_rounds 1 ?_
    rw [rounds_succ]
    go_wp2
    all_goals
      go_ret
      exact ⟨ret_bool (by rw [areDemands_16 (l := l) (by omega)]; first | rfl | exact decide_eq_false (by omega)), Below.refl _ _⟩
  go_enter Tryz.func80, Tryz.ntmps80
  go_wp2
  go_loopw [3] (fun i wr => ∃ k : Nat, k ≤ l.length ∧ i = .int .i64 k ∧ Hid (∀ j < k, okDem l j = true) ∧ Below w.heap.size w wr) (fun i _ => l.length - (intOf i).toNat)
  case atStart => exact ⟨0, by omega, rfl, fun j h => absurd h (by omega), Below.refl _ _⟩
  case round =>
    obtain ⟨k, hk, rfl, HI, HD⟩ := hrel
    by_cases hlt : k < l.length
    · have hsz := HO.out _ (List.getElem_mem hlt)
      unfold okDm at hsz
      have hsw := HD.size
      obtain ⟨b, o, rfl, hbl, hc0, hc1, hc2, hc3, hc4⟩ := demand_at (hl.keep HD) hlt
      have HG : Hid (l.getD k dmNone = l[k]) := dm_getD _ _ hlt
      cases h1 : inB l[k].1 1 9999
      · go_wp2_with (first | (go_at_call 101; refine (l1In_any _ _ _ _).mono ?_; rintro e w' ⟨rfl, rfl⟩) | (go_at_call 134; refine (specIsCode_any _ _ hsz).mono ?_; rintro e w' ⟨rfl, rfl⟩))
        go_ret
        exact ⟨ret_bool (areDemands_no hlt (by unfold okDem; rw [HG.out, h1]; rfl)).symm, HD.alloc hsw _⟩
      cases h2 : isCode l[k].2.1
      · go_wp2_with (first | (go_at_call 101; refine (l1In_any _ _ _ _).mono ?_; rintro e w' ⟨rfl, rfl⟩) | (go_at_call 134; refine (specIsCode_any _ _ hsz).mono ?_; rintro e w' ⟨rfl, rfl⟩))
        go_ret
        exact ⟨ret_bool (areDemands_no hlt (by unfold okDem; rw [HG.out, h1, h2]; rfl)).symm, HD.alloc hsw _⟩
      cases h3 : inB l[k].2.2.1 1 100000
      · go_wp2_with (first | (go_at_call 101; refine (l1In_any _ _ _ _).mono ?_; rintro e w' ⟨rfl, rfl⟩) | (go_at_call 134; refine (specIsCode_any _ _ hsz).mono ?_; rintro e w' ⟨rfl, rfl⟩))
        go_ret
        exact ⟨ret_bool (areDemands_no hlt (by unfold okDem; rw [HG.out, h1, h2, h3]; rfl)).symm, HD.alloc hsw _⟩
      cases h4 : inB l[k].2.2.2.1 0 999
      · go_wp2_with (first | (go_at_call 101; refine (l1In_any _ _ _ _).mono ?_; rintro e w' ⟨rfl, rfl⟩) | (go_at_call 134; refine (specIsCode_any _ _ hsz).mono ?_; rintro e w' ⟨rfl, rfl⟩))
        go_ret
        exact ⟨ret_bool (areDemands_no hlt (by unfold okDem; rw [HG.out, h1, h2, h3, h4]; rfl)).symm, HD.alloc hsw _⟩
      cases h5 : inB l[k].2.2.2.2 0 9
      · go_wp2_with (first | (go_at_call 101; refine (l1In_any _ _ _ _).mono ?_; rintro e w' ⟨rfl, rfl⟩) | (go_at_call 134; refine (specIsCode_any _ _ hsz).mono ?_; rintro e w' ⟨rfl, rfl⟩))
        go_ret
        exact ⟨ret_bool (areDemands_no hlt (by unfold okDem; rw [HG.out, h1, h2, h3, h4, h5]; rfl)).symm, HD.alloc hsw _⟩
      have HX : Hid ((∀ j (hj : j < l.length), j < k → l[j].1 ≠ l[k].1) → ∀ j < k + 1, okDem l j = true) := fun hb j hj => by
        rcases Nat.lt_or_ge j k with e1 | e1
        · exact HI.out j e1
        · obtain rfl : j = k := by omega
          unfold okDem
          rw [HG.out, h1, h2, h3, h4, h5, dm_any hlt hb]; rfl
      have HN : Hid (∀ j (hj : j < l.length), j < k → l[j].1 = l[k].1 → areDemands l = false) := fun j hj hjk he => areDemands_no hlt (by
        unfold okDem
        rw [HG.out, h1, h2, h3, h4, h5, dm_any_yes hlt j hj hjk he]; rfl)
      have x0 : (wr.alloc (.cells #[.int .i64 l[k].1, .string l[k].2.1, .int .i64 l[k].2.2.1, .int .i64 l[k].2.2.2.1, .int .i64 l[k].2.2.2.2] 128)).cell? ⟨wr.heap.size, 0, none⟩ = some (.int .i64 l[k].1) := by simp [go_sem]
      have HD1 := HD.alloc hsw (.cells #[.int .i64 l[k].1, .string l[k].2.1, .int .i64 l[k].2.2.1, .int .i64 l[k].2.2.2.1, .int .i64 l[k].2.2.2.2] 128)
      have hz1 : wr.heap.size < (wr.alloc (.cells #[.int .i64 l[k].1, .string l[k].2.1, .int .i64 l[k].2.2.1, .int .i64 l[k].2.2.2.1, .int .i64 l[k].2.2.2.2] 128)).heap.size := by simp
      go_wp2_with (first | (go_at_call 101; refine (l1In_any _ _ _ _).mono ?_; rintro e w' ⟨rfl, rfl⟩) | (go_at_call 134; refine (specIsCode_any _ _ hsz).mono ?_; rintro e w' ⟨rfl, rfl⟩))
      clear hc0 hc1 hc2 hc3 hc4 hbl HI h1 h2 h3 h4 h5 hsz
      generalize wr.alloc (.cells #[.int .i64 l[k].1, .string l[k].2.1, .int .i64 l[k].2.2.1, .int .i64 l[k].2.2.2.1, .int .i64 l[k].2.2.2.2] 128) = W1 at *
      have hswr := hsw
      generalize wr.heap.size = H at *
      go_loopw [5] (fun i wr => ∃ j : Nat, j ≤ k ∧ i = .int .i64 j ∧ Hid (∀ i (hi : i < l.length), i < j → l[i].1 ≠ l[k].1) ∧ H < wr.heap.size ∧ wr.cell? ⟨H, 0, none⟩ = some (.int .i64 l[k].1) ∧ Below w.heap.size w wr) (fun i _ => k - (intOf i).toNat)
      case atStart => exact ⟨0, by omega, rfl, fun i _ h => absurd h (by omega), hz1, x0, HD1⟩
      case round =>
        clear x0 HD1 hz1 HD
        obtain ⟨j, hj, rfl, HJ, hz1, x0, HD⟩ := hrel
        by_cases hjk : j < k
        · have hjl : j < l.length := by omega
          have hsw := HD.size
          obtain ⟨b2, o2, e2, hbl, hc0, hc1, hc2, hc3, hc4⟩ := demand_at (hl.keep HD) hjl
          obtain ⟨rfl, rfl⟩ : b = b2 ∧ o = o2 := by simpa using e2
          by_cases he : l[j].1 = l[k].1
          · have hq : (l[j].1 == l[k].1) = true := by rw [beq_iff_eq]; exact he
            have HE := Lib.hid (HN.out j hjl hjk he)
            clear he
            go_wp2
            go_quiet (fail)
            go_wp2
            go_ret
            exact ⟨ret_bool HE.out.symm, below_drewN HD _⟩
          · have hq : (l[j].1 == l[k].1) = false := by rw [beq_eq_false_iff_ne]; exact he
            have HJ2 : Hid (∀ i (hi : i < l.length), i < j + 1 → l[i].1 ≠ l[k].1) := fun i hi hij => by
              rcases Nat.lt_or_ge i j with e1 | e1
              · exact HJ.out i hi e1
              · obtain rfl : i = j := by omega
                exact he
            clear he
            go_wp2
            go_quiet (fail)
            go_wp2
            go_roundw
            case rel => exact ⟨j + 1, by omega, by go_num, HJ2.out, hz1, x0, below_drewN HD _⟩
            case measure => simp [intOf]; omega
        · obtain rfl : j = k := by omega
          have HY := Lib.hid (HX.out HJ.out)
          go_wp2
          go_roundw
          case rel => exact ⟨j + 1, by omega, by go_num, HY.out, HD⟩
          case measure => simp [intOf]; omega
    · obtain rfl : k = l.length := by omega
      go_wp2
      all_goals
        go_ret
        first
          | exact ⟨ret_bool (areDemands_end HI.out).symm, HD⟩
          | exact ⟨ret_bool (by rw [areDemands_end HI.out]; exact (decide_eq_true h16).symm), HD⟩
set_option maxRecDepth 100000 in
set_option maxHeartbeats 4000000 in
theorem implAreDemands_any (A : Option Addr) (n c : Nat) (l : List Dm) (w : World) (hl : DemandsIn w A n l) (hok : ∀ x ∈ l, okDm x) (hnc : n ≤ c) :
    Calls Tryz.prog 86 #[.slice A n c] w fun e w' => e = .returned (.bool (areDemands l)) ∧ Below w.heap.size w w' := by
  have hn := hl.len
  obtain rfl := hl.1
  have HO := Lib.hid hok
  clear hok
  go_enter Tryz.func86, Tryz.ntmps86
  go_wp2
  go_loopw [9] (fun i wr => ∃ k : Nat, k ≤ l.length ∧ i = .int .i64 k ∧ Hid (∀ j < k, okDem l j = true) ∧ Below w.heap.size w wr) (fun i _ => l.length - (intOf i).toNat)
  case atStart => exact ⟨0, by omega, rfl, fun j h => absurd h (by omega), Below.refl _ _⟩
  case round =>
    obtain ⟨k, hk, rfl, HI, HD⟩ := hrel
    by_cases hlt : k < l.length
    · have hsz := HO.out _ (List.getElem_mem hlt)
      unfold okDm at hsz
      have hsw := HD.size
      obtain ⟨b, o, rfl, hbl, hc0, hc1, hc2, hc3, hc4⟩ := demand_at (hl.keep HD) hlt
      have HG : Hid (l.getD k dmNone = l[k]) := dm_getD _ _ hlt
      have hkc : k ≤ c := by omega
      cases h1 : inB l[k].1 1 9999
      · go_wp2_with (first | (go_at_call 117; refine (in_any _ _ _ _).mono ?_; rintro e w' ⟨rfl, rfl⟩) | (go_at_call 137; refine (implIsCode_any _ _ hsz).mono ?_; rintro e w' ⟨rfl, rfl⟩))
        go_ret
        exact ⟨ret_bool (areDemands_no hlt (by unfold okDem; rw [HG.out, h1]; rfl)).symm, HD.alloc hsw _⟩
      cases h2 : isCode l[k].2.1
      · go_wp2_with (first | (go_at_call 117; refine (in_any _ _ _ _).mono ?_; rintro e w' ⟨rfl, rfl⟩) | (go_at_call 137; refine (implIsCode_any _ _ hsz).mono ?_; rintro e w' ⟨rfl, rfl⟩))
        go_ret
        exact ⟨ret_bool (areDemands_no hlt (by unfold okDem; rw [HG.out, h1, h2]; rfl)).symm, HD.alloc hsw _⟩
      cases h3 : inB l[k].2.2.1 1 100000
      · go_wp2_with (first | (go_at_call 117; refine (in_any _ _ _ _).mono ?_; rintro e w' ⟨rfl, rfl⟩) | (go_at_call 137; refine (implIsCode_any _ _ hsz).mono ?_; rintro e w' ⟨rfl, rfl⟩))
        go_ret
        exact ⟨ret_bool (areDemands_no hlt (by unfold okDem; rw [HG.out, h1, h2, h3]; rfl)).symm, HD.alloc hsw _⟩
      cases h4 : inB l[k].2.2.2.1 0 999
      · go_wp2_with (first | (go_at_call 117; refine (in_any _ _ _ _).mono ?_; rintro e w' ⟨rfl, rfl⟩) | (go_at_call 137; refine (implIsCode_any _ _ hsz).mono ?_; rintro e w' ⟨rfl, rfl⟩))
        go_ret
        exact ⟨ret_bool (areDemands_no hlt (by unfold okDem; rw [HG.out, h1, h2, h3, h4]; rfl)).symm, HD.alloc hsw _⟩
      cases h5 : inB l[k].2.2.2.2 0 9
      · go_wp2_with (first | (go_at_call 117; refine (in_any _ _ _ _).mono ?_; rintro e w' ⟨rfl, rfl⟩) | (go_at_call 137; refine (implIsCode_any _ _ hsz).mono ?_; rintro e w' ⟨rfl, rfl⟩))
        go_ret
        exact ⟨ret_bool (areDemands_no hlt (by unfold okDem; rw [HG.out, h1, h2, h3, h4, h5]; rfl)).symm, HD.alloc hsw _⟩
      have HX : Hid ((∀ j (hj : j < l.length), j < k → l[j].1 ≠ l[k].1) → ∀ j < k + 1, okDem l j = true) := fun hb j hj => by
        rcases Nat.lt_or_ge j k with e1 | e1
        · exact HI.out j e1
        · obtain rfl : j = k := by omega
          unfold okDem
          rw [HG.out, h1, h2, h3, h4, h5, dm_any hlt hb]; rfl
      have HN : Hid (∀ j (hj : j < l.length), j < k → l[j].1 = l[k].1 → areDemands l = false) := fun j hj hjk he => areDemands_no hlt (by
        unfold okDem
        rw [HG.out, h1, h2, h3, h4, h5, dm_any_yes hlt j hj hjk he]; rfl)
      have x0 : (wr.alloc (.cells #[.int .i64 l[k].1, .string l[k].2.1, .int .i64 l[k].2.2.1, .int .i64 l[k].2.2.2.1, .int .i64 l[k].2.2.2.2] 128)).cell? ⟨wr.heap.size, 0, none⟩ = some (.int .i64 l[k].1) := by simp [go_sem]
      have HD1 := HD.alloc hsw (.cells #[.int .i64 l[k].1, .string l[k].2.1, .int .i64 l[k].2.2.1, .int .i64 l[k].2.2.2.1, .int .i64 l[k].2.2.2.2] 128)
      have hz1 : wr.heap.size < (wr.alloc (.cells #[.int .i64 l[k].1, .string l[k].2.1, .int .i64 l[k].2.2.1, .int .i64 l[k].2.2.2.1, .int .i64 l[k].2.2.2.2] 128)).heap.size := by simp
      go_wp2_with (first | (go_at_call 117; refine (in_any _ _ _ _).mono ?_; rintro e w' ⟨rfl, rfl⟩) | (go_at_call 137; refine (implIsCode_any _ _ hsz).mono ?_; rintro e w' ⟨rfl, rfl⟩))
      clear hc0 hc1 hc2 hc3 hc4 hbl HI h1 h2 h3 h4 h5 hsz
      generalize wr.alloc (.cells #[.int .i64 l[k].1, .string l[k].2.1, .int .i64 l[k].2.2.1, .int .i64 l[k].2.2.2.1, .int .i64 l[k].2.2.2.2] 128) = W1 at *
      have hswr := hsw
      generalize wr.heap.size = H at *
      go_loopw [46] (fun i wr => ∃ j : Nat, j ≤ k ∧ i = .int .i64 j ∧ Hid (∀ i (hi : i < l.length), i < j → l[i].1 ≠ l[k].1) ∧ H < wr.heap.size ∧ wr.cell? ⟨H, 0, none⟩ = some (.int .i64 l[k].1) ∧ Below w.heap.size w wr) (fun i _ => k - (intOf i).toNat)
      case atStart => exact ⟨0, by omega, rfl, fun i _ h => absurd h (by omega), hz1, x0, HD1⟩
      case round =>
        clear x0 HD1 hz1 HD
        obtain ⟨j, hj, rfl, HJ, hz1, x0, HD⟩ := hrel
        by_cases hjk : j < k
        · have hjl : j < l.length := by omega
          have hsw := HD.size
          obtain ⟨b2, o2, e2, hbl, hc0, hc1, hc2, hc3, hc4⟩ := demand_at (hl.keep HD) hjl
          obtain ⟨rfl, rfl⟩ : b = b2 ∧ o = o2 := by simpa using e2
          have hw0 := World.cell?_alloc_lt wr (.cells #[.int .i64 l[j].1, .string l[j].2.1, .int .i64 l[j].2.2.1, .int .i64 l[j].2.2.2.1, .int .i64 l[j].2.2.2.2] 128) ⟨H, 0, none⟩ hz1
          rw [x0] at hw0
          by_cases he : l[j].1 = l[k].1
          · have hq : (l[j].1 == l[k].1) = true := by rw [beq_iff_eq]; exact he
            have HE := Lib.hid (HN.out j hjl hjk he)
            clear he
            go_wp2
            go_ret
            exact ⟨ret_bool HE.out.symm, HD.alloc hsw _⟩
          · have hq : (l[j].1 == l[k].1) = false := by rw [beq_eq_false_iff_ne]; exact he
            have HJ2 : Hid (∀ i (hi : i < l.length), i < j + 1 → l[i].1 ≠ l[k].1) := fun i hi hij => by
              rcases Nat.lt_or_ge i j with e1 | e1
              · exact HJ.out i hi e1
              · obtain rfl : i = j := by omega
                exact he
            clear he
            go_wp2
            go_roundw
            case rel => exact ⟨j + 1, by omega, by go_num, HJ2.out, by simp; omega, hw0, HD.alloc hsw _⟩
            case measure => simp [intOf]; omega
        · obtain rfl : j = k := by omega
          have HY := Lib.hid (HX.out HJ.out)
          go_wp2
          go_roundw
          case rel => exact ⟨j + 1, by omega, by go_num, HY.out, HD⟩
          case measure => simp [intOf]; omega
    · obtain rfl : k = l.length := by omega
      go_wp2
      all_goals
        go_ret
        first
          | exact ⟨ret_bool (areDemands_end HI.out).symm, HD⟩
          | exact ⟨ret_bool (by rw [areDemands_end HI.out]; exact (decide_eq_true h16).symm), HD⟩
end Go.Proofs.YtlnkofnfgemfdaaGreat
/- The walks of the functions on flows that all later ones use. -/
namespace Go.Proofs.YtlnkofnfgemfdaaGreat
open Go.RowKit

/-- A flow: its day and its quantity. -/
abbrev Fl := Int × Int
def flF : Flat Fl := ⟨fun f => [.int .i64 f.1, .int .i64 f.2], 2, fun _ => rfl⟩
abbrev FlowsIn (w : World) (A : Option Addr) (n : Nat) (l : List Fl) : Prop := RowsIn flF w A n l
theorem flow_at {w : World} {A : Option Addr} {n : Nat} {l : List Fl} (h : FlowsIn w A n l) {k : Nat} (hk : k < l.length) :
    ∃ b o, A = some ⟨b, o, none⟩ ∧ b < w.heap.size ∧ w.cell? ⟨b, o + k * 2, none⟩ = some (.int .i64 l[k].1) ∧ w.cell? ⟨b, o + k * 2 + 1, none⟩ = some (.int .i64 l[k].2) := by
  obtain ⟨b, o, e, hlt, hc⟩ := h.at_ hk
  exact ⟨b, o, e, hlt, hc 0 _ rfl, hc 1 _ rfl⟩

def okFlow (l : List Fl) (k : Nat) : Bool :=
  inB (l.getD k (0, 0)).1 0 999 && (inB (l.getD k (0, 0)).2 1 1000000000 && (decide (k = 0) || decide ((l.getD (k - 1) (0, 0)).1 < (l.getD k (0, 0)).1)))
def areFlows (l : List Fl) : Bool := (List.range l.length).all (okFlow l) && decide ((l.length : Int) ≤ 40)
theorem areFlows_no {l : List Fl} {k : Nat} (hk : k < l.length) (h : okFlow l k = false) : areFlows l = false := by
  unfold areFlows
  have : (List.range l.length).all (okFlow l) = false := by rw [List.all_eq_false]; exact ⟨k, by simpa using hk, by simp [h]⟩
  simp [this]
theorem areFlows_end {l : List Fl} (h : ∀ j < l.length, okFlow l j = true) : areFlows l = decide ((l.length : Int) ≤ 40) := by
  unfold areFlows
  have : (List.range l.length).all (okFlow l) = true := by rw [List.all_eq_true]; intro x hx; exact h x (by simpa using hx)
  simp [this]
theorem getD_at {α : Type} (l : List α) (k : Nat) (d : α) (h : k < l.length) : l.getD k d = l[k] := by
  rw [List.getD_eq_getElem?_getD, List.getElem?_eq_getElem h]; rfl


set_option maxRecDepth 100000 in
set_option maxHeartbeats 1000000 in
theorem specAreFlows_any (A : Option Addr) (n c : Nat) (l : List Fl) (w : World) (hl : FlowsIn w A n l) :
    Calls Tryz.prog 39 #[.slice A n c] w fun e w' => e = .returned (.bool (areFlows l)) ∧ Drew w w' := by
  have hn := hl.len
  obtain rfl := hl.1
  go_enter Tryz.func39, Tryz.ntmps39
  go_wp2
  go_loopw [3] (fun i wr => ∃ k : Nat, k ≤ l.length ∧ i = .int .i64 k ∧ Hid (∀ j < k, okFlow l j = true) ∧ Drew w wr) (fun i _ => l.length - (intOf i).toNat)
  case atStart => exact ⟨0, by omega, rfl, fun j h => absurd h (by omega), Drew.refl _⟩
  case round =>
    obtain ⟨k, hk, rfl, HI, HD⟩ := hrel
    by_cases hlt : k < l.length
    · obtain ⟨b, o, rfl, _, hc1, hc2⟩ := flow_at (hl.keep (HD.below _)) hlt
      have HG : Hid (l.getD k (0, 0) = l[k]) := getD_at _ _ _ hlt
      cases hd : inB l[k].1 0 999
      · go_wp2
        go_quiet ((go_at_call 101; exact quietS (l1In_any _ _ _)))
        go_wp2
        go_ret
        exact ⟨ret_bool (areFlows_no hlt (by unfold okFlow; rw [HG.out, hd]; rfl)).symm, HD.more _⟩
      cases hq : inB l[k].2 1 1000000000
      · go_wp2
        go_quiet ((go_at_call 101; exact quietS (l1In_any _ _ _)))
        go_wp2
        go_ret
        exact ⟨ret_bool (areFlows_no hlt (by unfold okFlow; rw [HG.out, hd, hq]; rfl)).symm, HD.more _⟩
      have hnext : ∀ hb : okFlow l k = true, ∀ j < k + 1, okFlow l j = true := fun hb j hj => by
        rcases Nat.lt_or_ge j k with h1 | h1
        · exact HI.out j h1
        · rw [show j = k by omega]; exact hb
      have HX := Lib.hid hnext; clear hnext
      by_cases h0 : k = 0
      · have hz1 : decide (0 < k) = false := by simp; omega
        have hz2 : decide ((0 : Int) < (k : Int)) = false := by simp; omega
        have H0 := Lib.hid h0; clear h0
        go_wp2
        go_quiet ((go_at_call 101; exact quietS (l1In_any _ _ _)))
        go_wp2
        go_roundw
        case rel => exact ⟨k + 1, by omega, by go_num, HX.out (by unfold okFlow; rw [HG.out, hd, hq]; simp [H0.out]), HD.more _⟩
        case measure => simp [intOf]; omega
      · have hlt2 : k - 1 < l.length := by omega
        obtain ⟨b2, o2, e2, _, hc3, _⟩ := flow_at (hl.keep (HD.below _)) hlt2
        obtain ⟨rfl, rfl⟩ : b = b2 ∧ o = o2 := by simpa using e2
        have hz1 : decide (0 < k) = true := by simp; omega
        have hz2 : decide ((0 : Int) < (k : Int)) = true := by simp; omega
        have hi1 : (0 : Int) ≤ (k : Int) - 1 := by omega
        have hi2 : (k : Int) - 1 < (l.length : Int) := by omega
        have hi3 : ((k : Int) - 1).toNat = k - 1 := by omega
        have HG2 : Hid (l.getD (k - 1) (0, 0) = l[k - 1]) := getD_at _ _ _ hlt2
        by_cases hge : l[k - 1].1 < l[k].1
        · have hz3 : decide (l[k].1 ≤ l[k - 1].1) = false := by simp; omega
          go_wp2
          go_quiet ((go_at_call 101; exact quietS (l1In_any _ _ _)))
          go_wp2
          go_roundw
          case rel => exact ⟨k + 1, by omega, by go_num, HX.out (by unfold okFlow; rw [HG.out, HG2.out, hd, hq]; simp; exact .inr (by assumption)), HD.more _⟩
          case measure => simp [intOf]; omega
        · have hge2 : l[k].1 ≤ l[k - 1].1 := by omega
          have hz3 : decide (l[k].1 ≤ l[k - 1].1) = true := by simp; omega
          go_wp2
          go_quiet ((go_at_call 101; exact quietS (l1In_any _ _ _)))
          go_wp2
          go_ret
          exact ⟨ret_bool (areFlows_no hlt (by unfold okFlow; rw [HG.out, HG2.out, hd, hq]; simp; omega)).symm, HD.more _⟩
    · obtain rfl : k = l.length := by omega
      go_wp2
      go_ret
      exact ⟨ret_bool (areFlows_end HI.out).symm, HD⟩

set_option maxRecDepth 100000 in
set_option maxHeartbeats 1000000 in
theorem implAreFlows_any (A : Option Addr) (n c : Nat) (l : List Fl) (w : World) (hl : FlowsIn w A n l) :
    Calls Tryz.prog 55 #[.slice A n c] w fun e w' => e = .returned (.bool (areFlows l)) ∧ Below w.heap.size w w' := by
  have hn := hl.len
  obtain rfl := hl.1
  go_enter Tryz.func55, Tryz.ntmps55
  go_wp2
  go_loopw [7] (fun i wr => ∃ k : Nat, k ≤ l.length ∧ i = .int .i64 k ∧ Hid (∀ j < k, okFlow l j = true) ∧ Below w.heap.size w wr) (fun i _ => l.length - (intOf i).toNat)
  case atStart => exact ⟨0, by omega, rfl, fun j h => absurd h (by omega), Below.refl _ _⟩
  case round =>
    obtain ⟨k, hk, rfl, HI, HD⟩ := hrel
    by_cases hlt : k < l.length
    · obtain ⟨b, o, rfl, hb, hc1, hc2⟩ := flow_at (hl.keep HD) hlt
      have hsz := HD.size
      have HG : Hid (l.getD k (0, 0) = l[k]) := getD_at _ _ _ hlt
      cases hd : inB l[k].1 0 999
      · go_wp2
        go_quiet ((go_at_call 117; exact quietS (in_any _ _ _)))
        go_wp2
        go_ret
        exact ⟨ret_bool (areFlows_no hlt (by unfold okFlow; rw [HG.out, hd]; rfl)).symm, below_drewN (HD.alloc (by omega) _) _⟩
      cases hq : inB l[k].2 1 1000000000
      · go_wp2
        go_quiet ((go_at_call 117; exact quietS (in_any _ _ _)))
        go_wp2
        go_ret
        exact ⟨ret_bool (areFlows_no hlt (by unfold okFlow; rw [HG.out, hd, hq]; rfl)).symm, below_drewN (HD.alloc (by omega) _) _⟩
      have hnext : ∀ hb : okFlow l k = true, ∀ j < k + 1, okFlow l j = true := fun hb j hj => by
        rcases Nat.lt_or_ge j k with h1 | h1
        · exact HI.out j h1
        · rw [show j = k by omega]; exact hb
      have HX := Lib.hid hnext; clear hnext
      by_cases h0 : k = 0
      · have hz1 : decide (0 < k) = false := by simp; omega
        have hz2 : decide ((0 : Int) < (k : Int)) = false := by simp; omega
        have H0 := Lib.hid h0; clear h0
        go_wp2
        go_quiet ((go_at_call 117; exact quietS (in_any _ _ _)))
        go_wp2
        go_roundw
        case rel => exact ⟨k + 1, by omega, by go_num, HX.out (by unfold okFlow; rw [HG.out, hd, hq]; simp [H0.out]), below_drewN (HD.alloc (by omega) _) _⟩
        case measure => simp [intOf]; omega
      · have hlt2 : k - 1 < l.length := by omega
        obtain ⟨b2, o2, e2, _, hc3, _⟩ := flow_at (hl.keep HD) hlt2
        obtain ⟨rfl, rfl⟩ : b = b2 ∧ o = o2 := by simpa using e2
        have hz1 : decide (0 < k) = true := by simp; omega
        have hz2 : decide ((0 : Int) < (k : Int)) = true := by simp; omega
        have hi1 : (0 : Int) ≤ (k : Int) - 1 := by omega
        have hi2 : (k : Int) - 1 < (l.length : Int) := by omega
        have hi3 : ((k : Int) - 1).toNat = k - 1 := by omega
        have HG2 : Hid (l.getD (k - 1) (0, 0) = l[k - 1]) := getD_at _ _ _ hlt2
        have hc4 := World.cell?_alloc_lt wr (.cells #[.int .i64 l[k].1, .int .i64 l[k].2] 90) ⟨b, o + (k - 1) * 2, none⟩ hb
        rw [hc3] at hc4
        by_cases hge : l[k - 1].1 < l[k].1
        · have hz3 : decide (l[k].1 ≤ l[k - 1].1) = false := by simp; omega
          go_wp2
          go_quiet ((go_at_call 117; exact quietS (in_any _ _ _)))
          go_wp2
          go_roundw
          case rel => exact ⟨k + 1, by omega, by go_num, HX.out (by unfold okFlow; rw [HG.out, HG2.out, hd, hq]; simp; exact .inr (by assumption)), below_drewN (HD.alloc (by omega) _) _⟩
          case measure => simp [intOf]; omega
        · have hge2 : l[k].1 ≤ l[k - 1].1 := by omega
          have hz3 : decide (l[k].1 ≤ l[k - 1].1) = true := by simp; omega
          go_wp2
          go_quiet ((go_at_call 117; exact quietS (in_any _ _ _)))
          go_wp2
          go_ret
          exact ⟨ret_bool (areFlows_no hlt (by unfold okFlow; rw [HG.out, HG2.out, hd, hq]; simp; omega)).symm, below_drewN (HD.alloc (by omega) _) _⟩
    · obtain rfl : k = l.length := by omega
      go_wp2
      go_ret
      exact ⟨ret_bool (areFlows_end HI.out).symm, HD⟩
end Go.Proofs.YtlnkofnfgemfdaaGreat
