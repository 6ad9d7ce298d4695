/- Part 4 of the texts of this claim: Item: its cells, and the walks of the laws' own helpers on lists of it; Pick: its cells, and the walks of the laws' own helpers on lists of it. -/
import Derived.Test.YtlnkofnfgemfdaaGreatPi1
import Derived.StillTailTactics
/- Item: its cells, and the walks of the laws' own helpers on lists of it. -/
namespace Go.Proofs.YtlnkofnfgemfdaaGreat
open Go.RowKit

abbrev It := ByteArray × ByteArray × Int × Int × Int × Int × Int × Int
def itF : Flat It := ⟨fun f => [.string (f.1), .string (f.2.1), .int .i64 (f.2.2.1), .int .i64 (f.2.2.2.1), .int .i64 (f.2.2.2.2.1), .int .i64 (f.2.2.2.2.2.1), .int .i64 (f.2.2.2.2.2.2.1), .int .i64 (f.2.2.2.2.2.2.2)], 8, fun _ => rfl⟩
abbrev ItemsIn (w : World) (A : Option Addr) (n : Nat) (l : List It) : Prop := RowsIn itF w A n l
theorem item_at {w : World} {A : Option Addr} {n : Nat} {l : List It} (h : ItemsIn w A n l) {k : Nat} (hk : k < l.length) :
    ∃ b o, A = some ⟨b, o, none⟩ ∧ b < w.heap.size ∧ w.cell? ⟨b, o + k * 8, none⟩ = some (.string (l[k].1)) ∧ w.cell? ⟨b, o + k * 8 + 1, none⟩ = some (.string (l[k].2.1)) ∧ w.cell? ⟨b, o + k * 8 + 2, none⟩ = some (.int .i64 (l[k].2.2.1)) ∧ w.cell? ⟨b, o + k * 8 + 3, none⟩ = some (.int .i64 (l[k].2.2.2.1)) ∧ w.cell? ⟨b, o + k * 8 + 4, none⟩ = some (.int .i64 (l[k].2.2.2.2.1)) ∧ w.cell? ⟨b, o + k * 8 + 5, none⟩ = some (.int .i64 (l[k].2.2.2.2.2.1)) ∧ w.cell? ⟨b, o + k * 8 + 6, none⟩ = some (.int .i64 (l[k].2.2.2.2.2.2.1)) ∧ w.cell? ⟨b, o + k * 8 + 7, none⟩ = some (.int .i64 (l[k].2.2.2.2.2.2.2)) := by
  obtain ⟨b, o, e, hlt, hc⟩ := h.at_ hk
  exact ⟨b, o, e, hlt, hc 0 _ rfl, hc 1 _ rfl, hc 2 _ rfl, hc 3 _ rfl, hc 4 _ rfl, hc 5 _ rfl, hc 6 _ rfl, hc 7 _ rfl⟩
theorem itemInfo : (Tryz.prog.info? 81).map (fun i => (i.zero, i.size, i.bytes)) = some (some (.agg #[.string ByteArray.empty, .string ByteArray.empty, .int .i64 0, .int .i64 0, .int .i64 0, .int .i64 0, .int .i64 0, .int .i64 0]), 8, 80) := by kernel_rfl
theorem itemElem : ElemOk itF 39 81 := by
  obtain ⟨i, h1, h2, h3, h4⟩ := info_parts itemInfo
  exact ⟨i, _, 80, Tryz.underlying39, h1, h2, h3, h4, rfl, by decide, by omega⟩
theorem toItem_any (x0 : ByteArray) (x1 : ByteArray) (x2 : Int) (x3 : Int) (x4 : Int) (x5 : Int) (x6 : Int) (x7 : Int) (w : World) : Calls Tryz.prog 108 #[.agg #[.string (x0), .string (x1), .int .i64 (x2), .int .i64 (x3), .int .i64 (x4), .int .i64 (x5), .int .i64 (x6), .int .i64 (x7)]] w fun e w' => e = .returned (.agg #[.string (x0), .string (x1), .int .i64 (x2), .int .i64 (x3), .int .i64 (x4), .int .i64 (x5), .int .i64 (x6), .int .i64 (x7)]) ∧ Below w.heap.size w w' := by
  go_enter Tryz.func108, Tryz.ntmps108
  go_wp2
  refine bodyPost_ret (v := .agg #[.string (x0), .string (x1), .int .i64 (x2), .int .i64 (x3), .int .i64 (x4), .int .i64 (x5), .int .i64 (x6), .int .i64 (x7)]) (by simp [results, Tryz.results108, go_sem]) rfl ⟨rfl, ?_⟩
  exact (((Below.refl _ _).alloc (Nat.le_refl _) _).alloc (by simp) _).alloc (by simp; omega) _
set_option maxRecDepth 100000 in
set_option maxHeartbeats 2000000 in
theorem toItemS_any (A : Option Addr) (n c : Nat) (l : List It) (w : World) (hl : ItemsIn w A n l) :
    Calls Tryz.prog 46 #[.slice A n c] w fun e w' => ∃ A', e = .returned (.slice A' n n) ∧ OwnRows itF 81 w' w.heap.size A' n n l ∧ Below w.heap.size w w' := by
  obtain ⟨i0, hi0, hz0, hz1, hz2⟩ := info_parts itemInfo
  have hn := hl.len
  obtain rfl := hl.1
  go_enter Tryz.func46, Tryz.ntmps46
  go_wp2_with (at_make; refine wpList_make_full _ rfl (.tmp 6) (.tmp 6) _ rfl w.heap.size 81 i0 _ 8 Tryz.underlying39 hi0 hz0 hz1 .i64 .i64 _ _ l.length rfl rfl rfl rfl (by rw [hz2]; omega) (by unfold maxLen; omega) (Nat.le_refl _) ?_; intro w1 hown hg)
  have hb1 := below_none hg
  generalize hzs : (madeCells (Value.agg #[.string ByteArray.empty, .string ByteArray.empty, .int .i64 0, .int .i64 0, .int .i64 0, .int .i64 0, .int .i64 0, .int .i64 0]).cells (l.length * 8)).toList = zs at hown
  have hzl : zs.length = (l.flatMap itF.enc).length := by rw [flatMap_len itF.enc 8 itF.len, hown.1]
  clear hg hzs
  have HZ := Lib.hid hzl; clear hzl
  have hown1 : w1.ownsRow w.heap.size 81 8 (.slice (some ⟨w.heap.size, 0, none⟩) l.length l.length) l.length (fillC zs (l.flatMap itF.enc) 0) := by
    rw [fillC_zero]; exact hown
  clear hown
  go_loopw [4] (fun i wr => ∃ k : Nat, k ≤ l.length ∧ i = .int .i64 k ∧ wr.ownsRow w.heap.size 81 8 (.slice (some ⟨w.heap.size, 0, none⟩) l.length l.length) l.length (fillC zs (l.flatMap itF.enc) (k * 8)) ∧ Below w.heap.size w wr) (fun i _ => l.length - (intOf i).toNat)
  case atStart => exact ⟨0, by omega, rfl, by rw [Nat.zero_mul]; exact hown1, hb1⟩
  case round =>
    obtain ⟨k, hk, rfl, hown, hb⟩ := hrel
    by_cases hlt : k < l.length
    · obtain ⟨b, o, rfl, _, hc0, hc1, hc2, hc3, hc4, hc5, hc6, hc7⟩ := item_at (hl.keep hb) hlt
      go_wp2_with fail
      refine (toItem_any _ _ _ _ _ _ _ _ _).mono ?_
      rintro e w2 ⟨rfl, hb2⟩
      have ho := own_keep hown hb2
      have hlen : (l.flatMap itF.enc).length = l.length * 8 := flatMap_len itF.enc 8 itF.len l
      have hz := HZ.out
      have e0 : (l.flatMap itF.enc)[k * 8]? = some (.string (l[k].1)) := flatMap_at itF.enc 8 itF.len l k 0 hlt (by omega)
      obtain ⟨u0, c0, f0⟩ := own_cell ho (k * 8) (by omega)
      have e1 : (l.flatMap itF.enc)[k * 8 + 1]? = some (.string (l[k].2.1)) := flatMap_at itF.enc 8 itF.len l k 1 hlt (by omega)
      obtain ⟨u1, c1, f1⟩ := own_cell ho (k * 8 + 1) (by omega)
      have e2 : (l.flatMap itF.enc)[k * 8 + 2]? = some (.int .i64 (l[k].2.2.1)) := flatMap_at itF.enc 8 itF.len l k 2 hlt (by omega)
      obtain ⟨u2, c2, f2⟩ := own_cell ho (k * 8 + 2) (by omega)
      have e3 : (l.flatMap itF.enc)[k * 8 + 3]? = some (.int .i64 (l[k].2.2.2.1)) := flatMap_at itF.enc 8 itF.len l k 3 hlt (by omega)
      obtain ⟨u3, c3, f3⟩ := own_cell ho (k * 8 + 3) (by omega)
      have e4 : (l.flatMap itF.enc)[k * 8 + 4]? = some (.int .i64 (l[k].2.2.2.2.1)) := flatMap_at itF.enc 8 itF.len l k 4 hlt (by omega)
      obtain ⟨u4, c4, f4⟩ := own_cell ho (k * 8 + 4) (by omega)
      have e5 : (l.flatMap itF.enc)[k * 8 + 5]? = some (.int .i64 (l[k].2.2.2.2.2.1)) := flatMap_at itF.enc 8 itF.len l k 5 hlt (by omega)
      obtain ⟨u5, c5, f5⟩ := own_cell ho (k * 8 + 5) (by omega)
      have e6 : (l.flatMap itF.enc)[k * 8 + 6]? = some (.int .i64 (l[k].2.2.2.2.2.2.1)) := flatMap_at itF.enc 8 itF.len l k 6 hlt (by omega)
      obtain ⟨u6, c6, f6⟩ := own_cell ho (k * 8 + 6) (by omega)
      have e7 : (l.flatMap itF.enc)[k * 8 + 7]? = some (.int .i64 (l[k].2.2.2.2.2.2.2)) := flatMap_at itF.enc 8 itF.len l k 7 hlt (by omega)
      obtain ⟨u7, c7, f7⟩ := own_cell ho (k * 8 + 7) (by omega)
      have s0 := (ho.stored (k * 8) (.string (l[k].1))).1
      rw [fillC_set _ _ _ _ e0 hz] at s0
      have s1 := (s0.stored (k * 8 + 1) (.string (l[k].2.1))).1
      rw [fillC_set _ _ _ _ e1 hz] at s1
      have s2 := (s1.stored (k * 8 + 2) (.int .i64 (l[k].2.2.1))).1
      rw [fillC_set _ _ _ _ e2 hz] at s2
      have s3 := (s2.stored (k * 8 + 3) (.int .i64 (l[k].2.2.2.1))).1
      rw [fillC_set _ _ _ _ e3 hz] at s3
      have s4 := (s3.stored (k * 8 + 4) (.int .i64 (l[k].2.2.2.2.1))).1
      rw [fillC_set _ _ _ _ e4 hz] at s4
      have s5 := (s4.stored (k * 8 + 5) (.int .i64 (l[k].2.2.2.2.2.1))).1
      rw [fillC_set _ _ _ _ e5 hz] at s5
      have s6 := (s5.stored (k * 8 + 6) (.int .i64 (l[k].2.2.2.2.2.2.1))).1
      rw [fillC_set _ _ _ _ e6 hz] at s6
      have s7 := (s6.stored (k * 8 + 7) (.int .i64 (l[k].2.2.2.2.2.2.2))).1
      rw [fillC_set _ _ _ _ e7 hz] at s7
      have hb3 : Below w.heap.size w w2 := hb.trans (hb2.mono hb.size)
      have S2 := Lib.hid s7
      clear ho e0 e1 e2 e3 e4 e5 e6 e7 s0 s1 s2 s3 s4 s5 s6 s7 hown hz hlen hb hb2
      go_wp2
      go_roundw
      case rel => exact ⟨k + 1, by omega, by go_num, by rw [show (k + 1) * 8 = k * 8 + 1 + 1 + 1 + 1 + 1 + 1 + 1 + 1 by omega]; exact S2.out, ((((((((hb3.setCell (Nat.le_refl _) _).setCell (Nat.le_refl _) _).setCell (Nat.le_refl _) _).setCell (Nat.le_refl _) _).setCell (Nat.le_refl _) _).setCell (Nat.le_refl _) _).setCell (Nat.le_refl _) _).setCell (Nat.le_refl _) _)⟩
      case measure => simp [intOf]; omega
    · obtain rfl : k = l.length := by omega
      go_wp2
      go_ret
      refine ⟨_, rfl, ⟨rfl, ?_⟩, hb⟩
      have h2 : (l.flatMap itF.enc).length = l.length * 8 := flatMap_len itF.enc 8 itF.len l
      rw [← h2, fillC_all _ _ HZ.out] at hown
      exact hown
theorem eqItem_yes (x0 : ByteArray) (x1 : ByteArray) (x2 : Int) (x3 : Int) (x4 : Int) (x5 : Int) (x6 : Int) (x7 : Int) (w : World) : Calls Tryz.prog 124 #[.agg #[.string (x0), .string (x1), .int .i64 (x2), .int .i64 (x3), .int .i64 (x4), .int .i64 (x5), .int .i64 (x6), .int .i64 (x7)], .agg #[.string (x0), .string (x1), .int .i64 (x2), .int .i64 (x3), .int .i64 (x4), .int .i64 (x5), .int .i64 (x6), .int .i64 (x7)]] w fun e w' => e = .returned (.bool true) ∧ Below w.heap.size w w' := by
  go_enter Tryz.func124, Tryz.ntmps124
  go_wp2
  go_ret
  exact ⟨rfl, ((Below.refl _ _).alloc (Nat.le_refl _) _).alloc (by simp) _⟩
set_option maxRecDepth 100000 in
set_option maxHeartbeats 2000000 in
theorem eqItemS_yes (A B : Option Addr) (n m c d : Nat) (l : List It) (w : World) (ha : ItemsIn w A n l) (hb : ItemsIn w B m l) :
    Calls Tryz.prog 63 #[.slice A n c, .slice B m d] w fun e w' => e = .returned (.bool true) ∧ Below w.heap.size w w' := by
  have hn := ha.len
  obtain rfl := ha.1
  obtain rfl := hb.1
  go_enter Tryz.func63, Tryz.ntmps63
  go_wp2
  go_loopw [5] (fun i wr => ∃ k : Nat, k ≤ l.length ∧ i = .int .i64 k ∧ Below w.heap.size w wr) (fun i _ => l.length - (intOf i).toNat)
  case atStart => exact ⟨0, by omega, rfl, Below.refl _ _⟩
  case round =>
    obtain ⟨k, hk, rfl, HD⟩ := hrel
    by_cases hlt : k < l.length
    · obtain ⟨b1, o1, rfl, _, hc0, hc1, hc2, hc3, hc4, hc5, hc6, hc7⟩ := item_at (ha.keep HD) hlt
      obtain ⟨b2, o2, rfl, _, hd0, hd1, hd2, hd3, hd4, hd5, hd6, hd7⟩ := item_at (hb.keep HD) hlt
      go_wp2
      go_still_tail 8, (by kernel_rfl)
      change wpList _ _ _ _ _ wr.drew
      have HE : Below w.heap.size w wr.drew := HD.drew
      generalize wr.drew = w2 at *
      go_wp2_with (go_at_call 124; refine (eqItem_yes _ _ _ _ _ _ _ _ _).mono ?_; rintro e w3 ⟨rfl, hb3⟩)
      go_roundw
      case rel => exact ⟨k + 1, by omega, by go_num, HE.trans (hb3.mono HE.size)⟩
      case measure => simp [intOf]; omega
    · obtain rfl : k = l.length := by omega
      go_wp2
      go_ret
      exact ⟨rfl, HD⟩
def okIt (x : It) : Prop := x.1.size ≤ 9223372036854775807 ∧ x.2.1.size ≤ 9223372036854775807
set_option maxRecDepth 100000 in
set_option maxHeartbeats 1000000 in
theorem szItem_any (x0 : ByteArray) (x1 : ByteArray) (x2 : Int) (x3 : Int) (x4 : Int) (x5 : Int) (x6 : Int) (x7 : Int) (left : Int) (w : World) (h0 : 0 ≤ left) (h1 : left ≤ 1048576) (hs0 : x0.size ≤ 9223372036854775807) (hs1 : x1.size ≤ 9223372036854775807) :
    Calls Tryz.prog 92 #[.agg #[.string (x0), .string (x1), .int .i64 (x2), .int .i64 (x3), .int .i64 (x4), .int .i64 (x5), .int .i64 (x6), .int .i64 (x7)], .int .i64 left] w fun e w' => ∃ r : Int, e = .returned (.int .i64 r) ∧ -1 ≤ r ∧ r ≤ left ∧ Below w.heap.size w w' := by
  go_enter Tryz.func92, Tryz.ntmps92
  go_wp2
  all_goals
    go_ret
    exact ⟨_, rfl, by omega, by omega, below_alloc _ _⟩
theorem szItemS_big (A : Option Addr) (n c : Nat) (left : Int) (w : World) (h : left < (n : Int)) (h0 : 0 ≤ left) (hn : n ≤ 9223372036854775807) :
    Calls Tryz.prog 31 #[.slice A n c, .int .i64 left] w fun e w' => e = .returned (.int .i64 (-1)) ∧ w = w' := by
  go_enter Tryz.func31, Tryz.ntmps31
  go_wp2
  go_ret
  exact ⟨rfl, rfl⟩
set_option maxRecDepth 100000 in
set_option maxHeartbeats 2000000 in
theorem szItemS_any (A : Option Addr) (n c : Nat) (l : List It) (left : Int) (w : World) (h : (n : Int) ≤ left) (hl : left ≤ 1048576) (ha : ItemsIn w A n l) (hok : ∀ x ∈ l, okIt x) :
    Calls Tryz.prog 31 #[.slice A n c, .int .i64 left] w fun e w' => ∃ r : Int, e = .returned (.int .i64 r) ∧ -1 ≤ r ∧ r ≤ 1048576 ∧ Below w.heap.size w w' := by
  have hn := ha.len
  obtain rfl := ha.1
  have HO := Lib.hid hok
  clear hok
  go_enter Tryz.func31, Tryz.ntmps31
  go_wp2
  go_loopw [1, 5] (fun r i wr => ∃ (k : Nat) (x : Int), k ≤ l.length ∧ i = .int .i64 k ∧ r = .int .i64 x ∧ 0 ≤ x ∧ x ≤ 1048576 ∧ Below w.heap.size w wr) (fun _ i _ => l.length - (intOf i).toNat)
  case atStart => exact ⟨0, _, by omega, rfl, rfl, by omega, by omega, Below.refl _ _⟩
  case round =>
    obtain ⟨k, x, hk, rfl, rfl, x0, x1, HR⟩ := hrel
    by_cases hlt : k < l.length
    · obtain ⟨b, o, rfl, _, hc0, hc1, hc2, hc3, hc4, hc5, hc6, hc7⟩ := item_at (ha.keep HR) hlt
      have hs := HO.out _ (List.getElem_mem hlt)
      unfold okIt at hs
      obtain ⟨hs0, hs1⟩ := hs
      go_wp2_with fail
      refine (szItem_any _ _ _ _ _ _ _ _ _ _ x0 x1 hs0 hs1).mono ?_
      rintro e v ⟨r, rfl, r0, r1, hb⟩
      by_cases hneg : r < 0
      · go_wp2_with fail
        go_ret
        exact ⟨-1, rfl, by omega, by omega, below_on HR hb⟩
      · go_wp2_with fail
        go_roundw
        case rel => exact ⟨k + 1, r, by omega, by go_num, rfl, by omega, by omega, below_on HR hb⟩
        case measure => simp [intOf]; omega
    · obtain rfl : k = l.length := by omega
      go_wp2
      go_ret
      exact ⟨x, rfl, by omega, by omega, HR⟩
set_option maxRecDepth 100000 in
set_option maxHeartbeats 4000000 in
/-- The marks on arguments: what they are is not asked. -/
theorem markItemS_any (A : Option Addr) (n c lo hi : Nat) (l : List It) (k0 : Int) (w : World) (ha : RowsAt itF 81 w lo hi A n c l) (hk0 : 1 ≤ k0) (hk1 : k0 ≤ 2000000000000000000) (hn : l.length ≤ 16777216) :
    Calls Tryz.prog 70 #[.slice A n c, .int .i64 k0] w fun e w' => e = .returned (.int .i64 (k0 + 8 * l.length)) ∧ True ∧ Only lo hi w w' := by
  obtain rfl := ha.1
  have HLN := Lib.hid (flatMap_len itF.enc 8 itF.len l)
  obtain ⟨_, ⟨hown, hhi, hlt⟩⟩ := ha
  have HT := Lib.hid hlt
  clear hlt
  go_enter Tryz.func70, Tryz.ntmps70
  go_wp2
  go_loopw [1, 5] (fun m i wr => ∃ (k : Nat) (xs : List Value), k ≤ l.length ∧ i = .int .i64 k ∧ m = .int .i64 (k0 + 8 * k) ∧ wr.ownsRow lo 81 8 (.slice A l.length c) l.length xs ∧ Only lo hi w wr) (fun _ i _ => l.length - (intOf i).toNat)
  case atStart => exact ⟨0, _, by omega, rfl, by go_num, hown, Only.refl _ _ _⟩
  case round =>
    clear hown
    obtain ⟨k, xs, hk, rfl, rfl, ho, HO⟩ := hrel
    by_cases hlt : k < l.length
    · have hA : ∃ g, A = some ⟨g, 0, none⟩ := by
        rcases ho.2 with ⟨hv, h0⟩ | ⟨g, cap, cur, hv, _⟩
        · omega
        · exact ⟨g, by injection hv⟩
      obtain ⟨g, rfl⟩ := hA
      have hgl : lo ≤ g ∧ g < hi := ⟨(own_lt ho _ rfl).1, HT.out _ rfl⟩
      have hgo : ∀ x, (Value.slice (some ⟨g, 0, none⟩) l.length c).ownBlock = some x → lo ≤ x ∧ x < hi := fun x hx => by injection hx with hx; subst hx; exact hgl
      have HGO := Lib.hid hgo
      clear hgo
      go_wp2_with fail
      refine (markText_some _ _ (by omega) (by omega)).mono ?_
      rintro e v0 ⟨t0, rfl, hb0⟩
      have hq0 := own_keep ho hb0
      replace HO := HO.trans (Only.of_below hb0)
      clear hb0
      obtain ⟨u0, c0, f0⟩ := own_cell hq0 (k * 8) (by omega)
      have s0 := (hq0.stored (k * 8) (.string t0))
      replace HO := HO.trans (Only.of_grown s0.2 HGO.out)
      go_wp2_with fail
      refine (markText_some _ _ (by omega) (by omega)).mono ?_
      rintro e v1 ⟨t1, rfl, hb1⟩
      have hq1 := own_keep s0.1 hb1
      replace HO := HO.trans (Only.of_below hb1)
      clear hb1
      obtain ⟨u1, c1, f1⟩ := own_cell hq1 (k * 8 + 1) (by omega)
      obtain ⟨u2, c2, f2⟩ := own_cell hq1 (k * 8 + 2) (by omega)
      obtain ⟨u3, c3, f3⟩ := own_cell hq1 (k * 8 + 3) (by omega)
      obtain ⟨u4, c4, f4⟩ := own_cell hq1 (k * 8 + 4) (by omega)
      obtain ⟨u5, c5, f5⟩ := own_cell hq1 (k * 8 + 5) (by omega)
      obtain ⟨u6, c6, f6⟩ := own_cell hq1 (k * 8 + 6) (by omega)
      obtain ⟨u7, c7, f7⟩ := own_cell hq1 (k * 8 + 7) (by omega)
      have s1 := (hq1.stored (k * 8 + 1) (.string t1))
      replace HO := HO.trans (Only.of_grown s1.2 HGO.out)
      have s2 := (s1.1.stored (k * 8 + 2) (.int .i64 (k0 + 8 * k + 1 + 1)))
      replace HO := HO.trans (Only.of_grown s2.2 HGO.out)
      have s3 := (s2.1.stored (k * 8 + 3) (.int .i64 (k0 + 8 * k + 1 + 1 + 1)))
      replace HO := HO.trans (Only.of_grown s3.2 HGO.out)
      have s4 := (s3.1.stored (k * 8 + 4) (.int .i64 (k0 + 8 * k + 1 + 1 + 1 + 1)))
      replace HO := HO.trans (Only.of_grown s4.2 HGO.out)
      have s5 := (s4.1.stored (k * 8 + 5) (.int .i64 (k0 + 8 * k + 1 + 1 + 1 + 1 + 1)))
      replace HO := HO.trans (Only.of_grown s5.2 HGO.out)
      have s6 := (s5.1.stored (k * 8 + 6) (.int .i64 (k0 + 8 * k + 1 + 1 + 1 + 1 + 1 + 1)))
      replace HO := HO.trans (Only.of_grown s6.2 HGO.out)
      have s7 := (s6.1.stored (k * 8 + 7) (.int .i64 (k0 + 8 * k + 1 + 1 + 1 + 1 + 1 + 1 + 1)))
      replace HO := HO.trans (Only.of_grown s7.2 HGO.out)
      have S2 := Lib.hid s7.1
      go_wp2
      go_roundw
      case rel => exact ⟨k + 1, _, by omega, by go_num, by go_num, S2.out, HO⟩
      case measure => simp [intOf]; omega
    · obtain rfl : k = l.length := by omega
      go_wp2
      go_ret
      exact ⟨rfl, trivial, HO⟩
end Go.Proofs.YtlnkofnfgemfdaaGreat
/- Pick: its cells, and the walks of the laws' own helpers on lists of it. -/
namespace Go.Proofs.YtlnkofnfgemfdaaGreat
open Go.RowKit

abbrev Pk := ByteArray × ByteArray
def pkF : Flat Pk := ⟨fun f => [.string (f.1), .string (f.2)], 2, fun _ => rfl⟩
abbrev PicksIn (w : World) (A : Option Addr) (n : Nat) (l : List Pk) : Prop := RowsIn pkF w A n l
theorem pick_at {w : World} {A : Option Addr} {n : Nat} {l : List Pk} (h : PicksIn w A n l) {k : Nat} (hk : k < l.length) :
    ∃ b o, A = some ⟨b, o, none⟩ ∧ b < w.heap.size ∧ w.cell? ⟨b, o + k * 2, none⟩ = some (.string (l[k].1)) ∧ w.cell? ⟨b, o + k * 2 + 1, none⟩ = some (.string (l[k].2)) := by
  obtain ⟨b, o, e, hlt, hc⟩ := h.at_ hk
  exact ⟨b, o, e, hlt, hc 0 _ rfl, hc 1 _ rfl⟩
theorem pickInfo : (Tryz.prog.info? 166).map (fun i => (i.zero, i.size, i.bytes)) = some (some (.agg #[.string ByteArray.empty, .string ByteArray.empty]), 2, 32) := by kernel_rfl
theorem pickElem : ElemOk pkF 44 166 := by
  obtain ⟨i, h1, h2, h3, h4⟩ := info_parts pickInfo
  exact ⟨i, _, 32, Tryz.underlying44, h1, h2, h3, h4, rfl, by decide, by omega⟩
theorem toPick_any (x0 : ByteArray) (x1 : ByteArray) (w : World) : Calls Tryz.prog 112 #[.agg #[.string (x0), .string (x1)]] w fun e w' => e = .returned (.agg #[.string (x0), .string (x1)]) ∧ Below w.heap.size w w' := by
  go_enter Tryz.func112, Tryz.ntmps112
  go_wp2
  refine bodyPost_ret (v := .agg #[.string (x0), .string (x1)]) (by simp [results, Tryz.results112, go_sem]) rfl ⟨rfl, ?_⟩
  exact (((Below.refl _ _).alloc (Nat.le_refl _) _).alloc (by simp) _).alloc (by simp; omega) _
set_option maxRecDepth 100000 in
set_option maxHeartbeats 2000000 in
theorem toPickS_any (A : Option Addr) (n c : Nat) (l : List Pk) (w : World) (hl : PicksIn w A n l) :
    Calls Tryz.prog 49 #[.slice A n c] w fun e w' => ∃ A', e = .returned (.slice A' n n) ∧ OwnRows pkF 166 w' w.heap.size A' n n l ∧ Below w.heap.size w w' := by
  obtain ⟨i0, hi0, hz0, hz1, hz2⟩ := info_parts pickInfo
  have hn := hl.len
  obtain rfl := hl.1
  go_enter Tryz.func49, Tryz.ntmps49
  go_wp2_with (at_make; refine wpList_make_full _ rfl (.tmp 6) (.tmp 6) _ rfl w.heap.size 166 i0 _ 2 Tryz.underlying44 hi0 hz0 hz1 .i64 .i64 _ _ l.length rfl rfl rfl rfl (by rw [hz2]; omega) (by unfold maxLen; omega) (Nat.le_refl _) ?_; intro w1 hown hg)
  have hb1 := below_none hg
  generalize hzs : (madeCells (Value.agg #[.string ByteArray.empty, .string ByteArray.empty]).cells (l.length * 2)).toList = zs at hown
  have hzl : zs.length = (l.flatMap pkF.enc).length := by rw [flatMap_len pkF.enc 2 pkF.len, hown.1]
  clear hg hzs
  have HZ := Lib.hid hzl; clear hzl
  have hown1 : w1.ownsRow w.heap.size 166 2 (.slice (some ⟨w.heap.size, 0, none⟩) l.length l.length) l.length (fillC zs (l.flatMap pkF.enc) 0) := by
    rw [fillC_zero]; exact hown
  clear hown
  go_loopw [4] (fun i wr => ∃ k : Nat, k ≤ l.length ∧ i = .int .i64 k ∧ wr.ownsRow w.heap.size 166 2 (.slice (some ⟨w.heap.size, 0, none⟩) l.length l.length) l.length (fillC zs (l.flatMap pkF.enc) (k * 2)) ∧ Below w.heap.size w wr) (fun i _ => l.length - (intOf i).toNat)
  case atStart => exact ⟨0, by omega, rfl, by rw [Nat.zero_mul]; exact hown1, hb1⟩
  case round =>
    obtain ⟨k, hk, rfl, hown, hb⟩ := hrel
    by_cases hlt : k < l.length
    · obtain ⟨b, o, rfl, _, hc0, hc1⟩ := pick_at (hl.keep hb) hlt
      go_wp2_with fail
      refine (toPick_any _ _ _).mono ?_
      rintro e w2 ⟨rfl, hb2⟩
      have ho := own_keep hown hb2
      have hlen : (l.flatMap pkF.enc).length = l.length * 2 := flatMap_len pkF.enc 2 pkF.len l
      have hz := HZ.out
      have e0 : (l.flatMap pkF.enc)[k * 2]? = some (.string (l[k].1)) := flatMap_at pkF.enc 2 pkF.len l k 0 hlt (by omega)
      obtain ⟨u0, c0, f0⟩ := own_cell ho (k * 2) (by omega)
      have e1 : (l.flatMap pkF.enc)[k * 2 + 1]? = some (.string (l[k].2)) := flatMap_at pkF.enc 2 pkF.len l k 1 hlt (by omega)
      obtain ⟨u1, c1, f1⟩ := own_cell ho (k * 2 + 1) (by omega)
      have s0 := (ho.stored (k * 2) (.string (l[k].1))).1
      rw [fillC_set _ _ _ _ e0 hz] at s0
      have s1 := (s0.stored (k * 2 + 1) (.string (l[k].2))).1
      rw [fillC_set _ _ _ _ e1 hz] at s1
      have hb3 : Below w.heap.size w w2 := hb.trans (hb2.mono hb.size)
      have S2 := Lib.hid s1
      clear ho e0 e1 s0 s1 hown hz hlen hb hb2
      go_wp2
      go_roundw
      case rel => exact ⟨k + 1, by omega, by go_num, by rw [show (k + 1) * 2 = k * 2 + 1 + 1 by omega]; exact S2.out, ((hb3.setCell (Nat.le_refl _) _).setCell (Nat.le_refl _) _)⟩
      case measure => simp [intOf]; omega
    · obtain rfl : k = l.length := by omega
      go_wp2
      go_ret
      refine ⟨_, rfl, ⟨rfl, ?_⟩, hb⟩
      have h2 : (l.flatMap pkF.enc).length = l.length * 2 := flatMap_len pkF.enc 2 pkF.len l
      rw [← h2, fillC_all _ _ HZ.out] at hown
      exact hown
theorem eqPick_yes (x0 : ByteArray) (x1 : ByteArray) (w : World) : Calls Tryz.prog 128 #[.agg #[.string (x0), .string (x1)], .agg #[.string (x0), .string (x1)]] w fun e w' => e = .returned (.bool true) ∧ Below w.heap.size w w' := by
  go_enter Tryz.func128, Tryz.ntmps128
  go_wp2
  go_ret
  exact ⟨rfl, ((Below.refl _ _).alloc (Nat.le_refl _) _).alloc (by simp) _⟩
set_option maxRecDepth 100000 in
set_option maxHeartbeats 2000000 in
theorem eqPickS_yes (A B : Option Addr) (n m c d : Nat) (l : List Pk) (w : World) (ha : PicksIn w A n l) (hb : PicksIn w B m l) :
    Calls Tryz.prog 66 #[.slice A n c, .slice B m d] w fun e w' => e = .returned (.bool true) ∧ Below w.heap.size w w' := by
  have hn := ha.len
  obtain rfl := ha.1
  obtain rfl := hb.1
  go_enter Tryz.func66, Tryz.ntmps66
  go_wp2
  go_loopw [5] (fun i wr => ∃ k : Nat, k ≤ l.length ∧ i = .int .i64 k ∧ Below w.heap.size w wr) (fun i _ => l.length - (intOf i).toNat)
  case atStart => exact ⟨0, by omega, rfl, Below.refl _ _⟩
  case round =>
    obtain ⟨k, hk, rfl, HD⟩ := hrel
    by_cases hlt : k < l.length
    · obtain ⟨b1, o1, rfl, _, hc0, hc1⟩ := pick_at (ha.keep HD) hlt
      obtain ⟨b2, o2, rfl, _, hd0, hd1⟩ := pick_at (hb.keep HD) hlt
      go_wp2
      go_still_tail 8, (by kernel_rfl)
      change wpList _ _ _ _ _ wr.drew
      have HE : Below w.heap.size w wr.drew := HD.drew
      generalize wr.drew = w2 at *
      go_wp2_with (go_at_call 128; refine (eqPick_yes _ _ _).mono ?_; rintro e w3 ⟨rfl, hb3⟩)
      go_roundw
      case rel => exact ⟨k + 1, by omega, by go_num, HE.trans (hb3.mono HE.size)⟩
      case measure => simp [intOf]; omega
    · obtain rfl : k = l.length := by omega
      go_wp2
      go_ret
      exact ⟨rfl, HD⟩
def okPk (x : Pk) : Prop := x.1.size ≤ 9223372036854775807 ∧ x.2.size ≤ 9223372036854775807
set_option maxRecDepth 100000 in
set_option maxHeartbeats 1000000 in
theorem szPick_any (x0 : ByteArray) (x1 : ByteArray) (left : Int) (w : World) (h0 : 0 ≤ left) (h1 : left ≤ 1048576) (hs0 : x0.size ≤ 9223372036854775807) (hs1 : x1.size ≤ 9223372036854775807) :
    Calls Tryz.prog 96 #[.agg #[.string (x0), .string (x1)], .int .i64 left] w fun e w' => ∃ r : Int, e = .returned (.int .i64 r) ∧ -1 ≤ r ∧ r ≤ left ∧ Below w.heap.size w w' := by
  go_enter Tryz.func96, Tryz.ntmps96
  go_wp2
  all_goals
    go_ret
    exact ⟨_, rfl, by omega, by omega, below_alloc _ _⟩
theorem szPickS_big (A : Option Addr) (n c : Nat) (left : Int) (w : World) (h : left < (n : Int)) (h0 : 0 ≤ left) (hn : n ≤ 9223372036854775807) :
    Calls Tryz.prog 34 #[.slice A n c, .int .i64 left] w fun e w' => e = .returned (.int .i64 (-1)) ∧ w = w' := by
  go_enter Tryz.func34, Tryz.ntmps34
  go_wp2
  go_ret
  exact ⟨rfl, rfl⟩
set_option maxRecDepth 100000 in
set_option maxHeartbeats 2000000 in
theorem szPickS_any (A : Option Addr) (n c : Nat) (l : List Pk) (left : Int) (w : World) (h : (n : Int) ≤ left) (hl : left ≤ 1048576) (ha : PicksIn w A n l) (hok : ∀ x ∈ l, okPk x) :
    Calls Tryz.prog 34 #[.slice A n c, .int .i64 left] w fun e w' => ∃ r : Int, e = .returned (.int .i64 r) ∧ -1 ≤ r ∧ r ≤ 1048576 ∧ Below w.heap.size w w' := by
  have hn := ha.len
  obtain rfl := ha.1
  have HO := Lib.hid hok
  clear hok
  go_enter Tryz.func34, Tryz.ntmps34
  go_wp2
  go_loopw [1, 5] (fun r i wr => ∃ (k : Nat) (x : Int), k ≤ l.length ∧ i = .int .i64 k ∧ r = .int .i64 x ∧ 0 ≤ x ∧ x ≤ 1048576 ∧ Below w.heap.size w wr) (fun _ i _ => l.length - (intOf i).toNat)
  case atStart => exact ⟨0, _, by omega, rfl, rfl, by omega, by omega, Below.refl _ _⟩
  case round =>
    obtain ⟨k, x, hk, rfl, rfl, x0, x1, HR⟩ := hrel
    by_cases hlt : k < l.length
    · obtain ⟨b, o, rfl, _, hc0, hc1⟩ := pick_at (ha.keep HR) hlt
      have hs := HO.out _ (List.getElem_mem hlt)
      unfold okPk at hs
      obtain ⟨hs0, hs1⟩ := hs
      go_wp2_with fail
      refine (szPick_any _ _ _ _ x0 x1 hs0 hs1).mono ?_
      rintro e v ⟨r, rfl, r0, r1, hb⟩
      by_cases hneg : r < 0
      · go_wp2_with fail
        go_ret
        exact ⟨-1, rfl, by omega, by omega, below_on HR hb⟩
      · go_wp2_with fail
        go_roundw
        case rel => exact ⟨k + 1, r, by omega, by go_num, rfl, by omega, by omega, below_on HR hb⟩
        case measure => simp [intOf]; omega
    · obtain rfl : k = l.length := by omega
      go_wp2
      go_ret
      exact ⟨x, rfl, by omega, by omega, HR⟩
set_option maxRecDepth 100000 in
set_option maxHeartbeats 4000000 in
/-- The marks on arguments: what they are is not asked. -/
theorem markPickS_any (A : Option Addr) (n c lo hi : Nat) (l : List Pk) (k0 : Int) (w : World) (ha : RowsAt pkF 166 w lo hi A n c l) (hk0 : 1 ≤ k0) (hk1 : k0 ≤ 2000000000000000000) (hn : l.length ≤ 16777216) :
    Calls Tryz.prog 73 #[.slice A n c, .int .i64 k0] w fun e w' => e = .returned (.int .i64 (k0 + 2 * l.length)) ∧ True ∧ Only lo hi w w' := by
  obtain rfl := ha.1
  have HLN := Lib.hid (flatMap_len pkF.enc 2 pkF.len l)
  obtain ⟨_, ⟨hown, hhi, hlt⟩⟩ := ha
  have HT := Lib.hid hlt
  clear hlt
  go_enter Tryz.func73, Tryz.ntmps73
  go_wp2
  go_loopw [1, 5] (fun m i wr => ∃ (k : Nat) (xs : List Value), k ≤ l.length ∧ i = .int .i64 k ∧ m = .int .i64 (k0 + 2 * k) ∧ wr.ownsRow lo 166 2 (.slice A l.length c) l.length xs ∧ Only lo hi w wr) (fun _ i _ => l.length - (intOf i).toNat)
  case atStart => exact ⟨0, _, by omega, rfl, by go_num, hown, Only.refl _ _ _⟩
  case round =>
    clear hown
    obtain ⟨k, xs, hk, rfl, rfl, ho, HO⟩ := hrel
    by_cases hlt : k < l.length
    · have hA : ∃ g, A = some ⟨g, 0, none⟩ := by
        rcases ho.2 with ⟨hv, h0⟩ | ⟨g, cap, cur, hv, _⟩
        · omega
        · exact ⟨g, by injection hv⟩
      obtain ⟨g, rfl⟩ := hA
      have hgl : lo ≤ g ∧ g < hi := ⟨(own_lt ho _ rfl).1, HT.out _ rfl⟩
      have hgo : ∀ x, (Value.slice (some ⟨g, 0, none⟩) l.length c).ownBlock = some x → lo ≤ x ∧ x < hi := fun x hx => by injection hx with hx; subst hx; exact hgl
      have HGO := Lib.hid hgo
      clear hgo
      go_wp2_with fail
      refine (markText_some _ _ (by omega) (by omega)).mono ?_
      rintro e v0 ⟨t0, rfl, hb0⟩
      have hq0 := own_keep ho hb0
      replace HO := HO.trans (Only.of_below hb0)
      clear hb0
      obtain ⟨u0, c0, f0⟩ := own_cell hq0 (k * 2) (by omega)
      have s0 := (hq0.stored (k * 2) (.string t0))
      replace HO := HO.trans (Only.of_grown s0.2 HGO.out)
      go_wp2_with fail
      refine (markText_some _ _ (by omega) (by omega)).mono ?_
      rintro e v1 ⟨t1, rfl, hb1⟩
      have hq1 := own_keep s0.1 hb1
      replace HO := HO.trans (Only.of_below hb1)
      clear hb1
      obtain ⟨u1, c1, f1⟩ := own_cell hq1 (k * 2 + 1) (by omega)
      have s1 := (hq1.stored (k * 2 + 1) (.string t1))
      replace HO := HO.trans (Only.of_grown s1.2 HGO.out)
      have S2 := Lib.hid s1.1
      go_wp2
      go_roundw
      case rel => exact ⟨k + 1, _, by omega, by go_num, by go_num, S2.out, HO⟩
      case measure => simp [intOf]; omega
    · obtain rfl : k = l.length := by omega
      go_wp2
      go_ret
      exact ⟨rfl, trivial, HO⟩
end Go.Proofs.YtlnkofnfgemfdaaGreat
