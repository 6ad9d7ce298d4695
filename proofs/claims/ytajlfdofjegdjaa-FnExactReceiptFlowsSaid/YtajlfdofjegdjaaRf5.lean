/- Part 5 of the texts of this claim: Pick: its cells, and the walks of the laws' own helpers on lists of it. -/
import Derived.Test.YtajlfdofjegdjaaRf2
import Derived.StillTailTactics
/- Pick: its cells, and the walks of the laws' own helpers on lists of it. -/
namespace Go.Proofs.Ytajlfdofjegdjaa
open Go.RowKit

abbrev Pk := ByteArray × ByteArray
def pkF : Flat Pk := ⟨fun f => [.string (f.1), .string (f.2)], 2, fun _ => rfl⟩
abbrev PicksIn (w : World) (A : Option Addr) (n : Nat) (l : List Pk) : Prop := RowsIn pkF w A n l
theorem pick_at {w : World} {A : Option Addr} {n : Nat} {l : List Pk} (h : PicksIn w A n l) {k : Nat} (hk : k < l.length) :
    ∃ b o, A = some ⟨b, o, none⟩ ∧ b < w.heap.size ∧ w.cell? ⟨b, o + k * 2, none⟩ = some (.string (l[k].1)) ∧ w.cell? ⟨b, o + k * 2 + 1, none⟩ = some (.string (l[k].2)) := by
  obtain ⟨b, o, e, hlt, hc⟩ := h.at_ hk
  exact ⟨b, o, e, hlt, hc 0 _ rfl, hc 1 _ rfl⟩
theorem pickInfo : (Try.prog.info? 157).map (fun i => (i.zero, i.size, i.bytes)) = some (some (.agg #[.string ByteArray.empty, .string ByteArray.empty]), 2, 32) := by kernel_rfl
theorem pickElem : ElemOk pkF 40 157 := by
  obtain ⟨i, h1, h2, h3, h4⟩ := info_parts pickInfo
  exact ⟨i, _, 32, Try.underlying40, h1, h2, h3, h4, rfl, by decide, by omega⟩
theorem toPick_any (x0 : ByteArray) (x1 : ByteArray) (w : World) : Calls Try.prog 102 #[.agg #[.string (x0), .string (x1)]] w fun e w' => e = .returned (.agg #[.string (x0), .string (x1)]) ∧ Below w.heap.size w w' := by
  go_enter Try.func102, Try.ntmps102
  go_wp2
  refine bodyPost_ret (v := .agg #[.string (x0), .string (x1)]) (by simp [results, Try.results102, go_sem]) rfl ⟨rfl, ?_⟩
  exact (((Below.refl _ _).alloc (Nat.le_refl _) _).alloc (by simp) _).alloc (by simp; omega) _
set_option maxRecDepth 100000 in
set_option maxHeartbeats 2000000 in
theorem toPickS_any (A : Option Addr) (n c : Nat) (l : List Pk) (w : World) (hl : PicksIn w A n l) :
    Calls Try.prog 47 #[.slice A n c] w fun e w' => ∃ A', e = .returned (.slice A' n n) ∧ OwnRows pkF 157 w' w.heap.size A' n n l ∧ Below w.heap.size w w' := by
  obtain ⟨i0, hi0, hz0, hz1, hz2⟩ := info_parts pickInfo
  have hn := hl.len
  obtain rfl := hl.1
  go_enter Try.func47, Try.ntmps47
  go_wp2_with (at_make; refine wpList_make_full _ rfl (.tmp 6) (.tmp 6) _ rfl w.heap.size 157 i0 _ 2 Try.underlying40 hi0 hz0 hz1 .i64 .i64 _ _ l.length rfl rfl rfl rfl (by rw [hz2]; omega) (by unfold maxLen; omega) (Nat.le_refl _) ?_; intro w1 hown hg)
  have hb1 := below_none hg
  generalize hzs : (madeCells (Value.agg #[.string ByteArray.empty, .string ByteArray.empty]).cells (l.length * 2)).toList = zs at hown
  have hzl : zs.length = (l.flatMap pkF.enc).length := by rw [flatMap_len pkF.enc 2 pkF.len, hown.1]
  clear hg hzs
  have HZ := Lib.hid hzl; clear hzl
  have hown1 : w1.ownsRow w.heap.size 157 2 (.slice (some ⟨w.heap.size, 0, none⟩) l.length l.length) l.length (fillC zs (l.flatMap pkF.enc) 0) := by
    rw [fillC_zero]; exact hown
  clear hown
  go_loopw [4] (fun i wr => ∃ k : Nat, k ≤ l.length ∧ i = .int .i64 k ∧ wr.ownsRow w.heap.size 157 2 (.slice (some ⟨w.heap.size, 0, none⟩) l.length l.length) l.length (fillC zs (l.flatMap pkF.enc) (k * 2)) ∧ Below w.heap.size w wr) (fun i _ => l.length - (intOf i).toNat)
  case atStart => exact ⟨0, by omega, rfl, by rw [Nat.zero_mul]; exact hown1, hb1⟩
  case round =>
    obtain ⟨k, hk, rfl, hown, hb⟩ := hrel
    by_cases hlt : k < l.length
    · obtain ⟨b, o, rfl, _, hc0, hc1⟩ := pick_at (hl.keep hb) hlt
      go_wp2_with fail
      refine (toPick_any _ _ _).mono ?_
      rintro e w2 ⟨rfl, hb2⟩
      have ho := own_keep hown hb2
      have hlen : (l.flatMap pkF.enc).length = l.length * 2 := flatMap_len pkF.enc 2 pkF.len l
      have hz := HZ.out
      have e0 : (l.flatMap pkF.enc)[k * 2]? = some (.string (l[k].1)) := flatMap_at pkF.enc 2 pkF.len l k 0 hlt (by omega)
      obtain ⟨u0, c0, f0⟩ := own_cell ho (k * 2) (by omega)
      have e1 : (l.flatMap pkF.enc)[k * 2 + 1]? = some (.string (l[k].2)) := flatMap_at pkF.enc 2 pkF.len l k 1 hlt (by omega)
      obtain ⟨u1, c1, f1⟩ := own_cell ho (k * 2 + 1) (by omega)
      have s0 := (ho.stored (k * 2) (.string (l[k].1))).1
      rw [fillC_set _ _ _ _ e0 hz] at s0
      have s1 := (s0.stored (k * 2 + 1) (.string (l[k].2))).1
      rw [fillC_set _ _ _ _ e1 hz] at s1
      have hb3 : Below w.heap.size w w2 := hb.trans (hb2.mono hb.size)
      have S2 := Lib.hid s1
      clear ho e0 e1 s0 s1 hown hz hlen hb hb2
      go_wp2
      go_roundw
      case rel => exact ⟨k + 1, by omega, by go_num, by rw [show (k + 1) * 2 = k * 2 + 1 + 1 by omega]; exact S2.out, ((hb3.setCell (Nat.le_refl _) _).setCell (Nat.le_refl _) _)⟩
      case measure => simp [intOf]; omega
    · obtain rfl : k = l.length := by omega
      go_wp2
      go_ret
      refine ⟨_, rfl, ⟨rfl, ?_⟩, hb⟩
      have h2 : (l.flatMap pkF.enc).length = l.length * 2 := flatMap_len pkF.enc 2 pkF.len l
      rw [← h2, fillC_all _ _ HZ.out] at hown
      exact hown
theorem eqPick_yes (x0 : ByteArray) (x1 : ByteArray) (w : World) : Calls Try.prog 112 #[.agg #[.string (x0), .string (x1)], .agg #[.string (x0), .string (x1)]] w fun e w' => e = .returned (.bool true) ∧ Below w.heap.size w w' := by
  go_enter Try.func112, Try.ntmps112
  go_wp2
  go_ret
  exact ⟨rfl, ((Below.refl _ _).alloc (Nat.le_refl _) _).alloc (by simp) _⟩
set_option maxRecDepth 100000 in
set_option maxHeartbeats 2000000 in
theorem eqPickS_yes (A B : Option Addr) (n m c d : Nat) (l : List Pk) (w : World) (ha : PicksIn w A n l) (hb : PicksIn w B m l) :
    Calls Try.prog 57 #[.slice A n c, .slice B m d] w fun e w' => e = .returned (.bool true) ∧ Below w.heap.size w w' := by
  have hn := ha.len
  obtain rfl := ha.1
  obtain rfl := hb.1
  go_enter Try.func57, Try.ntmps57
  go_wp2
  go_loopw [5] (fun i wr => ∃ k : Nat, k ≤ l.length ∧ i = .int .i64 k ∧ Below w.heap.size w wr) (fun i _ => l.length - (intOf i).toNat)
  case atStart => exact ⟨0, by omega, rfl, Below.refl _ _⟩
  case round =>
    obtain ⟨k, hk, rfl, HD⟩ := hrel
    by_cases hlt : k < l.length
    · obtain ⟨b1, o1, rfl, _, hc0, hc1⟩ := pick_at (ha.keep HD) hlt
      obtain ⟨b2, o2, rfl, _, hd0, hd1⟩ := pick_at (hb.keep HD) hlt
      go_wp2
      go_still_tail 8, (by kernel_rfl)
      change wpList _ _ _ _ _ wr.drew
      have HE : Below w.heap.size w wr.drew := HD.drew
      generalize wr.drew = w2 at *
      go_wp2_with (go_at_call 112; refine (eqPick_yes _ _ _).mono ?_; rintro e w3 ⟨rfl, hb3⟩)
      go_roundw
      case rel => exact ⟨k + 1, by omega, by go_num, HE.trans (hb3.mono HE.size)⟩
      case measure => simp [intOf]; omega
    · obtain rfl : k = l.length := by omega
      go_wp2
      go_ret
      exact ⟨rfl, HD⟩
def okPk (x : Pk) : Prop := x.1.size ≤ 9223372036854775807 ∧ x.2.size ≤ 9223372036854775807
set_option maxRecDepth 100000 in
set_option maxHeartbeats 1000000 in
theorem szPick_any (x0 : ByteArray) (x1 : ByteArray) (left : Int) (w : World) (h0 : 0 ≤ left) (h1 : left ≤ 1048576) (hs0 : x0.size ≤ 9223372036854775807) (hs1 : x1.size ≤ 9223372036854775807) :
    Calls Try.prog 92 #[.agg #[.string (x0), .string (x1)], .int .i64 left] w fun e w' => ∃ r : Int, e = .returned (.int .i64 r) ∧ -1 ≤ r ∧ r ≤ left ∧ Below w.heap.size w w' := by
  go_enter Try.func92, Try.ntmps92
  go_wp2
  all_goals
    go_ret
    exact ⟨_, rfl, by omega, by omega, below_alloc _ _⟩
theorem szPickS_big (A : Option Addr) (n c : Nat) (left : Int) (w : World) (h : left < (n : Int)) (h0 : 0 ≤ left) (hn : n ≤ 9223372036854775807) :
    Calls Try.prog 38 #[.slice A n c, .int .i64 left] w fun e w' => e = .returned (.int .i64 (-1)) ∧ w = w' := by
  go_enter Try.func38, Try.ntmps38
  go_wp2
  go_ret
  exact ⟨rfl, rfl⟩
set_option maxRecDepth 100000 in
set_option maxHeartbeats 2000000 in
theorem szPickS_any (A : Option Addr) (n c : Nat) (l : List Pk) (left : Int) (w : World) (h : (n : Int) ≤ left) (hl : left ≤ 1048576) (ha : PicksIn w A n l) (hok : ∀ x ∈ l, okPk x) :
    Calls Try.prog 38 #[.slice A n c, .int .i64 left] w fun e w' => ∃ r : Int, e = .returned (.int .i64 r) ∧ -1 ≤ r ∧ r ≤ 1048576 ∧ Below w.heap.size w w' := by
  have hn := ha.len
  obtain rfl := ha.1
  have HO := Lib.hid hok
  clear hok
  go_enter Try.func38, Try.ntmps38
  go_wp2
  go_loopw [1, 5] (fun r i wr => ∃ (k : Nat) (x : Int), k ≤ l.length ∧ i = .int .i64 k ∧ r = .int .i64 x ∧ 0 ≤ x ∧ x ≤ 1048576 ∧ Below w.heap.size w wr) (fun _ i _ => l.length - (intOf i).toNat)
  case atStart => exact ⟨0, _, by omega, rfl, rfl, by omega, by omega, Below.refl _ _⟩
  case round =>
    obtain ⟨k, x, hk, rfl, rfl, x0, x1, HR⟩ := hrel
    by_cases hlt : k < l.length
    · obtain ⟨b, o, rfl, _, hc0, hc1⟩ := pick_at (ha.keep HR) hlt
      have hs := HO.out _ (List.getElem_mem hlt)
      unfold okPk at hs
      obtain ⟨hs0, hs1⟩ := hs
      go_wp2_with fail
      refine (szPick_any _ _ _ _ x0 x1 hs0 hs1).mono ?_
      rintro e v ⟨r, rfl, r0, r1, hb⟩
      by_cases hneg : r < 0
      · go_wp2_with fail
        go_ret
        exact ⟨-1, rfl, by omega, by omega, below_on HR hb⟩
      · go_wp2_with fail
        go_roundw
        case rel => exact ⟨k + 1, r, by omega, by go_num, rfl, by omega, by omega, below_on HR hb⟩
        case measure => simp [intOf]; omega
    · obtain rfl : k = l.length := by omega
      go_wp2
      go_ret
      exact ⟨x, rfl, by omega, by omega, HR⟩
set_option maxRecDepth 100000 in
set_option maxHeartbeats 4000000 in
/-- The marks on arguments: what they are is not asked. -/
theorem markPickS_any (A : Option Addr) (n c lo hi : Nat) (l : List Pk) (k0 : Int) (w : World) (ha : RowsAt pkF 157 w lo hi A n c l) (hk0 : 1 ≤ k0) (hk1 : k0 ≤ 2000000000000000000) (hn : l.length ≤ 16777216) :
    Calls Try.prog 85 #[.slice A n c, .int .i64 k0] w fun e w' => e = .returned (.int .i64 (k0 + 2 * l.length)) ∧ True ∧ Only lo hi w w' := by
  obtain rfl := ha.1
  have HLN := Lib.hid (flatMap_len pkF.enc 2 pkF.len l)
  obtain ⟨_, ⟨hown, hhi, hlt⟩⟩ := ha
  have HT := Lib.hid hlt
  clear hlt
  go_enter Try.func85, Try.ntmps85
  go_wp2
  go_loopw [1, 5] (fun m i wr => ∃ (k : Nat) (xs : List Value), k ≤ l.length ∧ i = .int .i64 k ∧ m = .int .i64 (k0 + 2 * k) ∧ wr.ownsRow lo 157 2 (.slice A l.length c) l.length xs ∧ Only lo hi w wr) (fun _ i _ => l.length - (intOf i).toNat)
  case atStart => exact ⟨0, _, by omega, rfl, by go_num, hown, Only.refl _ _ _⟩
  case round =>
    clear hown
    obtain ⟨k, xs, hk, rfl, rfl, ho, HO⟩ := hrel
    by_cases hlt : k < l.length
    · have hA : ∃ g, A = some ⟨g, 0, none⟩ := by
        rcases ho.2 with ⟨hv, h0⟩ | ⟨g, cap, cur, hv, _⟩
        · omega
        · exact ⟨g, by injection hv⟩
      obtain ⟨g, rfl⟩ := hA
      have hgl : lo ≤ g ∧ g < hi := ⟨(own_lt ho _ rfl).1, HT.out _ rfl⟩
      have hgo : ∀ x, (Value.slice (some ⟨g, 0, none⟩) l.length c).ownBlock = some x → lo ≤ x ∧ x < hi := fun x hx => by injection hx with hx; subst hx; exact hgl
      have HGO := Lib.hid hgo
      clear hgo
      go_wp2_with fail
      refine (markText_some _ _ (by omega) (by omega)).mono ?_
      rintro e v0 ⟨t0, rfl, hb0⟩
      have hq0 := own_keep ho hb0
      replace HO := HO.trans (Only.of_below hb0)
      clear hb0
      obtain ⟨u0, c0, f0⟩ := own_cell hq0 (k * 2) (by omega)
      have s0 := (hq0.stored (k * 2) (.string t0))
      replace HO := HO.trans (Only.of_grown s0.2 HGO.out)
      go_wp2_with fail
      refine (markText_some _ _ (by omega) (by omega)).mono ?_
      rintro e v1 ⟨t1, rfl, hb1⟩
      have hq1 := own_keep s0.1 hb1
      replace HO := HO.trans (Only.of_below hb1)
      clear hb1
      obtain ⟨u1, c1, f1⟩ := own_cell hq1 (k * 2 + 1) (by omega)
      have s1 := (hq1.stored (k * 2 + 1) (.string t1))
      replace HO := HO.trans (Only.of_grown s1.2 HGO.out)
      have S2 := Lib.hid s1.1
      go_wp2
      go_roundw
      case rel => exact ⟨k + 1, _, by omega, by go_num, by go_num, S2.out, HO⟩
      case measure => simp [intOf]; omega
    · obtain rfl : k = l.length := by omega
      go_wp2
      go_ret
      exact ⟨rfl, trivial, HO⟩
end Go.Proofs.Ytajlfdofjegdjaa
