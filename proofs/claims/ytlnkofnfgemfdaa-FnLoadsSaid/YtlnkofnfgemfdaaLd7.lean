/- Part 7 of the texts of this claim: Step: its cells, and the walks of the laws' own helpers on lists of it; Rows of the call's own and stores far from them. -/
import Derived.Test.YtlnkofnfgemfdaaLd2
import Derived.StillTailTactics
/- Step: its cells, and the walks of the laws' own helpers on lists of it. -/
namespace Go.Proofs.Ytlnkofnfgemfdaa
open Go.RowKit

abbrev Sp := ByteArray × Int × Int
def spF : Flat Sp := ⟨fun f => [.string (f.1), .int .i64 (f.2.1), .int .i64 (f.2.2)], 3, fun _ => rfl⟩
abbrev StepsIn (w : World) (A : Option Addr) (n : Nat) (l : List Sp) : Prop := RowsIn spF w A n l
theorem step_at {w : World} {A : Option Addr} {n : Nat} {l : List Sp} (h : StepsIn w A n l) {k : Nat} (hk : k < l.length) :
    ∃ b o, A = some ⟨b, o, none⟩ ∧ b < w.heap.size ∧ w.cell? ⟨b, o + k * 3, none⟩ = some (.string (l[k].1)) ∧ w.cell? ⟨b, o + k * 3 + 1, none⟩ = some (.int .i64 (l[k].2.1)) ∧ w.cell? ⟨b, o + k * 3 + 2, none⟩ = some (.int .i64 (l[k].2.2)) := by
  obtain ⟨b, o, e, hlt, hc⟩ := h.at_ hk
  exact ⟨b, o, e, hlt, hc 0 _ rfl, hc 1 _ rfl, hc 2 _ rfl⟩
theorem stepInfo : (Try.prog.info? 136).map (fun i => (i.zero, i.size, i.bytes)) = some (some (.agg #[.string ByteArray.empty, .int .i64 0, .int .i64 0]), 3, 32) := by kernel_rfl
theorem stepElem : ElemOk spF 87 136 := by
  obtain ⟨i, h1, h2, h3, h4⟩ := info_parts stepInfo
  exact ⟨i, _, 32, Try.underlying87, h1, h2, h3, h4, rfl, by decide, by omega⟩
theorem toStep_any (x0 : ByteArray) (x1 : Int) (x2 : Int) (w : World) : Calls Try.prog 166 #[.agg #[.string (x0), .int .i64 (x1), .int .i64 (x2)]] w fun e w' => e = .returned (.agg #[.string (x0), .int .i64 (x1), .int .i64 (x2)]) ∧ Below w.heap.size w w' := by
  go_enter Try.func166, Try.ntmps166
  go_wp2
  refine bodyPost_ret (v := .agg #[.string (x0), .int .i64 (x1), .int .i64 (x2)]) (by simp [results, Try.results166, go_sem]) rfl ⟨rfl, ?_⟩
  exact (((Below.refl _ _).alloc (Nat.le_refl _) _).alloc (by simp) _).alloc (by simp; omega) _
set_option maxRecDepth 100000 in
set_option maxHeartbeats 2000000 in
theorem toStepS_any (A : Option Addr) (n c : Nat) (l : List Sp) (w : World) (hl : StepsIn w A n l) :
    Calls Try.prog 142 #[.slice A n c] w fun e w' => ∃ A', e = .returned (.slice A' n n) ∧ OwnRows spF 136 w' w.heap.size A' n n l ∧ Below w.heap.size w w' := by
  obtain ⟨i0, hi0, hz0, hz1, hz2⟩ := info_parts stepInfo
  have hn := hl.len
  obtain rfl := hl.1
  go_enter Try.func142, Try.ntmps142
  go_wp2_with (at_make; refine wpList_make_full _ rfl (.tmp 6) (.tmp 6) _ rfl w.heap.size 136 i0 _ 3 Try.underlying87 hi0 hz0 hz1 .i64 .i64 _ _ l.length rfl rfl rfl rfl (by rw [hz2]; omega) (by unfold maxLen; omega) (Nat.le_refl _) ?_; intro w1 hown hg)
  have hb1 := below_none hg
  generalize hzs : (madeCells (Value.agg #[.string ByteArray.empty, .int .i64 0, .int .i64 0]).cells (l.length * 3)).toList = zs at hown
  have hzl : zs.length = (l.flatMap spF.enc).length := by rw [flatMap_len spF.enc 3 spF.len, hown.1]
  clear hg hzs
  have HZ := Lib.hid hzl; clear hzl
  have hown1 : w1.ownsRow w.heap.size 136 3 (.slice (some ⟨w.heap.size, 0, none⟩) l.length l.length) l.length (fillC zs (l.flatMap spF.enc) 0) := by
    rw [fillC_zero]; exact hown
  clear hown
  go_loopw [4] (fun i wr => ∃ k : Nat, k ≤ l.length ∧ i = .int .i64 k ∧ wr.ownsRow w.heap.size 136 3 (.slice (some ⟨w.heap.size, 0, none⟩) l.length l.length) l.length (fillC zs (l.flatMap spF.enc) (k * 3)) ∧ Below w.heap.size w wr) (fun i _ => l.length - (intOf i).toNat)
  case atStart => exact ⟨0, by omega, rfl, by rw [Nat.zero_mul]; exact hown1, hb1⟩
  case round =>
    obtain ⟨k, hk, rfl, hown, hb⟩ := hrel
    by_cases hlt : k < l.length
    · obtain ⟨b, o, rfl, _, hc0, hc1, hc2⟩ := step_at (hl.keep hb) hlt
      go_wp2_with fail
      refine (toStep_any _ _ _ _).mono ?_
      rintro e w2 ⟨rfl, hb2⟩
      have ho := own_keep hown hb2
      have hlen : (l.flatMap spF.enc).length = l.length * 3 := flatMap_len spF.enc 3 spF.len l
      have hz := HZ.out
      have e0 : (l.flatMap spF.enc)[k * 3]? = some (.string (l[k].1)) := flatMap_at spF.enc 3 spF.len l k 0 hlt (by omega)
      obtain ⟨u0, c0, f0⟩ := own_cell ho (k * 3) (by omega)
      have e1 : (l.flatMap spF.enc)[k * 3 + 1]? = some (.int .i64 (l[k].2.1)) := flatMap_at spF.enc 3 spF.len l k 1 hlt (by omega)
      obtain ⟨u1, c1, f1⟩ := own_cell ho (k * 3 + 1) (by omega)
      have e2 : (l.flatMap spF.enc)[k * 3 + 2]? = some (.int .i64 (l[k].2.2)) := flatMap_at spF.enc 3 spF.len l k 2 hlt (by omega)
      obtain ⟨u2, c2, f2⟩ := own_cell ho (k * 3 + 2) (by omega)
      have s0 := (ho.stored (k * 3) (.string (l[k].1))).1
      rw [fillC_set _ _ _ _ e0 hz] at s0
      have s1 := (s0.stored (k * 3 + 1) (.int .i64 (l[k].2.1))).1
      rw [fillC_set _ _ _ _ e1 hz] at s1
      have s2 := (s1.stored (k * 3 + 2) (.int .i64 (l[k].2.2))).1
      rw [fillC_set _ _ _ _ e2 hz] at s2
      have hb3 : Below w.heap.size w w2 := hb.trans (hb2.mono hb.size)
      have S2 := Lib.hid s2
      clear ho e0 e1 e2 s0 s1 s2 hown hz hlen hb hb2
      go_wp2
      go_roundw
      case rel => exact ⟨k + 1, by omega, by go_num, by rw [show (k + 1) * 3 = k * 3 + 1 + 1 + 1 by omega]; exact S2.out, (((hb3.setCell (Nat.le_refl _) _).setCell (Nat.le_refl _) _).setCell (Nat.le_refl _) _)⟩
      case measure => simp [intOf]; omega
    · obtain rfl : k = l.length := by omega
      go_wp2
      go_ret
      refine ⟨_, rfl, ⟨rfl, ?_⟩, hb⟩
      have h2 : (l.flatMap spF.enc).length = l.length * 3 := flatMap_len spF.enc 3 spF.len l
      rw [← h2, fillC_all _ _ HZ.out] at hown
      exact hown
theorem eqStep_yes (x0 : ByteArray) (x1 : Int) (x2 : Int) (w : World) : Calls Try.prog 177 #[.agg #[.string (x0), .int .i64 (x1), .int .i64 (x2)], .agg #[.string (x0), .int .i64 (x1), .int .i64 (x2)]] w fun e w' => e = .returned (.bool true) ∧ Below w.heap.size w w' := by
  go_enter Try.func177, Try.ntmps177
  go_wp2
  go_ret
  exact ⟨rfl, ((Below.refl _ _).alloc (Nat.le_refl _) _).alloc (by simp) _⟩
set_option maxRecDepth 100000 in
set_option maxHeartbeats 2000000 in
theorem eqStepS_yes (A B : Option Addr) (n m c d : Nat) (l : List Sp) (w : World) (ha : StepsIn w A n l) (hb : StepsIn w B m l) :
    Calls Try.prog 147 #[.slice A n c, .slice B m d] w fun e w' => e = .returned (.bool true) ∧ Below w.heap.size w w' := by
  have hn := ha.len
  obtain rfl := ha.1
  obtain rfl := hb.1
  go_enter Try.func147, Try.ntmps147
  go_wp2
  go_loopw [5] (fun i wr => ∃ k : Nat, k ≤ l.length ∧ i = .int .i64 k ∧ Below w.heap.size w wr) (fun i _ => l.length - (intOf i).toNat)
  case atStart => exact ⟨0, by omega, rfl, Below.refl _ _⟩
  case round =>
    obtain ⟨k, hk, rfl, HD⟩ := hrel
    by_cases hlt : k < l.length
    · obtain ⟨b1, o1, rfl, _, hc0, hc1, hc2⟩ := step_at (ha.keep HD) hlt
      obtain ⟨b2, o2, rfl, _, hd0, hd1, hd2⟩ := step_at (hb.keep HD) hlt
      go_wp2
      go_still_tail 8, (by kernel_rfl)
      change wpList _ _ _ _ _ wr.drew
      have HE : Below w.heap.size w wr.drew := HD.drew
      generalize wr.drew = w2 at *
      go_wp2_with (go_at_call 177; refine (eqStep_yes _ _ _ _).mono ?_; rintro e w3 ⟨rfl, hb3⟩)
      go_roundw
      case rel => exact ⟨k + 1, by omega, by go_num, HE.trans (hb3.mono HE.size)⟩
      case measure => simp [intOf]; omega
    · obtain rfl : k = l.length := by omega
      go_wp2
      go_ret
      exact ⟨rfl, HD⟩
def okSp (x : Sp) : Prop := x.1.size ≤ 9223372036854775807
theorem szStep_any (x0 : ByteArray) (x1 : Int) (x2 : Int) (left : Int) (w : World) (h0 : 0 ≤ left) (h1 : left ≤ 1048576) (hs : x0.size ≤ 9223372036854775807) :
    Calls Try.prog 165 #[.agg #[.string (x0), .int .i64 (x1), .int .i64 (x2)], .int .i64 left] w fun e w' => e = .returned (.int .i64 (if left < (x0.size : Int) then -1 else left - x0.size)) ∧ Below w.heap.size w w' := by
  by_cases hlt : left < (x0.size : Int)
  · go_enter Try.func165, Try.ntmps165
    go_wp2
    go_ret
    exact ⟨rfl, below_alloc _ _⟩
  · go_enter Try.func165, Try.ntmps165
    go_wp2
    go_ret
    exact ⟨rfl, below_alloc _ _⟩
theorem szStepS_big (A : Option Addr) (n c : Nat) (left : Int) (w : World) (h : left < (n : Int)) (h0 : 0 ≤ left) (hn : n ≤ 9223372036854775807) :
    Calls Try.prog 140 #[.slice A n c, .int .i64 left] w fun e w' => e = .returned (.int .i64 (-1)) ∧ w = w' := by
  go_enter Try.func140, Try.ntmps140
  go_wp2
  go_ret
  exact ⟨rfl, rfl⟩
set_option maxRecDepth 100000 in
set_option maxHeartbeats 2000000 in
theorem szStepS_any (A : Option Addr) (n c : Nat) (l : List Sp) (left : Int) (w : World) (h : (n : Int) ≤ left) (hl : left ≤ 1048576) (ha : StepsIn w A n l) (hok : ∀ x ∈ l, okSp x) :
    Calls Try.prog 140 #[.slice A n c, .int .i64 left] w fun e w' => ∃ r : Int, e = .returned (.int .i64 r) ∧ -1 ≤ r ∧ r ≤ 1048576 ∧ Below w.heap.size w w' := by
  have hn := ha.len
  obtain rfl := ha.1
  have HO := Lib.hid hok
  clear hok
  go_enter Try.func140, Try.ntmps140
  go_wp2
  go_loopw [1, 5] (fun r i wr => ∃ (k : Nat) (x : Int), k ≤ l.length ∧ i = .int .i64 k ∧ r = .int .i64 x ∧ 0 ≤ x ∧ x ≤ 1048576 ∧ Below w.heap.size w wr) (fun _ i _ => l.length - (intOf i).toNat)
  case atStart => exact ⟨0, _, by omega, rfl, rfl, by omega, by omega, Below.refl _ _⟩
  case round =>
    obtain ⟨k, x, hk, rfl, rfl, x0, x1, HR⟩ := hrel
    by_cases hlt : k < l.length
    · obtain ⟨b, o, rfl, _, hc0, hc1, hc2⟩ := step_at (ha.keep HR) hlt
      have hs := HO.out _ (List.getElem_mem hlt)
      unfold okSp at hs
      by_cases hneg : x < (l[k].1.size : Int)
      · go_wp2_with fail
        refine (szStep_any _ _ _ _ _ x0 x1 hs).mono ?_
        rintro e v ⟨rfl, hb⟩
        rw [if_pos (by omega)]
        go_wp2_with fail
        go_ret
        exact ⟨-1, rfl, by omega, by omega, below_on HR hb⟩
      · go_wp2_with fail
        refine (szStep_any _ _ _ _ _ x0 x1 hs).mono ?_
        rintro e v ⟨rfl, hb⟩
        rw [if_neg (by omega)]
        go_wp2_with fail
        go_roundw
        case rel => exact ⟨k + 1, _, by omega, by go_num, rfl, by omega, by omega, below_on HR hb⟩
        case measure => simp [intOf]; omega
    · obtain rfl : k = l.length := by omega
      go_wp2
      go_ret
      exact ⟨x, rfl, by omega, by omega, HR⟩
set_option maxRecDepth 100000 in
set_option maxHeartbeats 4000000 in
/-- The marks on arguments: what they are is not asked. -/
theorem markStepS_any (A : Option Addr) (n c lo hi : Nat) (l : List Sp) (k0 : Int) (w : World) (ha : RowsAt spF 136 w lo hi A n c l) (hk0 : 1 ≤ k0) (hk1 : k0 ≤ 2000000000000000000) (hn : l.length ≤ 16777216) :
    Calls Try.prog 105 #[.slice A n c, .int .i64 k0] w fun e w' => e = .returned (.int .i64 (k0 + 3 * l.length)) ∧ True ∧ Only lo hi w w' := by
  obtain rfl := ha.1
  have HLN := Lib.hid (flatMap_len spF.enc 3 spF.len l)
  obtain ⟨_, ⟨hown, hhi, hlt⟩⟩ := ha
  have HT := Lib.hid hlt
  clear hlt
  go_enter Try.func105, Try.ntmps105
  go_wp2
  go_loopw [1, 5] (fun m i wr => ∃ (k : Nat) (xs : List Value), k ≤ l.length ∧ i = .int .i64 k ∧ m = .int .i64 (k0 + 3 * k) ∧ wr.ownsRow lo 136 3 (.slice A l.length c) l.length xs ∧ Only lo hi w wr) (fun _ i _ => l.length - (intOf i).toNat)
  case atStart => exact ⟨0, _, by omega, rfl, by go_num, hown, Only.refl _ _ _⟩
  case round =>
    clear hown
    obtain ⟨k, xs, hk, rfl, rfl, ho, HO⟩ := hrel
    by_cases hlt : k < l.length
    · have hA : ∃ g, A = some ⟨g, 0, none⟩ := by
        rcases ho.2 with ⟨hv, h0⟩ | ⟨g, cap, cur, hv, _⟩
        · omega
        · exact ⟨g, by injection hv⟩
      obtain ⟨g, rfl⟩ := hA
      have hgl : lo ≤ g ∧ g < hi := ⟨(own_lt ho _ rfl).1, HT.out _ rfl⟩
      have hgo : ∀ x, (Value.slice (some ⟨g, 0, none⟩) l.length c).ownBlock = some x → lo ≤ x ∧ x < hi := fun x hx => by injection hx with hx; subst hx; exact hgl
      have HGO := Lib.hid hgo
      clear hgo
      go_wp2_with fail
      refine (markText_some _ _ (by omega) (by omega)).mono ?_
      rintro e v0 ⟨t0, rfl, hb0⟩
      have hq0 := own_keep ho hb0
      replace HO := HO.trans (Only.of_below hb0)
      clear hb0
      obtain ⟨u0, c0, f0⟩ := own_cell hq0 (k * 3) (by omega)
      obtain ⟨u1, c1, f1⟩ := own_cell hq0 (k * 3 + 1) (by omega)
      obtain ⟨u2, c2, f2⟩ := own_cell hq0 (k * 3 + 2) (by omega)
      have s0 := (hq0.stored (k * 3) (.string t0))
      replace HO := HO.trans (Only.of_grown s0.2 HGO.out)
      have s1 := (s0.1.stored (k * 3 + 1) (.int .i64 (k0 + 3 * k + 1)))
      replace HO := HO.trans (Only.of_grown s1.2 HGO.out)
      have s2 := (s1.1.stored (k * 3 + 2) (.int .i64 (k0 + 3 * k + 1 + 1)))
      replace HO := HO.trans (Only.of_grown s2.2 HGO.out)
      have S2 := Lib.hid s2.1
      go_wp2
      go_roundw
      case rel => exact ⟨k + 1, _, by omega, by go_num, by go_num, S2.out, HO⟩
      case measure => simp [intOf]; omega
    · obtain rfl : k = l.length := by omega
      go_wp2
      go_ret
      exact ⟨rfl, trivial, HO⟩
end Go.Proofs.Ytlnkofnfgemfdaa
/- Rows of the call's own and stores far from them. -/
namespace Go.Proofs.Ytlnkofnfgemfdaa
open Go.RowKit
theorem own_far {w : World} {lo : Nat} {e : TypeId} {sz n : Nat} {v : Value} {xs : List Value} (h : w.ownsRow lo e sz v n xs) {p : Addr} (hp : p.block < lo) (x : Value) : (w.setCell p x).ownsRow lo e sz v n xs := by
  refine World.ownsRow.kept h (row := some p.block) ⟨rfl, rfl, rfl, by simp, fun k _ hk => heap_setCell_other w p k x (fun e => hk (by simp [e]))⟩ (.inr ?_)
  intro he
  have := own_block h _ he
  omega
theorem OwnInts.far {w : World} {lo : Nat} {A : Option Addr} {n c : Nat} {l : List Int} (h : OwnInts w lo A n c l) {p : Addr} (hp : p.block < lo) (x : Value) : OwnInts (w.setCell p x) lo A n c l := ⟨h.1, own_far h.2 hp x⟩
theorem OwnRows.far {α : Type} {F : Flat α} {e : TypeId} {w : World} {lo : Nat} {A : Option Addr} {n c : Nat} {l : List α} (h : OwnRows F e w lo A n c l) {p : Addr} (hp : p.block < lo) (x : Value) : OwnRows F e (w.setCell p x) lo A n c l := ⟨h.1, own_far h.2 hp x⟩
theorem set_mid2 {α : Type} (a : List α) (x y : α) (b : List α) (i : Nat) (hi : i = a.length) : (a ++ x :: b).set i y = a ++ y :: b := by
  subst hi
  rw [List.set_append_right _ _ (Nat.le_refl _), Nat.sub_self, List.set_cons_zero]
end Go.Proofs.Ytlnkofnfgemfdaa
