/- Work: its cells, and the walks of the laws' own helpers on lists of it. -/
import Derived.Test.YtcfcfgecdlpflaaAppend
import Derived.StillTailTactics
import Derived.Test.YtcfcfgecdlpflaaMarkText
namespace Go.Proofs.Ytcfcfgecdlpflaa
open Go.RowKit

abbrev Wk := ByteArray × Int
def wkF : Flat Wk := ⟨fun f => [.string (f.1), .int .i64 (f.2)], 2, fun _ => rfl⟩
abbrev WorksIn (w : World) (A : Option Addr) (n : Nat) (l : List Wk) : Prop := RowsIn wkF w A n l
theorem work_at {w : World} {A : Option Addr} {n : Nat} {l : List Wk} (h : WorksIn w A n l) {k : Nat} (hk : k < l.length) :
    ∃ b o, A = some ⟨b, o, none⟩ ∧ b < w.heap.size ∧ w.cell? ⟨b, o + k * 2, none⟩ = some (.string (l[k].1)) ∧ w.cell? ⟨b, o + k * 2 + 1, none⟩ = some (.int .i64 (l[k].2)) := by
  obtain ⟨b, o, e, hlt, hc⟩ := h.at_ hk
  exact ⟨b, o, e, hlt, hc 0 _ rfl, hc 1 _ rfl⟩
theorem workInfo : (Try.prog.info? 61).map (fun i => (i.zero, i.size, i.bytes)) = some (some (.agg #[.string ByteArray.empty, .int .i64 0]), 2, 24) := by kernel_rfl
theorem workElem : ElemOk wkF 57 61 := by
  obtain ⟨i, h1, h2, h3, h4⟩ := info_parts workInfo
  exact ⟨i, _, 24, Try.underlying57, h1, h2, h3, h4, rfl, by decide, by omega⟩
theorem toWork_any (x0 : ByteArray) (x1 : Int) (w : World) : Calls Try.prog 112 #[.agg #[.string (x0), .int .i64 (x1)]] w fun e w' => e = .returned (.agg #[.string (x0), .int .i64 (x1)]) ∧ Below w.heap.size w w' := by
  go_enter Try.func112, Try.ntmps112
  go_wp2
  refine bodyPost_ret (v := .agg #[.string (x0), .int .i64 (x1)]) (by simp [results, Try.results112, go_sem]) rfl ⟨rfl, ?_⟩
  exact (((Below.refl _ _).alloc (Nat.le_refl _) _).alloc (by simp) _).alloc (by simp; omega) _
set_option maxRecDepth 100000 in
set_option maxHeartbeats 2000000 in
theorem toWorkS_any (A : Option Addr) (n c : Nat) (l : List Wk) (w : World) (hl : WorksIn w A n l) :
    Calls Try.prog 98 #[.slice A n c] w fun e w' => ∃ A', e = .returned (.slice A' n n) ∧ OwnRows wkF 61 w' w.heap.size A' n n l ∧ Below w.heap.size w w' := by
  obtain ⟨i0, hi0, hz0, hz1, hz2⟩ := info_parts workInfo
  have hn := hl.len
  obtain rfl := hl.1
  go_enter Try.func98, Try.ntmps98
  go_wp2_with (at_make; refine wpList_make_full _ rfl (.tmp 6) (.tmp 6) _ rfl w.heap.size 61 i0 _ 2 Try.underlying57 hi0 hz0 hz1 .i64 .i64 _ _ l.length rfl rfl rfl rfl (by rw [hz2]; omega) (by unfold maxLen; omega) (Nat.le_refl _) ?_; intro w1 hown hg)
  have hb1 := below_none hg
  generalize hzs : (madeCells (Value.agg #[.string ByteArray.empty, .int .i64 0]).cells (l.length * 2)).toList = zs at hown
  have hzl : zs.length = (l.flatMap wkF.enc).length := by rw [flatMap_len wkF.enc 2 wkF.len, hown.1]
  clear hg hzs
  have HZ := Lib.hid hzl; clear hzl
  have hown1 : w1.ownsRow w.heap.size 61 2 (.slice (some ⟨w.heap.size, 0, none⟩) l.length l.length) l.length (fillC zs (l.flatMap wkF.enc) 0) := by
    rw [fillC_zero]; exact hown
  clear hown
  go_loopw [4] (fun i wr => ∃ k : Nat, k ≤ l.length ∧ i = .int .i64 k ∧ wr.ownsRow w.heap.size 61 2 (.slice (some ⟨w.heap.size, 0, none⟩) l.length l.length) l.length (fillC zs (l.flatMap wkF.enc) (k * 2)) ∧ Below w.heap.size w wr) (fun i _ => l.length - (intOf i).toNat)
  case atStart => exact ⟨0, by omega, rfl, by rw [Nat.zero_mul]; exact hown1, hb1⟩
  case round =>
    obtain ⟨k, hk, rfl, hown, hb⟩ := hrel
    by_cases hlt : k < l.length
    · obtain ⟨b, o, rfl, _, hc0, hc1⟩ := work_at (hl.keep hb) hlt
      go_wp2_with fail
      refine (toWork_any _ _ _).mono ?_
      rintro e w2 ⟨rfl, hb2⟩
      have ho := own_keep hown hb2
      have hlen : (l.flatMap wkF.enc).length = l.length * 2 := flatMap_len wkF.enc 2 wkF.len l
      have hz := HZ.out
      have e0 : (l.flatMap wkF.enc)[k * 2]? = some (.string (l[k].1)) := flatMap_at wkF.enc 2 wkF.len l k 0 hlt (by omega)
      obtain ⟨u0, c0, f0⟩ := own_cell ho (k * 2) (by omega)
      have e1 : (l.flatMap wkF.enc)[k * 2 + 1]? = some (.int .i64 (l[k].2)) := flatMap_at wkF.enc 2 wkF.len l k 1 hlt (by omega)
      obtain ⟨u1, c1, f1⟩ := own_cell ho (k * 2 + 1) (by omega)
      have s0 := (ho.stored (k * 2) (.string (l[k].1))).1
      rw [fillC_set _ _ _ _ e0 hz] at s0
      have s1 := (s0.stored (k * 2 + 1) (.int .i64 (l[k].2))).1
      rw [fillC_set _ _ _ _ e1 hz] at s1
      have hb3 : Below w.heap.size w w2 := hb.trans (hb2.mono hb.size)
      have S2 := Lib.hid s1
      clear ho e0 e1 s0 s1 hown hz hlen hb hb2
      go_wp2
      go_roundw
      case rel => exact ⟨k + 1, by omega, by go_num, by rw [show (k + 1) * 2 = k * 2 + 1 + 1 by omega]; exact S2.out, ((hb3.setCell (Nat.le_refl _) _).setCell (Nat.le_refl _) _)⟩
      case measure => simp [intOf]; omega
    · obtain rfl : k = l.length := by omega
      go_wp2
      go_ret
      refine ⟨_, rfl, ⟨rfl, ?_⟩, hb⟩
      have h2 : (l.flatMap wkF.enc).length = l.length * 2 := flatMap_len wkF.enc 2 wkF.len l
      rw [← h2, fillC_all _ _ HZ.out] at hown
      exact hown
theorem eqWork_yes (x0 : ByteArray) (x1 : Int) (w : World) : Calls Try.prog 113 #[.agg #[.string (x0), .int .i64 (x1)], .agg #[.string (x0), .int .i64 (x1)]] w fun e w' => e = .returned (.bool true) ∧ Below w.heap.size w w' := by
  go_enter Try.func113, Try.ntmps113
  go_wp2
  go_ret
  exact ⟨rfl, ((Below.refl _ _).alloc (Nat.le_refl _) _).alloc (by simp) _⟩
set_option maxRecDepth 100000 in
set_option maxHeartbeats 2000000 in
theorem eqWorkS_yes (A B : Option Addr) (n m c d : Nat) (l : List Wk) (w : World) (ha : WorksIn w A n l) (hb : WorksIn w B m l) :
    Calls Try.prog 99 #[.slice A n c, .slice B m d] w fun e w' => e = .returned (.bool true) ∧ Below w.heap.size w w' := by
  have hn := ha.len
  obtain rfl := ha.1
  obtain rfl := hb.1
  go_enter Try.func99, Try.ntmps99
  go_wp2
  go_loopw [5] (fun i wr => ∃ k : Nat, k ≤ l.length ∧ i = .int .i64 k ∧ Below w.heap.size w wr) (fun i _ => l.length - (intOf i).toNat)
  case atStart => exact ⟨0, by omega, rfl, Below.refl _ _⟩
  case round =>
    obtain ⟨k, hk, rfl, HD⟩ := hrel
    by_cases hlt : k < l.length
    · obtain ⟨b1, o1, rfl, _, hc0, hc1⟩ := work_at (ha.keep HD) hlt
      obtain ⟨b2, o2, rfl, _, hd0, hd1⟩ := work_at (hb.keep HD) hlt
      go_wp2
      go_still_tail 8, (by kernel_rfl)
      change wpList _ _ _ _ _ wr.drew
      have HE : Below w.heap.size w wr.drew := HD.drew
      generalize wr.drew = w2 at *
      go_wp2_with (go_at_call 113; refine (eqWork_yes _ _ _).mono ?_; rintro e w3 ⟨rfl, hb3⟩)
      go_roundw
      case rel => exact ⟨k + 1, by omega, by go_num, HE.trans (hb3.mono HE.size)⟩
      case measure => simp [intOf]; omega
    · obtain rfl : k = l.length := by omega
      go_wp2
      go_ret
      exact ⟨rfl, HD⟩
def okWk (x : Wk) : Prop := x.1.size ≤ 9223372036854775807
theorem szWork_any (x0 : ByteArray) (x1 : Int) (left : Int) (w : World) (h0 : 0 ≤ left) (h1 : left ≤ 1048576) (hs : x0.size ≤ 9223372036854775807) :
    Calls Try.prog 111 #[.agg #[.string (x0), .int .i64 (x1)], .int .i64 left] w fun e w' => e = .returned (.int .i64 (if left < (x0.size : Int) then -1 else left - x0.size)) ∧ Below w.heap.size w w' := by
  by_cases hlt : left < (x0.size : Int)
  · go_enter Try.func111, Try.ntmps111
    go_wp2
    go_ret
    exact ⟨rfl, below_alloc _ _⟩
  · go_enter Try.func111, Try.ntmps111
    go_wp2
    go_ret
    exact ⟨rfl, below_alloc _ _⟩
theorem szWorkS_big (A : Option Addr) (n c : Nat) (left : Int) (w : World) (h : left < (n : Int)) (h0 : 0 ≤ left) (hn : n ≤ 9223372036854775807) :
    Calls Try.prog 97 #[.slice A n c, .int .i64 left] w fun e w' => e = .returned (.int .i64 (-1)) ∧ w = w' := by
  go_enter Try.func97, Try.ntmps97
  go_wp2
  go_ret
  exact ⟨rfl, rfl⟩
set_option maxRecDepth 100000 in
set_option maxHeartbeats 2000000 in
theorem szWorkS_any (A : Option Addr) (n c : Nat) (l : List Wk) (left : Int) (w : World) (h : (n : Int) ≤ left) (hl : left ≤ 1048576) (ha : WorksIn w A n l) (hok : ∀ x ∈ l, okWk x) :
    Calls Try.prog 97 #[.slice A n c, .int .i64 left] w fun e w' => ∃ r : Int, e = .returned (.int .i64 r) ∧ -1 ≤ r ∧ r ≤ 1048576 ∧ Below w.heap.size w w' := by
  have hn := ha.len
  obtain rfl := ha.1
  have HO := Lib.hid hok
  clear hok
  go_enter Try.func97, Try.ntmps97
  go_wp2
  go_loopw [1, 5] (fun r i wr => ∃ (k : Nat) (x : Int), k ≤ l.length ∧ i = .int .i64 k ∧ r = .int .i64 x ∧ 0 ≤ x ∧ x ≤ 1048576 ∧ Below w.heap.size w wr) (fun _ i _ => l.length - (intOf i).toNat)
  case atStart => exact ⟨0, _, by omega, rfl, rfl, by omega, by omega, Below.refl _ _⟩
  case round =>
    obtain ⟨k, x, hk, rfl, rfl, x0, x1, HR⟩ := hrel
    by_cases hlt : k < l.length
    · obtain ⟨b, o, rfl, _, hc0, hc1⟩ := work_at (ha.keep HR) hlt
      have hs := HO.out _ (List.getElem_mem hlt)
      unfold okWk at hs
      by_cases hneg : x < (l[k].1.size : Int)
      · go_wp2_with fail
        refine (szWork_any _ _ _ _ x0 x1 hs).mono ?_
        rintro e v ⟨rfl, hb⟩
        rw [if_pos (by omega)]
        go_wp2_with fail
        go_ret
        exact ⟨-1, rfl, by omega, by omega, below_on HR hb⟩
      · go_wp2_with fail
        refine (szWork_any _ _ _ _ x0 x1 hs).mono ?_
        rintro e v ⟨rfl, hb⟩
        rw [if_neg (by omega)]
        go_wp2_with fail
        go_roundw
        case rel => exact ⟨k + 1, _, by omega, by go_num, rfl, by omega, by omega, below_on HR hb⟩
        case measure => simp [intOf]; omega
    · obtain rfl : k = l.length := by omega
      go_wp2
      go_ret
      exact ⟨x, rfl, by omega, by omega, HR⟩
end Go.Proofs.Ytcfcfgecdlpflaa
