/- Peg: its cells, and the walks of the laws' own helpers on lists of it. -/
import Derived.Test.YtacfpgdflhoabaaAppend
import Derived.StillTailTactics
namespace Go.Proofs.Ytacfpgdflhoabaa
open Go.RowKit

abbrev Pg := Int × Int × Int
def pgF : Flat Pg := ⟨fun f => [.int .i64 (f.1), .int .i64 (f.2.1), .int .i64 (f.2.2)], 3, fun _ => rfl⟩
abbrev PegsIn (w : World) (A : Option Addr) (n : Nat) (l : List Pg) : Prop := RowsIn pgF w A n l
theorem peg_at {w : World} {A : Option Addr} {n : Nat} {l : List Pg} (h : PegsIn w A n l) {k : Nat} (hk : k < l.length) :
    ∃ b o, A = some ⟨b, o, none⟩ ∧ b < w.heap.size ∧ w.cell? ⟨b, o + k * 3, none⟩ = some (.int .i64 (l[k].1)) ∧ w.cell? ⟨b, o + k * 3 + 1, none⟩ = some (.int .i64 (l[k].2.1)) ∧ w.cell? ⟨b, o + k * 3 + 2, none⟩ = some (.int .i64 (l[k].2.2)) := by
  obtain ⟨b, o, e, hlt, hc⟩ := h.at_ hk
  exact ⟨b, o, e, hlt, hc 0 _ rfl, hc 1 _ rfl, hc 2 _ rfl⟩
theorem pegInfo : (Try.prog.info? 52).map (fun i => (i.zero, i.size, i.bytes)) = some (some (.agg #[.int .i64 0, .int .i64 0, .int .i64 0]), 3, 24) := by kernel_rfl
theorem pegElem : ElemOk pgF 25 52 := by
  obtain ⟨i, h1, h2, h3, h4⟩ := info_parts pegInfo
  exact ⟨i, _, 24, Try.underlying25, h1, h2, h3, h4, rfl, by decide, by omega⟩
theorem toPeg_any (x0 : Int) (x1 : Int) (x2 : Int) (w : World) : Calls Try.prog 48 #[.agg #[.int .i64 (x0), .int .i64 (x1), .int .i64 (x2)]] w fun e w' => e = .returned (.agg #[.int .i64 (x0), .int .i64 (x1), .int .i64 (x2)]) ∧ Below w.heap.size w w' := by
  go_enter Try.func48, Try.ntmps48
  go_wp2
  refine bodyPost_ret (v := .agg #[.int .i64 (x0), .int .i64 (x1), .int .i64 (x2)]) (by simp [results, Try.results48, go_sem]) rfl ⟨rfl, ?_⟩
  exact (((Below.refl _ _).alloc (Nat.le_refl _) _).alloc (by simp) _).alloc (by simp; omega) _
set_option maxHeartbeats 1000000 in
theorem toPegS_any (A : Option Addr) (n c : Nat) (l : List Pg) (w : World) (hl : PegsIn w A n l) :
    Calls Try.prog 17 #[.slice A n c] w fun e w' => ∃ A', e = .returned (.slice A' n n) ∧ OwnRows pgF 52 w' w.heap.size A' n n l ∧ Below w.heap.size w w' := by
  obtain ⟨i0, hi0, hz0, hz1, hz2⟩ := info_parts pegInfo
  have hn := hl.len
  obtain rfl := hl.1
  go_enter Try.func17, Try.ntmps17
  go_wp2_with (at_make; refine wpList_make_full _ rfl (.tmp 6) (.tmp 6) _ rfl w.heap.size 52 i0 _ 3 Try.underlying25 hi0 hz0 hz1 .i64 .i64 _ _ l.length rfl rfl rfl rfl (by rw [hz2]; omega) (by unfold maxLen; omega) (Nat.le_refl _) ?_; intro w1 hown hg)
  have hb1 := below_none hg
  generalize hzs : (madeCells (Value.agg #[.int .i64 0, .int .i64 0, .int .i64 0]).cells (l.length * 3)).toList = zs at hown
  have hzl : zs.length = (l.flatMap pgF.enc).length := by rw [flatMap_len pgF.enc 3 pgF.len, hown.1]
  clear hg hzs
  have HZ := Lib.hid hzl; clear hzl
  have hown1 : w1.ownsRow w.heap.size 52 3 (.slice (some ⟨w.heap.size, 0, none⟩) l.length l.length) l.length (fillC zs (l.flatMap pgF.enc) 0) := by
    rw [fillC_zero]; exact hown
  clear hown
  go_loopw [4] (fun i wr => ∃ k : Nat, k ≤ l.length ∧ i = .int .i64 k ∧ wr.ownsRow w.heap.size 52 3 (.slice (some ⟨w.heap.size, 0, none⟩) l.length l.length) l.length (fillC zs (l.flatMap pgF.enc) (k * 3)) ∧ Below w.heap.size w wr) (fun i _ => l.length - (intOf i).toNat)
  case atStart => exact ⟨0, by omega, rfl, by rw [Nat.zero_mul]; exact hown1, hb1⟩
  case round =>
    obtain ⟨k, hk, rfl, hown, hb⟩ := hrel
    by_cases hlt : k < l.length
    · obtain ⟨b, o, rfl, _, hc0, hc1, hc2⟩ := peg_at (hl.keep hb) hlt
      go_wp2_with fail
      refine (toPeg_any _ _ _ _).mono ?_
      rintro e w2 ⟨rfl, hb2⟩
      have ho := own_keep hown hb2
      have hlen : (l.flatMap pgF.enc).length = l.length * 3 := flatMap_len pgF.enc 3 pgF.len l
      have hz := HZ.out
      have e0 : (l.flatMap pgF.enc)[k * 3]? = some (.int .i64 (l[k].1)) := flatMap_at pgF.enc 3 pgF.len l k 0 hlt (by omega)
      obtain ⟨u0, c0, f0⟩ := own_cell ho (k * 3) (by omega)
      have e1 : (l.flatMap pgF.enc)[k * 3 + 1]? = some (.int .i64 (l[k].2.1)) := flatMap_at pgF.enc 3 pgF.len l k 1 hlt (by omega)
      obtain ⟨u1, c1, f1⟩ := own_cell ho (k * 3 + 1) (by omega)
      have e2 : (l.flatMap pgF.enc)[k * 3 + 2]? = some (.int .i64 (l[k].2.2)) := flatMap_at pgF.enc 3 pgF.len l k 2 hlt (by omega)
      obtain ⟨u2, c2, f2⟩ := own_cell ho (k * 3 + 2) (by omega)
      have s0 := (ho.stored (k * 3) (.int .i64 (l[k].1))).1
      rw [fillC_set _ _ _ _ e0 hz] at s0
      have s1 := (s0.stored (k * 3 + 1) (.int .i64 (l[k].2.1))).1
      rw [fillC_set _ _ _ _ e1 hz] at s1
      have s2 := (s1.stored (k * 3 + 2) (.int .i64 (l[k].2.2))).1
      rw [fillC_set _ _ _ _ e2 hz] at s2
      have hb3 : Below w.heap.size w w2 := hb.trans (hb2.mono hb.size)
      have S2 := Lib.hid s2
      clear ho e0 e1 e2 s0 s1 s2 hown hz hlen hb hb2
      go_wp2
      go_roundw
      case rel => exact ⟨k + 1, by omega, by go_num, by rw [show (k + 1) * 3 = k * 3 + 1 + 1 + 1 by omega]; exact S2.out, (((hb3.setCell (Nat.le_refl _) _).setCell (Nat.le_refl _) _).setCell (Nat.le_refl _) _)⟩
      case measure => simp [intOf]; omega
    · obtain rfl : k = l.length := by omega
      go_wp2
      go_ret
      refine ⟨_, rfl, ⟨rfl, ?_⟩, hb⟩
      have h2 : (l.flatMap pgF.enc).length = l.length * 3 := flatMap_len pgF.enc 3 pgF.len l
      rw [← h2, fillC_all _ _ HZ.out] at hown
      exact hown
theorem eqPeg_yes (x0 : Int) (x1 : Int) (x2 : Int) (w : World) : Calls Try.prog 50 #[.agg #[.int .i64 (x0), .int .i64 (x1), .int .i64 (x2)], .agg #[.int .i64 (x0), .int .i64 (x1), .int .i64 (x2)]] w fun e w' => e = .returned (.bool true) ∧ Below w.heap.size w w' := by
  go_enter Try.func50, Try.ntmps50
  go_wp2
  go_ret
  exact ⟨rfl, ((Below.refl _ _).alloc (Nat.le_refl _) _).alloc (by simp) _⟩
set_option maxHeartbeats 1000000 in
theorem eqPegS_yes (A B : Option Addr) (n m c d : Nat) (l : List Pg) (w : World) (ha : PegsIn w A n l) (hb : PegsIn w B m l) :
    Calls Try.prog 19 #[.slice A n c, .slice B m d] w fun e w' => e = .returned (.bool true) ∧ Below w.heap.size w w' := by
  have hn := ha.len
  obtain rfl := ha.1
  obtain rfl := hb.1
  go_enter Try.func19, Try.ntmps19
  go_wp2
  go_loopw [5] (fun i wr => ∃ k : Nat, k ≤ l.length ∧ i = .int .i64 k ∧ Below w.heap.size w wr) (fun i _ => l.length - (intOf i).toNat)
  case atStart => exact ⟨0, by omega, rfl, Below.refl _ _⟩
  case round =>
    obtain ⟨k, hk, rfl, HD⟩ := hrel
    by_cases hlt : k < l.length
    · obtain ⟨b1, o1, rfl, _, hc0, hc1, hc2⟩ := peg_at (ha.keep HD) hlt
      obtain ⟨b2, o2, rfl, _, hd0, hd1, hd2⟩ := peg_at (hb.keep HD) hlt
      go_wp2
      go_still_tail 8, (by kernel_rfl)
      change wpList _ _ _ _ _ wr.drew
      have HE : Below w.heap.size w wr.drew := HD.drew
      generalize wr.drew = w2 at *
      go_wp2_with (go_at_call 50; refine (eqPeg_yes _ _ _ _).mono ?_; rintro e w3 ⟨rfl, hb3⟩)
      go_roundw
      case rel => exact ⟨k + 1, by omega, by go_num, HE.trans (hb3.mono HE.size)⟩
      case measure => simp [intOf]; omega
    · obtain rfl : k = l.length := by omega
      go_wp2
      go_ret
      exact ⟨rfl, HD⟩
theorem szPegS_ok (A : Option Addr) (n c : Nat) (left : Int) (w : World) (h : (n : Int) ≤ left) (hl : left ≤ 1048576) :
    Calls Try.prog 15 #[.slice A n c, .int .i64 left] w fun e w' => e = .returned (.int .i64 (left - n)) ∧ w = w' := by
  go_enter Try.func15, Try.ntmps15
  go_wp2
  go_ret
  exact ⟨rfl, rfl⟩
theorem szPegS_big (A : Option Addr) (n c : Nat) (left : Int) (w : World) (h : left < (n : Int)) (h0 : 0 ≤ left) (hn : n ≤ 9223372036854775807) :
    Calls Try.prog 15 #[.slice A n c, .int .i64 left] w fun e w' => e = .returned (.int .i64 (-1)) ∧ w = w' := by
  go_enter Try.func15, Try.ntmps15
  go_wp2
  go_ret
  exact ⟨rfl, rfl⟩
/-- What the marks from k on make of a list. -/
def marksPg : List Pg → Int → List Pg
  | [], _ => []
  | _ :: t, k => (k, k + 1, k + 2) :: marksPg t (k + 3)
theorem marksPg_len (l : List Pg) (k : Int) : (marksPg l k).length = l.length := by
  induction l generalizing k with
  | nil => rfl
  | cons f t ih => simp [marksPg, ih]
theorem marksPg_at (l : List Pg) (k : Int) (j : Nat) (h : j < (marksPg l k).length) : (marksPg l k)[j] = (k + 3 * j, k + 3 * j + 1, k + 3 * j + 2) := by
  induction l generalizing k j with
  | nil => simp [marksPg] at h
  | cons f t ih =>
    cases j with
    | zero => simp [marksPg]
    | succ j =>
      simp only [marksPg, List.getElem_cons_succ]
      rw [ih]
      rw [show k + 3 + 3 * (j : Int) = k + 3 * ((j + 1 : Nat) : Int) by omega]
end Go.Proofs.Ytacfpgdflhoabaa
