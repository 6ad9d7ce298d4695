/- Peg: its cells, and the walks of the laws' own helpers on lists of it. -/
import Derived.Test.YtdofhdelcendeaaAppend
import Derived.StillTailTactics
namespace Go.Proofs.Ytdofhdelcendeaa
open Go.RowKit

abbrev Pg := Int × Int × Int
def pgF : Flat Pg := ⟨fun f => [.int .i64 (f.1), .int .i64 (f.2.1), .int .i64 (f.2.2)], 3, fun _ => rfl⟩
abbrev PegsIn (w : World) (A : Option Addr) (n : Nat) (l : List Pg) : Prop := RowsIn pgF w A n l
theorem peg_at {w : World} {A : Option Addr} {n : Nat} {l : List Pg} (h : PegsIn w A n l) {k : Nat} (hk : k < l.length) :
    ∃ b o, A = some ⟨b, o, none⟩ ∧ b < w.heap.size ∧ w.cell? ⟨b, o + k * 3, none⟩ = some (.int .i64 (l[k].1)) ∧ w.cell? ⟨b, o + k * 3 + 1, none⟩ = some (.int .i64 (l[k].2.1)) ∧ w.cell? ⟨b, o + k * 3 + 2, none⟩ = some (.int .i64 (l[k].2.2)) := by
  obtain ⟨b, o, e, hlt, hc⟩ := h.at_ hk
  exact ⟨b, o, e, hlt, hc 0 _ rfl, hc 1 _ rfl, hc 2 _ rfl⟩
theorem pegInfo : (Try.prog.info? 49).map (fun i => (i.zero, i.size, i.bytes)) = some (some (.agg #[.int .i64 0, .int .i64 0, .int .i64 0]), 3, 24) := by kernel_rfl
theorem pegElem : ElemOk pgF 29 49 := by
  obtain ⟨i, h1, h2, h3, h4⟩ := info_parts pegInfo
  exact ⟨i, _, 24, Try.underlying29, h1, h2, h3, h4, rfl, by decide, by omega⟩
theorem toPeg_any (x0 : Int) (x1 : Int) (x2 : Int) (w : World) : Calls Try.prog 70 #[.agg #[.int .i64 (x0), .int .i64 (x1), .int .i64 (x2)]] w fun e w' => e = .returned (.agg #[.int .i64 (x0), .int .i64 (x1), .int .i64 (x2)]) ∧ Below w.heap.size w w' := by
  go_enter Try.func70, Try.ntmps70
  go_wp2
  refine bodyPost_ret (v := .agg #[.int .i64 (x0), .int .i64 (x1), .int .i64 (x2)]) (by simp [results, Try.results70, go_sem]) rfl ⟨rfl, ?_⟩
  exact (((Below.refl _ _).alloc (Nat.le_refl _) _).alloc (by simp) _).alloc (by simp; omega) _
set_option maxRecDepth 100000 in
set_option maxHeartbeats 2000000 in
theorem toPegS_any (A : Option Addr) (n c : Nat) (l : List Pg) (w : World) (hl : PegsIn w A n l) :
    Calls Try.prog 18 #[.slice A n c] w fun e w' => ∃ A', e = .returned (.slice A' n n) ∧ OwnRows pgF 49 w' w.heap.size A' n n l ∧ Below w.heap.size w w' := by
  obtain ⟨i0, hi0, hz0, hz1, hz2⟩ := info_parts pegInfo
  have hn := hl.len
  obtain rfl := hl.1
  go_enter Try.func18, Try.ntmps18
  go_wp2_with (at_make; refine wpList_make_full _ rfl (.tmp 6) (.tmp 6) _ rfl w.heap.size 49 i0 _ 3 Try.underlying29 hi0 hz0 hz1 .i64 .i64 _ _ l.length rfl rfl rfl rfl (by rw [hz2]; omega) (by unfold maxLen; omega) (Nat.le_refl _) ?_; intro w1 hown hg)
  have hb1 := below_none hg
  generalize hzs : (madeCells (Value.agg #[.int .i64 0, .int .i64 0, .int .i64 0]).cells (l.length * 3)).toList = zs at hown
  have hzl : zs.length = (l.flatMap pgF.enc).length := by rw [flatMap_len pgF.enc 3 pgF.len, hown.1]
  clear hg hzs
  have HZ := Lib.hid hzl; clear hzl
  have hown1 : w1.ownsRow w.heap.size 49 3 (.slice (some ⟨w.heap.size, 0, none⟩) l.length l.length) l.length (fillC zs (l.flatMap pgF.enc) 0) := by
    rw [fillC_zero]; exact hown
  clear hown
  go_loopw [4] (fun i wr => ∃ k : Nat, k ≤ l.length ∧ i = .int .i64 k ∧ wr.ownsRow w.heap.size 49 3 (.slice (some ⟨w.heap.size, 0, none⟩) l.length l.length) l.length (fillC zs (l.flatMap pgF.enc) (k * 3)) ∧ Below w.heap.size w wr) (fun i _ => l.length - (intOf i).toNat)
  case atStart => exact ⟨0, by omega, rfl, by rw [Nat.zero_mul]; exact hown1, hb1⟩
  case round =>
    obtain ⟨k, hk, rfl, hown, hb⟩ := hrel
    by_cases hlt : k < l.length
    · obtain ⟨b, o, rfl, _, hc0, hc1, hc2⟩ := peg_at (hl.keep hb) hlt
      go_wp2_with fail
      refine (toPeg_any _ _ _ _).mono ?_
      rintro e w2 ⟨rfl, hb2⟩
      have ho := own_keep hown hb2
      have hlen : (l.flatMap pgF.enc).length = l.length * 3 := flatMap_len pgF.enc 3 pgF.len l
      have hz := HZ.out
      have e0 : (l.flatMap pgF.enc)[k * 3]? = some (.int .i64 (l[k].1)) := flatMap_at pgF.enc 3 pgF.len l k 0 hlt (by omega)
      obtain ⟨u0, c0, f0⟩ := own_cell ho (k * 3) (by omega)
      have e1 : (l.flatMap pgF.enc)[k * 3 + 1]? = some (.int .i64 (l[k].2.1)) := flatMap_at pgF.enc 3 pgF.len l k 1 hlt (by omega)
      obtain ⟨u1, c1, f1⟩ := own_cell ho (k * 3 + 1) (by omega)
      have e2 : (l.flatMap pgF.enc)[k * 3 + 2]? = some (.int .i64 (l[k].2.2)) := flatMap_at pgF.enc 3 pgF.len l k 2 hlt (by omega)
      obtain ⟨u2, c2, f2⟩ := own_cell ho (k * 3 + 2) (by omega)
      have s0 := (ho.stored (k * 3) (.int .i64 (l[k].1))).1
      rw [fillC_set _ _ _ _ e0 hz] at s0
      have s1 := (s0.stored (k * 3 + 1) (.int .i64 (l[k].2.1))).1
      rw [fillC_set _ _ _ _ e1 hz] at s1
      have s2 := (s1.stored (k * 3 + 2) (.int .i64 (l[k].2.2))).1
      rw [fillC_set _ _ _ _ e2 hz] at s2
      have hb3 : Below w.heap.size w w2 := hb.trans (hb2.mono hb.size)
      have S2 := Lib.hid s2
      clear ho e0 e1 e2 s0 s1 s2 hown hz hlen hb hb2
      go_wp2
      go_roundw
      case rel => exact ⟨k + 1, by omega, by go_num, by rw [show (k + 1) * 3 = k * 3 + 1 + 1 + 1 by omega]; exact S2.out, (((hb3.setCell (Nat.le_refl _) _).setCell (Nat.le_refl _) _).setCell (Nat.le_refl _) _)⟩
      case measure => simp [intOf]; omega
    · obtain rfl : k = l.length := by omega
      go_wp2
      go_ret
      refine ⟨_, rfl, ⟨rfl, ?_⟩, hb⟩
      have h2 : (l.flatMap pgF.enc).length = l.length * 3 := flatMap_len pgF.enc 3 pgF.len l
      rw [← h2, fillC_all _ _ HZ.out] at hown
      exact hown
theorem eqPeg_yes (x0 : Int) (x1 : Int) (x2 : Int) (w : World) : Calls Try.prog 74 #[.agg #[.int .i64 (x0), .int .i64 (x1), .int .i64 (x2)], .agg #[.int .i64 (x0), .int .i64 (x1), .int .i64 (x2)]] w fun e w' => e = .returned (.bool true) ∧ Below w.heap.size w w' := by
  go_enter Try.func74, Try.ntmps74
  go_wp2
  go_ret
  exact ⟨rfl, ((Below.refl _ _).alloc (Nat.le_refl _) _).alloc (by simp) _⟩
set_option maxRecDepth 100000 in
set_option maxHeartbeats 2000000 in
theorem eqPegS_yes (A B : Option Addr) (n m c d : Nat) (l : List Pg) (w : World) (ha : PegsIn w A n l) (hb : PegsIn w B m l) :
    Calls Try.prog 21 #[.slice A n c, .slice B m d] w fun e w' => e = .returned (.bool true) ∧ Below w.heap.size w w' := by
  have hn := ha.len
  obtain rfl := ha.1
  obtain rfl := hb.1
  go_enter Try.func21, Try.ntmps21
  go_wp2
  go_loopw [5] (fun i wr => ∃ k : Nat, k ≤ l.length ∧ i = .int .i64 k ∧ Below w.heap.size w wr) (fun i _ => l.length - (intOf i).toNat)
  case atStart => exact ⟨0, by omega, rfl, Below.refl _ _⟩
  case round =>
    obtain ⟨k, hk, rfl, HD⟩ := hrel
    by_cases hlt : k < l.length
    · obtain ⟨b1, o1, rfl, _, hc0, hc1, hc2⟩ := peg_at (ha.keep HD) hlt
      obtain ⟨b2, o2, rfl, _, hd0, hd1, hd2⟩ := peg_at (hb.keep HD) hlt
      go_wp2
      go_still_tail 8, (by kernel_rfl)
      change wpList _ _ _ _ _ wr.drew
      have HE : Below w.heap.size w wr.drew := HD.drew
      generalize wr.drew = w2 at *
      go_wp2_with (go_at_call 74; refine (eqPeg_yes _ _ _ _).mono ?_; rintro e w3 ⟨rfl, hb3⟩)
      go_roundw
      case rel => exact ⟨k + 1, by omega, by go_num, HE.trans (hb3.mono HE.size)⟩
      case measure => simp [intOf]; omega
    · obtain rfl : k = l.length := by omega
      go_wp2
      go_ret
      exact ⟨rfl, HD⟩
theorem szPegS_ok (A : Option Addr) (n c : Nat) (left : Int) (w : World) (h : (n : Int) ≤ left) (hl : left ≤ 1048576) :
    Calls Try.prog 15 #[.slice A n c, .int .i64 left] w fun e w' => e = .returned (.int .i64 (left - n)) ∧ w = w' := by
  go_enter Try.func15, Try.ntmps15
  go_wp2
  go_ret
  exact ⟨rfl, rfl⟩
theorem szPegS_big (A : Option Addr) (n c : Nat) (left : Int) (w : World) (h : left < (n : Int)) (h0 : 0 ≤ left) (hn : n ≤ 9223372036854775807) :
    Calls Try.prog 15 #[.slice A n c, .int .i64 left] w fun e w' => e = .returned (.int .i64 (-1)) ∧ w = w' := by
  go_enter Try.func15, Try.ntmps15
  go_wp2
  go_ret
  exact ⟨rfl, rfl⟩
/-- What the marks from k on make of a list. -/
def marksPg : List Pg → Int → List Pg
  | [], _ => []
  | _ :: t, k => (k, k + 1, k + 1 + 1) :: marksPg t (k + 3)
theorem marksPg_len (l : List Pg) (k : Int) : (marksPg l k).length = l.length := by
  induction l generalizing k with
  | nil => rfl
  | cons f t ih => simp [marksPg, ih]
theorem marksPg_at (l : List Pg) (k : Int) (j : Nat) (h : j < (marksPg l k).length) : (marksPg l k)[j] = (k + 3 * j, k + 3 * j + 1, k + 3 * j + 1 + 1) := by
  induction l generalizing k j with
  | nil => simp [marksPg] at h
  | cons f t ih =>
    cases j with
    | zero => simp [marksPg]
    | succ j =>
      simp only [marksPg, List.getElem_cons_succ]
      rw [ih]
      rw [show k + 3 + 3 * (j : Int) = k + 3 * ((j + 1 : Nat) : Int) by omega]
set_option maxRecDepth 100000 in
set_option maxHeartbeats 2000000 in
theorem markPegS_any (A : Option Addr) (n c lo hi : Nat) (l : List Pg) (k0 : Int) (w : World) (ha : RowsAt pgF 49 w lo hi A n c l) (hk0 : 0 ≤ k0) (hk1 : k0 ≤ 1000000000) (hn : l.length ≤ 16777216) :
    Calls Try.prog 28 #[.slice A n c, .int .i64 k0] w fun e w' => e = .returned (.int .i64 (k0 + 3 * l.length)) ∧ RowsAt pgF 49 w' lo hi A n c (marksPg l k0) ∧ Only lo hi w w' := by
  obtain rfl := ha.1
  have hml := marksPg_len l k0
  have hlen : (l.flatMap pgF.enc).length = l.length * 3 := flatMap_len pgF.enc 3 pgF.len l
  have hlen2 : ((marksPg l k0).flatMap pgF.enc).length = l.length * 3 := by rw [flatMap_len pgF.enc 3 pgF.len, hml]
  have HZ := Lib.hid (hlen.trans hlen2.symm)
  have HL := Lib.hid hlen2
  have HM := Lib.hid hml
  clear hml hlen hlen2
  obtain ⟨_, ⟨hown, hhi, hlt⟩⟩ := ha
  have HT := Lib.hid hlt
  clear hlt
  go_enter Try.func28, Try.ntmps28
  go_wp2
  go_loopw [1, 5] (fun m i wr => ∃ k : Nat, k ≤ l.length ∧ i = .int .i64 k ∧ m = .int .i64 (k0 + 3 * k) ∧ wr.ownsRow lo 49 3 (.slice A l.length c) l.length (fillC (l.flatMap pgF.enc) ((marksPg l k0).flatMap pgF.enc) (k * 3)) ∧ Only lo hi w wr) (fun _ i _ => l.length - (intOf i).toNat)
  case atStart => exact ⟨0, by omega, rfl, by go_num, by rw [Nat.zero_mul, fillC_zero]; exact hown, Only.refl _ _ _⟩
  case round =>
    obtain ⟨k, hk, rfl, rfl, ho, HO⟩ := hrel
    by_cases hlt : k < l.length
    · have hA : ∃ g, A = some ⟨g, 0, none⟩ := by
        rcases ho.2 with ⟨hv, h0⟩ | ⟨g, cap, cur, hv, _⟩
        · omega
        · exact ⟨g, by injection hv⟩
      obtain ⟨g, rfl⟩ := hA
      have hm : k < (marksPg l k0).length := by rw [HM.out]; exact hlt
      have e0 : ((marksPg l k0).flatMap pgF.enc)[k * 3]? = some (.int .i64 (k0 + 3 * k)) := by
        have := flatMap_at pgF.enc 3 pgF.len (marksPg l k0) k 0 hm (by omega)
        rw [marksPg_at _ _ _ hm] at this; exact this
      obtain ⟨u0, c0, f0⟩ := own_cell ho (k * 3) (by omega)
      have e1 : ((marksPg l k0).flatMap pgF.enc)[k * 3 + 1]? = some (.int .i64 (k0 + 3 * k + 1)) := by
        have := flatMap_at pgF.enc 3 pgF.len (marksPg l k0) k 1 hm (by omega)
        rw [marksPg_at _ _ _ hm] at this; exact this
      obtain ⟨u1, c1, f1⟩ := own_cell ho (k * 3 + 1) (by omega)
      have e2 : ((marksPg l k0).flatMap pgF.enc)[k * 3 + 2]? = some (.int .i64 (k0 + 3 * k + 1 + 1)) := by
        have := flatMap_at pgF.enc 3 pgF.len (marksPg l k0) k 2 hm (by omega)
        rw [marksPg_at _ _ _ hm] at this; exact this
      obtain ⟨u2, c2, f2⟩ := own_cell ho (k * 3 + 2) (by omega)
      have s0 := (ho.stored (k * 3) (.int .i64 (k0 + 3 * k)))
      rw [fillC_set _ _ _ _ e0 HZ.out] at s0
      have s1 := (s0.1.stored (k * 3 + 1) (.int .i64 (k0 + 3 * k + 1)))
      rw [fillC_set _ _ _ _ e1 HZ.out] at s1
      have s2 := (s1.1.stored (k * 3 + 2) (.int .i64 (k0 + 3 * k + 1 + 1)))
      rw [fillC_set _ _ _ _ e2 HZ.out] at s2
      have hgl : lo ≤ g ∧ g < hi := ⟨(own_lt ho _ rfl).1, HT.out _ rfl⟩
      have HO2 : Only lo hi w _ := (((HO.trans (Only.of_grown s0.2 (fun x hx => by injection hx with hx; subst hx; exact hgl))).trans (Only.of_grown s1.2 (fun x hx => by injection hx with hx; subst hx; exact hgl))).trans (Only.of_grown s2.2 (fun x hx => by injection hx with hx; subst hx; exact hgl)))
      have S2 := Lib.hid s2.1
      clear e0 e1 e2 s0 s1 s2 ho
      go_wp2
      go_roundw
      case rel => exact ⟨k + 1, by omega, by go_num, by go_num, by rw [show (k + 1) * 3 = k * 3 + 1 + 1 + 1 by omega]; exact S2.out, HO2⟩
      case measure => simp [intOf]; omega
    · obtain rfl : k = l.length := by omega
      go_wp2
      go_ret
      rw [← HL.out, fillC_all _ _ HZ.out] at ho
      exact ⟨rfl, ⟨HM.out.symm, ho, Nat.le_trans hhi HO.size, HT.out⟩, HO⟩
set_option maxRecDepth 100000 in
set_option maxHeartbeats 2000000 in
theorem heldPegS_any (A : Option Addr) (n c : Nat) (l : List Pg) (k0 : Int) (w : World) (ha : PegsIn w A n (marksPg l k0)) (hk0 : 0 ≤ k0) (hk1 : k0 ≤ 1000000000) :
    Calls Try.prog 29 #[.slice A n c, .int .i64 k0] w fun e w' => e = .returned (.int .i64 (k0 + 3 * l.length)) ∧ w = w' := by
  have hn := ha.len
  rw [marksPg_len] at hn
  have HM := Lib.hid (marksPg_len l k0)
  obtain rfl : n = l.length := ha.1.trans HM.out
  go_enter Try.func29, Try.ntmps29
  go_wp2
  go_loop [1, 5] (fun m i => ∃ k : Nat, k ≤ l.length ∧ i = .int .i64 k ∧ m = .int .i64 (k0 + 3 * k)) (fun _ i => l.length - (intOf i).toNat)
  case atStart => exact ⟨0, by omega, rfl, by go_num⟩
  case round =>
    obtain ⟨k, hk, rfl, rfl⟩ := hrel
    by_cases hlt : k < l.length
    · have hm : k < (marksPg l k0).length := by rw [HM.out]; exact hlt
      obtain ⟨b, o, rfl, _, hc0, hc1, hc2⟩ := peg_at ha hm
      rw [marksPg_at _ _ _ hm] at hc0 hc1 hc2
      dsimp only at hc0 hc1 hc2
      clear hm
      go_wp2
      go_round
      case rel => exact ⟨k + 1, by omega, by go_num, by go_num⟩
      case measure => simp [intOf]; omega
    · obtain rfl : k = l.length := by omega
      go_wp2
      go_ret
      exact ⟨rfl, rfl⟩
end Go.Proofs.Ytdofhdelcendeaa
