/- Part 16 of the texts of this claim: Exception: its cells, and the walks of the laws' own helpers on lists of it; The walks of IsCalendar and of what reckons with calendars; The walks of the small functions on needs of periods. -/
import Derived.Test.YtlnkofnfgemfdaaGreatBo2
import Derived.StillTailTactics
import Derived.Test.YtlnkofnfgemfdaaGreatBo15
import Derived.Test.YtlnkofnfgemfdaaGreatBo8
import Derived.Test.YtlnkofnfgemfdaaGreatBo7
/- Exception: its cells, and the walks of the laws' own helpers on lists of it. -/
namespace Go.Proofs.YtlnkofnfgemfdaaGreat
open Go.RowKit

abbrev Ex := Int × Int
def exF : Flat Ex := ⟨fun f => [.int .i64 (f.1), .int .i64 (f.2)], 2, fun _ => rfl⟩
abbrev ExsIn (w : World) (A : Option Addr) (n : Nat) (l : List Ex) : Prop := RowsIn exF w A n l
theorem exc_at {w : World} {A : Option Addr} {n : Nat} {l : List Ex} (h : ExsIn w A n l) {k : Nat} (hk : k < l.length) :
    ∃ b o, A = some ⟨b, o, none⟩ ∧ b < w.heap.size ∧ w.cell? ⟨b, o + k * 2, none⟩ = some (.int .i64 (l[k].1)) ∧ w.cell? ⟨b, o + k * 2 + 1, none⟩ = some (.int .i64 (l[k].2)) := by
  obtain ⟨b, o, e, hlt, hc⟩ := h.at_ hk
  exact ⟨b, o, e, hlt, hc 0 _ rfl, hc 1 _ rfl⟩
theorem excInfo : (Tryz.prog.info? 192).map (fun i => (i.zero, i.size, i.bytes)) = some (some (.agg #[.int .i64 0, .int .i64 0]), 2, 16) := by kernel_rfl
theorem excElem : ElemOk exF 41 192 := by
  obtain ⟨i, h1, h2, h3, h4⟩ := info_parts excInfo
  exact ⟨i, _, 16, Tryz.underlying41, h1, h2, h3, h4, rfl, by decide, by omega⟩
theorem toException_any (x0 : Int) (x1 : Int) (w : World) : Calls Tryz.prog 146 #[.agg #[.int .i64 (x0), .int .i64 (x1)]] w fun e w' => e = .returned (.agg #[.int .i64 (x0), .int .i64 (x1)]) ∧ Below w.heap.size w w' := by
  go_enter Tryz.func146, Tryz.ntmps146
  go_wp2
  refine bodyPost_ret (v := .agg #[.int .i64 (x0), .int .i64 (x1)]) (by simp [results, Tryz.results146, go_sem]) rfl ⟨rfl, ?_⟩
  exact (((Below.refl _ _).alloc (Nat.le_refl _) _).alloc (by simp) _).alloc (by simp; omega) _
set_option maxRecDepth 100000 in
set_option maxHeartbeats 2000000 in
theorem toExceptionS_any (A : Option Addr) (n c : Nat) (l : List Ex) (w : World) (hl : ExsIn w A n l) :
    Calls Tryz.prog 111 #[.slice A n c] w fun e w' => ∃ A', e = .returned (.slice A' n n) ∧ OwnRows exF 192 w' w.heap.size A' n n l ∧ Below w.heap.size w w' := by
  obtain ⟨i0, hi0, hz0, hz1, hz2⟩ := info_parts excInfo
  have hn := hl.len
  obtain rfl := hl.1
  go_enter Tryz.func111, Tryz.ntmps111
  go_wp2_with (at_make; refine wpList_make_full _ rfl (.tmp 6) (.tmp 6) _ rfl w.heap.size 192 i0 _ 2 Tryz.underlying41 hi0 hz0 hz1 .i64 .i64 _ _ l.length rfl rfl rfl rfl (by rw [hz2]; omega) (by unfold maxLen; omega) (Nat.le_refl _) ?_; intro w1 hown hg)
  have hb1 := below_none hg
  generalize hzs : (madeCells (Value.agg #[.int .i64 0, .int .i64 0]).cells (l.length * 2)).toList = zs at hown
  have hzl : zs.length = (l.flatMap exF.enc).length := by rw [flatMap_len exF.enc 2 exF.len, hown.1]
  clear hg hzs
  have HZ := Lib.hid hzl; clear hzl
  have hown1 : w1.ownsRow w.heap.size 192 2 (.slice (some ⟨w.heap.size, 0, none⟩) l.length l.length) l.length (fillC zs (l.flatMap exF.enc) 0) := by
    rw [fillC_zero]; exact hown
  clear hown
  go_loopw [4] (fun i wr => ∃ k : Nat, k ≤ l.length ∧ i = .int .i64 k ∧ wr.ownsRow w.heap.size 192 2 (.slice (some ⟨w.heap.size, 0, none⟩) l.length l.length) l.length (fillC zs (l.flatMap exF.enc) (k * 2)) ∧ Below w.heap.size w wr) (fun i _ => l.length - (intOf i).toNat)
  case atStart => exact ⟨0, by omega, rfl, by rw [Nat.zero_mul]; exact hown1, hb1⟩
  case round =>
    obtain ⟨k, hk, rfl, hown, hb⟩ := hrel
    by_cases hlt : k < l.length
    · obtain ⟨b, o, rfl, _, hc0, hc1⟩ := exc_at (hl.keep hb) hlt
      go_wp2_with fail
      refine (toException_any _ _ _).mono ?_
      rintro e w2 ⟨rfl, hb2⟩
      have ho := own_keep hown hb2
      have hlen : (l.flatMap exF.enc).length = l.length * 2 := flatMap_len exF.enc 2 exF.len l
      have hz := HZ.out
      have e0 : (l.flatMap exF.enc)[k * 2]? = some (.int .i64 (l[k].1)) := flatMap_at exF.enc 2 exF.len l k 0 hlt (by omega)
      obtain ⟨u0, c0, f0⟩ := own_cell ho (k * 2) (by omega)
      have e1 : (l.flatMap exF.enc)[k * 2 + 1]? = some (.int .i64 (l[k].2)) := flatMap_at exF.enc 2 exF.len l k 1 hlt (by omega)
      obtain ⟨u1, c1, f1⟩ := own_cell ho (k * 2 + 1) (by omega)
      have s0 := (ho.stored (k * 2) (.int .i64 (l[k].1))).1
      rw [fillC_set _ _ _ _ e0 hz] at s0
      have s1 := (s0.stored (k * 2 + 1) (.int .i64 (l[k].2))).1
      rw [fillC_set _ _ _ _ e1 hz] at s1
      have hb3 : Below w.heap.size w w2 := hb.trans (hb2.mono hb.size)
      have S2 := Lib.hid s1
      clear ho e0 e1 s0 s1 hown hz hlen hb hb2
      go_wp2
      go_roundw
      case rel => exact ⟨k + 1, by omega, by go_num, by rw [show (k + 1) * 2 = k * 2 + 1 + 1 by omega]; exact S2.out, ((hb3.setCell (Nat.le_refl _) _).setCell (Nat.le_refl _) _)⟩
      case measure => simp [intOf]; omega
    · obtain rfl : k = l.length := by omega
      go_wp2
      go_ret
      refine ⟨_, rfl, ⟨rfl, ?_⟩, hb⟩
      have h2 : (l.flatMap exF.enc).length = l.length * 2 := flatMap_len exF.enc 2 exF.len l
      rw [← h2, fillC_all _ _ HZ.out] at hown
      exact hown
theorem eqException_yes (x0 : Int) (x1 : Int) (w : World) : Calls Tryz.prog 153 #[.agg #[.int .i64 (x0), .int .i64 (x1)], .agg #[.int .i64 (x0), .int .i64 (x1)]] w fun e w' => e = .returned (.bool true) ∧ Below w.heap.size w w' := by
  go_enter Tryz.func153, Tryz.ntmps153
  go_wp2
  go_ret
  exact ⟨rfl, ((Below.refl _ _).alloc (Nat.le_refl _) _).alloc (by simp) _⟩
set_option maxRecDepth 100000 in
set_option maxHeartbeats 2000000 in
theorem eqExceptionS_yes (A B : Option Addr) (n m c d : Nat) (l : List Ex) (w : World) (ha : ExsIn w A n l) (hb : ExsIn w B m l) :
    Calls Tryz.prog 127 #[.slice A n c, .slice B m d] w fun e w' => e = .returned (.bool true) ∧ Below w.heap.size w w' := by
  have hn := ha.len
  obtain rfl := ha.1
  obtain rfl := hb.1
  go_enter Tryz.func127, Tryz.ntmps127
  go_wp2
  go_loopw [5] (fun i wr => ∃ k : Nat, k ≤ l.length ∧ i = .int .i64 k ∧ Below w.heap.size w wr) (fun i _ => l.length - (intOf i).toNat)
  case atStart => exact ⟨0, by omega, rfl, Below.refl _ _⟩
  case round =>
    obtain ⟨k, hk, rfl, HD⟩ := hrel
    by_cases hlt : k < l.length
    · obtain ⟨b1, o1, rfl, _, hc0, hc1⟩ := exc_at (ha.keep HD) hlt
      obtain ⟨b2, o2, rfl, _, hd0, hd1⟩ := exc_at (hb.keep HD) hlt
      go_wp2
      go_still_tail 8, (by kernel_rfl)
      change wpList _ _ _ _ _ wr.drew
      have HE : Below w.heap.size w wr.drew := HD.drew
      generalize wr.drew = w2 at *
      go_wp2_with (go_at_call 153; refine (eqException_yes _ _ _).mono ?_; rintro e w3 ⟨rfl, hb3⟩)
      go_roundw
      case rel => exact ⟨k + 1, by omega, by go_num, HE.trans (hb3.mono HE.size)⟩
      case measure => simp [intOf]; omega
    · obtain rfl : k = l.length := by omega
      go_wp2
      go_ret
      exact ⟨rfl, HD⟩
theorem szExceptionS_ok (A : Option Addr) (n c : Nat) (left : Int) (w : World) (h : (n : Int) ≤ left) (hl : left ≤ 1048576) :
    Calls Tryz.prog 95 #[.slice A n c, .int .i64 left] w fun e w' => e = .returned (.int .i64 (left - n)) ∧ w = w' := by
  go_enter Tryz.func95, Tryz.ntmps95
  go_wp2
  go_ret
  exact ⟨rfl, rfl⟩
theorem szExceptionS_big (A : Option Addr) (n c : Nat) (left : Int) (w : World) (h : left < (n : Int)) (h0 : 0 ≤ left) (hn : n ≤ 9223372036854775807) :
    Calls Tryz.prog 95 #[.slice A n c, .int .i64 left] w fun e w' => e = .returned (.int .i64 (-1)) ∧ w = w' := by
  go_enter Tryz.func95, Tryz.ntmps95
  go_wp2
  go_ret
  exact ⟨rfl, rfl⟩
/-- What the marks from k on make of a list. -/
def marksEx : List Ex → Int → List Ex
  | [], _ => []
  | _ :: t, k => (k, k + 1) :: marksEx t (k + 2)
theorem marksEx_len (l : List Ex) (k : Int) : (marksEx l k).length = l.length := by
  induction l generalizing k with
  | nil => rfl
  | cons f t ih => simp [marksEx, ih]
theorem marksEx_at (l : List Ex) (k : Int) (j : Nat) (h : j < (marksEx l k).length) : (marksEx l k)[j] = (k + 2 * j, k + 2 * j + 1) := by
  induction l generalizing k j with
  | nil => simp [marksEx] at h
  | cons f t ih =>
    cases j with
    | zero => simp [marksEx]
    | succ j =>
      simp only [marksEx, List.getElem_cons_succ]
      rw [ih]
      rw [show k + 2 + 2 * (j : Int) = k + 2 * ((j + 1 : Nat) : Int) by omega]
set_option maxRecDepth 100000 in
set_option maxHeartbeats 2000000 in
theorem markExceptionS_any (A : Option Addr) (n c lo hi : Nat) (l : List Ex) (k0 : Int) (w : World) (ha : RowsAt exF 192 w lo hi A n c l) (hk0 : 0 ≤ k0) (hk1 : k0 ≤ 2000000000000000000) (hn : l.length ≤ 16777216) :
    Calls Tryz.prog 133 #[.slice A n c, .int .i64 k0] w fun e w' => e = .returned (.int .i64 (k0 + 2 * l.length)) ∧ RowsAt exF 192 w' lo hi A n c (marksEx l k0) ∧ Only lo hi w w' := by
  obtain rfl := ha.1
  have hml := marksEx_len l k0
  have hlen : (l.flatMap exF.enc).length = l.length * 2 := flatMap_len exF.enc 2 exF.len l
  have hlen2 : ((marksEx l k0).flatMap exF.enc).length = l.length * 2 := by rw [flatMap_len exF.enc 2 exF.len, hml]
  have HZ := Lib.hid (hlen.trans hlen2.symm)
  have HL := Lib.hid hlen2
  have HM := Lib.hid hml
  clear hml hlen hlen2
  obtain ⟨_, ⟨hown, hhi, hlt⟩⟩ := ha
  have HT := Lib.hid hlt
  clear hlt
  go_enter Tryz.func133, Tryz.ntmps133
  go_wp2
  go_loopw [1, 5] (fun m i wr => ∃ k : Nat, k ≤ l.length ∧ i = .int .i64 k ∧ m = .int .i64 (k0 + 2 * k) ∧ wr.ownsRow lo 192 2 (.slice A l.length c) l.length (fillC (l.flatMap exF.enc) ((marksEx l k0).flatMap exF.enc) (k * 2)) ∧ Only lo hi w wr) (fun _ i _ => l.length - (intOf i).toNat)
  case atStart => exact ⟨0, by omega, rfl, by go_num, by rw [Nat.zero_mul, fillC_zero]; exact hown, Only.refl _ _ _⟩
  case round =>
    obtain ⟨k, hk, rfl, rfl, ho, HO⟩ := hrel
    by_cases hlt : k < l.length
    · have hA : ∃ g, A = some ⟨g, 0, none⟩ := by
        rcases ho.2 with ⟨hv, h0⟩ | ⟨g, cap, cur, hv, _⟩
        · omega
        · exact ⟨g, by injection hv⟩
      obtain ⟨g, rfl⟩ := hA
      have hm : k < (marksEx l k0).length := by rw [HM.out]; exact hlt
      have e0 : ((marksEx l k0).flatMap exF.enc)[k * 2]? = some (.int .i64 (k0 + 2 * k)) := by
        have := flatMap_at exF.enc 2 exF.len (marksEx l k0) k 0 hm (by omega)
        rw [marksEx_at _ _ _ hm] at this; exact this
      obtain ⟨u0, c0, f0⟩ := own_cell ho (k * 2) (by omega)
      have e1 : ((marksEx l k0).flatMap exF.enc)[k * 2 + 1]? = some (.int .i64 (k0 + 2 * k + 1)) := by
        have := flatMap_at exF.enc 2 exF.len (marksEx l k0) k 1 hm (by omega)
        rw [marksEx_at _ _ _ hm] at this; exact this
      obtain ⟨u1, c1, f1⟩ := own_cell ho (k * 2 + 1) (by omega)
      have s0 := (ho.stored (k * 2) (.int .i64 (k0 + 2 * k)))
      rw [fillC_set _ _ _ _ e0 HZ.out] at s0
      have s1 := (s0.1.stored (k * 2 + 1) (.int .i64 (k0 + 2 * k + 1)))
      rw [fillC_set _ _ _ _ e1 HZ.out] at s1
      have hgl : lo ≤ g ∧ g < hi := ⟨(own_lt ho _ rfl).1, HT.out _ rfl⟩
      have HO2 : Only lo hi w _ := ((HO.trans (Only.of_grown s0.2 (fun x hx => by injection hx with hx; subst hx; exact hgl))).trans (Only.of_grown s1.2 (fun x hx => by injection hx with hx; subst hx; exact hgl)))
      have S2 := Lib.hid s1.1
      clear e0 e1 s0 s1 ho
      go_wp2
      go_roundw
      case rel => exact ⟨k + 1, by omega, by go_num, by go_num, by rw [show (k + 1) * 2 = k * 2 + 1 + 1 by omega]; exact S2.out, HO2⟩
      case measure => simp [intOf]; omega
    · obtain rfl : k = l.length := by omega
      go_wp2
      go_ret
      rw [← HL.out, fillC_all _ _ HZ.out] at ho
      exact ⟨rfl, ⟨HM.out.symm, ho, Nat.le_trans hhi HO.size, HT.out⟩, HO⟩
end Go.Proofs.YtlnkofnfgemfdaaGreat
/- The walks of IsCalendar and of what reckons with calendars. -/
namespace Go.Proofs.YtlnkofnfgemfdaaGreat
open Go.RowKit
theorem okEx_of {ex : List (Int × Int)} {k : Nat} (hk : k < ex.length) : okEx ex k = (inB ex[k].1 0 999 && (inB ex[k].2 0 24 && (decide (k = 0) || decide ((ex.getD (k - 1) exNone).1 < ex[k].1)))) := by
  unfold okEx; rw [ex_getD _ _ hk]

set_option maxRecDepth 100000 in
set_option maxHeartbeats 4000000 in
theorem specIsCalendar_any (A B : Option Addr) (n m c d : Nat) (wk : List Int) (ex : List Ex) (w : World) (ha : IntsIn w A n wk) (hb : ExsIn w B m ex) :
    Calls Tryz.prog 100 #[.agg #[.slice A n c, .slice B m d]] w fun e w' => e = .returned (.bool (isCal wk ex)) ∧ Below w.heap.size w w' := by
  have hn := ha.len
  have hm := hb.len
  obtain rfl := ha.1
  obtain rfl := hb.1
  have hbox := below_alloc w (.cells #[.slice A wk.length c, .slice B ex.length d] 43)
  have hs1 : w.heap.size < (w.alloc (.cells #[.slice A wk.length c, .slice B ex.length d] 43)).heap.size := by simp
  have g0 : (w.alloc (.cells #[.slice A wk.length c, .slice B ex.length d] 43)).cell? ⟨w.heap.size, 0, none⟩ = some (.slice A wk.length c) := by simp [go_sem]
  have g1 : (w.alloc (.cells #[.slice A wk.length c, .slice B ex.length d] 43)).cell? ⟨w.heap.size, 1, none⟩ = some (.slice B ex.length d) := by simp [go_sem]
  by_cases h7 : wk.length = 7
  case neg =>
    have h7b : ((wk.length : Int) != 7) = true := by rw [bne_iff_ne]; omega
    have HN := Lib.hid h7; clear h7 g0 g1
    go_enter Tryz.func100, Tryz.ntmps100
    go_wp2
    go_ret
    exact ⟨ret_bool (isCal_no7 HN.out).symm, hbox⟩
  have h7b : ((wk.length : Int) != 7) = false := by rw [bne_eq_false_iff_eq]; omega
  have h7l : wk.length ≤ 7 := by omega
  have h7g : 7 ≤ wk.length := by omega
  have H7 := Lib.hid h7; clear h7
  by_cases h20 : ex.length ≤ 20
  case neg =>
    have h20b : ¬ (ex.length : Int) ≤ 20 := by omega
    have HN := Lib.hid h20; clear h20 g0 g1
    go_enter Tryz.func100, Tryz.ntmps100
    go_wp2
    go_ret
    exact ⟨ret_bool (isCal_no20 HN.out).symm, hbox⟩
  go_enter Tryz.func100, Tryz.ntmps100
  go_wp2_with fail
  clear h7b
  generalize w.alloc (.cells #[.slice A wk.length c, .slice B ex.length d] 43) = w1 at *
  replace ha := ha.keep hbox
  replace hb := hb.keep hbox
  go_loop [3] (fun i => ∃ k : Nat, k ≤ 7 ∧ i = .int .i64 k ∧ (wk.take k).all (inB · 0 24) = true) (fun i => wk.length - (intOf i).toNat)
  case atStart => exact ⟨0, by omega, rfl, rfl⟩
  case round =>
    obtain ⟨k, hk, rfl, hall⟩ := hrel
    have HA := Lib.hid hall; clear hall
    by_cases hlt : k < wk.length
    · obtain ⟨b, o, rfl, _, hcell⟩ := ha.at_ hlt
      cases hin : inB wk[k] 0 24
      · go_wp2_with (go_at_call 101; refine (l1In_any _ _ _ _).mono ?_; rintro e w' ⟨rfl, rfl⟩)
        go_ret
        exact ⟨ret_bool (isCal_wk hlt hin).symm, hbox⟩
      · go_wp2_with (go_at_call 101; refine (l1In_any _ _ _ _).mono ?_; rintro e w' ⟨rfl, rfl⟩)
        go_round
        case rel => exact ⟨k + 1, by omega, by go_num, by rw [all_take wk _ k hlt, HA.out, hin]; rfl⟩
        case measure => simp [intOf]; omega
    · obtain rfl : k = wk.length := by omega
      have HW : Hid (wk.all (inB · 0 24) = true) := by
        have := HA.out
        rw [List.take_length] at this; exact this
      clear HA
      go_wp2_with fail
      go_loopw [4] (fun i wr => ∃ k : Nat, k ≤ ex.length ∧ i = .int .i64 k ∧ Hid (∀ j < k, okEx ex j = true) ∧ Below w1.heap.size w1 wr) (fun i _ => ex.length - (intOf i).toNat)
      case atStart => exact ⟨0, by omega, rfl, fun j h => absurd h (by omega), Below.refl _ _⟩
      case round =>
        clear hlt hk
        obtain ⟨k, hk, rfl, HI, HD⟩ := hrel
        replace g0 := (HD.cell (p := ⟨w.heap.size, 0, none⟩) hs1).trans g0
        replace g1 := (HD.cell (p := ⟨w.heap.size, 1, none⟩) hs1).trans g1
        have hbl0 : w.heap.size < wr.heap.size := Nat.lt_of_lt_of_le hs1 HD.size
        by_cases hlt : k < ex.length
        · obtain ⟨b, o, rfl, hbl, hc0, hc1⟩ := exc_at (hb.keep HD) hlt
          have hsz := HD.size
          have HO := okEx_of hlt
          have HOK := Lib.hid HO
          clear HO
          have HX : Hid (okEx ex k = true → ∀ j < k + 1, okEx ex j = true) := fun hb j hj => by
            rcases Nat.lt_or_ge j k with h1 | h1
            · exact HI.out j h1
            · rw [show j = k by omega]; exact hb
          cases hd : inB ex[k].1 0 999
          · go_wp2_with fail
            go_quiet (((go_at_call 101; exact quietS (l1In_any _ _ _))))
            go_wp2
            go_ret
            exact ⟨ret_bool (isCal_ex hlt (by rw [HOK.out, hd]; rfl)).symm, hbox.trans ((below_drewN (HD.alloc hsz _) _).mono (Nat.le_of_lt hs1))⟩
          cases hh : inB ex[k].2 0 24
          · go_wp2_with fail
            go_quiet (((go_at_call 101; exact quietS (l1In_any _ _ _))))
            go_wp2
            go_ret
            exact ⟨ret_bool (isCal_ex hlt (by rw [HOK.out, hd, hh]; rfl)).symm, hbox.trans ((below_drewN (HD.alloc hsz _) _).mono (Nat.le_of_lt hs1))⟩
          by_cases h0 : k = 0
          · have hy1 : decide (0 < k) = false := by simp; omega
            have hy2 : decide ((0 : Int) < (k : Int)) = false := by simp; omega
            have H0 := Lib.hid h0; clear h0
            go_wp2_with fail
            go_quiet (((go_at_call 101; exact quietS (l1In_any _ _ _))))
            go_wp2
            go_roundw
            case rel => exact ⟨k + 1, by omega, by go_num, HX.out (by rw [HOK.out, hd, hh, decide_eq_true H0.out]; rfl), below_drewN (HD.alloc hsz _) _⟩
            case measure => simp [intOf]; omega
          · have hlt2 : k - 1 < ex.length := by omega
            obtain ⟨b2, o2, e2, _, hp1, _⟩ := exc_at (hb.keep HD) hlt2
            obtain ⟨rfl, rfl⟩ : b = b2 ∧ o = o2 := by simpa using e2
            clear e2
            have hp2 := World.cell?_alloc_lt wr (.cells #[.int .i64 ex[k].1, .int .i64 ex[k].2] 192) ⟨b, o + (k - 1) * 2, none⟩ hbl
            rw [hp1] at hp2
            have hp3 := World.cell?_alloc_lt wr (.cells #[.int .i64 ex[k].1, .int .i64 ex[k].2] 192) ⟨w.heap.size, 1, none⟩ hbl0
            rw [g1] at hp3
            have hy1 : decide (0 < k) = true := by simp; omega
            have hy2 : decide ((0 : Int) < (k : Int)) = true := by simp; omega
            have hi1 : (0 : Int) ≤ (k : Int) - 1 := by omega
            have hi2 : (k : Int) - 1 < (ex.length : Int) := by omega
            have hi3 : ((k : Int) - 1).toNat = k - 1 := by omega
            have HG2 : Hid (ex.getD (k - 1) exNone = ex[k - 1]) := ex_getD _ _ hlt2
            have H0 := Lib.hid h0; clear h0
            by_cases hge : ex[k - 1].1 < ex[k].1
            · have hy3 : decide (ex[k].1 ≤ ex[k - 1].1) = false := by simp; omega
              have HGE := Lib.hid hge
              go_wp2_with fail
              go_quiet (((go_at_call 101; exact quietS (l1In_any _ _ _))))
              go_wp2
              go_roundw
              case rel => exact ⟨k + 1, by omega, by go_num, HX.out (by rw [HOK.out, HG2.out, hd, hh, decide_eq_true HGE.out]; simp), below_drewN (HD.alloc hsz _) _⟩
              case measure => simp [intOf]; omega
            · have hge2 : ex[k].1 ≤ ex[k - 1].1 := by omega
              have hy3 : decide (ex[k].1 ≤ ex[k - 1].1) = true := by simp; omega
              have HGE := Lib.hid hge2
              go_wp2_with fail
              go_quiet (((go_at_call 101; exact quietS (l1In_any _ _ _))))
              go_wp2
              go_ret
              exact ⟨ret_bool (isCal_ex hlt (by rw [HOK.out, HG2.out, hd, hh, decide_eq_false H0.out, decide_eq_false (show ¬ ex[k - 1].1 < ex[k].1 by have := HGE.out; omega)]; rfl)).symm, hbox.trans ((below_drewN (HD.alloc hsz _) _).mono (Nat.le_of_lt hs1))⟩
        · obtain rfl : k = ex.length := by omega
          go_wp2
          go_ret
          exact ⟨ret_bool (isCal_yes H7.out h20 HW.out HI.out).symm, hbox.trans (HD.mono (Nat.le_of_lt hs1))⟩
set_option maxRecDepth 100000 in
set_option maxHeartbeats 4000000 in
theorem implIsCalendar_any (A B : Option Addr) (n m c d : Nat) (wk : List Int) (ex : List Ex) (w : World) (ha : IntsIn w A n wk) (hb : ExsIn w B m ex) :
    Calls Tryz.prog 116 #[.agg #[.slice A n c, .slice B m d]] w fun e w' => e = .returned (.bool (isCal wk ex)) ∧ Below w.heap.size w w' := by
  have hn := ha.len
  have hm := hb.len
  obtain rfl := ha.1
  obtain rfl := hb.1
  have hbox := below_alloc w (.cells #[.slice A wk.length c, .slice B ex.length d] 43)
  have hs1 : w.heap.size < (w.alloc (.cells #[.slice A wk.length c, .slice B ex.length d] 43)).heap.size := by simp
  have g0 : (w.alloc (.cells #[.slice A wk.length c, .slice B ex.length d] 43)).cell? ⟨w.heap.size, 0, none⟩ = some (.slice A wk.length c) := by simp [go_sem]
  have g1 : (w.alloc (.cells #[.slice A wk.length c, .slice B ex.length d] 43)).cell? ⟨w.heap.size, 1, none⟩ = some (.slice B ex.length d) := by simp [go_sem]
  by_cases h7 : wk.length = 7
  case neg =>
    have h7b : ((wk.length : Int) != 7) = true := by rw [bne_iff_ne]; omega
    have HN := Lib.hid h7; clear h7 g0 g1
    go_enter Tryz.func116, Tryz.ntmps116
    go_wp2
    go_ret
    exact ⟨ret_bool (isCal_no7 HN.out).symm, hbox⟩
  have h7b : ((wk.length : Int) != 7) = false := by rw [bne_eq_false_iff_eq]; omega
  have h7l : wk.length ≤ 7 := by omega
  have h7g : 7 ≤ wk.length := by omega
  have H7 := Lib.hid h7; clear h7
  by_cases h20 : ex.length ≤ 20
  case neg =>
    have h20b : ¬ (ex.length : Int) ≤ 20 := by omega
    have HN := Lib.hid h20; clear h20 g0 g1
    go_enter Tryz.func116, Tryz.ntmps116
    go_wp2
    go_ret
    exact ⟨ret_bool (isCal_no20 HN.out).symm, hbox⟩
  go_enter Tryz.func116, Tryz.ntmps116
  go_wp2_with fail
  clear h7b
  generalize w.alloc (.cells #[.slice A wk.length c, .slice B ex.length d] 43) = w1 at *
  replace ha := ha.keep hbox
  replace hb := hb.keep hbox
  go_loop [20] (fun i => ∃ k : Nat, k ≤ wk.length ∧ i = .int .i64 k ∧ (wk.take k).all (inB · 0 24) = true) (fun i => wk.length - (intOf i).toNat)
  case atStart => exact ⟨0, by omega, rfl, rfl⟩
  case round =>
    obtain ⟨k, hk, rfl, hall⟩ := hrel
    have HA := Lib.hid hall; clear hall
    by_cases hlt : k < wk.length
    · obtain ⟨b, o, rfl, _, hcell⟩ := ha.at_ hlt
      cases hin : inB wk[k] 0 24
      · go_wp2_with (go_at_call 117; refine (in_any _ _ _ _).mono ?_; rintro e w' ⟨rfl, rfl⟩)
        go_ret
        exact ⟨ret_bool (isCal_wk hlt hin).symm, hbox⟩
      · go_wp2_with (go_at_call 117; refine (in_any _ _ _ _).mono ?_; rintro e w' ⟨rfl, rfl⟩)
        go_round
        case rel => exact ⟨k + 1, by omega, by go_num, by rw [all_take wk _ k hlt, HA.out, hin]; rfl⟩
        case measure => simp [intOf]; omega
    · obtain rfl : k = wk.length := by omega
      have HW : Hid (wk.all (inB · 0 24) = true) := by
        have := HA.out
        rw [List.take_length] at this; exact this
      clear HA
      go_wp2_with fail
      go_loopw [31] (fun i wr => ∃ k : Nat, k ≤ ex.length ∧ i = .int .i64 k ∧ Hid (∀ j < k, okEx ex j = true) ∧ Below w1.heap.size w1 wr) (fun i _ => ex.length - (intOf i).toNat)
      case atStart => exact ⟨0, by omega, rfl, fun j h => absurd h (by omega), Below.refl _ _⟩
      case round =>
        clear hlt hk
        obtain ⟨k, hk, rfl, HI, HD⟩ := hrel
        replace g0 := (HD.cell (p := ⟨w.heap.size, 0, none⟩) hs1).trans g0
        replace g1 := (HD.cell (p := ⟨w.heap.size, 1, none⟩) hs1).trans g1
        have hbl0 : w.heap.size < wr.heap.size := Nat.lt_of_lt_of_le hs1 HD.size
        by_cases hlt : k < ex.length
        · obtain ⟨b, o, rfl, hbl, hc0, hc1⟩ := exc_at (hb.keep HD) hlt
          have hsz := HD.size
          have HO := okEx_of hlt
          have HOK := Lib.hid HO
          clear HO
          have HX : Hid (okEx ex k = true → ∀ j < k + 1, okEx ex j = true) := fun hb j hj => by
            rcases Nat.lt_or_ge j k with h1 | h1
            · exact HI.out j h1
            · rw [show j = k by omega]; exact hb
          cases hd : inB ex[k].1 0 999
          · go_wp2_with fail
            go_quiet (((go_at_call 117; exact quietS (in_any _ _ _))))
            go_wp2
            go_ret
            exact ⟨ret_bool (isCal_ex hlt (by rw [HOK.out, hd]; rfl)).symm, hbox.trans ((below_drewN (HD.alloc hsz _) _).mono (Nat.le_of_lt hs1))⟩
          cases hh : inB ex[k].2 0 24
          · go_wp2_with fail
            go_quiet (((go_at_call 117; exact quietS (in_any _ _ _))))
            go_wp2
            go_ret
            exact ⟨ret_bool (isCal_ex hlt (by rw [HOK.out, hd, hh]; rfl)).symm, hbox.trans ((below_drewN (HD.alloc hsz _) _).mono (Nat.le_of_lt hs1))⟩
          by_cases h0 : k = 0
          · have hy1 : decide (0 < k) = false := by simp; omega
            have hy2 : decide ((0 : Int) < (k : Int)) = false := by simp; omega
            have H0 := Lib.hid h0; clear h0
            go_wp2_with fail
            go_quiet (((go_at_call 117; exact quietS (in_any _ _ _))))
            go_wp2
            go_roundw
            case rel => exact ⟨k + 1, by omega, by go_num, HX.out (by rw [HOK.out, hd, hh, decide_eq_true H0.out]; rfl), below_drewN (HD.alloc hsz _) _⟩
            case measure => simp [intOf]; omega
          · have hlt2 : k - 1 < ex.length := by omega
            obtain ⟨b2, o2, e2, _, hp1, _⟩ := exc_at (hb.keep HD) hlt2
            obtain ⟨rfl, rfl⟩ : b = b2 ∧ o = o2 := by simpa using e2
            clear e2
            have hp2 := World.cell?_alloc_lt wr (.cells #[.int .i64 ex[k].1, .int .i64 ex[k].2] 192) ⟨b, o + (k - 1) * 2, none⟩ hbl
            rw [hp1] at hp2
            have hp3 := World.cell?_alloc_lt wr (.cells #[.int .i64 ex[k].1, .int .i64 ex[k].2] 192) ⟨w.heap.size, 1, none⟩ hbl0
            rw [g1] at hp3
            have hy1 : decide (0 < k) = true := by simp; omega
            have hy2 : decide ((0 : Int) < (k : Int)) = true := by simp; omega
            have hi1 : (0 : Int) ≤ (k : Int) - 1 := by omega
            have hi2 : (k : Int) - 1 < (ex.length : Int) := by omega
            have hi3 : ((k : Int) - 1).toNat = k - 1 := by omega
            have HG2 : Hid (ex.getD (k - 1) exNone = ex[k - 1]) := ex_getD _ _ hlt2
            have H0 := Lib.hid h0; clear h0
            by_cases hge : ex[k - 1].1 < ex[k].1
            · have hy3 : decide (ex[k].1 ≤ ex[k - 1].1) = false := by simp; omega
              have HGE := Lib.hid hge
              go_wp2_with fail
              go_quiet (((go_at_call 117; exact quietS (in_any _ _ _))))
              go_wp2
              go_roundw
              case rel => exact ⟨k + 1, by omega, by go_num, HX.out (by rw [HOK.out, HG2.out, hd, hh, decide_eq_true HGE.out]; simp), below_drewN (HD.alloc hsz _) _⟩
              case measure => simp [intOf]; omega
            · have hge2 : ex[k].1 ≤ ex[k - 1].1 := by omega
              have hy3 : decide (ex[k].1 ≤ ex[k - 1].1) = true := by simp; omega
              have HGE := Lib.hid hge2
              go_wp2_with fail
              go_quiet (((go_at_call 117; exact quietS (in_any _ _ _))))
              go_wp2
              go_ret
              exact ⟨ret_bool (isCal_ex hlt (by rw [HOK.out, HG2.out, hd, hh, decide_eq_false H0.out, decide_eq_false (show ¬ ex[k - 1].1 < ex[k].1 by have := HGE.out; omega)]; rfl)).symm, hbox.trans ((below_drewN (HD.alloc hsz _) _).mono (Nat.le_of_lt hs1))⟩
        · obtain rfl : k = ex.length := by omega
          go_wp2
          go_ret
          exact ⟨ret_bool (isCal_yes H7.out h20 HW.out HI.out).symm, hbox.trans (HD.mono (Nat.le_of_lt hs1))⟩
end Go.Proofs.YtlnkofnfgemfdaaGreat
/- The walks of the small functions on needs of periods. -/
namespace Go.Proofs.YtlnkofnfgemfdaaGreat
open Go.RowKit

def arePeriods (l : List Int) (s h : Int) : Bool := l.all (inB · 0 1000) && (decide ((l.length : Int) ≤ 10) && (inB s 0 10000 && inB h 0 10000))

set_option maxRecDepth 100000 in
set_option maxHeartbeats 400000 in
theorem toIntS_any (A : Option Addr) (n c : Nat) (l : List Int) (w : World) (hl : IntsIn w A n l) :
    Calls Tryz.prog 110 #[.slice A n c] w fun e w' => ∃ A', e = .returned (.slice A' n n) ∧ OwnInts w' w.heap.size A' n n l ∧ Below w.heap.size w w' := by
  obtain ⟨i0, hi0, hz0, hz1, hz2⟩ := info_parts intInfo
  have hn := hl.2.len
  obtain rfl := hl.1
  go_enter Tryz.func110, Tryz.ntmps110
  go_wp2_with (at_make; refine wpList_make_full _ rfl (.tmp 6) (.tmp 6) _ rfl w.heap.size 3 i0 _ 1 Tryz.underlying24 hi0 hz0 hz1 .i64 .i64 _ _ l.length rfl rfl rfl rfl (by rw [hz2]; omega) (by unfold maxLen; omega) (Nat.le_refl _) ?_; intro w1 hown hg)
  have hown1 : w1.ownsRow w.heap.size 3 1 (.slice (some ⟨w.heap.size, 0, none⟩) l.length l.length) l.length (fillC (List.replicate l.length (.int .i64 0)) (ints l) 0) := by
    rw [fillC_zero]; rw [show (Value.int .i64 0).cells = #[.int .i64 0] from rfl, Nat.mul_one, toList_madeCells_one] at hown; exact hown
  have hb1 := below_none hg
  clear hown hg
  go_loopw [4] (fun i wr => ∃ k : Nat, k ≤ l.length ∧ i = .int .i64 k ∧ wr.ownsRow w.heap.size 3 1 (.slice (some ⟨w.heap.size, 0, none⟩) l.length l.length) l.length (fillC (List.replicate l.length (.int .i64 0)) (ints l) k) ∧ Below w.heap.size w wr) (fun i _ => l.length - (intOf i).toNat)
  case atStart => exact ⟨0, by omega, rfl, hown1, hb1⟩
  case round =>
    obtain ⟨k, hk, rfl, hown, hb⟩ := hrel
    by_cases hlt : k < l.length
    · obtain ⟨b, o, rfl, _, hcell⟩ := (hl.keep hb).at_ hlt
      have hc1 := hown.cellAt k (by omega)
      rw [fillC_at _ _ k (by simp; omega), List.getElem?_replicate, if_pos hlt] at hc1
      have hf1 := hown.frozenAt k
      have hst := hown.stored k (.int .i64 l[k])
      rw [fillC_set _ _ k _ (by simp [hlt]) (by simp)] at hst
      have HS := Lib.hid hst; clear hst
      go_wp2
      go_roundw
      case rel => exact ⟨k + 1, by omega, by go_num, HS.out.1, hb.setCell (Nat.le_refl _) _⟩
      case measure => simp [intOf]; omega
    · obtain rfl : k = l.length := by omega
      go_wp2
      go_ret
      refine ⟨_, rfl, ⟨rfl, ?_⟩, hb⟩
      have hl2 : (ints l).length = l.length := by simp
      rw [← hl2, fillC_all _ _ (by simp), hl2] at hown
      exact hown

set_option maxRecDepth 100000 in
set_option maxHeartbeats 400000 in
theorem eqIntS_yes (A B : Option Addr) (n m c d : Nat) (l : List Int) (w : World) (ha : IntsIn w A n l) (hb : IntsIn w B m l) :
    Calls Tryz.prog 126 #[.slice A n c, .slice B m d] w fun e w' => e = .returned (.bool true) ∧ ∃ q, w' = w.drewN q := by
  have hn := ha.2.len
  obtain rfl := ha.1
  obtain rfl := hb.1
  go_enter Tryz.func126, Tryz.ntmps126
  go_wp2
  go_loopw [5] (fun i wr => ∃ k q : Nat, k ≤ l.length ∧ i = .int .i64 k ∧ wr = w.drewN q) (fun i _ => l.length - (intOf i).toNat)
  case atStart => exact ⟨0, 0, by omega, rfl, rfl⟩
  case round =>
    obtain ⟨k, q, hk, rfl, rfl⟩ := hrel
    by_cases hlt : k < l.length
    · obtain ⟨b, o, rfl, _, hcell⟩ := ha.at_ hlt
      obtain ⟨b2, o2, rfl, _, hcell2⟩ := hb.at_ hlt
      go_wp2
      go_quiet (fail)
      go_wp2
      go_roundw
      case rel => exact ⟨k + 1, _, by omega, by go_num, rfl⟩
      case measure => simp [intOf]; omega
    · obtain rfl : k = l.length := by omega
      go_wp2
      go_ret
      exact ⟨rfl, _, rfl⟩
end Go.Proofs.YtlnkofnfgemfdaaGreat
