/- Part 14 of the texts of this claim: The walks of IsCalendar and of what reckons with calendars; The walks of the small functions on needs of periods; The walks of the laws' own helpers on calendars; Boxes in memory. -/
import Derived.Test.YtlnkofnfgemfdaaGreatIp13
import Derived.Test.YtlnkofnfgemfdaaGreatIp7
import Derived.Test.YtlnkofnfgemfdaaGreatIp2
import Derived.Test.YtlnkofnfgemfdaaGreatIp6
import Derived.Test.YtlnkofnfgemfdaaGreatIp1
import Derived.Test.YtlnkofnfgemfdaaGreatIp5
/- The walks of IsCalendar and of what reckons with calendars. -/
namespace Go.Proofs.YtlnkofnfgemfdaaGreat
open Go.RowKit
theorem okEx_of {ex : List (Int × Int)} {k : Nat} (hk : k < ex.length) : okEx ex k = (inB ex[k].1 0 999 && (inB ex[k].2 0 24 && (decide (k = 0) || decide ((ex.getD (k - 1) exNone).1 < ex[k].1)))) := by
  unfold okEx; rw [ex_getD _ _ hk]

set_option maxRecDepth 100000 in
set_option maxHeartbeats 4000000 in
theorem specIsCalendar_any (A B : Option Addr) (n m c d : Nat) (wk : List Int) (ex : List Ex) (w : World) (ha : IntsIn w A n wk) (hb : ExsIn w B m ex) :
    Calls Tryz.prog 100 #[.agg #[.slice A n c, .slice B m d]] w fun e w' => e = .returned (.bool (isCal wk ex)) ∧ Below w.heap.size w w' := by
  have hn := ha.len
  have hm := hb.len
  obtain rfl := ha.1
  obtain rfl := hb.1
  have hbox := below_alloc w (.cells #[.slice A wk.length c, .slice B ex.length d] 43)
  have hs1 : w.heap.size < (w.alloc (.cells #[.slice A wk.length c, .slice B ex.length d] 43)).heap.size := by simp
  have g0 : (w.alloc (.cells #[.slice A wk.length c, .slice B ex.length d] 43)).cell? ⟨w.heap.size, 0, none⟩ = some (.slice A wk.length c) := by simp [go_sem]
  have g1 : (w.alloc (.cells #[.slice A wk.length c, .slice B ex.length d] 43)).cell? ⟨w.heap.size, 1, none⟩ = some (.slice B ex.length d) := by simp [go_sem]
  by_cases h7 : wk.length = 7
  case neg =>
    have h7b : ((wk.length : Int) != 7) = true := by rw [bne_iff_ne]; omega
    have HN := Lib.hid h7; clear h7 g0 g1
    go_enter Tryz.func100, Tryz.ntmps100
    go_wp2
    go_ret
    exact ⟨ret_bool (isCal_no7 HN.out).symm, hbox⟩
  have h7b : ((wk.length : Int) != 7) = false := by rw [bne_eq_false_iff_eq]; omega
  have h7l : wk.length ≤ 7 := by omega
  have h7g : 7 ≤ wk.length := by omega
  have H7 := Lib.hid h7; clear h7
  by_cases h20 : ex.length ≤ 20
  case neg =>
    have h20b : ¬ (ex.length : Int) ≤ 20 := by omega
    have HN := Lib.hid h20; clear h20 g0 g1
    go_enter Tryz.func100, Tryz.ntmps100
    go_wp2
    go_ret
    exact ⟨ret_bool (isCal_no20 HN.out).symm, hbox⟩
  go_enter Tryz.func100, Tryz.ntmps100
  go_wp2_with fail
  clear h7b
  generalize w.alloc (.cells #[.slice A wk.length c, .slice B ex.length d] 43) = w1 at *
  replace ha := ha.keep hbox
  replace hb := hb.keep hbox
  go_loop [3] (fun i => ∃ k : Nat, k ≤ 7 ∧ i = .int .i64 k ∧ (wk.take k).all (inB · 0 24) = true) (fun i => wk.length - (intOf i).toNat)
  case atStart => exact ⟨0, by omega, rfl, rfl⟩
  case round =>
    obtain ⟨k, hk, rfl, hall⟩ := hrel
    have HA := Lib.hid hall; clear hall
    by_cases hlt : k < wk.length
    · obtain ⟨b, o, rfl, _, hcell⟩ := ha.at_ hlt
      cases hin : inB wk[k] 0 24
      · go_wp2_with (go_at_call 101; refine (l1In_any _ _ _ _).mono ?_; rintro e w' ⟨rfl, rfl⟩)
        go_ret
        exact ⟨ret_bool (isCal_wk hlt hin).symm, hbox⟩
      · go_wp2_with (go_at_call 101; refine (l1In_any _ _ _ _).mono ?_; rintro e w' ⟨rfl, rfl⟩)
        go_round
        case rel => exact ⟨k + 1, by omega, by go_num, by rw [all_take wk _ k hlt, HA.out, hin]; rfl⟩
        case measure => simp [intOf]; omega
    · obtain rfl : k = wk.length := by omega
      have HW : Hid (wk.all (inB · 0 24) = true) := by
        have := HA.out
        rw [List.take_length] at this; exact this
      clear HA
      go_wp2_with fail
      go_loopw [4] (fun i wr => ∃ k : Nat, k ≤ ex.length ∧ i = .int .i64 k ∧ Hid (∀ j < k, okEx ex j = true) ∧ Below w1.heap.size w1 wr) (fun i _ => ex.length - (intOf i).toNat)
      case atStart => exact ⟨0, by omega, rfl, fun j h => absurd h (by omega), Below.refl _ _⟩
      case round =>
        clear hlt hk
        obtain ⟨k, hk, rfl, HI, HD⟩ := hrel
        replace g0 := (HD.cell (p := ⟨w.heap.size, 0, none⟩) hs1).trans g0
        replace g1 := (HD.cell (p := ⟨w.heap.size, 1, none⟩) hs1).trans g1
        have hbl0 : w.heap.size < wr.heap.size := Nat.lt_of_lt_of_le hs1 HD.size
        by_cases hlt : k < ex.length
        · obtain ⟨b, o, rfl, hbl, hc0, hc1⟩ := exc_at (hb.keep HD) hlt
          have hsz := HD.size
          have HO := okEx_of hlt
          have HOK := Lib.hid HO
          clear HO
          have HX : Hid (okEx ex k = true → ∀ j < k + 1, okEx ex j = true) := fun hb j hj => by
            rcases Nat.lt_or_ge j k with h1 | h1
            · exact HI.out j h1
            · rw [show j = k by omega]; exact hb
          cases hd : inB ex[k].1 0 999
          · go_wp2_with fail
            go_quiet (((go_at_call 101; exact quietS (l1In_any _ _ _))))
            go_wp2
            go_ret
            exact ⟨ret_bool (isCal_ex hlt (by rw [HOK.out, hd]; rfl)).symm, hbox.trans ((below_drewN (HD.alloc hsz _) _).mono (Nat.le_of_lt hs1))⟩
          cases hh : inB ex[k].2 0 24
          · go_wp2_with fail
            go_quiet (((go_at_call 101; exact quietS (l1In_any _ _ _))))
            go_wp2
            go_ret
            exact ⟨ret_bool (isCal_ex hlt (by rw [HOK.out, hd, hh]; rfl)).symm, hbox.trans ((below_drewN (HD.alloc hsz _) _).mono (Nat.le_of_lt hs1))⟩
          by_cases h0 : k = 0
          · have hy1 : decide (0 < k) = false := by simp; omega
            have hy2 : decide ((0 : Int) < (k : Int)) = false := by simp; omega
            have H0 := Lib.hid h0; clear h0
            go_wp2_with fail
            go_quiet (((go_at_call 101; exact quietS (l1In_any _ _ _))))
            go_wp2
            go_roundw
            case rel => exact ⟨k + 1, by omega, by go_num, HX.out (by rw [HOK.out, hd, hh, decide_eq_true H0.out]; rfl), below_drewN (HD.alloc hsz _) _⟩
            case measure => simp [intOf]; omega
          · have hlt2 : k - 1 < ex.length := by omega
            obtain ⟨b2, o2, e2, _, hp1, _⟩ := exc_at (hb.keep HD) hlt2
            obtain ⟨rfl, rfl⟩ : b = b2 ∧ o = o2 := by simpa using e2
            clear e2
            have hp2 := World.cell?_alloc_lt wr (.cells #[.int .i64 ex[k].1, .int .i64 ex[k].2] 192) ⟨b, o + (k - 1) * 2, none⟩ hbl
            rw [hp1] at hp2
            have hp3 := World.cell?_alloc_lt wr (.cells #[.int .i64 ex[k].1, .int .i64 ex[k].2] 192) ⟨w.heap.size, 1, none⟩ hbl0
            rw [g1] at hp3
            have hy1 : decide (0 < k) = true := by simp; omega
            have hy2 : decide ((0 : Int) < (k : Int)) = true := by simp; omega
            have hi1 : (0 : Int) ≤ (k : Int) - 1 := by omega
            have hi2 : (k : Int) - 1 < (ex.length : Int) := by omega
            have hi3 : ((k : Int) - 1).toNat = k - 1 := by omega
            have HG2 : Hid (ex.getD (k - 1) exNone = ex[k - 1]) := ex_getD _ _ hlt2
            have H0 := Lib.hid h0; clear h0
            by_cases hge : ex[k - 1].1 < ex[k].1
            · have hy3 : decide (ex[k].1 ≤ ex[k - 1].1) = false := by simp; omega
              have HGE := Lib.hid hge
              go_wp2_with fail
              go_quiet (((go_at_call 101; exact quietS (l1In_any _ _ _))))
              go_wp2
              go_roundw
              case rel => exact ⟨k + 1, by omega, by go_num, HX.out (by rw [HOK.out, HG2.out, hd, hh, decide_eq_true HGE.out]; simp), below_drewN (HD.alloc hsz _) _⟩
              case measure => simp [intOf]; omega
            · have hge2 : ex[k].1 ≤ ex[k - 1].1 := by omega
              have hy3 : decide (ex[k].1 ≤ ex[k - 1].1) = true := by simp; omega
              have HGE := Lib.hid hge2
              go_wp2_with fail
              go_quiet (((go_at_call 101; exact quietS (l1In_any _ _ _))))
              go_wp2
              go_ret
              exact ⟨ret_bool (isCal_ex hlt (by rw [HOK.out, HG2.out, hd, hh, decide_eq_false H0.out, decide_eq_false (show ¬ ex[k - 1].1 < ex[k].1 by have := HGE.out; omega)]; rfl)).symm, hbox.trans ((below_drewN (HD.alloc hsz _) _).mono (Nat.le_of_lt hs1))⟩
        · obtain rfl : k = ex.length := by omega
          go_wp2
          go_ret
          exact ⟨ret_bool (isCal_yes H7.out h20 HW.out HI.out).symm, hbox.trans (HD.mono (Nat.le_of_lt hs1))⟩
set_option maxRecDepth 100000 in
set_option maxHeartbeats 4000000 in
theorem implIsCalendar_any (A B : Option Addr) (n m c d : Nat) (wk : List Int) (ex : List Ex) (w : World) (ha : IntsIn w A n wk) (hb : ExsIn w B m ex) :
    Calls Tryz.prog 116 #[.agg #[.slice A n c, .slice B m d]] w fun e w' => e = .returned (.bool (isCal wk ex)) ∧ Below w.heap.size w w' := by
  have hn := ha.len
  have hm := hb.len
  obtain rfl := ha.1
  obtain rfl := hb.1
  have hbox := below_alloc w (.cells #[.slice A wk.length c, .slice B ex.length d] 43)
  have hs1 : w.heap.size < (w.alloc (.cells #[.slice A wk.length c, .slice B ex.length d] 43)).heap.size := by simp
  have g0 : (w.alloc (.cells #[.slice A wk.length c, .slice B ex.length d] 43)).cell? ⟨w.heap.size, 0, none⟩ = some (.slice A wk.length c) := by simp [go_sem]
  have g1 : (w.alloc (.cells #[.slice A wk.length c, .slice B ex.length d] 43)).cell? ⟨w.heap.size, 1, none⟩ = some (.slice B ex.length d) := by simp [go_sem]
  by_cases h7 : wk.length = 7
  case neg =>
    have h7b : ((wk.length : Int) != 7) = true := by rw [bne_iff_ne]; omega
    have HN := Lib.hid h7; clear h7 g0 g1
    go_enter Tryz.func116, Tryz.ntmps116
    go_wp2
    go_ret
    exact ⟨ret_bool (isCal_no7 HN.out).symm, hbox⟩
  have h7b : ((wk.length : Int) != 7) = false := by rw [bne_eq_false_iff_eq]; omega
  have h7l : wk.length ≤ 7 := by omega
  have h7g : 7 ≤ wk.length := by omega
  have H7 := Lib.hid h7; clear h7
  by_cases h20 : ex.length ≤ 20
  case neg =>
    have h20b : ¬ (ex.length : Int) ≤ 20 := by omega
    have HN := Lib.hid h20; clear h20 g0 g1
    go_enter Tryz.func116, Tryz.ntmps116
    go_wp2
    go_ret
    exact ⟨ret_bool (isCal_no20 HN.out).symm, hbox⟩
  go_enter Tryz.func116, Tryz.ntmps116
  go_wp2_with fail
  clear h7b
  generalize w.alloc (.cells #[.slice A wk.length c, .slice B ex.length d] 43) = w1 at *
  replace ha := ha.keep hbox
  replace hb := hb.keep hbox
  go_loop [20] (fun i => ∃ k : Nat, k ≤ wk.length ∧ i = .int .i64 k ∧ (wk.take k).all (inB · 0 24) = true) (fun i => wk.length - (intOf i).toNat)
  case atStart => exact ⟨0, by omega, rfl, rfl⟩
  case round =>
    obtain ⟨k, hk, rfl, hall⟩ := hrel
    have HA := Lib.hid hall; clear hall
    by_cases hlt : k < wk.length
    · obtain ⟨b, o, rfl, _, hcell⟩ := ha.at_ hlt
      cases hin : inB wk[k] 0 24
      · go_wp2_with (go_at_call 117; refine (in_any _ _ _ _).mono ?_; rintro e w' ⟨rfl, rfl⟩)
        go_ret
        exact ⟨ret_bool (isCal_wk hlt hin).symm, hbox⟩
      · go_wp2_with (go_at_call 117; refine (in_any _ _ _ _).mono ?_; rintro e w' ⟨rfl, rfl⟩)
        go_round
        case rel => exact ⟨k + 1, by omega, by go_num, by rw [all_take wk _ k hlt, HA.out, hin]; rfl⟩
        case measure => simp [intOf]; omega
    · obtain rfl : k = wk.length := by omega
      have HW : Hid (wk.all (inB · 0 24) = true) := by
        have := HA.out
        rw [List.take_length] at this; exact this
      clear HA
      go_wp2_with fail
      go_loopw [31] (fun i wr => ∃ k : Nat, k ≤ ex.length ∧ i = .int .i64 k ∧ Hid (∀ j < k, okEx ex j = true) ∧ Below w1.heap.size w1 wr) (fun i _ => ex.length - (intOf i).toNat)
      case atStart => exact ⟨0, by omega, rfl, fun j h => absurd h (by omega), Below.refl _ _⟩
      case round =>
        clear hlt hk
        obtain ⟨k, hk, rfl, HI, HD⟩ := hrel
        replace g0 := (HD.cell (p := ⟨w.heap.size, 0, none⟩) hs1).trans g0
        replace g1 := (HD.cell (p := ⟨w.heap.size, 1, none⟩) hs1).trans g1
        have hbl0 : w.heap.size < wr.heap.size := Nat.lt_of_lt_of_le hs1 HD.size
        by_cases hlt : k < ex.length
        · obtain ⟨b, o, rfl, hbl, hc0, hc1⟩ := exc_at (hb.keep HD) hlt
          have hsz := HD.size
          have HO := okEx_of hlt
          have HOK := Lib.hid HO
          clear HO
          have HX : Hid (okEx ex k = true → ∀ j < k + 1, okEx ex j = true) := fun hb j hj => by
            rcases Nat.lt_or_ge j k with h1 | h1
            · exact HI.out j h1
            · rw [show j = k by omega]; exact hb
          cases hd : inB ex[k].1 0 999
          · go_wp2_with fail
            go_quiet (((go_at_call 117; exact quietS (in_any _ _ _))))
            go_wp2
            go_ret
            exact ⟨ret_bool (isCal_ex hlt (by rw [HOK.out, hd]; rfl)).symm, hbox.trans ((below_drewN (HD.alloc hsz _) _).mono (Nat.le_of_lt hs1))⟩
          cases hh : inB ex[k].2 0 24
          · go_wp2_with fail
            go_quiet (((go_at_call 117; exact quietS (in_any _ _ _))))
            go_wp2
            go_ret
            exact ⟨ret_bool (isCal_ex hlt (by rw [HOK.out, hd, hh]; rfl)).symm, hbox.trans ((below_drewN (HD.alloc hsz _) _).mono (Nat.le_of_lt hs1))⟩
          by_cases h0 : k = 0
          · have hy1 : decide (0 < k) = false := by simp; omega
            have hy2 : decide ((0 : Int) < (k : Int)) = false := by simp; omega
            have H0 := Lib.hid h0; clear h0
            go_wp2_with fail
            go_quiet (((go_at_call 117; exact quietS (in_any _ _ _))))
            go_wp2
            go_roundw
            case rel => exact ⟨k + 1, by omega, by go_num, HX.out (by rw [HOK.out, hd, hh, decide_eq_true H0.out]; rfl), below_drewN (HD.alloc hsz _) _⟩
            case measure => simp [intOf]; omega
          · have hlt2 : k - 1 < ex.length := by omega
            obtain ⟨b2, o2, e2, _, hp1, _⟩ := exc_at (hb.keep HD) hlt2
            obtain ⟨rfl, rfl⟩ : b = b2 ∧ o = o2 := by simpa using e2
            clear e2
            have hp2 := World.cell?_alloc_lt wr (.cells #[.int .i64 ex[k].1, .int .i64 ex[k].2] 192) ⟨b, o + (k - 1) * 2, none⟩ hbl
            rw [hp1] at hp2
            have hp3 := World.cell?_alloc_lt wr (.cells #[.int .i64 ex[k].1, .int .i64 ex[k].2] 192) ⟨w.heap.size, 1, none⟩ hbl0
            rw [g1] at hp3
            have hy1 : decide (0 < k) = true := by simp; omega
            have hy2 : decide ((0 : Int) < (k : Int)) = true := by simp; omega
            have hi1 : (0 : Int) ≤ (k : Int) - 1 := by omega
            have hi2 : (k : Int) - 1 < (ex.length : Int) := by omega
            have hi3 : ((k : Int) - 1).toNat = k - 1 := by omega
            have HG2 : Hid (ex.getD (k - 1) exNone = ex[k - 1]) := ex_getD _ _ hlt2
            have H0 := Lib.hid h0; clear h0
            by_cases hge : ex[k - 1].1 < ex[k].1
            · have hy3 : decide (ex[k].1 ≤ ex[k - 1].1) = false := by simp; omega
              have HGE := Lib.hid hge
              go_wp2_with fail
              go_quiet (((go_at_call 117; exact quietS (in_any _ _ _))))
              go_wp2
              go_roundw
              case rel => exact ⟨k + 1, by omega, by go_num, HX.out (by rw [HOK.out, HG2.out, hd, hh, decide_eq_true HGE.out]; simp), below_drewN (HD.alloc hsz _) _⟩
              case measure => simp [intOf]; omega
            · have hge2 : ex[k].1 ≤ ex[k - 1].1 := by omega
              have hy3 : decide (ex[k].1 ≤ ex[k - 1].1) = true := by simp; omega
              have HGE := Lib.hid hge2
              go_wp2_with fail
              go_quiet (((go_at_call 117; exact quietS (in_any _ _ _))))
              go_wp2
              go_ret
              exact ⟨ret_bool (isCal_ex hlt (by rw [HOK.out, HG2.out, hd, hh, decide_eq_false H0.out, decide_eq_false (show ¬ ex[k - 1].1 < ex[k].1 by have := HGE.out; omega)]; rfl)).symm, hbox.trans ((below_drewN (HD.alloc hsz _) _).mono (Nat.le_of_lt hs1))⟩
        · obtain rfl : k = ex.length := by omega
          go_wp2
          go_ret
          exact ⟨ret_bool (isCal_yes H7.out h20 HW.out HI.out).symm, hbox.trans (HD.mono (Nat.le_of_lt hs1))⟩
end Go.Proofs.YtlnkofnfgemfdaaGreat
/- The walks of the small functions on needs of periods. -/
namespace Go.Proofs.YtlnkofnfgemfdaaGreat
open Go.RowKit

def arePeriods (l : List Int) (s h : Int) : Bool := l.all (inB · 0 1000) && (decide ((l.length : Int) ≤ 10) && (inB s 0 10000 && inB h 0 10000))

set_option maxRecDepth 100000 in
set_option maxHeartbeats 400000 in
theorem toIntS_any (A : Option Addr) (n c : Nat) (l : List Int) (w : World) (hl : IntsIn w A n l) :
    Calls Tryz.prog 110 #[.slice A n c] w fun e w' => ∃ A', e = .returned (.slice A' n n) ∧ OwnInts w' w.heap.size A' n n l ∧ Below w.heap.size w w' := by
  obtain ⟨i0, hi0, hz0, hz1, hz2⟩ := info_parts intInfo
  have hn := hl.2.len
  obtain rfl := hl.1
  go_enter Tryz.func110, Tryz.ntmps110
  go_wp2_with (at_make; refine wpList_make_full _ rfl (.tmp 6) (.tmp 6) _ rfl w.heap.size 3 i0 _ 1 Tryz.underlying24 hi0 hz0 hz1 .i64 .i64 _ _ l.length rfl rfl rfl rfl (by rw [hz2]; omega) (by unfold maxLen; omega) (Nat.le_refl _) ?_; intro w1 hown hg)
  have hown1 : w1.ownsRow w.heap.size 3 1 (.slice (some ⟨w.heap.size, 0, none⟩) l.length l.length) l.length (fillC (List.replicate l.length (.int .i64 0)) (ints l) 0) := by
    rw [fillC_zero]; rw [show (Value.int .i64 0).cells = #[.int .i64 0] from rfl, Nat.mul_one, toList_madeCells_one] at hown; exact hown
  have hb1 := below_none hg
  clear hown hg
  go_loopw [4] (fun i wr => ∃ k : Nat, k ≤ l.length ∧ i = .int .i64 k ∧ wr.ownsRow w.heap.size 3 1 (.slice (some ⟨w.heap.size, 0, none⟩) l.length l.length) l.length (fillC (List.replicate l.length (.int .i64 0)) (ints l) k) ∧ Below w.heap.size w wr) (fun i _ => l.length - (intOf i).toNat)
  case atStart => exact ⟨0, by omega, rfl, hown1, hb1⟩
  case round =>
    obtain ⟨k, hk, rfl, hown, hb⟩ := hrel
    by_cases hlt : k < l.length
    · obtain ⟨b, o, rfl, _, hcell⟩ := (hl.keep hb).at_ hlt
      have hc1 := hown.cellAt k (by omega)
      rw [fillC_at _ _ k (by simp; omega), List.getElem?_replicate, if_pos hlt] at hc1
      have hf1 := hown.frozenAt k
      have hst := hown.stored k (.int .i64 l[k])
      rw [fillC_set _ _ k _ (by simp [hlt]) (by simp)] at hst
      have HS := Lib.hid hst; clear hst
      go_wp2
      go_roundw
      case rel => exact ⟨k + 1, by omega, by go_num, HS.out.1, hb.setCell (Nat.le_refl _) _⟩
      case measure => simp [intOf]; omega
    · obtain rfl : k = l.length := by omega
      go_wp2
      go_ret
      refine ⟨_, rfl, ⟨rfl, ?_⟩, hb⟩
      have hl2 : (ints l).length = l.length := by simp
      rw [← hl2, fillC_all _ _ (by simp), hl2] at hown
      exact hown

set_option maxRecDepth 100000 in
set_option maxHeartbeats 400000 in
theorem eqIntS_yes (A B : Option Addr) (n m c d : Nat) (l : List Int) (w : World) (ha : IntsIn w A n l) (hb : IntsIn w B m l) :
    Calls Tryz.prog 126 #[.slice A n c, .slice B m d] w fun e w' => e = .returned (.bool true) ∧ ∃ q, w' = w.drewN q := by
  have hn := ha.2.len
  obtain rfl := ha.1
  obtain rfl := hb.1
  go_enter Tryz.func126, Tryz.ntmps126
  go_wp2
  go_loopw [5] (fun i wr => ∃ k q : Nat, k ≤ l.length ∧ i = .int .i64 k ∧ wr = w.drewN q) (fun i _ => l.length - (intOf i).toNat)
  case atStart => exact ⟨0, 0, by omega, rfl, rfl⟩
  case round =>
    obtain ⟨k, q, hk, rfl, rfl⟩ := hrel
    by_cases hlt : k < l.length
    · obtain ⟨b, o, rfl, _, hcell⟩ := ha.at_ hlt
      obtain ⟨b2, o2, rfl, _, hcell2⟩ := hb.at_ hlt
      go_wp2
      go_quiet (fail)
      go_wp2
      go_roundw
      case rel => exact ⟨k + 1, _, by omega, by go_num, rfl⟩
      case measure => simp [intOf]; omega
    · obtain rfl : k = l.length := by omega
      go_wp2
      go_ret
      exact ⟨rfl, _, rfl⟩
end Go.Proofs.YtlnkofnfgemfdaaGreat
/- The walks of the laws' own helpers on calendars. -/
namespace Go.Proofs.YtlnkofnfgemfdaaGreat
open Go.RowKit
theorem OwnInts.at_M {w : World} {lo lo' M : Nat} {A : Option Addr} {n c : Nat} {l : List Int} (h : OwnInts w lo A n c l) (hl : lo' ≤ lo) (hM : M ≤ w.heap.size) (hlt : ∀ a, A = some a → a.block < M) : IntsAt w lo' M A n c l := ⟨h.1, own_lower h.2 hl, hM, hlt⟩
set_option maxRecDepth 100000 in
set_option maxHeartbeats 2000000 in
theorem toCalendar_own (A B : Option Addr) (n m c d : Nat) (wk : List Int) (ex : List Ex) (w : World) (ha : IntsIn w A n wk) (hb : ExsIn w B m ex) :
    Calls Tryz.prog 48 #[.agg #[.slice A n c, .slice B m d]] w fun e w' => ∃ A' B' M, e = .returned (.agg #[.slice A' n n, .slice B' m m]) ∧ w.heap.size ≤ M ∧ IntsAt w' w.heap.size M A' n n wk ∧ RowsAt exF 192 w' M w'.heap.size B' m m ex ∧ Below w.heap.size w w' := by
  have HBX := hb
  have HNL := Lib.hid ha.len
  have HML := Lib.hid hb.len
  have hb0 : Below w.heap.size w (((w.alloc (.cells #[.slice A n c, .slice B m d] 27)).alloc (.cells #[.slice none 0 0, .slice none 0 0] 43)).alloc (.cells #[.slice none 0 0, .slice none 0 0] 43)) :=
    (((Below.refl _ _).alloc (Nat.le_refl _) _).alloc (by simp) _).alloc (by simp; omega) _
  have hz0 : (((w.alloc (.cells #[.slice A n c, .slice B m d] 27)).alloc (.cells #[.slice none 0 0, .slice none 0 0] 43)).alloc (.cells #[.slice none 0 0, .slice none 0 0] 43)).heap.size = w.heap.size + 3 := by simp
  have c00 : (((w.alloc (.cells #[.slice A n c, .slice B m d] 27)).alloc (.cells #[.slice none 0 0, .slice none 0 0] 43)).alloc (.cells #[.slice none 0 0, .slice none 0 0] 43)).cell? ⟨w.heap.size, 0, none⟩ = some (.slice A n c) := by simp [go_sem]
  have c01 : (((w.alloc (.cells #[.slice A n c, .slice B m d] 27)).alloc (.cells #[.slice none 0 0, .slice none 0 0] 43)).alloc (.cells #[.slice none 0 0, .slice none 0 0] 43)).cell? ⟨w.heap.size, 1, none⟩ = some (.slice B m d) := by simp [go_sem]
  have c10 : (((w.alloc (.cells #[.slice A n c, .slice B m d] 27)).alloc (.cells #[.slice none 0 0, .slice none 0 0] 43)).alloc (.cells #[.slice none 0 0, .slice none 0 0] 43)).cell? ⟨w.heap.size + 1, 0, none⟩ = some (.slice none 0 0) := by simp [go_sem]
  have c11 : (((w.alloc (.cells #[.slice A n c, .slice B m d] 27)).alloc (.cells #[.slice none 0 0, .slice none 0 0] 43)).alloc (.cells #[.slice none 0 0, .slice none 0 0] 43)).cell? ⟨w.heap.size + 1, 1, none⟩ = some (.slice none 0 0) := by simp [go_sem]
  have c20 : (((w.alloc (.cells #[.slice A n c, .slice B m d] 27)).alloc (.cells #[.slice none 0 0, .slice none 0 0] 43)).alloc (.cells #[.slice none 0 0, .slice none 0 0] 43)).cell? ⟨w.heap.size + 1 + 1, 0, none⟩ = some (.slice none 0 0) := by simp [go_sem]
  have c21 : (((w.alloc (.cells #[.slice A n c, .slice B m d] 27)).alloc (.cells #[.slice none 0 0, .slice none 0 0] 43)).alloc (.cells #[.slice none 0 0, .slice none 0 0] 43)).cell? ⟨w.heap.size + 1 + 1, 1, none⟩ = some (.slice none 0 0) := by simp [go_sem]
  have f1 : ∀ j, (((w.alloc (.cells #[.slice A n c, .slice B m d] 27)).alloc (.cells #[.slice none 0 0, .slice none 0 0] 43)).alloc (.cells #[.slice none 0 0, .slice none 0 0] 43)).frozen? ⟨w.heap.size + 1, j, none⟩ = false := fun j => by simp [go_sem]
  have f2 : ∀ j, (((w.alloc (.cells #[.slice A n c, .slice B m d] 27)).alloc (.cells #[.slice none 0 0, .slice none 0 0] 43)).alloc (.cells #[.slice none 0 0, .slice none 0 0] 43)).frozen? ⟨w.heap.size + 1 + 1, j, none⟩ = false := fun j => by simp [go_sem]
  go_enter Tryz.func48, Tryz.ntmps48
  go_wp2_with fail
  generalize (((w.alloc (.cells #[.slice A n c, .slice B m d] 27)).alloc (.cells #[.slice none 0 0, .slice none 0 0] 43)).alloc (.cells #[.slice none 0 0, .slice none 0 0] 43)) = W at *
  have l0 : w.heap.size < W.heap.size := by omega
  have l1 : w.heap.size + 1 < W.heap.size := by omega
  have l2 : w.heap.size + 1 + 1 < W.heap.size := by omega
  have HZ := Lib.hid hz0
  clear hz0
  refine (toIntS_any _ _ _ wk _ (ha.keep hb0)).mono ?_
  rintro e w1 ⟨A', rfl, hA, hs⟩
  replace hb := hb.keep hb0
  replace hb0 := below_on hb0 hs
  replace c00 := (hs.cell (p := ⟨w.heap.size, 0, none⟩) l0).trans c00
  replace c01 := (hs.cell (p := ⟨w.heap.size, 1, none⟩) l0).trans c01
  replace c10 := (hs.cell (p := ⟨w.heap.size + 1, 0, none⟩) l1).trans c10
  replace c11 := (hs.cell (p := ⟨w.heap.size + 1, 1, none⟩) l1).trans c11
  replace c20 := (hs.cell (p := ⟨w.heap.size + 1 + 1, 0, none⟩) l2).trans c20
  replace c21 := (hs.cell (p := ⟨w.heap.size + 1 + 1, 1, none⟩) l2).trans c21
  replace f1 := fun j => (hs.frozen (p := ⟨w.heap.size + 1, j, none⟩) l1).trans (f1 j)
  replace f2 := fun j => (hs.frozen (p := ⟨w.heap.size + 1 + 1, j, none⟩) l2).trans (f2 j)
  replace hb := hb.keep hs
  have l3 := hs.size
  clear hs
  go_wp2_with fail
  have d20 : (w1.setCell ⟨w.heap.size + 1 + 1, 0, none⟩ (.slice A' n n)).cell? ⟨w.heap.size + 1 + 1, 0, none⟩ = some (.slice A' n n) := by simp [go_sem, c20, f2]
  have d21 : (w1.setCell ⟨w.heap.size + 1 + 1, 0, none⟩ (.slice A' n n)).cell? ⟨w.heap.size + 1 + 1, 1, none⟩ = some (.slice none 0 0) := by simp [go_sem, c21]
  have d10 : (w1.setCell ⟨w.heap.size + 1 + 1, 0, none⟩ (.slice A' n n)).cell? ⟨w.heap.size + 1, 0, none⟩ = some (.slice none 0 0) := by simp [go_sem, c10]
  have d11 : (w1.setCell ⟨w.heap.size + 1 + 1, 0, none⟩ (.slice A' n n)).cell? ⟨w.heap.size + 1, 1, none⟩ = some (.slice none 0 0) := by simp [go_sem, c11]
  have e1 : ∀ j, (w1.setCell ⟨w.heap.size + 1 + 1, 0, none⟩ (.slice A' n n)).frozen? ⟨w.heap.size + 1, j, none⟩ = false := fun j => by simp [go_sem, f1]
  have e2 : ∀ j, (w1.setCell ⟨w.heap.size + 1 + 1, 0, none⟩ (.slice A' n n)).frozen? ⟨w.heap.size + 1 + 1, j, none⟩ = false := fun j => by simp [go_sem, f2]
  have hA1 := hA.far (p := ⟨w.heap.size + 1 + 1, 0, none⟩) l2 (.slice A' n n)
  have hb1 : Below w.heap.size w (w1.setCell ⟨w.heap.size + 1 + 1, 0, none⟩ (.slice A' n n)) := hb0.setCell (by simp; omega) _
  have hbx := HBX.keep hb1
  have lz : W.heap.size ≤ (w1.setCell ⟨w.heap.size + 1 + 1, 0, none⟩ (.slice A' n n)).heap.size := by simp; exact l3
  clear hA hb0 c00 c01 c10 c11 c20 c21 f1 f2 hb ha
  generalize w1.setCell ⟨w.heap.size + 1 + 1, 0, none⟩ (.slice A' n n) = w2 at *
  have hAl := own_lt hA1.2
  refine (toExceptionS_any _ _ _ ex _ hbx).mono ?_
  rintro e w3 ⟨B', rfl, hB, hs⟩
  have hA2 := hA1.keep hs
  have hb2 := below_on hb1 hs
  replace d20 := (hs.cell (p := ⟨w.heap.size + 1 + 1, 0, none⟩) (Nat.lt_of_lt_of_le l2 lz)).trans d20
  replace d21 := (hs.cell (p := ⟨w.heap.size + 1 + 1, 1, none⟩) (Nat.lt_of_lt_of_le l2 lz)).trans d21
  replace d10 := (hs.cell (p := ⟨w.heap.size + 1, 0, none⟩) (Nat.lt_of_lt_of_le l1 lz)).trans d10
  replace d11 := (hs.cell (p := ⟨w.heap.size + 1, 1, none⟩) (Nat.lt_of_lt_of_le l1 lz)).trans d11
  replace e1 := fun j => (hs.frozen (p := ⟨w.heap.size + 1, j, none⟩) (Nat.lt_of_lt_of_le l1 lz)).trans (e1 j)
  replace e2 := fun j => (hs.frozen (p := ⟨w.heap.size + 1 + 1, j, none⟩) (Nat.lt_of_lt_of_le l2 lz)).trans (e2 j)
  have l4 := HNL.out
  have l5 := HML.out
  have l6 := Nat.lt_of_lt_of_le l2 lz
  have l7 := Nat.lt_of_lt_of_le l1 lz
  go_wp2_with fail
  refine bodyPost_ret (v := .agg #[.slice A' n n, .slice B' m m]) (by simp [results, Tryz.results48, go_sem, d20, d21, d10, d11, e1, e2]) rfl ⟨A', B', w2.heap.size, rfl, by omega, ?_, ?_, ?_⟩
  · exact OwnInts.at_M (((hA2.far l2 _).far l1 _).far l1 _) (by omega) (by simp; exact hs.size) (fun a ha => (hAl a ha).2)
  · exact OwnRows.at_ (((hB.far l6 _).far l7 _).far l7 _)
  · exact ((hb2.setCell (by simp; omega) _).setCell (by simp) _).setCell (by simp) _
theorem toCalendar_any (A B : Option Addr) (n m c d : Nat) (wk : List Int) (ex : List Ex) (w : World) (ha : IntsIn w A n wk) (hb : ExsIn w B m ex) :
    Calls Tryz.prog 48 #[.agg #[.slice A n c, .slice B m d]] w fun e w' => ∃ A' B', e = .returned (.agg #[.slice A' n n, .slice B' m m]) ∧ IntsIn w' A' n wk ∧ ExsIn w' B' m ex ∧ Below w.heap.size w w' := by
  have h1 := ha.len
  have h2 := hb.len
  refine (toCalendar_own A B n m c d wk ex w ha hb).mono ?_
  rintro e w1 ⟨A', B', M, rfl, _, h3, h4, h5⟩
  exact ⟨A', B', rfl, h3.rows h1, h4.rows h2, h5⟩
set_option maxRecDepth 100000 in
theorem szIntS_ok (A : Option Addr) (n c : Nat) (left : Int) (w : World) (h : (n : Int) ≤ left) (hl : left ≤ 1048576) :
    Calls Tryz.prog 94 #[.slice A n c, .int .i64 left] w fun e w' => e = .returned (.int .i64 (left - n)) ∧ w = w' := by
  go_enter Tryz.func94, Tryz.ntmps94
  go_wp2
  go_ret
  exact ⟨rfl, rfl⟩
theorem szIntS_big (A : Option Addr) (n c : Nat) (left : Int) (w : World) (h : left < (n : Int)) (h0 : 0 ≤ left) (hn : n ≤ 9223372036854775807) :
    Calls Tryz.prog 94 #[.slice A n c, .int .i64 left] w fun e w' => e = .returned (.int .i64 (-1)) ∧ w = w' := by
  go_enter Tryz.func94, Tryz.ntmps94
  go_wp2
  go_ret
  exact ⟨rfl, rfl⟩
theorem szCalendar_ok (A B : Option Addr) (n m c d : Nat) (left : Int) (w : World) (h : (n : Int) + m ≤ left) (hl : left ≤ 1048576) :
    Calls Tryz.prog 33 #[.agg #[.slice A n c, .slice B m d], .int .i64 left] w fun e w' => e = .returned (.int .i64 (left - n - m)) ∧ Below w.heap.size w w' := by
  go_enter Tryz.func33, Tryz.ntmps33
  go_wp2_with (first
    | (go_at_call 94; refine (szIntS_ok _ _ _ _ _ (by omega) (by omega)).mono ?_; rintro e w' ⟨rfl, rfl⟩)
    | (go_at_call 95; refine (szExceptionS_ok _ _ _ _ _ (by omega) (by omega)).mono ?_; rintro e w' ⟨rfl, rfl⟩))
  go_ret
  exact ⟨rfl, below_alloc _ _⟩
theorem szCalendar_big (A B : Option Addr) (n m c d : Nat) (left : Int) (w : World) (h : left < (n : Int) + m) (h0 : 0 ≤ left) (hl : left ≤ 1048576) (hn : n ≤ 9223372036854775807) (hm : m ≤ 9223372036854775807) :
    Calls Tryz.prog 33 #[.agg #[.slice A n c, .slice B m d], .int .i64 left] w fun e w' => e = .returned (.int .i64 (-1)) ∧ Below w.heap.size w w' := by
  by_cases h1 : left < (n : Int)
  · go_enter Tryz.func33, Tryz.ntmps33
    go_wp2_with (go_at_call 94; refine (szIntS_big _ _ _ _ _ h1 (by omega) (by omega)).mono ?_; rintro e w' ⟨rfl, rfl⟩)
    go_ret
    exact ⟨rfl, below_alloc _ _⟩
  · go_enter Tryz.func33, Tryz.ntmps33
    go_wp2_with (first
      | (go_at_call 94; refine (szIntS_ok _ _ _ _ _ (by omega) (by omega)).mono ?_; rintro e w' ⟨rfl, rfl⟩)
      | (go_at_call 95; refine (szExceptionS_big _ _ _ _ _ (by omega) (by omega) hm).mono ?_; rintro e w' ⟨rfl, rfl⟩))
    go_ret
    exact ⟨rfl, below_alloc _ _⟩
set_option maxRecDepth 100000 in
set_option maxHeartbeats 1000000 in
theorem eqCalendar_yes (A B A2 B2 : Option Addr) (n m c d n2 m2 c2 d2 : Nat) (wk : List Int) (ex : List Ex) (w : World) (ha : IntsIn w A n wk) (hb : ExsIn w B m ex) (ha2 : IntsIn w A2 n2 wk) (hb2 : ExsIn w B2 m2 ex) :
    Calls Tryz.prog 65 #[.agg #[.slice A n c, .slice B m d], .agg #[.slice A2 n2 c2, .slice B2 m2 d2]] w fun e w' => e = .returned (.bool true) ∧ Below w.heap.size w w' := by
  have hbox := below_on (below_alloc w (.cells #[.slice A n c, .slice B m d] 43)) (below_alloc (w.alloc (.cells #[.slice A n c, .slice B m d] 43)) (.cells #[.slice A2 n2 c2, .slice B2 m2 d2] 43))
  go_enter Tryz.func65, Tryz.ntmps65
  go_wp2_with (first
    | (go_at_call 126; refine (eqIntS_yes _ _ _ _ _ _ wk _ (ha.keep hbox) (ha2.keep hbox)).mono ?_; rintro e w5 ⟨rfl, hs⟩; obtain ⟨q, rfl⟩ := hs; have hq := below_drewN hbox q)
    | (go_at_call 127; refine (eqExceptionS_yes _ _ _ _ _ _ ex _ (hb.keep hq) (hb2.keep hq)).mono ?_; rintro e w6 ⟨rfl, hs2⟩))
  go_ret
  exact ⟨rfl, below_on hq hs2⟩
end Go.Proofs.YtlnkofnfgemfdaaGreat
/- Boxes in memory. -/
namespace Go.Proofs.YtlnkofnfgemfdaaGreat
open Go.RowKit
/-- A box in memory: block N holds the cells cs. -/
def BoxOf (w : World) (N : Nat) (cs : List Value) : Prop := N < w.heap.size ∧ ∀ j u, cs[j]? = some u → w.cell? ⟨N, j, none⟩ = some u
theorem BoxOf.keep {w w' : World} {N : Nat} {cs : List Value} (h : BoxOf w N cs) (hb : Below w.heap.size w w') : BoxOf w' N cs :=
  ⟨Nat.lt_of_lt_of_le h.1 hb.size, fun j u hu => (hb.cell (p := ⟨N, j, none⟩) h.1).trans (h.2 j u hu)⟩
theorem BoxOf.two {w : World} {N : Nat} {x y : Value} (h : BoxOf w N [x, y]) : w.cell? ⟨N, 0, none⟩ = some x ∧ w.cell? ⟨N, 1, none⟩ = some y ∧ N < w.heap.size := ⟨h.2 0 x rfl, h.2 1 y rfl, h.1⟩
theorem boxOf_alloc (w : World) (cs : Array Value) (t : TypeId) : BoxOf (w.alloc (.cells cs t)) w.heap.size cs.toList := by
  refine ⟨by simp, fun j u hu => ?_⟩
  have := news_at (w := w) rfl cs t j u hu
  rwa [Addr.add_lit, Nat.zero_add] at this
end Go.Proofs.YtlnkofnfgemfdaaGreat
