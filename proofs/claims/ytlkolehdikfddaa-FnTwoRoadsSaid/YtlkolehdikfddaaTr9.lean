/- Part 9 of the texts of this claim: The walks of IsCalendar and of what reckons with calendars; The walks of the small functions on needs of periods; The walks of the laws' own helpers on calendars; Boxes in memory; A plant: seven slices; the walks of the laws' own helpers on it; The walks of IsPlant; The walk of IsPlant (the reference's). -/
import Derived.Test.YtlkolehdikfddaaTr8
import Derived.Test.YtlkolehdikfddaaTr5
import Derived.Test.YtlkolehdikfddaaTr1
import Derived.Test.YtlkolehdikfddaaTr4
import Derived.Test.YtlkolehdikfddaaTr3
import Derived.Test.YtlkolehdikfddaaTr7
import Derived.Test.YtlkolehdikfddaaTr6
import Derived.Test.YtlkolehdikfddaaTr2
/- The walks of IsCalendar and of what reckons with calendars. -/
namespace Go.Proofs.Ytlkolehdikfddaa
open Go.RowKit
theorem okEx_of {ex : List (Int × Int)} {k : Nat} (hk : k < ex.length) : okEx ex k = (inB ex[k].1 0 999 && (inB ex[k].2 0 24 && (decide (k = 0) || decide ((ex.getD (k - 1) exNone).1 < ex[k].1)))) := by
  unfold okEx; rw [ex_getD _ _ hk]

set_option maxRecDepth 100000 in
set_option maxHeartbeats 4000000 in
theorem specIsCalendar_any (A B : Option Addr) (n m c d : Nat) (wk : List Int) (ex : List Ex) (w : World) (ha : IntsIn w A n wk) (hb : ExsIn w B m ex) :
    Calls Try.prog 64 #[.agg #[.slice A n c, .slice B m d]] w fun e w' => e = .returned (.bool (isCal wk ex)) ∧ Below w.heap.size w w' := by
  have hn := ha.len
  have hm := hb.len
  obtain rfl := ha.1
  obtain rfl := hb.1
  have hbox := below_alloc w (.cells #[.slice A wk.length c, .slice B ex.length d] 29)
  have hs1 : w.heap.size < (w.alloc (.cells #[.slice A wk.length c, .slice B ex.length d] 29)).heap.size := by simp
  have g0 : (w.alloc (.cells #[.slice A wk.length c, .slice B ex.length d] 29)).cell? ⟨w.heap.size, 0, none⟩ = some (.slice A wk.length c) := by simp [go_sem]
  have g1 : (w.alloc (.cells #[.slice A wk.length c, .slice B ex.length d] 29)).cell? ⟨w.heap.size, 1, none⟩ = some (.slice B ex.length d) := by simp [go_sem]
  by_cases h7 : wk.length = 7
  case neg =>
    have h7b : ((wk.length : Int) != 7) = true := by rw [bne_iff_ne]; omega
    have HN := Lib.hid h7; clear h7 g0 g1
    go_enter Try.func64, Try.ntmps64
    go_wp2
    go_ret
    exact ⟨ret_bool (isCal_no7 HN.out).symm, hbox⟩
  have h7b : ((wk.length : Int) != 7) = false := by rw [bne_eq_false_iff_eq]; omega
  have h7l : wk.length ≤ 7 := by omega
  have h7g : 7 ≤ wk.length := by omega
  have H7 := Lib.hid h7; clear h7
  by_cases h20 : ex.length ≤ 20
  case neg =>
    have h20b : ¬ (ex.length : Int) ≤ 20 := by omega
    have HN := Lib.hid h20; clear h20 g0 g1
    go_enter Try.func64, Try.ntmps64
    go_wp2
    go_ret
    exact ⟨ret_bool (isCal_no20 HN.out).symm, hbox⟩
  go_enter Try.func64, Try.ntmps64
  go_wp2_with fail
  clear h7b
  generalize w.alloc (.cells #[.slice A wk.length c, .slice B ex.length d] 29) = w1 at *
  replace ha := ha.keep hbox
  replace hb := hb.keep hbox
  go_loop [3] (fun i => ∃ k : Nat, k ≤ 7 ∧ i = .int .i64 k ∧ (wk.take k).all (inB · 0 24) = true) (fun i => wk.length - (intOf i).toNat)
  case atStart => exact ⟨0, by omega, rfl, rfl⟩
  case round =>
    obtain ⟨k, hk, rfl, hall⟩ := hrel
    have HA := Lib.hid hall; clear hall
    by_cases hlt : k < wk.length
    · obtain ⟨b, o, rfl, _, hcell⟩ := ha.at_ hlt
      cases hin : inB wk[k] 0 24
      · go_wp2_with (go_at_call 42; refine (l1In_any _ _ _ _).mono ?_; rintro e w' ⟨rfl, rfl⟩)
        go_ret
        exact ⟨ret_bool (isCal_wk hlt hin).symm, hbox⟩
      · go_wp2_with (go_at_call 42; refine (l1In_any _ _ _ _).mono ?_; rintro e w' ⟨rfl, rfl⟩)
        go_round
        case rel => exact ⟨k + 1, by omega, by go_num, by rw [all_take wk _ k hlt, HA.out, hin]; rfl⟩
        case measure => simp [intOf]; omega
    · obtain rfl : k = wk.length := by omega
      have HW : Hid (wk.all (inB · 0 24) = true) := by
        have := HA.out
        rw [List.take_length] at this; exact this
      clear HA
      go_wp2_with fail
      go_loopw [4] (fun i wr => ∃ k : Nat, k ≤ ex.length ∧ i = .int .i64 k ∧ Hid (∀ j < k, okEx ex j = true) ∧ Below w1.heap.size w1 wr) (fun i _ => ex.length - (intOf i).toNat)
      case atStart => exact ⟨0, by omega, rfl, fun j h => absurd h (by omega), Below.refl _ _⟩
      case round =>
        clear hlt hk
        obtain ⟨k, hk, rfl, HI, HD⟩ := hrel
        replace g0 := (HD.cell (p := ⟨w.heap.size, 0, none⟩) hs1).trans g0
        replace g1 := (HD.cell (p := ⟨w.heap.size, 1, none⟩) hs1).trans g1
        have hbl0 : w.heap.size < wr.heap.size := Nat.lt_of_lt_of_le hs1 HD.size
        by_cases hlt : k < ex.length
        · obtain ⟨b, o, rfl, hbl, hc0, hc1⟩ := exc_at (hb.keep HD) hlt
          have hsz := HD.size
          have HO := okEx_of hlt
          have HOK := Lib.hid HO
          clear HO
          have HX : Hid (okEx ex k = true → ∀ j < k + 1, okEx ex j = true) := fun hb j hj => by
            rcases Nat.lt_or_ge j k with h1 | h1
            · exact HI.out j h1
            · rw [show j = k by omega]; exact hb
          cases hd : inB ex[k].1 0 999
          · go_wp2_with fail
            go_quiet (((go_at_call 42; exact quietS (l1In_any _ _ _))))
            go_wp2
            go_ret
            exact ⟨ret_bool (isCal_ex hlt (by rw [HOK.out, hd]; rfl)).symm, hbox.trans ((below_drewN (HD.alloc hsz _) _).mono (Nat.le_of_lt hs1))⟩
          cases hh : inB ex[k].2 0 24
          · go_wp2_with fail
            go_quiet (((go_at_call 42; exact quietS (l1In_any _ _ _))))
            go_wp2
            go_ret
            exact ⟨ret_bool (isCal_ex hlt (by rw [HOK.out, hd, hh]; rfl)).symm, hbox.trans ((below_drewN (HD.alloc hsz _) _).mono (Nat.le_of_lt hs1))⟩
          by_cases h0 : k = 0
          · have hy1 : decide (0 < k) = false := by simp; omega
            have hy2 : decide ((0 : Int) < (k : Int)) = false := by simp; omega
            have H0 := Lib.hid h0; clear h0
            go_wp2_with fail
            go_quiet (((go_at_call 42; exact quietS (l1In_any _ _ _))))
            go_wp2
            go_roundw
            case rel => exact ⟨k + 1, by omega, by go_num, HX.out (by rw [HOK.out, hd, hh, decide_eq_true H0.out]; rfl), below_drewN (HD.alloc hsz _) _⟩
            case measure => simp [intOf]; omega
          · have hlt2 : k - 1 < ex.length := by omega
            obtain ⟨b2, o2, e2, _, hp1, _⟩ := exc_at (hb.keep HD) hlt2
            obtain ⟨rfl, rfl⟩ : b = b2 ∧ o = o2 := by simpa using e2
            clear e2
            have hp2 := World.cell?_alloc_lt wr (.cells #[.int .i64 ex[k].1, .int .i64 ex[k].2] 122) ⟨b, o + (k - 1) * 2, none⟩ hbl
            rw [hp1] at hp2
            have hp3 := World.cell?_alloc_lt wr (.cells #[.int .i64 ex[k].1, .int .i64 ex[k].2] 122) ⟨w.heap.size, 1, none⟩ hbl0
            rw [g1] at hp3
            have hy1 : decide (0 < k) = true := by simp; omega
            have hy2 : decide ((0 : Int) < (k : Int)) = true := by simp; omega
            have hi1 : (0 : Int) ≤ (k : Int) - 1 := by omega
            have hi2 : (k : Int) - 1 < (ex.length : Int) := by omega
            have hi3 : ((k : Int) - 1).toNat = k - 1 := by omega
            have HG2 : Hid (ex.getD (k - 1) exNone = ex[k - 1]) := ex_getD _ _ hlt2
            have H0 := Lib.hid h0; clear h0
            by_cases hge : ex[k - 1].1 < ex[k].1
            · have hy3 : decide (ex[k].1 ≤ ex[k - 1].1) = false := by simp; omega
              have HGE := Lib.hid hge
              go_wp2_with fail
              go_quiet (((go_at_call 42; exact quietS (l1In_any _ _ _))))
              go_wp2
              go_roundw
              case rel => exact ⟨k + 1, by omega, by go_num, HX.out (by rw [HOK.out, HG2.out, hd, hh, decide_eq_true HGE.out]; simp), below_drewN (HD.alloc hsz _) _⟩
              case measure => simp [intOf]; omega
            · have hge2 : ex[k].1 ≤ ex[k - 1].1 := by omega
              have hy3 : decide (ex[k].1 ≤ ex[k - 1].1) = true := by simp; omega
              have HGE := Lib.hid hge2
              go_wp2_with fail
              go_quiet (((go_at_call 42; exact quietS (l1In_any _ _ _))))
              go_wp2
              go_ret
              exact ⟨ret_bool (isCal_ex hlt (by rw [HOK.out, HG2.out, hd, hh, decide_eq_false H0.out, decide_eq_false (show ¬ ex[k - 1].1 < ex[k].1 by have := HGE.out; omega)]; rfl)).symm, hbox.trans ((below_drewN (HD.alloc hsz _) _).mono (Nat.le_of_lt hs1))⟩
        · obtain rfl : k = ex.length := by omega
          go_wp2
          go_ret
          exact ⟨ret_bool (isCal_yes H7.out h20 HW.out HI.out).symm, hbox.trans (HD.mono (Nat.le_of_lt hs1))⟩
set_option maxRecDepth 100000 in
set_option maxHeartbeats 4000000 in
theorem implIsCalendar_any (A B : Option Addr) (n m c d : Nat) (wk : List Int) (ex : List Ex) (w : World) (ha : IntsIn w A n wk) (hb : ExsIn w B m ex) :
    Calls Try.prog 62 #[.agg #[.slice A n c, .slice B m d]] w fun e w' => e = .returned (.bool (isCal wk ex)) ∧ Below w.heap.size w w' := by
  have hn := ha.len
  have hm := hb.len
  obtain rfl := ha.1
  obtain rfl := hb.1
  have hbox := below_alloc w (.cells #[.slice A wk.length c, .slice B ex.length d] 29)
  have hs1 : w.heap.size < (w.alloc (.cells #[.slice A wk.length c, .slice B ex.length d] 29)).heap.size := by simp
  have g0 : (w.alloc (.cells #[.slice A wk.length c, .slice B ex.length d] 29)).cell? ⟨w.heap.size, 0, none⟩ = some (.slice A wk.length c) := by simp [go_sem]
  have g1 : (w.alloc (.cells #[.slice A wk.length c, .slice B ex.length d] 29)).cell? ⟨w.heap.size, 1, none⟩ = some (.slice B ex.length d) := by simp [go_sem]
  by_cases h7 : wk.length = 7
  case neg =>
    have h7b : ((wk.length : Int) != 7) = true := by rw [bne_iff_ne]; omega
    have HN := Lib.hid h7; clear h7 g0 g1
    go_enter Try.func62, Try.ntmps62
    go_wp2
    go_ret
    exact ⟨ret_bool (isCal_no7 HN.out).symm, hbox⟩
  have h7b : ((wk.length : Int) != 7) = false := by rw [bne_eq_false_iff_eq]; omega
  have h7l : wk.length ≤ 7 := by omega
  have h7g : 7 ≤ wk.length := by omega
  have H7 := Lib.hid h7; clear h7
  by_cases h20 : ex.length ≤ 20
  case neg =>
    have h20b : ¬ (ex.length : Int) ≤ 20 := by omega
    have HN := Lib.hid h20; clear h20 g0 g1
    go_enter Try.func62, Try.ntmps62
    go_wp2
    go_ret
    exact ⟨ret_bool (isCal_no20 HN.out).symm, hbox⟩
  go_enter Try.func62, Try.ntmps62
  go_wp2_with fail
  clear h7b
  generalize w.alloc (.cells #[.slice A wk.length c, .slice B ex.length d] 29) = w1 at *
  replace ha := ha.keep hbox
  replace hb := hb.keep hbox
  go_loop [20] (fun i => ∃ k : Nat, k ≤ wk.length ∧ i = .int .i64 k ∧ (wk.take k).all (inB · 0 24) = true) (fun i => wk.length - (intOf i).toNat)
  case atStart => exact ⟨0, by omega, rfl, rfl⟩
  case round =>
    obtain ⟨k, hk, rfl, hall⟩ := hrel
    have HA := Lib.hid hall; clear hall
    by_cases hlt : k < wk.length
    · obtain ⟨b, o, rfl, _, hcell⟩ := ha.at_ hlt
      cases hin : inB wk[k] 0 24
      · go_wp2_with (go_at_call 25; refine (in_any _ _ _ _).mono ?_; rintro e w' ⟨rfl, rfl⟩)
        go_ret
        exact ⟨ret_bool (isCal_wk hlt hin).symm, hbox⟩
      · go_wp2_with (go_at_call 25; refine (in_any _ _ _ _).mono ?_; rintro e w' ⟨rfl, rfl⟩)
        go_round
        case rel => exact ⟨k + 1, by omega, by go_num, by rw [all_take wk _ k hlt, HA.out, hin]; rfl⟩
        case measure => simp [intOf]; omega
    · obtain rfl : k = wk.length := by omega
      have HW : Hid (wk.all (inB · 0 24) = true) := by
        have := HA.out
        rw [List.take_length] at this; exact this
      clear HA
      go_wp2_with fail
      go_loopw [31] (fun i wr => ∃ k : Nat, k ≤ ex.length ∧ i = .int .i64 k ∧ Hid (∀ j < k, okEx ex j = true) ∧ Below w1.heap.size w1 wr) (fun i _ => ex.length - (intOf i).toNat)
      case atStart => exact ⟨0, by omega, rfl, fun j h => absurd h (by omega), Below.refl _ _⟩
      case round =>
        clear hlt hk
        obtain ⟨k, hk, rfl, HI, HD⟩ := hrel
        replace g0 := (HD.cell (p := ⟨w.heap.size, 0, none⟩) hs1).trans g0
        replace g1 := (HD.cell (p := ⟨w.heap.size, 1, none⟩) hs1).trans g1
        have hbl0 : w.heap.size < wr.heap.size := Nat.lt_of_lt_of_le hs1 HD.size
        by_cases hlt : k < ex.length
        · obtain ⟨b, o, rfl, hbl, hc0, hc1⟩ := exc_at (hb.keep HD) hlt
          have hsz := HD.size
          have HO := okEx_of hlt
          have HOK := Lib.hid HO
          clear HO
          have HX : Hid (okEx ex k = true → ∀ j < k + 1, okEx ex j = true) := fun hb j hj => by
            rcases Nat.lt_or_ge j k with h1 | h1
            · exact HI.out j h1
            · rw [show j = k by omega]; exact hb
          cases hd : inB ex[k].1 0 999
          · go_wp2_with fail
            go_quiet (((go_at_call 25; exact quietS (in_any _ _ _))))
            go_wp2
            go_ret
            exact ⟨ret_bool (isCal_ex hlt (by rw [HOK.out, hd]; rfl)).symm, hbox.trans ((below_drewN (HD.alloc hsz _) _).mono (Nat.le_of_lt hs1))⟩
          cases hh : inB ex[k].2 0 24
          · go_wp2_with fail
            go_quiet (((go_at_call 25; exact quietS (in_any _ _ _))))
            go_wp2
            go_ret
            exact ⟨ret_bool (isCal_ex hlt (by rw [HOK.out, hd, hh]; rfl)).symm, hbox.trans ((below_drewN (HD.alloc hsz _) _).mono (Nat.le_of_lt hs1))⟩
          by_cases h0 : k = 0
          · have hy1 : decide (0 < k) = false := by simp; omega
            have hy2 : decide ((0 : Int) < (k : Int)) = false := by simp; omega
            have H0 := Lib.hid h0; clear h0
            go_wp2_with fail
            go_quiet (((go_at_call 25; exact quietS (in_any _ _ _))))
            go_wp2
            go_roundw
            case rel => exact ⟨k + 1, by omega, by go_num, HX.out (by rw [HOK.out, hd, hh, decide_eq_true H0.out]; rfl), below_drewN (HD.alloc hsz _) _⟩
            case measure => simp [intOf]; omega
          · have hlt2 : k - 1 < ex.length := by omega
            obtain ⟨b2, o2, e2, _, hp1, _⟩ := exc_at (hb.keep HD) hlt2
            obtain ⟨rfl, rfl⟩ : b = b2 ∧ o = o2 := by simpa using e2
            clear e2
            have hp2 := World.cell?_alloc_lt wr (.cells #[.int .i64 ex[k].1, .int .i64 ex[k].2] 122) ⟨b, o + (k - 1) * 2, none⟩ hbl
            rw [hp1] at hp2
            have hp3 := World.cell?_alloc_lt wr (.cells #[.int .i64 ex[k].1, .int .i64 ex[k].2] 122) ⟨w.heap.size, 1, none⟩ hbl0
            rw [g1] at hp3
            have hy1 : decide (0 < k) = true := by simp; omega
            have hy2 : decide ((0 : Int) < (k : Int)) = true := by simp; omega
            have hi1 : (0 : Int) ≤ (k : Int) - 1 := by omega
            have hi2 : (k : Int) - 1 < (ex.length : Int) := by omega
            have hi3 : ((k : Int) - 1).toNat = k - 1 := by omega
            have HG2 : Hid (ex.getD (k - 1) exNone = ex[k - 1]) := ex_getD _ _ hlt2
            have H0 := Lib.hid h0; clear h0
            by_cases hge : ex[k - 1].1 < ex[k].1
            · have hy3 : decide (ex[k].1 ≤ ex[k - 1].1) = false := by simp; omega
              have HGE := Lib.hid hge
              go_wp2_with fail
              go_quiet (((go_at_call 25; exact quietS (in_any _ _ _))))
              go_wp2
              go_roundw
              case rel => exact ⟨k + 1, by omega, by go_num, HX.out (by rw [HOK.out, HG2.out, hd, hh, decide_eq_true HGE.out]; simp), below_drewN (HD.alloc hsz _) _⟩
              case measure => simp [intOf]; omega
            · have hge2 : ex[k].1 ≤ ex[k - 1].1 := by omega
              have hy3 : decide (ex[k].1 ≤ ex[k - 1].1) = true := by simp; omega
              have HGE := Lib.hid hge2
              go_wp2_with fail
              go_quiet (((go_at_call 25; exact quietS (in_any _ _ _))))
              go_wp2
              go_ret
              exact ⟨ret_bool (isCal_ex hlt (by rw [HOK.out, HG2.out, hd, hh, decide_eq_false H0.out, decide_eq_false (show ¬ ex[k - 1].1 < ex[k].1 by have := HGE.out; omega)]; rfl)).symm, hbox.trans ((below_drewN (HD.alloc hsz _) _).mono (Nat.le_of_lt hs1))⟩
        · obtain rfl : k = ex.length := by omega
          go_wp2
          go_ret
          exact ⟨ret_bool (isCal_yes H7.out h20 HW.out HI.out).symm, hbox.trans (HD.mono (Nat.le_of_lt hs1))⟩
end Go.Proofs.Ytlkolehdikfddaa
/- The walks of the small functions on needs of periods. -/
namespace Go.Proofs.Ytlkolehdikfddaa
open Go.RowKit

def arePeriods (l : List Int) (s h : Int) : Bool := l.all (inB · 0 1000) && (decide ((l.length : Int) ≤ 10) && (inB s 0 10000 && inB h 0 10000))

end Go.Proofs.Ytlkolehdikfddaa
/- The walks of the laws' own helpers on calendars. -/
namespace Go.Proofs.Ytlkolehdikfddaa
open Go.RowKit
end Go.Proofs.Ytlkolehdikfddaa
/- Boxes in memory. -/
namespace Go.Proofs.Ytlkolehdikfddaa
open Go.RowKit
/-- A box in memory: block N holds the cells cs. -/
def BoxOf (w : World) (N : Nat) (cs : List Value) : Prop := N < w.heap.size ∧ ∀ j u, cs[j]? = some u → w.cell? ⟨N, j, none⟩ = some u
theorem BoxOf.keep {w w' : World} {N : Nat} {cs : List Value} (h : BoxOf w N cs) (hb : Below w.heap.size w w') : BoxOf w' N cs :=
  ⟨Nat.lt_of_lt_of_le h.1 hb.size, fun j u hu => (hb.cell (p := ⟨N, j, none⟩) h.1).trans (h.2 j u hu)⟩
theorem BoxOf.two {w : World} {N : Nat} {x y : Value} (h : BoxOf w N [x, y]) : w.cell? ⟨N, 0, none⟩ = some x ∧ w.cell? ⟨N, 1, none⟩ = some y ∧ N < w.heap.size := ⟨h.2 0 x rfl, h.2 1 y rfl, h.1⟩
theorem boxOf_alloc (w : World) (cs : Array Value) (t : TypeId) : BoxOf (w.alloc (.cells cs t)) w.heap.size cs.toList := by
  refine ⟨by simp, fun j u hu => ?_⟩
  have := news_at (w := w) rfl cs t j u hu
  rwa [Addr.add_lit, Nat.zero_add] at this
end Go.Proofs.Ytlkolehdikfddaa
/- A plant: seven slices; the walks of the laws' own helpers on it. -/
namespace Go.Proofs.Ytlkolehdikfddaa
open Go.RowKit
/-- A slice's parts. -/
structure Sls where
  a : Option Addr
  n : Nat
  c : Nat
/-- A plant's slices: items, lines, the calendar's week and exceptions, choice, stock, receipts. -/
structure PtR where
  i : Sls
  l : Sls
  w : Sls
  e : Sls
  p : Sls
  s : Sls
  q : Sls
structure Pt where
  it : List It
  ls : List Bl
  wk : List Int
  ex : List Ex
  ch : List Pk
  st : List Nd
  rc : List Rc
abbrev PtR.v (r : PtR) : Value := .agg #[.slice r.i.a r.i.n r.i.c, .slice r.l.a r.l.n r.l.c, .slice r.w.a r.w.n r.w.c, .slice r.e.a r.e.n r.e.c, .slice r.p.a r.p.n r.p.c, .slice r.s.a r.s.n r.s.c, .slice r.q.a r.q.n r.q.c]
structure PlantIn (w : World) (r : PtR) (p : Pt) : Prop where
  it : ItemsIn w r.i.a r.i.n p.it
  ls : BillLinesIn w r.l.a r.l.n p.ls
  wk : IntsIn w r.w.a r.w.n p.wk
  ex : ExsIn w r.e.a r.e.n p.ex
  ch : PicksIn w r.p.a r.p.n p.ch
  st : NeedsIn w r.s.a r.s.n p.st
  rc : ReceiptsIn w r.q.a r.q.n p.rc
theorem PlantIn.keep {w w' : World} {r : PtR} {p : Pt} (h : PlantIn w r p) (hb : Below w.heap.size w w') : PlantIn w' r p := ⟨h.it.keep hb, h.ls.keep hb, h.wk.keep hb, h.ex.keep hb, h.ch.keep hb, h.st.keep hb, h.rc.keep hb⟩
structure okPt (p : Pt) : Prop where
  it : ∀ x ∈ p.it, okIt x
  ls : ∀ x ∈ p.ls, okBl x
  ch : ∀ x ∈ p.ch, okPk x
  st : ∀ x ∈ p.st, okNd x
  rc : ∀ x ∈ p.rc, okRc x
theorem BoxOf.seven {w : World} {N : Nat} {x0 x1 x2 x3 x4 x5 x6 : Value} (h : BoxOf w N [x0, x1, x2, x3, x4, x5, x6]) : w.cell? ⟨N, 0, none⟩ = some x0 ∧ w.cell? ⟨N, 1, none⟩ = some x1 ∧ w.cell? ⟨N, 2, none⟩ = some x2 ∧ w.cell? ⟨N, 3, none⟩ = some x3 ∧ w.cell? ⟨N, 4, none⟩ = some x4 ∧ w.cell? ⟨N, 5, none⟩ = some x5 ∧ w.cell? ⟨N, 6, none⟩ = some x6 ∧ N < w.heap.size := ⟨h.2 0 _ rfl, h.2 1 _ rfl, h.2 2 _ rfl, h.2 3 _ rfl, h.2 4 _ rfl, h.2 5 _ rfl, h.2 6 _ rfl, h.1⟩
theorem BoxOf.set {w : World} {N : Nat} {cs : List Value} (h : BoxOf w N cs) (hf : ∀ j, w.frozen? ⟨N, j, none⟩ = false) (j : Nat) (v : Value) (hj : j < cs.length) : BoxOf (w.setCell ⟨N, j, none⟩ v) N (cs.set j v) := by
  refine ⟨by simpa using h.1, fun i u hu => ?_⟩
  by_cases hij : j = i
  · subst hij
    rw [List.getElem?_set_self hj] at hu
    obtain rfl := Option.some.inj hu
    have := h.2 j _ (List.getElem?_eq_getElem hj)
    exact World.cell?_setCell_same _ _ _ this
  · rw [List.getElem?_set_ne hij] at hu
    rw [World.cell?_setCell_other _ _ _ _ (by intro e; injection e; contradiction)]
    exact h.2 i u hu
theorem BoxOf.off {w : World} {N : Nat} {cs : List Value} (h : BoxOf w N cs) {p : Addr} (hp : p.block ≠ N) (v : Value) : BoxOf (w.setCell p v) N cs :=
  ⟨by simpa using h.1, fun j u hu => by rw [World.cell?_setCell_other _ _ _ _ (by intro e; subst e; exact hp rfl)]; exact h.2 j u hu⟩
theorem frozen_set {w : World} {N M : Nat} (h : ∀ j, w.frozen? ⟨N, j, none⟩ = false) (i : Nat) (v : Value) : ∀ j, (w.setCell ⟨M, i, none⟩ v).frozen? ⟨N, j, none⟩ = false := fun j => by simp [go_sem, h]
structure PlantPre (w : World) (r : PtR) (p : Pt) : Prop where
  ni : r.i.n ≤ 9223372036854775807
  nl : r.l.n ≤ 9223372036854775807
  nw : r.w.n ≤ 9223372036854775807
  ne : r.e.n ≤ 9223372036854775807
  np : r.p.n ≤ 9223372036854775807
  ns : r.s.n ≤ 9223372036854775807
  nq : r.q.n ≤ 9223372036854775807
  it : r.i.n ≤ 1048576 → ItemsIn w r.i.a r.i.n p.it ∧ ∀ x ∈ p.it, okIt x
  ls : r.l.n ≤ 1048576 → BillLinePre w r.l.a r.l.n p.ls ∧ ∀ x ∈ p.ls, okBl x
  cal : r.w.n ≤ 1048576 → r.e.n ≤ 1048576 → IntsIn w r.w.a r.w.n p.wk ∧ ExsIn w r.e.a r.e.n p.ex
  ch : r.p.n ≤ 1048576 → PicksIn w r.p.a r.p.n p.ch ∧ ∀ x ∈ p.ch, okPk x
  st : r.s.n ≤ 1048576 → NeedsIn w r.s.a r.s.n p.st ∧ ∀ x ∈ p.st, okNd x
  rc : r.q.n ≤ 1048576 → ReceiptsIn w r.q.a r.q.n p.rc ∧ ∀ x ∈ p.rc, okRc x
end Go.Proofs.Ytlkolehdikfddaa
/- The walks of IsPlant. -/
namespace Go.Proofs.Ytlkolehdikfddaa
open Go.RowKit
def ndNone : Nd := (ByteArray.empty, 0)
def okStk (it : List It) (st : List Nd) (k : Nat) : Bool :=
  decide (0 ≤ findIt it (st.getD k ndNone).1) && (inB (st.getD k ndNone).2 0 100000 && (decide (k = 0) || itLt (st.getD (k - 1) ndNone).1 (st.getD k ndNone).1))
def okRcp (it : List It) (x : Rc) : Bool := decide (0 ≤ findIt it x.1) && (inB x.2.2 1 100000 && inB x.2.1 0 999)
def isPlant (p : Pt) : Bool :=
  (isBills p.it p.ls && (isCal p.wk p.ex && (decide ((p.st.length : Int) ≤ 12) && decide ((p.rc.length : Int) ≤ 16)))) && ((List.range p.st.length).all (okStk p.it p.st) && p.rc.all (okRcp p.it))
theorem nd_getD (l : List Nd) (k : Nat) (h : k < l.length) : l.getD k ndNone = l[k] := by
  rw [List.getD_eq_getElem?_getD, List.getElem?_eq_getElem h]; rfl
theorem isPlant_no {p : Pt} (h : (isBills p.it p.ls && (isCal p.wk p.ex && (decide ((p.st.length : Int) ≤ 12) && decide ((p.rc.length : Int) ≤ 16)))) = false) : isPlant p = false := by unfold isPlant; rw [h]; rfl
theorem isPlant_stk {p : Pt} {k : Nat} (hk : k < p.st.length) (h : okStk p.it p.st k = false) : isPlant p = false := by
  unfold isPlant
  have : (List.range p.st.length).all (okStk p.it p.st) = false := by rw [List.all_eq_false]; exact ⟨k, by simpa using hk, by simp [h]⟩
  rw [this]; simp
theorem isPlant_rcp {p : Pt} {k : Nat} (hk : k < p.rc.length) (h : okRcp p.it p.rc[k] = false) : isPlant p = false := by
  unfold isPlant; rw [all_false p.rc _ k hk h]; simp
theorem isPlant_yes {p : Pt} (h1 : isBills p.it p.ls = true) (h2 : isCal p.wk p.ex = true) (h3 : (p.st.length : Int) ≤ 12) (h4 : (p.rc.length : Int) ≤ 16) (h5 : ∀ j < p.st.length, okStk p.it p.st j = true) (h6 : (p.rc.take p.rc.length).all (okRcp p.it) = true) : isPlant p = true := by
  rw [List.take_length] at h6
  unfold isPlant
  have : (List.range p.st.length).all (okStk p.it p.st) = true := by rw [List.all_eq_true]; intro x hx; exact h5 x (by simpa using hx)
  rw [h1, h2, decide_eq_true h3, decide_eq_true h4, this, h6]; rfl
theorem okStk_of {it : List It} {st : List Nd} {k : Nat} (hk : k < st.length) : okStk it st k = (decide (0 ≤ findIt it st[k].1) && (inB st[k].2 0 100000 && (decide (k = 0) || itLt (st.getD (k - 1) ndNone).1 st[k].1))) := by
  unfold okStk; rw [nd_getD _ _ hk]
theorem okStk_find {it : List It} {st : List Nd} {k : Nat} (hk : k < st.length) (h : ¬ 0 ≤ findIt it st[k].1) : okStk it st k = false := by rw [okStk_of hk, decide_eq_false h]; rfl
theorem okStk_in {it : List It} {st : List Nd} {k : Nat} (hk : k < st.length) (h : inB st[k].2 0 100000 = false) : okStk it st k = false := by rw [okStk_of hk, h]; simp
theorem okStk_first {it : List It} {st : List Nd} {k : Nat} (hk : k < st.length) (h1 : 0 ≤ findIt it st[k].1) (h2 : inB st[k].2 0 100000 = true) (h0 : k = 0) : okStk it st k = true := by rw [okStk_of hk, decide_eq_true h1, h2, decide_eq_true h0]; rfl
theorem okStk_next {it : List It} {st : List Nd} {k : Nat} (hk : k < st.length) (h1 : 0 ≤ findIt it st[k].1) (h2 : inB st[k].2 0 100000 = true) (h0 : ¬ k = 0) (hp : k - 1 < st.length) : okStk it st k = itLt st[k - 1].1 st[k].1 := by rw [okStk_of hk, decide_eq_true h1, h2, decide_eq_false h0, nd_getD _ _ hp]; rfl
theorem okStk_more {it : List It} {st : List Nd} {k : Nat} (h : okStk it st k = true) (hI : ∀ j < k, okStk it st j = true) : ∀ j < k + 1, okStk it st j = true := fun j hj => by
  rcases Nat.lt_or_ge j k with h1 | h1
  · exact hI j h1
  · rw [show j = k by omega]; exact h
end Go.Proofs.Ytlkolehdikfddaa
/- The walk of IsPlant (the reference's). -/
namespace Go.Proofs.Ytlkolehdikfddaa
open Go.RowKit
set_option maxRecDepth 100000 in
set_option maxHeartbeats 8000000 in
theorem specIsPlant_any (r : PtR) (p : Pt) (w : World) (hp : PlantIn w r p) (hok : okPt p) :
    Calls Try.prog 43 #[.agg #[.slice r.i.a r.i.n r.i.c, .slice r.l.a r.l.n r.l.c, .slice r.w.a r.w.n r.w.c, .slice r.e.a r.e.n r.e.c, .slice r.p.a r.p.n r.p.c, .slice r.s.a r.s.n r.s.c, .slice r.q.a r.q.n r.q.c]] w fun e w' => e = .returned (.bool (isPlant p)) ∧ Below w.heap.size w w' := by
  obtain ⟨⟨a0, n0, c0⟩, ⟨a1, n1, c1⟩, ⟨a2, n2, c2⟩, ⟨a3, n3, c3⟩, ⟨a4, n4, c4⟩, ⟨a5, n5, c5⟩, ⟨a6, n6, c6⟩⟩ := r
  obtain ⟨q0, q1, q2, q3, q4, q5, q6⟩ := hp
  dsimp only at q0 q1 q2 q3 q4 q5 q6 ⊢
  have HNS := Lib.hid q5.1
  have HNR := Lib.hid q6.1
  have hls := q5.len
  have hlr := q6.len
  have Q0 := Lib.hid q0
  have Q1 := Lib.hid q1
  have Q2 := Lib.hid q2
  have Q3 := Lib.hid q3
  have Q5 := Lib.hid q5
  have Q6 := Lib.hid q6
  clear q0 q1 q2 q3 q4 q5 q6
  have HO := Lib.hid hok
  clear hok
  obtain rfl := HNS.out
  obtain rfl := HNR.out
  clear HNS HNR
  have hb := below_alloc w (.cells #[.slice a0 n0 c0, .slice a1 n1 c1, .slice a2 n2 c2, .slice a3 n3 c3, .slice a4 n4 c4, .slice a5 p.st.length c5, .slice a6 p.rc.length c6] 34)
  have B0 : BoxOf (w.alloc (.cells #[.slice a0 n0 c0, .slice a1 n1 c1, .slice a2 n2 c2, .slice a3 n3 c3, .slice a4 n4 c4, .slice a5 p.st.length c5, .slice a6 p.rc.length c6] 34)) w.heap.size [.slice a0 n0 c0, .slice a1 n1 c1, .slice a2 n2 c2, .slice a3 n3 c3, .slice a4 n4 c4, .slice a5 p.st.length c5, .slice a6 p.rc.length c6] := boxOf_alloc w #[.slice a0 n0 c0, .slice a1 n1 c1, .slice a2 n2 c2, .slice a3 n3 c3, .slice a4 n4 c4, .slice a5 p.st.length c5, .slice a6 p.rc.length c6] 34
  go_enter Try.func43, Try.ntmps43
  go_wp2_with fail
  generalize (w.alloc (.cells #[.slice a0 n0 c0, .slice a1 n1 c1, .slice a2 n2 c2, .slice a3 n3 c3, .slice a4 n4 c4, .slice a5 p.st.length c5, .slice a6 p.rc.length c6] 34)) = V at *
  refine (specIsBills_any _ _ _ _ _ _ p.it p.ls _ (Q0.out.keep hb) (Q1.out.keep hb) HO.out.it HO.out.ls).mono ?_
  rintro e V1 ⟨rfl, hs⟩
  replace hb := below_on hb hs
  replace B0 := B0.keep hs
  clear hs
  obtain ⟨b0, b1, b2, b3, b4, b5, b6, bl⟩ := B0.seven
  cases g1 : isBills p.it p.ls
  · have HF : Hid (isPlant p = false) := isPlant_no (by rw [g1]; rfl)
    go_wp2_with fail
    go_ret
    exact ⟨ret_bool HF.out.symm, hb⟩
  go_wp2_with fail
  refine (specIsCalendar_any _ _ _ _ _ _ p.wk p.ex _ (Q2.out.keep hb) (Q3.out.keep hb)).mono ?_
  rintro e V2 ⟨rfl, hs⟩
  replace hb := below_on hb hs
  replace B0 := B0.keep hs
  clear hs b0 b1 b2 b3 b4 b5 b6 bl
  obtain ⟨b0, b1, b2, b3, b4, b5, b6, bl⟩ := B0.seven
  cases g2 : isCal p.wk p.ex
  · have HF : Hid (isPlant p = false) := isPlant_no (by rw [g2]; simp)
    go_wp2_with fail
    go_ret
    exact ⟨ret_bool HF.out.symm, hb⟩
  by_cases h12 : (p.st.length : Int) ≤ 12
  case neg =>
    have HF : Hid (isPlant p = false) := isPlant_no (by rw [decide_eq_false h12]; simp)
    go_wp2_with fail
    go_ret
    exact ⟨ret_bool HF.out.symm, hb⟩
  by_cases h16 : (p.rc.length : Int) ≤ 16
  case neg =>
    have HF : Hid (isPlant p = false) := isPlant_no (by rw [decide_eq_false h16]; simp)
    go_wp2_with fail
    go_ret
    exact ⟨ret_bool HF.out.symm, hb⟩
  go_wp2_with fail
  clear b0 b1 b2 b3 b4 b5 b6 bl
  go_loopw [3] (fun i wr => ∃ k : Nat, k ≤ p.st.length ∧ i = .int .i64 k ∧ Hid (∀ j < k, okStk p.it p.st j = true) ∧ BoxOf wr w.heap.size [.slice a0 n0 c0, .slice a1 n1 c1, .slice a2 n2 c2, .slice a3 n3 c3, .slice a4 n4 c4, .slice a5 p.st.length c5, .slice a6 p.rc.length c6] ∧ Below w.heap.size w wr) (fun i _ => p.st.length - (intOf i).toNat)
  case atStart => exact ⟨0, by omega, rfl, fun j h => absurd h (by omega), B0, hb⟩
  case round =>
    clear B0 hb
    obtain ⟨k, hk, rfl, HI, B0, hb⟩ := hrel
    obtain ⟨b0, b1, b2, b3, b4, b5, b6, bl⟩ := B0.seven
    by_cases hlt : k < p.st.length
    · have HIT := Lib.hid (Q0.out.keep hb)
      have hst := Q5.out.keep hb
      obtain ⟨b, o, rfl, hbl, hc0, hc1⟩ := need_at hst hlt
      obtain ⟨f3, f3b⟩ := findIt_bd p.it p.st[k].1
      by_cases f1 : 0 ≤ findIt p.it p.st[k].1
      case neg =>
        have HC := Lib.hid (okStk_find hlt f1)
        have f5 : findIt p.it p.st[k].1 < 0 := by omega
        clear f3 f3b f1
        go_wp2_with fail
        go_quiet ((first | (go_at_call 10; refine (specFindItem_any _ _ _ p.it _ _ (HIT.out.keep (below_drewN (Below.refl _ _) _))).mono ?_; rintro e w' ⟨rfl, rfl⟩; exact ⟨rfl, _, rfl⟩) | (go_at_call 42; exact quietS (l1In_any _ _ _))))
        go_wp2
        go_ret
        exact ⟨ret_bool (isPlant_stk hlt HC.out).symm, below_drewN hb _⟩
      have f5 : ¬ findIt p.it p.st[k].1 < 0 := by omega
      have f6 : decide (findIt p.it p.st[k].1 < 0) = false := decide_eq_false f5
      cases q1 : inB p.st[k].2 0 100000
      · have HC := Lib.hid (okStk_in (it := p.it) hlt q1)
        clear f1 f3 f3b
        go_wp2_with fail
        go_quiet ((first | (go_at_call 10; refine (specFindItem_any _ _ _ p.it _ _ (HIT.out.keep (below_drewN (Below.refl _ _) _))).mono ?_; rintro e w' ⟨rfl, rfl⟩; exact ⟨rfl, _, rfl⟩) | (go_at_call 42; exact quietS (l1In_any _ _ _))))
        go_wp2
        go_ret
        exact ⟨ret_bool (isPlant_stk hlt HC.out).symm, below_drewN hb _⟩
      by_cases h0 : k = 0
      · have hy1 : decide (0 < k) = false := by simp; omega
        have hy2 : decide ((0 : Int) < (k : Int)) = false := by simp; omega
        have HC := Lib.hid (okStk_first hlt f1 q1 h0)
        clear h0 f1 f3 f3b
        go_wp2_with fail
        go_quiet ((first | (go_at_call 10; refine (specFindItem_any _ _ _ p.it _ _ (HIT.out.keep (below_drewN (Below.refl _ _) _))).mono ?_; rintro e w' ⟨rfl, rfl⟩; exact ⟨rfl, _, rfl⟩) | (go_at_call 42; exact quietS (l1In_any _ _ _))))
        go_wp2
        go_roundw
        case rel => exact ⟨k + 1, by omega, by go_num, okStk_more HC.out HI.out, B0.keep (below_drewN (Below.refl _ _) _), below_drewN hb _⟩
        case measure => simp [intOf]; omega
      have hlt2 : k - 1 < p.st.length := by omega
      obtain ⟨b2, o2, e2, _, hp0, _⟩ := need_at hst hlt2
      obtain ⟨rfl, rfl⟩ : b = b2 ∧ o = o2 := by simpa using e2
      clear e2
      have hy1 : decide (0 < k) = true := by simp; omega
      have hy2 : decide ((0 : Int) < (k : Int)) = true := by simp; omega
      have hi1 : (0 : Int) ≤ (k : Int) - 1 := by omega
      have hi2 : (k : Int) - 1 < (p.st.length : Int) := by omega
      have hi3 : ((k : Int) - 1).toNat = k - 1 := by omega
      have hi4 : (1 : Int) ≤ (k : Int) := by omega
      have hwk : IntKind.i64.wrap ((k : Int) - 1) = (k : Int) - 1 := IntWalk.i64_in _ (by omega)
      have HC := Lib.hid (okStk_next hlt f1 q1 h0 hlt2)
      clear h0 f1 f3 f3b
      cases hq : itLt p.st[k - 1].1 p.st[k].1
      · have hq2 : Op.bytesLess p.st[k - 1].1.toList p.st[k].1.toList = false := hq
        go_wp2_with fail
        go_quiet ((first | (go_at_call 10; refine (specFindItem_any _ _ _ p.it _ _ (HIT.out.keep (below_drewN (Below.refl _ _) _))).mono ?_; rintro e w' ⟨rfl, rfl⟩; exact ⟨rfl, _, rfl⟩) | (go_at_call 42; exact quietS (l1In_any _ _ _))))
        go_wp2
        go_ret
        exact ⟨ret_bool (isPlant_stk hlt (HC.out.trans hq)).symm, below_drewN hb _⟩
      · have hq2 : Op.bytesLess p.st[k - 1].1.toList p.st[k].1.toList = true := hq
        go_wp2_with fail
        go_quiet ((first | (go_at_call 10; refine (specFindItem_any _ _ _ p.it _ _ (HIT.out.keep (below_drewN (Below.refl _ _) _))).mono ?_; rintro e w' ⟨rfl, rfl⟩; exact ⟨rfl, _, rfl⟩) | (go_at_call 42; exact quietS (l1In_any _ _ _))))
        go_wp2
        go_roundw
        case rel => exact ⟨k + 1, by omega, by go_num, okStk_more (HC.out.trans hq) HI.out, B0.keep (below_drewN (Below.refl _ _) _), below_drewN hb _⟩
        case measure => simp [intOf]; omega
    · obtain rfl : k = p.st.length := by omega
      go_wp2_with fail
      clear b0 b1 b2 b3 b4 b5 b6 bl
      go_loopw [4] (fun i wr => ∃ k : Nat, k ≤ p.rc.length ∧ i = .int .i64 k ∧ Hid ((p.rc.take k).all (okRcp p.it) = true) ∧ BoxOf wr w.heap.size [.slice a0 n0 c0, .slice a1 n1 c1, .slice a2 n2 c2, .slice a3 n3 c3, .slice a4 n4 c4, .slice a5 p.st.length c5, .slice a6 p.rc.length c6] ∧ Below w.heap.size w wr) (fun i _ => p.rc.length - (intOf i).toNat)
      case atStart => exact ⟨0, by omega, rfl, rfl, B0, hb⟩
      case round =>
        clear B0 hb hlt hk
        obtain ⟨k, hk, rfl, HJ, B0, hb⟩ := hrel
        obtain ⟨b0, b1, b2, b3, b4, b5, b6, bl⟩ := B0.seven
        by_cases hlt : k < p.rc.length
        · have HIT := Lib.hid (Q0.out.keep hb)
          have hrc := Q6.out.keep hb
          obtain ⟨b, o, rfl, hbl, hc0, hc1, hc2⟩ := receipt_at hrc hlt
          obtain ⟨f3, f3b⟩ := findIt_bd p.it p.rc[k].1
          by_cases f1 : 0 ≤ findIt p.it p.rc[k].1
          case neg =>
            have HC : Hid (okRcp p.it p.rc[k] = false) := by show _ = _; unfold okRcp; rw [decide_eq_false f1]; rfl
            have f5 : findIt p.it p.rc[k].1 < 0 := by omega
            clear f3 f3b f1
            go_wp2_with fail
            go_quiet ((first | (go_at_call 10; refine (specFindItem_any _ _ _ p.it _ _ (HIT.out.keep (below_drewN (Below.refl _ _) _))).mono ?_; rintro e w' ⟨rfl, rfl⟩; exact ⟨rfl, _, rfl⟩) | (go_at_call 42; exact quietS (l1In_any _ _ _))))
            go_wp2
            go_ret
            exact ⟨ret_bool (isPlant_rcp hlt HC.out).symm, below_drewN hb _⟩
          have f5 : ¬ findIt p.it p.rc[k].1 < 0 := by omega
          have f6 : decide (findIt p.it p.rc[k].1 < 0) = false := decide_eq_false f5
          cases q1 : inB p.rc[k].2.2 1 100000
          · have HC : Hid (okRcp p.it p.rc[k] = false) := by show _ = _; unfold okRcp; rw [q1]; simp
            clear f1 f3 f3b
            go_wp2_with fail
            go_quiet ((first | (go_at_call 10; refine (specFindItem_any _ _ _ p.it _ _ (HIT.out.keep (below_drewN (Below.refl _ _) _))).mono ?_; rintro e w' ⟨rfl, rfl⟩; exact ⟨rfl, _, rfl⟩) | (go_at_call 42; exact quietS (l1In_any _ _ _))))
            go_wp2
            go_ret
            exact ⟨ret_bool (isPlant_rcp hlt HC.out).symm, below_drewN hb _⟩
          cases q2 : inB p.rc[k].2.1 0 999
          · have HC : Hid (okRcp p.it p.rc[k] = false) := by show _ = _; unfold okRcp; rw [q2]; simp
            clear f1 f3 f3b
            go_wp2_with fail
            go_quiet ((first | (go_at_call 10; refine (specFindItem_any _ _ _ p.it _ _ (HIT.out.keep (below_drewN (Below.refl _ _) _))).mono ?_; rintro e w' ⟨rfl, rfl⟩; exact ⟨rfl, _, rfl⟩) | (go_at_call 42; exact quietS (l1In_any _ _ _))))
            go_wp2
            go_ret
            exact ⟨ret_bool (isPlant_rcp hlt HC.out).symm, below_drewN hb _⟩
          have HC : Hid (okRcp p.it p.rc[k] = true) := by show _ = _; unfold okRcp; rw [decide_eq_true f1, q1, q2]; rfl
          clear f1 f3 f3b
          go_wp2_with fail
          go_quiet ((first | (go_at_call 10; refine (specFindItem_any _ _ _ p.it _ _ (HIT.out.keep (below_drewN (Below.refl _ _) _))).mono ?_; rintro e w' ⟨rfl, rfl⟩; exact ⟨rfl, _, rfl⟩) | (go_at_call 42; exact quietS (l1In_any _ _ _))))
          go_wp2
          go_roundw
          case rel => exact ⟨k + 1, by omega, by go_num, by rw [all_take p.rc _ k hlt, HJ.out]; exact HC.out, B0.keep (below_drewN (Below.refl _ _) _), below_drewN hb _⟩
          case measure => simp [intOf]; omega
        · obtain rfl : k = p.rc.length := by omega
          have HF := Lib.hid (isPlant_yes g1 g2 h12 h16 HI.out HJ.out)
          go_wp2_with fail
          go_ret
          exact ⟨ret_bool HF.out.symm, hb⟩
end Go.Proofs.Ytlkolehdikfddaa
