/- The walks of AreMinutes. -/
import Derived.Test.YtmkfinahbelpdaaCode
import Derived.Test.YtmkfinahbelpdaaLoadTo
namespace Go.Proofs.Ytmkfinahbelpdaa
open Go.RowKit
def ldNone : Ld := (ByteArray.empty, 0, 0)
def okMin (l : List Ld) (k : Nat) : Bool :=
  isCode (l.getD k ldNone).1 && (((l.getD k ldNone).1.toList == (l.getD 0 ldNone).1.toList) && (inB (l.getD k ldNone).2.1 0 999 && (inB (l.getD k ldNone).2.2 0 1000000000 && (decide (k = 0) || decide ((l.getD (k - 1) ldNone).2.1 < (l.getD k ldNone).2.1)))))
def areMinutes (l : List Ld) : Bool := (List.range l.length).all (okMin l) && decide ((l.length : Int) ≤ 200)
theorem areMinutes_no {l : List Ld} {k : Nat} (hk : k < l.length) (h : okMin l k = false) : areMinutes l = false := by
  unfold areMinutes
  have : (List.range l.length).all (okMin l) = false := by rw [List.all_eq_false]; exact ⟨k, by simpa using hk, by simp [h]⟩
  simp [this]
theorem areMinutes_end {l : List Ld} (h : ∀ j < l.length, okMin l j = true) : areMinutes l = decide ((l.length : Int) ≤ 200) := by
  unfold areMinutes
  have : (List.range l.length).all (okMin l) = true := by rw [List.all_eq_true]; intro x hx; exact h x (by simpa using hx)
  simp [this]
theorem ld_getD (l : List Ld) (k : Nat) (h : k < l.length) : l.getD k ldNone = l[k] := by
  rw [List.getD_eq_getElem?_getD, List.getElem?_eq_getElem h]; rfl
set_option maxRecDepth 100000 in
set_option maxHeartbeats 4000000 in
theorem specAreMinutes_any (A : Option Addr) (n c : Nat) (l : List Ld) (w : World) (hl : LoadsIn w A n l) (hok : ∀ x ∈ l, okLd x) :
    Calls Try.prog 40 #[.slice A n c] w fun e w' => e = .returned (.bool (areMinutes l)) ∧ Drew w w' := by
  have hn := hl.len
  obtain rfl := hl.1
  have HO := Lib.hid hok
  clear hok
  go_enter Try.func40, Try.ntmps40
  go_wp2
  go_loopw [3] (fun i wr => ∃ k : Nat, k ≤ l.length ∧ i = .int .i64 k ∧ Hid (∀ j < k, okMin l j = true) ∧ Drew w wr) (fun i _ => l.length - (intOf i).toNat)
  case atStart => exact ⟨0, by omega, rfl, fun j h => absurd h (by omega), Drew.refl _⟩
  case round =>
    obtain ⟨k, hk, rfl, HI, HD⟩ := hrel
    by_cases hlt : k < l.length
    · have hsz := HO.out _ (List.getElem_mem hlt)
      unfold okLd at hsz
      have h00 : 0 < l.length := by omega
      obtain ⟨b, o, rfl, hbl, hc0, hc1, hc2⟩ := load_at (hl.keep (HD.below _)) hlt
      obtain ⟨b0, o0, e0, _, hz0, _, _⟩ := load_at (hl.keep (HD.below _)) h00
      obtain ⟨rfl, rfl⟩ : b = b0 ∧ o = o0 := by simpa using e0
      rw [Nat.zero_mul, Nat.add_zero] at hz0
      have HG : Hid (l.getD k ldNone = l[k]) := ld_getD _ _ hlt
      have HG0 : Hid (l.getD 0 ldNone = l[0]) := ld_getD _ _ h00
      have HX : Hid (okMin l k = true → ∀ j < k + 1, okMin l j = true) := fun hb j hj => by
        rcases Nat.lt_or_ge j k with h1 | h1
        · exact HI.out j h1
        · rw [show j = k by omega]; exact hb
      cases hcd : isCode l[k].1
      · go_wp2
        go_quiet (((first | (go_at_call 42; exact quietS (l1In_any _ _ _)) | (go_at_call 71; exact quietS (fun W => specIsCode_any _ W hsz)))))
        go_wp2
        go_ret
        exact ⟨ret_bool (areMinutes_no hlt (by unfold okMin; rw [HG.out, hcd]; rfl)).symm, HD.more _⟩
      cases heq : (l[k].1.toList == l[0].1.toList)
      · go_wp2
        go_quiet (((first | (go_at_call 42; exact quietS (l1In_any _ _ _)) | (go_at_call 71; exact quietS (fun W => specIsCode_any _ W hsz)))))
        go_wp2
        go_ret
        exact ⟨ret_bool (areMinutes_no hlt (by unfold okMin; rw [HG.out, HG0.out, hcd, heq]; rfl)).symm, HD.more _⟩
      cases hd : inB l[k].2.1 0 999
      · go_wp2
        go_quiet (((first | (go_at_call 42; exact quietS (l1In_any _ _ _)) | (go_at_call 71; exact quietS (fun W => specIsCode_any _ W hsz)))))
        go_wp2
        go_ret
        exact ⟨ret_bool (areMinutes_no hlt (by unfold okMin; rw [HG.out, HG0.out, hcd, heq, hd]; rfl)).symm, HD.more _⟩
      cases hq : inB l[k].2.2 0 1000000000
      · go_wp2
        go_quiet (((first | (go_at_call 42; exact quietS (l1In_any _ _ _)) | (go_at_call 71; exact quietS (fun W => specIsCode_any _ W hsz)))))
        go_wp2
        go_ret
        exact ⟨ret_bool (areMinutes_no hlt (by unfold okMin; rw [HG.out, HG0.out, hcd, heq, hd, hq]; rfl)).symm, HD.more _⟩
      by_cases h0 : k = 0
      · have hy1 : decide (0 < k) = false := by simp; omega
        have hy2 : decide ((0 : Int) < (k : Int)) = false := by simp; omega
        have H0 := Lib.hid h0; clear h0
        go_wp2
        go_quiet (((first | (go_at_call 42; exact quietS (l1In_any _ _ _)) | (go_at_call 71; exact quietS (fun W => specIsCode_any _ W hsz)))))
        go_wp2
        go_roundw
        case rel => exact ⟨k + 1, by omega, by go_num, HX.out (by unfold okMin; rw [HG.out, HG0.out, hcd, heq, hd, hq, decide_eq_true H0.out]; rfl), HD.more _⟩
        case measure => simp [intOf]; omega
      · have hlt2 : k - 1 < l.length := by omega
        obtain ⟨b2, o2, e2, _, _, hp1, _⟩ := load_at (hl.keep (HD.below _)) hlt2
        obtain ⟨rfl, rfl⟩ : b = b2 ∧ o = o2 := by simpa using e2
        have hy1 : decide (0 < k) = true := by simp; omega
        have hy2 : decide ((0 : Int) < (k : Int)) = true := by simp; omega
        have hi1 : (0 : Int) ≤ (k : Int) - 1 := by omega
        have hi2 : (k : Int) - 1 < (l.length : Int) := by omega
        have hi3 : ((k : Int) - 1).toNat = k - 1 := by omega
        have HG2 : Hid (l.getD (k - 1) ldNone = l[k - 1]) := ld_getD _ _ hlt2
        have H0 := Lib.hid h0; clear h0
        by_cases hge : l[k - 1].2.1 < l[k].2.1
        · have hy3 : decide (l[k].2.1 ≤ l[k - 1].2.1) = false := by simp; omega
          have HGE := Lib.hid hge
          go_wp2
          go_quiet (((first | (go_at_call 42; exact quietS (l1In_any _ _ _)) | (go_at_call 71; exact quietS (fun W => specIsCode_any _ W hsz)))))
          go_wp2
          go_roundw
          case rel => exact ⟨k + 1, by omega, by go_num, HX.out (by unfold okMin; rw [HG.out, HG0.out, HG2.out, hcd, heq, hd, hq, decide_eq_true HGE.out]; simp), HD.more _⟩
          case measure => simp [intOf]; omega
        · have hge2 : l[k].2.1 ≤ l[k - 1].2.1 := by omega
          have hy3 : decide (l[k].2.1 ≤ l[k - 1].2.1) = true := by simp; omega
          have HGE := Lib.hid hge2
          go_wp2
          go_quiet (((first | (go_at_call 42; exact quietS (l1In_any _ _ _)) | (go_at_call 71; exact quietS (fun W => specIsCode_any _ W hsz)))))
          go_wp2
          go_ret
          exact ⟨ret_bool (areMinutes_no hlt (by unfold okMin; rw [HG.out, HG0.out, HG2.out, hcd, heq, hd, hq, decide_eq_false H0.out, decide_eq_false (show ¬ l[k - 1].2.1 < l[k].2.1 by have := HGE.out; omega)]; rfl)).symm, HD.more _⟩
    · obtain rfl : k = l.length := by omega
      go_wp2
      go_ret
      exact ⟨ret_bool (areMinutes_end HI.out).symm, HD⟩
set_option maxRecDepth 100000 in
set_option maxHeartbeats 4000000 in
theorem implAreMinutes_any (A : Option Addr) (n c : Nat) (l : List Ld) (w : World) (hl : LoadsIn w A n l) (hok : ∀ x ∈ l, okLd x) :
    Calls Try.prog 36 #[.slice A n c] w fun e w' => e = .returned (.bool (areMinutes l)) ∧ Below w.heap.size w w' := by
  have hn := hl.len
  obtain rfl := hl.1
  have HO := Lib.hid hok
  clear hok
  go_enter Try.func36, Try.ntmps36
  go_wp2
  go_loopw [7] (fun i wr => ∃ k : Nat, k ≤ l.length ∧ i = .int .i64 k ∧ Hid (∀ j < k, okMin l j = true) ∧ Below w.heap.size w wr) (fun i _ => l.length - (intOf i).toNat)
  case atStart => exact ⟨0, by omega, rfl, fun j h => absurd h (by omega), Below.refl _ _⟩
  case round =>
    obtain ⟨k, hk, rfl, HI, HD⟩ := hrel
    by_cases hlt : k < l.length
    · have hsz := HO.out _ (List.getElem_mem hlt)
      unfold okLd at hsz
      have h00 : 0 < l.length := by omega
      obtain ⟨b, o, rfl, hbl, hc0, hc1, hc2⟩ := load_at (hl.keep HD) hlt
      obtain ⟨b0, o0, e0, _, hz0, _, _⟩ := load_at (hl.keep HD) h00
      obtain ⟨rfl, rfl⟩ : b = b0 ∧ o = o0 := by simpa using e0
      rw [Nat.zero_mul, Nat.add_zero] at hz0
      have hsw := HD.size
      have hz1 := World.cell?_alloc_lt wr (.cells #[.string l[k].1, .int .i64 l[k].2.1, .int .i64 l[k].2.2] 34) ⟨b, o, none⟩ hbl
      rw [hz0] at hz1
      have HG : Hid (l.getD k ldNone = l[k]) := ld_getD _ _ hlt
      have HG0 : Hid (l.getD 0 ldNone = l[0]) := ld_getD _ _ h00
      have HX : Hid (okMin l k = true → ∀ j < k + 1, okMin l j = true) := fun hb j hj => by
        rcases Nat.lt_or_ge j k with h1 | h1
        · exact HI.out j h1
        · rw [show j = k by omega]; exact hb
      cases hcd : isCode l[k].1
      · go_wp2
        go_quiet (((first | (go_at_call 38; exact quietS (in_any _ _ _)) | (go_at_call 69; exact quietS (fun W => implIsCode_any _ W hsz)))))
        go_wp2
        go_ret
        exact ⟨ret_bool (areMinutes_no hlt (by unfold okMin; rw [HG.out, hcd]; rfl)).symm, below_drewN (HD.alloc hsw _) _⟩
      cases heq : (l[k].1.toList == l[0].1.toList)
      · go_wp2
        go_quiet (((first | (go_at_call 38; exact quietS (in_any _ _ _)) | (go_at_call 69; exact quietS (fun W => implIsCode_any _ W hsz)))))
        go_wp2
        go_ret
        exact ⟨ret_bool (areMinutes_no hlt (by unfold okMin; rw [HG.out, HG0.out, hcd, heq]; rfl)).symm, below_drewN (HD.alloc hsw _) _⟩
      cases hd : inB l[k].2.1 0 999
      · go_wp2
        go_quiet (((first | (go_at_call 38; exact quietS (in_any _ _ _)) | (go_at_call 69; exact quietS (fun W => implIsCode_any _ W hsz)))))
        go_wp2
        go_ret
        exact ⟨ret_bool (areMinutes_no hlt (by unfold okMin; rw [HG.out, HG0.out, hcd, heq, hd]; rfl)).symm, below_drewN (HD.alloc hsw _) _⟩
      cases hq : inB l[k].2.2 0 1000000000
      · go_wp2
        go_quiet (((first | (go_at_call 38; exact quietS (in_any _ _ _)) | (go_at_call 69; exact quietS (fun W => implIsCode_any _ W hsz)))))
        go_wp2
        go_ret
        exact ⟨ret_bool (areMinutes_no hlt (by unfold okMin; rw [HG.out, HG0.out, hcd, heq, hd, hq]; rfl)).symm, below_drewN (HD.alloc hsw _) _⟩
      by_cases h0 : k = 0
      · have hy1 : decide (0 < k) = false := by simp; omega
        have hy2 : decide ((0 : Int) < (k : Int)) = false := by simp; omega
        have H0 := Lib.hid h0; clear h0
        go_wp2
        go_quiet (((first | (go_at_call 38; exact quietS (in_any _ _ _)) | (go_at_call 69; exact quietS (fun W => implIsCode_any _ W hsz)))))
        go_wp2
        go_roundw
        case rel => exact ⟨k + 1, by omega, by go_num, HX.out (by unfold okMin; rw [HG.out, HG0.out, hcd, heq, hd, hq, decide_eq_true H0.out]; rfl), below_drewN (HD.alloc hsw _) _⟩
        case measure => simp [intOf]; omega
      · have hlt2 : k - 1 < l.length := by omega
        obtain ⟨b2, o2, e2, _, _, hp1, _⟩ := load_at (hl.keep HD) hlt2
        obtain ⟨rfl, rfl⟩ : b = b2 ∧ o = o2 := by simpa using e2
        have hp2 := World.cell?_alloc_lt wr (.cells #[.string l[k].1, .int .i64 l[k].2.1, .int .i64 l[k].2.2] 34) ⟨b, o + (k - 1) * 3 + 1, none⟩ hbl
        rw [hp1] at hp2
        have hy1 : decide (0 < k) = true := by simp; omega
        have hy2 : decide ((0 : Int) < (k : Int)) = true := by simp; omega
        have hi1 : (0 : Int) ≤ (k : Int) - 1 := by omega
        have hi2 : (k : Int) - 1 < (l.length : Int) := by omega
        have hi3 : ((k : Int) - 1).toNat = k - 1 := by omega
        have HG2 : Hid (l.getD (k - 1) ldNone = l[k - 1]) := ld_getD _ _ hlt2
        have H0 := Lib.hid h0; clear h0
        by_cases hge : l[k - 1].2.1 < l[k].2.1
        · have hy3 : decide (l[k].2.1 ≤ l[k - 1].2.1) = false := by simp; omega
          have HGE := Lib.hid hge
          go_wp2
          go_quiet (((first | (go_at_call 38; exact quietS (in_any _ _ _)) | (go_at_call 69; exact quietS (fun W => implIsCode_any _ W hsz)))))
          go_wp2
          go_roundw
          case rel => exact ⟨k + 1, by omega, by go_num, HX.out (by unfold okMin; rw [HG.out, HG0.out, HG2.out, hcd, heq, hd, hq, decide_eq_true HGE.out]; simp), below_drewN (HD.alloc hsw _) _⟩
          case measure => simp [intOf]; omega
        · have hge2 : l[k].2.1 ≤ l[k - 1].2.1 := by omega
          have hy3 : decide (l[k].2.1 ≤ l[k - 1].2.1) = true := by simp; omega
          have HGE := Lib.hid hge2
          go_wp2
          go_quiet (((first | (go_at_call 38; exact quietS (in_any _ _ _)) | (go_at_call 69; exact quietS (fun W => implIsCode_any _ W hsz)))))
          go_wp2
          go_ret
          exact ⟨ret_bool (areMinutes_no hlt (by unfold okMin; rw [HG.out, HG0.out, HG2.out, hcd, heq, hd, hq, decide_eq_false H0.out, decide_eq_false (show ¬ l[k - 1].2.1 < l[k].2.1 by have := HGE.out; omega)]; rfl)).symm, below_drewN (HD.alloc hsw _) _⟩
    · obtain rfl : k = l.length := by omega
      go_wp2
      go_ret
      exact ⟨ret_bool (areMinutes_end HI.out).symm, HD⟩
end Go.Proofs.Ytmkfinahbelpdaa
