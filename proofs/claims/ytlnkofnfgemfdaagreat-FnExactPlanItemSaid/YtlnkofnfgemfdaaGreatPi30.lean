/- Part 30 of the texts of this claim: The marks on planned orders, with their values: what they make of a row, and that it still holds them; The walks of the laws' marks on flows. -/
import Derived.Test.YtlnkofnfgemfdaaGreatPi27
import Derived.Test.YtlnkofnfgemfdaaGreatPi29
import Derived.Test.YtlnkofnfgemfdaaGreatPi1
import Derived.Test.YtlnkofnfgemfdaaGreatPi12
import Derived.Test.YtlnkofnfgemfdaaGreatPi20
/- The marks on planned orders, with their values: what they make of a row, and that it still holds them. -/
namespace Go.Proofs.YtlnkofnfgemfdaaGreat
open Go.RowKit
def mBool (k : Int) : Bool := k % 3 == 0
/-- What the marks from k on make of a list. -/
def marksPl : List Pl → Int → List Pl
  | [], _ => []
  | _ :: t, k => (mText (k), k + 1, k + 1 + 1, k + 1 + 1 + 1, mBool (k + 1 + 1 + 1 + 1)) :: marksPl t (k + 5)
theorem marksPl_len (l : List Pl) (k : Int) : (marksPl l k).length = l.length := by
  induction l generalizing k with
  | nil => rfl
  | cons f t ih => simp [marksPl, ih]
theorem marksPl_at (l : List Pl) (k : Int) (j : Nat) (h : j < (marksPl l k).length) : (marksPl l k)[j] = (mText (k + 5 * j), k + 5 * j + 1, k + 5 * j + 1 + 1, k + 5 * j + 1 + 1 + 1, mBool (k + 5 * j + 1 + 1 + 1 + 1)) := by
  induction l generalizing k j with
  | nil => simp [marksPl] at h
  | cons f t ih =>
    cases j with
    | zero => simp [marksPl]
    | succ j =>
      simp only [marksPl, List.getElem_cons_succ]
      rw [ih]
      rw [show k + 5 + 5 * (j : Int) = k + 5 * ((j + 1 : Nat) : Int) by omega]
set_option maxRecDepth 100000 in
set_option maxHeartbeats 4000000 in
theorem markPlannedS_any (A : Option Addr) (n c lo hi : Nat) (l : List Pl) (k0 : Int) (w : World) (ha : RowsAt plF 93 w lo hi A n c l) (hk0 : 1 ≤ k0) (hk1 : k0 ≤ 1000000000) (hn : l.length ≤ 16777216) :
    Calls Tryz.prog 18 #[.slice A n c, .int .i64 k0] w fun e w' => e = .returned (.int .i64 (k0 + 5 * l.length)) ∧ RowsAt plF 93 w' lo hi A n c (marksPl l k0) ∧ Only lo hi w w' := by
  obtain rfl := ha.1
  have hml := marksPl_len l k0
  have hlen : (l.flatMap plF.enc).length = l.length * 5 := flatMap_len plF.enc 5 plF.len l
  have hlen2 : ((marksPl l k0).flatMap plF.enc).length = l.length * 5 := by rw [flatMap_len plF.enc 5 plF.len, hml]
  have HZ := Lib.hid (hlen.trans hlen2.symm)
  have HL := Lib.hid hlen2
  have HM := Lib.hid hml
  clear hml hlen hlen2
  obtain ⟨_, ⟨hown, hhi, hlt⟩⟩ := ha
  have HT := Lib.hid hlt
  clear hlt
  go_enter Tryz.func18, Tryz.ntmps18
  go_wp2
  go_loopw [1, 5] (fun m i wr => ∃ k : Nat, k ≤ l.length ∧ i = .int .i64 k ∧ m = .int .i64 (k0 + 5 * k) ∧ wr.ownsRow lo 93 5 (.slice A l.length c) l.length (fillC (l.flatMap plF.enc) ((marksPl l k0).flatMap plF.enc) (k * 5)) ∧ Only lo hi w wr) (fun _ i _ => l.length - (intOf i).toNat)
  case atStart => exact ⟨0, by omega, rfl, by go_num, by rw [Nat.zero_mul, fillC_zero]; exact hown, Only.refl _ _ _⟩
  case round =>
    clear hown
    obtain ⟨k, hk, rfl, rfl, ho, HO⟩ := hrel
    by_cases hlt : k < l.length
    · have hA : ∃ g, A = some ⟨g, 0, none⟩ := by
        rcases ho.2 with ⟨hv, h0⟩ | ⟨g, cap, cur, hv, _⟩
        · omega
        · exact ⟨g, by injection hv⟩
      obtain ⟨g, rfl⟩ := hA
      have hm : k < (marksPl l k0).length := by rw [HM.out]; exact hlt
      have hgl : lo ≤ g ∧ g < hi := ⟨(own_lt ho _ rfl).1, HT.out _ rfl⟩
      have hgo : ∀ x, (Value.slice (some ⟨g, 0, none⟩) l.length c).ownBlock = some x → lo ≤ x ∧ x < hi := fun x hx => by injection hx with hx; subst hx; exact hgl
      have HGO := Lib.hid hgo
      clear hgo
      have E0 : Hid (((marksPl l k0).flatMap plF.enc)[k * 5]? = some (.string (mText (k0 + 5 * k)))) := by
        have := flatMap_at plF.enc 5 plF.len (marksPl l k0) k 0 hm (by omega)
        rw [marksPl_at _ _ _ hm] at this; exact this
      have E1 : Hid (((marksPl l k0).flatMap plF.enc)[k * 5 + 1]? = some (.int .i64 (k0 + 5 * k + 1))) := by
        have := flatMap_at plF.enc 5 plF.len (marksPl l k0) k 1 hm (by omega)
        rw [marksPl_at _ _ _ hm] at this; exact this
      have E2 : Hid (((marksPl l k0).flatMap plF.enc)[k * 5 + 2]? = some (.int .i64 (k0 + 5 * k + 1 + 1))) := by
        have := flatMap_at plF.enc 5 plF.len (marksPl l k0) k 2 hm (by omega)
        rw [marksPl_at _ _ _ hm] at this; exact this
      have E3 : Hid (((marksPl l k0).flatMap plF.enc)[k * 5 + 3]? = some (.int .i64 (k0 + 5 * k + 1 + 1 + 1))) := by
        have := flatMap_at plF.enc 5 plF.len (marksPl l k0) k 3 hm (by omega)
        rw [marksPl_at _ _ _ hm] at this; exact this
      have E4 : Hid (((marksPl l k0).flatMap plF.enc)[k * 5 + 4]? = some (.bool (mBool (k0 + 5 * k + 1 + 1 + 1 + 1)))) := by
        have := flatMap_at plF.enc 5 plF.len (marksPl l k0) k 4 hm (by omega)
        rw [marksPl_at _ _ _ hm] at this; exact this
      go_wp2_with fail
      refine (markText_any _ _ (by omega) (by omega)).mono ?_
      rintro e v0 ⟨rfl, hb0⟩
      have hq0 := own_keep ho hb0
      replace HO := HO.trans (Only.of_below hb0)
      clear hb0
      obtain ⟨u0, c0, f0⟩ := own_cell hq0 (k * 5) (by omega)
      obtain ⟨u1, c1, f1⟩ := own_cell hq0 (k * 5 + 1) (by omega)
      obtain ⟨u2, c2, f2⟩ := own_cell hq0 (k * 5 + 2) (by omega)
      obtain ⟨u3, c3, f3⟩ := own_cell hq0 (k * 5 + 3) (by omega)
      obtain ⟨u4, c4, f4⟩ := own_cell hq0 (k * 5 + 4) (by omega)
      have s0 := (hq0.stored (k * 5) (.string (mText (k0 + 5 * k))))
      rw [fillC_set _ _ _ _ E0.out HZ.out] at s0
      replace HO := HO.trans (Only.of_grown s0.2 HGO.out)
      have s1 := (s0.1.stored (k * 5 + 1) (.int .i64 (k0 + 5 * k + 1)))
      rw [fillC_set _ _ _ _ E1.out HZ.out] at s1
      replace HO := HO.trans (Only.of_grown s1.2 HGO.out)
      have s2 := (s1.1.stored (k * 5 + 2) (.int .i64 (k0 + 5 * k + 1 + 1)))
      rw [fillC_set _ _ _ _ E2.out HZ.out] at s2
      replace HO := HO.trans (Only.of_grown s2.2 HGO.out)
      have s3 := (s2.1.stored (k * 5 + 3) (.int .i64 (k0 + 5 * k + 1 + 1 + 1)))
      rw [fillC_set _ _ _ _ E3.out HZ.out] at s3
      replace HO := HO.trans (Only.of_grown s3.2 HGO.out)
      have s4 := (s3.1.stored (k * 5 + 4) (.bool (mBool (k0 + 5 * k + 1 + 1 + 1 + 1))))
      rw [fillC_set _ _ _ _ E4.out HZ.out] at s4
      replace HO := HO.trans (Only.of_grown s4.2 HGO.out)
      have S2 := Lib.hid s4.1
      clear ho hq0 s0 s1 s2 s3 s4
      have hmb : Hid (mBool (k0 + 5 * k + 1 + 1 + 1 + 1) = ((k0 + 5 * k + 1 + 1 + 1 + 1) % 3 == 0)) := rfl
      go_wp2
      go_roundw
      case rel => exact ⟨k + 1, by omega, by go_num, by go_num, by rw [show (k + 1) * 5 = k * 5 + 1 + 1 + 1 + 1 + 1 by omega]; exact S2.out, HO⟩
      case measure => simp [intOf]; omega
    · obtain rfl : k = l.length := by omega
      go_wp2
      go_ret
      rw [← HL.out, fillC_all _ _ HZ.out] at ho
      exact ⟨rfl, ⟨HM.out.symm, ho, Nat.le_trans hhi HO.size, HT.out⟩, HO⟩
set_option maxRecDepth 100000 in
set_option maxHeartbeats 2000000 in
theorem heldPlannedS_any (A : Option Addr) (n c : Nat) (l : List Pl) (k0 : Int) (w : World) (ha : PlannedsIn w A n (marksPl l k0)) (hk0 : 1 ≤ k0) (hk1 : k0 ≤ 1000000000) :
    Calls Tryz.prog 19 #[.slice A n c, .int .i64 k0] w fun e w' => e = .returned (.int .i64 (k0 + 5 * l.length)) ∧ Below w.heap.size w w' := by
  have hn := ha.len
  rw [marksPl_len] at hn
  have HM := Lib.hid (marksPl_len l k0)
  obtain rfl : n = l.length := ha.1.trans HM.out
  go_enter Tryz.func19, Tryz.ntmps19
  go_wp2
  go_loopw [1, 5] (fun m i wr => ∃ k : Nat, k ≤ l.length ∧ i = .int .i64 k ∧ m = .int .i64 (k0 + 5 * k) ∧ Below w.heap.size w wr) (fun _ i _ => l.length - (intOf i).toNat)
  case atStart => exact ⟨0, by omega, rfl, by go_num, Below.refl _ _⟩
  case round =>
    obtain ⟨k, hk, rfl, rfl, HR⟩ := hrel
    by_cases hlt : k < l.length
    · have hm : k < (marksPl l k0).length := by rw [HM.out]; exact hlt
      obtain ⟨b, o, rfl, hbl, hc0, hc1, hc2, hc3, hc4⟩ := planned_at (ha.keep HR) hm
      rw [marksPl_at _ _ _ hm] at hc0 hc1 hc2 hc3 hc4
      dsimp only at hc0 hc1 hc2 hc3 hc4
      unfold mBool at hc4
      clear hm
      go_wp2_with fail
      go_region_held3 (fun w' => w'.cell? ⟨b, o + k * 5, none⟩ = some (.string (mText (k0 + 5 * k))) ∧ w'.cell? ⟨b, o + k * 5 + 1, none⟩ = some (.int .i64 (k0 + 5 * k + 1)) ∧ w'.cell? ⟨b, o + k * 5 + 2, none⟩ = some (.int .i64 (k0 + 5 * k + 1 + 1)) ∧ w'.cell? ⟨b, o + k * 5 + 3, none⟩ = some (.int .i64 (k0 + 5 * k + 1 + 1 + 1)) ∧ w'.cell? ⟨b, o + k * 5 + 4, none⟩ = some (.bool ((k0 + 5 * k + 1 + 1 + 1 + 1) % 3 == 0)) ∧ b < w'.heap.size ∧ Below w.heap.size w w')
        (first
          | exact ⟨hc0, hc1, hc2, hc3, hc4, hbl, HR.drew⟩
          | (go_split_ands; refine ⟨?_, ?_, ?_, ?_, ?_, ?_, ?_⟩ <;> with_reducible assumption)
          | (go_split_ands; exact ⟨(hb3.cell (by with_reducible assumption)).trans (by with_reducible assumption), (hb3.cell (by with_reducible assumption)).trans (by with_reducible assumption), (hb3.cell (by with_reducible assumption)).trans (by with_reducible assumption), (hb3.cell (by with_reducible assumption)).trans (by with_reducible assumption), (hb3.cell (by with_reducible assumption)).trans (by with_reducible assumption), Nat.lt_of_lt_of_le (by with_reducible assumption) hb3.size, below_on (by with_reducible assumption) hb3⟩))
        (first
          | ((with_reducible refine (markText_any _ _ (by omega) (by omega)).mono ?_); rintro e w3 ⟨rfl, hb3⟩))
      go_split_ands
      go_wp2_with fail
      go_roundw
      case rel => exact ⟨k + 1, by omega, by go_num, by go_num, by with_reducible assumption⟩
      case measure => simp [intOf]; omega
    · obtain rfl : k = l.length := by omega
      go_wp2
      go_ret
      exact ⟨rfl, HR⟩
end Go.Proofs.YtlnkofnfgemfdaaGreat
/- The walks of the laws' marks on flows. -/
namespace Go.Proofs.YtlnkofnfgemfdaaGreat
open Go.RowKit
/-- What the marks from k on make of a list of flows. -/
def marksFl : List Fl → Int → List Fl
  | [], _ => []
  | _ :: t, k => (k, k + 1) :: marksFl t (k + 2)
theorem marksFl_len (l : List Fl) (k : Int) : (marksFl l k).length = l.length := by
  induction l generalizing k with
  | nil => rfl
  | cons f t ih => simp [marksFl, ih]
theorem marksFl_at (l : List Fl) (k : Int) (j : Nat) (h : j < (marksFl l k).length) : (marksFl l k)[j] = (k + 2 * j, k + 2 * j + 1) := by
  induction l generalizing k j with
  | nil => simp [marksFl] at h
  | cons f t ih =>
    cases j with
    | zero => simp [marksFl]
    | succ j =>
      simp only [marksFl, List.getElem_cons_succ]
      rw [ih]
      simp only [Prod.mk.injEq]
      omega
/-- The least that the law of a mark says. -/
theorem szFlowS_ok (A : Option Addr) (n c : Nat) (left : Int) (w : World) (h : (n : Int) ≤ left) (hl : left ≤ 1048576) :
    Calls Tryz.prog 8 #[.slice A n c, .int .i64 left] w fun e w' => e = .returned (.int .i64 (left - n)) ∧ w = w' := by
  go_enter Tryz.func8, Tryz.ntmps8
  go_wp2
  go_ret
  exact ⟨rfl, rfl⟩
theorem szFlowS_big (A : Option Addr) (n c : Nat) (left : Int) (w : World) (h : left < (n : Int)) (h0 : 0 ≤ left) (hn : n ≤ 9223372036854775807) :
    Calls Tryz.prog 8 #[.slice A n c, .int .i64 left] w fun e w' => e = .returned (.int .i64 (-1)) ∧ w = w' := by
  go_enter Tryz.func8, Tryz.ntmps8
  go_wp2
  go_ret
  exact ⟨rfl, rfl⟩

set_option maxRecDepth 100000 in
set_option maxHeartbeats 1000000 in
theorem markFlowS_any (A : Option Addr) (n c lo hi : Nat) (l : List Fl) (k0 : Int) (w : World) (ha : RowsAt flF 90 w lo hi A n c l) (hk0 : 0 ≤ k0) (hk1 : k0 ≤ 2000000000000000000) (hn : l.length ≤ 16777216) :
    Calls Tryz.prog 17 #[.slice A n c, .int .i64 k0] w fun e w' => e = .returned (.int .i64 (k0 + 2 * l.length)) ∧ RowsAt flF 90 w' lo hi A n c (marksFl l k0) ∧ Only lo hi w w' := by
  obtain rfl := ha.1
  have hml := marksFl_len l k0
  have hlen : (l.flatMap flF.enc).length = l.length * 2 := flatMap_len flF.enc 2 flF.len l
  have hlen2 : ((marksFl l k0).flatMap flF.enc).length = l.length * 2 := by rw [flatMap_len flF.enc 2 flF.len, hml]
  have HZ := Lib.hid (hlen.trans hlen2.symm)
  have HL := Lib.hid hlen2
  have HM := Lib.hid hml
  clear hml hlen hlen2
  obtain ⟨_, ⟨hown, hhi, hlt⟩⟩ := ha
  have HT := Lib.hid hlt
  clear hlt
  go_enter Tryz.func17, Tryz.ntmps17
  go_wp2
  go_loopw [1, 5] (fun m i wr => ∃ k : Nat, k ≤ l.length ∧ i = .int .i64 k ∧ m = .int .i64 (k0 + 2 * k) ∧ wr.ownsRow lo 90 2 (.slice A l.length c) l.length (fillC (l.flatMap flF.enc) ((marksFl l k0).flatMap flF.enc) (k * 2)) ∧ Only lo hi w wr) (fun _ i _ => l.length - (intOf i).toNat)
  case atStart => exact ⟨0, by omega, rfl, by go_num, by rw [Nat.zero_mul, fillC_zero]; exact hown, Only.refl _ _ _⟩
  case round =>
    obtain ⟨k, hk, rfl, rfl, ho, HO⟩ := hrel
    by_cases hlt : k < l.length
    · have hA : ∃ g, A = some ⟨g, 0, none⟩ := by
        rcases ho.2 with ⟨hv, h0⟩ | ⟨g, cap, cur, hv, _⟩
        · omega
        · exact ⟨g, by injection hv⟩
      obtain ⟨g, rfl⟩ := hA
      have hm : k < (marksFl l k0).length := by rw [HM.out]; exact hlt
      have e1 : ((marksFl l k0).flatMap flF.enc)[k * 2]? = some (.int .i64 (k0 + 2 * k)) := by
        rw [show k * 2 = k * 2 + 0 from rfl, flatMap_at flF.enc 2 flF.len _ k 0 hm (by omega), marksFl_at _ _ _ hm]; rfl
      have e2 : ((marksFl l k0).flatMap flF.enc)[k * 2 + 1]? = some (.int .i64 (k0 + 2 * k + 1)) := by
        rw [flatMap_at flF.enc 2 flF.len _ k 1 hm (by omega), marksFl_at _ _ _ hm]; rfl
      obtain ⟨u1, c1, f1⟩ := own_cell ho (k * 2) (by omega)
      obtain ⟨u2, c2, f2⟩ := own_cell ho (k * 2 + 1) (by omega)
      have s1 := (ho.stored (k * 2) (.int .i64 (k0 + 2 * k)))
      rw [fillC_set _ _ _ _ e1 HZ.out] at s1
      have s2 := (s1.1.stored (k * 2 + 1) (.int .i64 (k0 + 2 * k + 1)))
      rw [fillC_set _ _ _ _ e2 HZ.out] at s2
      have hgl : lo ≤ g ∧ g < hi := ⟨(own_lt ho _ rfl).1, HT.out _ rfl⟩
      have HO2 : Only lo hi w _ := (HO.trans (Only.of_grown s1.2 (fun x hx => by injection hx with hx; subst hx; exact hgl))).trans (Only.of_grown s2.2 (fun x hx => by injection hx with hx; subst hx; exact hgl))
      have S2 := Lib.hid s2.1
      clear e1 e2 s1 s2 ho
      go_wp2
      go_roundw
      case rel => exact ⟨k + 1, by omega, by go_num, by go_num, by rw [show (k + 1) * 2 = k * 2 + 1 + 1 by omega]; exact S2.out, HO2⟩
      case measure => simp [intOf]; omega
    · obtain rfl : k = l.length := by omega
      go_wp2
      go_ret
      rw [← HL.out, fillC_all _ _ HZ.out] at ho
      exact ⟨rfl, ⟨HM.out.symm, ho, Nat.le_trans hhi HO.size, HT.out⟩, HO⟩
end Go.Proofs.YtlnkofnfgemfdaaGreat
