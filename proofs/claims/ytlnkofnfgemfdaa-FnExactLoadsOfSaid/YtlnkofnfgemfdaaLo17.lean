/- Part 17 of the texts of this claim: The walk of the laws' own marks that are texts: which text comes back; The marks on planned orders, with their values: what they make of a row, and that it still holds them; The marks on loads, with their texts: what they make of a row, and that it still holds them. -/
import Derived.Test.YtlnkofnfgemfdaaLo2
import Derived.Test.YtlnkofnfgemfdaaLo11
import Derived.Test.YtlnkofnfgemfdaaLo1
import Derived.Test.YtlnkofnfgemfdaaLo9
import Derived.Deep.RegionHeld3
/- The walk of the laws' own marks that are texts: which text comes back. -/
namespace Go.Proofs.Ytlnkofnfgemfdaa
open Go.RowKit
/-- The digits of x ahead of s. -/
def markGo (x : Int) (s : ByteArray) : ByteArray := if 0 < x then markGo (x / 10) (strOfNums [48 + x % 10] ++ s) else s
termination_by x.toNat
decreasing_by omega
theorem markGo_more {x : Int} (s : ByteArray) (h : 0 < x) : markGo (x / 10) (strOfNums [48 + x % 10] ++ s) = markGo x s := by
  conv => rhs; unfold markGo
  rw [if_pos h]
theorem markGo_end (s : ByteArray) : markGo 0 s = s := by
  unfold markGo; rw [if_neg (by omega)]
def mText (k : Int) : ByteArray := ⟨#[109]⟩ ++ markGo k ByteArray.empty
set_option maxRecDepth 100000 in
set_option maxHeartbeats 1000000 in
theorem markText_any (k : Int) (w : World) (h0 : 1 ≤ k) (h1 : k ≤ 1100000000000000000) : Calls Try.prog 104 #[.int .i64 k] w fun e w' => e = .returned (.string (mText k)) ∧ Below w.heap.size w w' := by
  go_enter Try.func104, Try.ntmps104
  go_wp2
  go_loopw [0, 3] (fun i v wr => ∃ (x : Int) (s : ByteArray), 0 ≤ x ∧ i = .int .i64 x ∧ v = .string s ∧ (s.size : Int) + x ≤ 1100000000000000000 ∧ Hid (markGo x s = markGo k ByteArray.empty) ∧ Below w.heap.size w wr) (fun i _ _ => (intOf i).toNat)
  case atStart => exact ⟨k, ByteArray.empty, by omega, rfl, rfl, by simp; omega, Lib.hid rfl, Below.refl _ _⟩
  case round =>
    obtain ⟨x, s, x0, rfl, rfl, hs, HG, HR⟩ := hrel
    have hsz := HR.size
    by_cases hlt : 0 < x
    · have hm1 := Int.emod_nonneg x (show (10 : Int) ≠ 0 by omega)
      have hm2 := Int.emod_lt_of_pos x (show (0 : Int) < 10 by omega)
      have hcell : ∀ i, i < 1 → (wr.alloc (.cells #[.int .u8 (48 + x % 10)] 5)).cell? ⟨wr.heap.size, 0 + i, none⟩ = some (.int .u8 ([48 + x % 10].getD i 0)) := fun i hi => by
        have h0 : i = 0 := by omega
        subst h0
        simp [go_sem]
      obtain ⟨t, ht, hts, htv⟩ : ∃ t : ByteArray, (convert 22 9 (.slice (some ⟨wr.heap.size, 0, none⟩) 1 1)).run Try.prog (wr.alloc (.cells #[.int .u8 (48 + x % 10)] 5)) = .ok (.string t) (wr.alloc (.cells #[.int .u8 (48 + x % 10)] 5)) ∧ t.size = 1 ∧ t = strOfNums [48 + x % 10] :=
        ⟨_, run_convert_bytes_arg _ 22 5 Try.underlying22 Try.underlying5 wr.heap.size 0 1 1 [48 + x % 10] rfl hcell 9 Try.underlying9, by rw [strOfNums_size]; rfl, rfl⟩
      clear hcell
      have hfit : ¬ 9223372036854775807 < t.size + s.size := by omega
      have HTS := Lib.hid hts
      have HGN : Hid (markGo (x / 10) (t ++ s) = markGo k ByteArray.empty) := by
        show _ = _
        rw [htv, markGo_more s hlt]; exact HG.out
      clear hts htv
      go_wp2
      go_roundw
      case rel => exact ⟨x / 10, t ++ s, by omega, rfl, rfl, by rw [ByteArray.size_append, HTS.out]; omega, HGN, HR.alloc hsz _⟩
      case measure => simp [intOf]; omega
    · obtain rfl : x = 0 := by omega
      have hfit : ¬ 9223372036854775807 < 1 + s.size := by omega
      have hv : Hid (mText k = ⟨#[109]⟩ ++ s) := by
        show _ = _
        have := HG.out
        rw [markGo_end] at this
        rw [this]; rfl
      go_wp2
      go_ret
      exact ⟨congrArg (fun s => Ending.returned (.string s)) hv.out.symm, HR⟩
end Go.Proofs.Ytlnkofnfgemfdaa
/- The marks on planned orders, with their values: what they make of a row, and that it still holds them. -/
namespace Go.Proofs.Ytlnkofnfgemfdaa
open Go.RowKit
def mBool (k : Int) : Bool := k % 3 == 0
/-- What the marks from k on make of a list. -/
def marksPl : List Pl → Int → List Pl
  | [], _ => []
  | _ :: t, k => (mText (k), k + 1, k + 1 + 1, k + 1 + 1 + 1, mBool (k + 1 + 1 + 1 + 1)) :: marksPl t (k + 5)
theorem marksPl_len (l : List Pl) (k : Int) : (marksPl l k).length = l.length := by
  induction l generalizing k with
  | nil => rfl
  | cons f t ih => simp [marksPl, ih]
theorem marksPl_at (l : List Pl) (k : Int) (j : Nat) (h : j < (marksPl l k).length) : (marksPl l k)[j] = (mText (k + 5 * j), k + 5 * j + 1, k + 5 * j + 1 + 1, k + 5 * j + 1 + 1 + 1, mBool (k + 5 * j + 1 + 1 + 1 + 1)) := by
  induction l generalizing k j with
  | nil => simp [marksPl] at h
  | cons f t ih =>
    cases j with
    | zero => simp [marksPl]
    | succ j =>
      simp only [marksPl, List.getElem_cons_succ]
      rw [ih]
      rw [show k + 5 + 5 * (j : Int) = k + 5 * ((j + 1 : Nat) : Int) by omega]
set_option maxRecDepth 100000 in
set_option maxHeartbeats 4000000 in
theorem markPlannedS_any (A : Option Addr) (n c lo hi : Nat) (l : List Pl) (k0 : Int) (w : World) (ha : RowsAt plF 44 w lo hi A n c l) (hk0 : 1 ≤ k0) (hk1 : k0 ≤ 1000000000000000000) (hn : l.length ≤ 16777216) :
    Calls Try.prog 39 #[.slice A n c, .int .i64 k0] w fun e w' => e = .returned (.int .i64 (k0 + 5 * l.length)) ∧ RowsAt plF 44 w' lo hi A n c (marksPl l k0) ∧ Only lo hi w w' := by
  obtain rfl := ha.1
  have hml := marksPl_len l k0
  have hlen : (l.flatMap plF.enc).length = l.length * 5 := flatMap_len plF.enc 5 plF.len l
  have hlen2 : ((marksPl l k0).flatMap plF.enc).length = l.length * 5 := by rw [flatMap_len plF.enc 5 plF.len, hml]
  have HZ := Lib.hid (hlen.trans hlen2.symm)
  have HL := Lib.hid hlen2
  have HM := Lib.hid hml
  clear hml hlen hlen2
  obtain ⟨_, ⟨hown, hhi, hlt⟩⟩ := ha
  have HT := Lib.hid hlt
  clear hlt
  go_enter Try.func39, Try.ntmps39
  go_wp2
  go_loopw [1, 5] (fun m i wr => ∃ k : Nat, k ≤ l.length ∧ i = .int .i64 k ∧ m = .int .i64 (k0 + 5 * k) ∧ wr.ownsRow lo 44 5 (.slice A l.length c) l.length (fillC (l.flatMap plF.enc) ((marksPl l k0).flatMap plF.enc) (k * 5)) ∧ Only lo hi w wr) (fun _ i _ => l.length - (intOf i).toNat)
  case atStart => exact ⟨0, by omega, rfl, by go_num, by rw [Nat.zero_mul, fillC_zero]; exact hown, Only.refl _ _ _⟩
  case round =>
    clear hown
    obtain ⟨k, hk, rfl, rfl, ho, HO⟩ := hrel
    by_cases hlt : k < l.length
    · have hA : ∃ g, A = some ⟨g, 0, none⟩ := by
        rcases ho.2 with ⟨hv, h0⟩ | ⟨g, cap, cur, hv, _⟩
        · omega
        · exact ⟨g, by injection hv⟩
      obtain ⟨g, rfl⟩ := hA
      have hm : k < (marksPl l k0).length := by rw [HM.out]; exact hlt
      have hgl : lo ≤ g ∧ g < hi := ⟨(own_lt ho _ rfl).1, HT.out _ rfl⟩
      have hgo : ∀ x, (Value.slice (some ⟨g, 0, none⟩) l.length c).ownBlock = some x → lo ≤ x ∧ x < hi := fun x hx => by injection hx with hx; subst hx; exact hgl
      have HGO := Lib.hid hgo
      clear hgo
      have E0 : Hid (((marksPl l k0).flatMap plF.enc)[k * 5]? = some (.string (mText (k0 + 5 * k)))) := by
        have := flatMap_at plF.enc 5 plF.len (marksPl l k0) k 0 hm (by omega)
        rw [marksPl_at _ _ _ hm] at this; exact this
      have E1 : Hid (((marksPl l k0).flatMap plF.enc)[k * 5 + 1]? = some (.int .i64 (k0 + 5 * k + 1))) := by
        have := flatMap_at plF.enc 5 plF.len (marksPl l k0) k 1 hm (by omega)
        rw [marksPl_at _ _ _ hm] at this; exact this
      have E2 : Hid (((marksPl l k0).flatMap plF.enc)[k * 5 + 2]? = some (.int .i64 (k0 + 5 * k + 1 + 1))) := by
        have := flatMap_at plF.enc 5 plF.len (marksPl l k0) k 2 hm (by omega)
        rw [marksPl_at _ _ _ hm] at this; exact this
      have E3 : Hid (((marksPl l k0).flatMap plF.enc)[k * 5 + 3]? = some (.int .i64 (k0 + 5 * k + 1 + 1 + 1))) := by
        have := flatMap_at plF.enc 5 plF.len (marksPl l k0) k 3 hm (by omega)
        rw [marksPl_at _ _ _ hm] at this; exact this
      have E4 : Hid (((marksPl l k0).flatMap plF.enc)[k * 5 + 4]? = some (.bool (mBool (k0 + 5 * k + 1 + 1 + 1 + 1)))) := by
        have := flatMap_at plF.enc 5 plF.len (marksPl l k0) k 4 hm (by omega)
        rw [marksPl_at _ _ _ hm] at this; exact this
      go_wp2_with fail
      refine (markText_any _ _ (by omega) (by omega)).mono ?_
      rintro e v0 ⟨rfl, hb0⟩
      have hq0 := own_keep ho hb0
      replace HO := HO.trans (Only.of_below hb0)
      clear hb0
      obtain ⟨u0, c0, f0⟩ := own_cell hq0 (k * 5) (by omega)
      obtain ⟨u1, c1, f1⟩ := own_cell hq0 (k * 5 + 1) (by omega)
      obtain ⟨u2, c2, f2⟩ := own_cell hq0 (k * 5 + 2) (by omega)
      obtain ⟨u3, c3, f3⟩ := own_cell hq0 (k * 5 + 3) (by omega)
      obtain ⟨u4, c4, f4⟩ := own_cell hq0 (k * 5 + 4) (by omega)
      have s0 := (hq0.stored (k * 5) (.string (mText (k0 + 5 * k))))
      rw [fillC_set _ _ _ _ E0.out HZ.out] at s0
      replace HO := HO.trans (Only.of_grown s0.2 HGO.out)
      have s1 := (s0.1.stored (k * 5 + 1) (.int .i64 (k0 + 5 * k + 1)))
      rw [fillC_set _ _ _ _ E1.out HZ.out] at s1
      replace HO := HO.trans (Only.of_grown s1.2 HGO.out)
      have s2 := (s1.1.stored (k * 5 + 2) (.int .i64 (k0 + 5 * k + 1 + 1)))
      rw [fillC_set _ _ _ _ E2.out HZ.out] at s2
      replace HO := HO.trans (Only.of_grown s2.2 HGO.out)
      have s3 := (s2.1.stored (k * 5 + 3) (.int .i64 (k0 + 5 * k + 1 + 1 + 1)))
      rw [fillC_set _ _ _ _ E3.out HZ.out] at s3
      replace HO := HO.trans (Only.of_grown s3.2 HGO.out)
      have s4 := (s3.1.stored (k * 5 + 4) (.bool (mBool (k0 + 5 * k + 1 + 1 + 1 + 1))))
      rw [fillC_set _ _ _ _ E4.out HZ.out] at s4
      replace HO := HO.trans (Only.of_grown s4.2 HGO.out)
      have S2 := Lib.hid s4.1
      clear ho hq0 s0 s1 s2 s3 s4
      have hmb : Hid (mBool (k0 + 5 * k + 1 + 1 + 1 + 1) = ((k0 + 5 * k + 1 + 1 + 1 + 1) % 3 == 0)) := rfl
      go_wp2
      go_roundw
      case rel => exact ⟨k + 1, by omega, by go_num, by go_num, by rw [show (k + 1) * 5 = k * 5 + 1 + 1 + 1 + 1 + 1 by omega]; exact S2.out, HO⟩
      case measure => simp [intOf]; omega
    · obtain rfl : k = l.length := by omega
      go_wp2
      go_ret
      rw [← HL.out, fillC_all _ _ HZ.out] at ho
      exact ⟨rfl, ⟨HM.out.symm, ho, Nat.le_trans hhi HO.size, HT.out⟩, HO⟩
end Go.Proofs.Ytlnkofnfgemfdaa
/- The marks on loads, with their texts: what they make of a row, and that it still holds them. -/
namespace Go.Proofs.Ytlnkofnfgemfdaa
open Go.RowKit
/-- What the marks from k on make of a list. -/
def marksLd : List Ld → Int → List Ld
  | [], _ => []
  | _ :: t, k => (mText k, k + 1, k + 1 + 1) :: marksLd t (k + 3)
theorem marksLd_len (l : List Ld) (k : Int) : (marksLd l k).length = l.length := by
  induction l generalizing k with
  | nil => rfl
  | cons f t ih => simp [marksLd, ih]
theorem marksLd_at (l : List Ld) (k : Int) (j : Nat) (h : j < (marksLd l k).length) : (marksLd l k)[j] = (mText (k + 3 * j), k + 3 * j + 1, k + 3 * j + 1 + 1) := by
  induction l generalizing k j with
  | nil => simp [marksLd] at h
  | cons f t ih =>
    cases j with
    | zero => simp [marksLd]
    | succ j =>
      simp only [marksLd, List.getElem_cons_succ]
      rw [ih]
      rw [show k + 3 + 3 * (j : Int) = k + 3 * ((j + 1 : Nat) : Int) by omega]
set_option maxRecDepth 100000 in
set_option maxHeartbeats 4000000 in
theorem markLoadS_own (A : Option Addr) (n c lo hi : Nat) (l : List Ld) (k0 : Int) (w : World) (ha : RowsAt ldF 91 w lo hi A n c l) (hk0 : 1 ≤ k0) (hk1 : k0 ≤ 1000000000) (hn : l.length ≤ 16777216) :
    Calls Try.prog 40 #[.slice A n c, .int .i64 k0] w fun e w' => e = .returned (.int .i64 (k0 + 3 * l.length)) ∧ RowsAt ldF 91 w' lo hi A n c (marksLd l k0) ∧ Only lo hi w w' := by
  obtain rfl := ha.1
  have hml := marksLd_len l k0
  have hlen : (l.flatMap ldF.enc).length = l.length * 3 := flatMap_len ldF.enc 3 ldF.len l
  have hlen2 : ((marksLd l k0).flatMap ldF.enc).length = l.length * 3 := by rw [flatMap_len ldF.enc 3 ldF.len, hml]
  have HZ := Lib.hid (hlen.trans hlen2.symm)
  have HL := Lib.hid hlen2
  have HM := Lib.hid hml
  clear hml hlen hlen2
  obtain ⟨_, ⟨hown, hhi, hlt⟩⟩ := ha
  have HT := Lib.hid hlt
  clear hlt
  go_enter Try.func40, Try.ntmps40
  go_wp2
  go_loopw [1, 5] (fun m i wr => ∃ k : Nat, k ≤ l.length ∧ i = .int .i64 k ∧ m = .int .i64 (k0 + 3 * k) ∧ wr.ownsRow lo 91 3 (.slice A l.length c) l.length (fillC (l.flatMap ldF.enc) ((marksLd l k0).flatMap ldF.enc) (k * 3)) ∧ Only lo hi w wr) (fun _ i _ => l.length - (intOf i).toNat)
  case atStart => exact ⟨0, by omega, rfl, by go_num, by rw [Nat.zero_mul, fillC_zero]; exact hown, Only.refl _ _ _⟩
  case round =>
    clear hown
    obtain ⟨k, hk, rfl, rfl, ho, HO⟩ := hrel
    by_cases hlt : k < l.length
    · have hA : ∃ g, A = some ⟨g, 0, none⟩ := by
        rcases ho.2 with ⟨hv, h0⟩ | ⟨g, cap, cur, hv, _⟩
        · omega
        · exact ⟨g, by injection hv⟩
      obtain ⟨g, rfl⟩ := hA
      have hm : k < (marksLd l k0).length := by rw [HM.out]; exact hlt
      have hgl : lo ≤ g ∧ g < hi := ⟨(own_lt ho _ rfl).1, HT.out _ rfl⟩
      have hgo : ∀ x, (Value.slice (some ⟨g, 0, none⟩) l.length c).ownBlock = some x → lo ≤ x ∧ x < hi := fun x hx => by injection hx with hx; subst hx; exact hgl
      have HGO := Lib.hid hgo
      clear hgo
      have e0 : ((marksLd l k0).flatMap ldF.enc)[k * 3]? = some (.string (mText (k0 + 3 * k))) := by
        have := flatMap_at ldF.enc 3 ldF.len (marksLd l k0) k 0 hm (by omega)
        rw [marksLd_at _ _ _ hm] at this; exact this
      have e1 : ((marksLd l k0).flatMap ldF.enc)[k * 3 + 1]? = some (.int .i64 (k0 + 3 * k + 1)) := by
        have := flatMap_at ldF.enc 3 ldF.len (marksLd l k0) k 1 hm (by omega)
        rw [marksLd_at _ _ _ hm] at this; exact this
      have e2 : ((marksLd l k0).flatMap ldF.enc)[k * 3 + 2]? = some (.int .i64 (k0 + 3 * k + 1 + 1)) := by
        have := flatMap_at ldF.enc 3 ldF.len (marksLd l k0) k 2 hm (by omega)
        rw [marksLd_at _ _ _ hm] at this; exact this
      have E0 := Lib.hid e0
      have E1 := Lib.hid e1
      have E2 := Lib.hid e2
      clear e0 e1 e2
      go_wp2_with fail
      refine (markText_any _ _ (by omega) (by omega)).mono ?_
      rintro e v0 ⟨rfl, hb0⟩
      have hq0 := own_keep ho hb0
      replace HO := HO.trans (Only.of_below hb0)
      clear hb0
      obtain ⟨u0, c0, f0⟩ := own_cell hq0 (k * 3) (by omega)
      obtain ⟨u1, c1, f1⟩ := own_cell hq0 (k * 3 + 1) (by omega)
      obtain ⟨u2, c2, f2⟩ := own_cell hq0 (k * 3 + 2) (by omega)
      have s0 := (hq0.stored (k * 3) (.string (mText (k0 + 3 * k))))
      rw [fillC_set _ _ _ _ E0.out HZ.out] at s0
      replace HO := HO.trans (Only.of_grown s0.2 HGO.out)
      have s1 := (s0.1.stored (k * 3 + 1) (.int .i64 (k0 + 3 * k + 1)))
      rw [fillC_set _ _ _ _ E1.out HZ.out] at s1
      replace HO := HO.trans (Only.of_grown s1.2 HGO.out)
      have s2 := (s1.1.stored (k * 3 + 2) (.int .i64 (k0 + 3 * k + 1 + 1)))
      rw [fillC_set _ _ _ _ E2.out HZ.out] at s2
      replace HO := HO.trans (Only.of_grown s2.2 HGO.out)
      have S2 := Lib.hid s2.1
      clear ho hq0 s0 s1 s2
      go_wp2
      go_roundw
      case rel => exact ⟨k + 1, by omega, by go_num, by go_num, by rw [show (k + 1) * 3 = k * 3 + 1 + 1 + 1 by omega]; exact S2.out, HO⟩
      case measure => simp [intOf]; omega
    · obtain rfl : k = l.length := by omega
      go_wp2
      go_ret
      rw [← HL.out, fillC_all _ _ HZ.out] at ho
      exact ⟨rfl, ⟨HM.out.symm, ho, Nat.le_trans hhi HO.size, HT.out⟩, HO⟩
set_option maxRecDepth 100000 in
set_option maxHeartbeats 2000000 in
theorem heldLoadS_any (A : Option Addr) (n c : Nat) (l : List Ld) (k0 : Int) (w : World) (ha : LoadsIn w A n (marksLd l k0)) (hk0 : 1 ≤ k0) (hk1 : k0 ≤ 1000000000) :
    Calls Try.prog 41 #[.slice A n c, .int .i64 k0] w fun e w' => e = .returned (.int .i64 (k0 + 3 * l.length)) ∧ Below w.heap.size w w' := by
  have hn := ha.len
  rw [marksLd_len] at hn
  have HM := Lib.hid (marksLd_len l k0)
  obtain rfl : n = l.length := ha.1.trans HM.out
  go_enter Try.func41, Try.ntmps41
  go_wp2
  go_loopw [1, 5] (fun m i wr => ∃ k : Nat, k ≤ l.length ∧ i = .int .i64 k ∧ m = .int .i64 (k0 + 3 * k) ∧ Below w.heap.size w wr) (fun _ i _ => l.length - (intOf i).toNat)
  case atStart => exact ⟨0, by omega, rfl, by go_num, Below.refl _ _⟩
  case round =>
    obtain ⟨k, hk, rfl, rfl, HR⟩ := hrel
    by_cases hlt : k < l.length
    · have hm : k < (marksLd l k0).length := by rw [HM.out]; exact hlt
      obtain ⟨b, o, rfl, hbl, hc0, hc1, hc2⟩ := load_at (ha.keep HR) hm
      rw [marksLd_at _ _ _ hm] at hc0 hc1 hc2
      dsimp only at hc0 hc1 hc2
      clear hm
      go_wp2_with fail
      go_region_held3 (fun w' => w'.cell? ⟨b, o + k * 3, none⟩ = some (.string (mText (k0 + 3 * k))) ∧ w'.cell? ⟨b, o + k * 3 + 1, none⟩ = some (.int .i64 (k0 + 3 * k + 1)) ∧ w'.cell? ⟨b, o + k * 3 + 2, none⟩ = some (.int .i64 (k0 + 3 * k + 1 + 1)) ∧ b < w'.heap.size ∧ Below w.heap.size w w')
        (first
          | exact ⟨hc0, hc1, hc2, hbl, HR.drew⟩
          | (go_split_ands; refine ⟨?_, ?_, ?_, ?_, ?_⟩ <;> with_reducible assumption)
          | (go_split_ands; exact ⟨(hb3.cell (by with_reducible assumption)).trans (by with_reducible assumption), (hb3.cell (by with_reducible assumption)).trans (by with_reducible assumption), (hb3.cell (by with_reducible assumption)).trans (by with_reducible assumption), Nat.lt_of_lt_of_le (by with_reducible assumption) hb3.size, below_on (by with_reducible assumption) hb3⟩))
        (first
          | ((with_reducible refine (markText_any _ _ (by omega) (by omega)).mono ?_); rintro e w3 ⟨rfl, hb3⟩))
      go_split_ands
      go_wp2_with fail
      go_roundw
      case rel => exact ⟨k + 1, by omega, by go_num, by go_num, by with_reducible assumption⟩
      case measure => simp [intOf]; omega
    · obtain rfl : k = l.length := by omega
      go_wp2
      go_ret
      exact ⟨rfl, HR⟩
end Go.Proofs.Ytlnkofnfgemfdaa
