/- The marks on loads, with their texts: what they make of a row, and that it still holds them. -/
import Derived.Test.YtmkfinahbelpdaaLoadTo
import Derived.Test.YtmkfinahbelpdaaMarkVal
import Derived.Test.YtmkfinahbelpdaaOwn
import Derived.Deep.RegionHeld3
namespace Go.Proofs.Ytmkfinahbelpdaa
open Go.RowKit
/-- What the marks from k on make of a list. -/
def marksLd : List Ld → Int → List Ld
  | [], _ => []
  | _ :: t, k => (mText k, k + 1, k + 1 + 1) :: marksLd t (k + 3)
theorem marksLd_len (l : List Ld) (k : Int) : (marksLd l k).length = l.length := by
  induction l generalizing k with
  | nil => rfl
  | cons f t ih => simp [marksLd, ih]
theorem marksLd_at (l : List Ld) (k : Int) (j : Nat) (h : j < (marksLd l k).length) : (marksLd l k)[j] = (mText (k + 3 * j), k + 3 * j + 1, k + 3 * j + 1 + 1) := by
  induction l generalizing k j with
  | nil => simp [marksLd] at h
  | cons f t ih =>
    cases j with
    | zero => simp [marksLd]
    | succ j =>
      simp only [marksLd, List.getElem_cons_succ]
      rw [ih]
      rw [show k + 3 + 3 * (j : Int) = k + 3 * ((j + 1 : Nat) : Int) by omega]
set_option maxRecDepth 100000 in
set_option maxHeartbeats 4000000 in
theorem markLoadS_own (A : Option Addr) (n c lo hi : Nat) (l : List Ld) (k0 : Int) (w : World) (ha : RowsAt ldF 34 w lo hi A n c l) (hk0 : 1 ≤ k0) (hk1 : k0 ≤ 1000000000) (hn : l.length ≤ 16777216) :
    Calls Try.prog 29 #[.slice A n c, .int .i64 k0] w fun e w' => e = .returned (.int .i64 (k0 + 3 * l.length)) ∧ RowsAt ldF 34 w' lo hi A n c (marksLd l k0) ∧ Only lo hi w w' := by
  obtain rfl := ha.1
  have hml := marksLd_len l k0
  have hlen : (l.flatMap ldF.enc).length = l.length * 3 := flatMap_len ldF.enc 3 ldF.len l
  have hlen2 : ((marksLd l k0).flatMap ldF.enc).length = l.length * 3 := by rw [flatMap_len ldF.enc 3 ldF.len, hml]
  have HZ := Lib.hid (hlen.trans hlen2.symm)
  have HL := Lib.hid hlen2
  have HM := Lib.hid hml
  clear hml hlen hlen2
  obtain ⟨_, ⟨hown, hhi, hlt⟩⟩ := ha
  have HT := Lib.hid hlt
  clear hlt
  go_enter Try.func29, Try.ntmps29
  go_wp2
  go_loopw [1, 5] (fun m i wr => ∃ k : Nat, k ≤ l.length ∧ i = .int .i64 k ∧ m = .int .i64 (k0 + 3 * k) ∧ wr.ownsRow lo 34 3 (.slice A l.length c) l.length (fillC (l.flatMap ldF.enc) ((marksLd l k0).flatMap ldF.enc) (k * 3)) ∧ Only lo hi w wr) (fun _ i _ => l.length - (intOf i).toNat)
  case atStart => exact ⟨0, by omega, rfl, by go_num, by rw [Nat.zero_mul, fillC_zero]; exact hown, Only.refl _ _ _⟩
  case round =>
    clear hown
    obtain ⟨k, hk, rfl, rfl, ho, HO⟩ := hrel
    by_cases hlt : k < l.length
    · have hA : ∃ g, A = some ⟨g, 0, none⟩ := by
        rcases ho.2 with ⟨hv, h0⟩ | ⟨g, cap, cur, hv, _⟩
        · omega
        · exact ⟨g, by injection hv⟩
      obtain ⟨g, rfl⟩ := hA
      have hm : k < (marksLd l k0).length := by rw [HM.out]; exact hlt
      have hgl : lo ≤ g ∧ g < hi := ⟨(own_lt ho _ rfl).1, HT.out _ rfl⟩
      have hgo : ∀ x, (Value.slice (some ⟨g, 0, none⟩) l.length c).ownBlock = some x → lo ≤ x ∧ x < hi := fun x hx => by injection hx with hx; subst hx; exact hgl
      have HGO := Lib.hid hgo
      clear hgo
      have e0 : ((marksLd l k0).flatMap ldF.enc)[k * 3]? = some (.string (mText (k0 + 3 * k))) := by
        have := flatMap_at ldF.enc 3 ldF.len (marksLd l k0) k 0 hm (by omega)
        rw [marksLd_at _ _ _ hm] at this; exact this
      have e1 : ((marksLd l k0).flatMap ldF.enc)[k * 3 + 1]? = some (.int .i64 (k0 + 3 * k + 1)) := by
        have := flatMap_at ldF.enc 3 ldF.len (marksLd l k0) k 1 hm (by omega)
        rw [marksLd_at _ _ _ hm] at this; exact this
      have e2 : ((marksLd l k0).flatMap ldF.enc)[k * 3 + 2]? = some (.int .i64 (k0 + 3 * k + 1 + 1)) := by
        have := flatMap_at ldF.enc 3 ldF.len (marksLd l k0) k 2 hm (by omega)
        rw [marksLd_at _ _ _ hm] at this; exact this
      have E0 := Lib.hid e0
      have E1 := Lib.hid e1
      have E2 := Lib.hid e2
      clear e0 e1 e2
      go_wp2_with fail
      refine (markText_any _ _ (by omega) (by omega)).mono ?_
      rintro e v0 ⟨rfl, hb0⟩
      have hq0 := own_keep ho hb0
      replace HO := HO.trans (Only.of_below hb0)
      clear hb0
      obtain ⟨u0, c0, f0⟩ := own_cell hq0 (k * 3) (by omega)
      obtain ⟨u1, c1, f1⟩ := own_cell hq0 (k * 3 + 1) (by omega)
      obtain ⟨u2, c2, f2⟩ := own_cell hq0 (k * 3 + 2) (by omega)
      have s0 := (hq0.stored (k * 3) (.string (mText (k0 + 3 * k))))
      rw [fillC_set _ _ _ _ E0.out HZ.out] at s0
      replace HO := HO.trans (Only.of_grown s0.2 HGO.out)
      have s1 := (s0.1.stored (k * 3 + 1) (.int .i64 (k0 + 3 * k + 1)))
      rw [fillC_set _ _ _ _ E1.out HZ.out] at s1
      replace HO := HO.trans (Only.of_grown s1.2 HGO.out)
      have s2 := (s1.1.stored (k * 3 + 2) (.int .i64 (k0 + 3 * k + 1 + 1)))
      rw [fillC_set _ _ _ _ E2.out HZ.out] at s2
      replace HO := HO.trans (Only.of_grown s2.2 HGO.out)
      have S2 := Lib.hid s2.1
      clear ho hq0 s0 s1 s2
      go_wp2
      go_roundw
      case rel => exact ⟨k + 1, by omega, by go_num, by go_num, by rw [show (k + 1) * 3 = k * 3 + 1 + 1 + 1 by omega]; exact S2.out, HO⟩
      case measure => simp [intOf]; omega
    · obtain rfl : k = l.length := by omega
      go_wp2
      go_ret
      rw [← HL.out, fillC_all _ _ HZ.out] at ho
      exact ⟨rfl, ⟨HM.out.symm, ho, Nat.le_trans hhi HO.size, HT.out⟩, HO⟩
set_option maxRecDepth 100000 in
set_option maxHeartbeats 2000000 in
theorem heldLoadS_any (A : Option Addr) (n c : Nat) (l : List Ld) (k0 : Int) (w : World) (ha : LoadsIn w A n (marksLd l k0)) (hk0 : 1 ≤ k0) (hk1 : k0 ≤ 1000000000) :
    Calls Try.prog 31 #[.slice A n c, .int .i64 k0] w fun e w' => e = .returned (.int .i64 (k0 + 3 * l.length)) ∧ Below w.heap.size w w' := by
  have hn := ha.len
  rw [marksLd_len] at hn
  have HM := Lib.hid (marksLd_len l k0)
  obtain rfl : n = l.length := ha.1.trans HM.out
  go_enter Try.func31, Try.ntmps31
  go_wp2
  go_loopw [1, 5] (fun m i wr => ∃ k : Nat, k ≤ l.length ∧ i = .int .i64 k ∧ m = .int .i64 (k0 + 3 * k) ∧ Below w.heap.size w wr) (fun _ i _ => l.length - (intOf i).toNat)
  case atStart => exact ⟨0, by omega, rfl, by go_num, Below.refl _ _⟩
  case round =>
    obtain ⟨k, hk, rfl, rfl, HR⟩ := hrel
    by_cases hlt : k < l.length
    · have hm : k < (marksLd l k0).length := by rw [HM.out]; exact hlt
      obtain ⟨b, o, rfl, hbl, hc0, hc1, hc2⟩ := load_at (ha.keep HR) hm
      rw [marksLd_at _ _ _ hm] at hc0 hc1 hc2
      dsimp only at hc0 hc1 hc2
      clear hm
      go_wp2_with fail
      go_region_held3 (fun w' => w'.cell? ⟨b, o + k * 3, none⟩ = some (.string (mText (k0 + 3 * k))) ∧ w'.cell? ⟨b, o + k * 3 + 1, none⟩ = some (.int .i64 (k0 + 3 * k + 1)) ∧ w'.cell? ⟨b, o + k * 3 + 2, none⟩ = some (.int .i64 (k0 + 3 * k + 1 + 1)) ∧ b < w'.heap.size ∧ Below w.heap.size w w')
        (first
          | exact ⟨hc0, hc1, hc2, hbl, HR.drew⟩
          | (go_split_ands; refine ⟨?_, ?_, ?_, ?_, ?_⟩ <;> with_reducible assumption)
          | (go_split_ands; exact ⟨(hb3.cell (by with_reducible assumption)).trans (by with_reducible assumption), (hb3.cell (by with_reducible assumption)).trans (by with_reducible assumption), (hb3.cell (by with_reducible assumption)).trans (by with_reducible assumption), Nat.lt_of_lt_of_le (by with_reducible assumption) hb3.size, below_on (by with_reducible assumption) hb3⟩))
        (first
          | ((with_reducible refine (markText_any _ _ (by omega) (by omega)).mono ?_); rintro e w3 ⟨rfl, hb3⟩))
      go_split_ands
      go_wp2_with fail
      go_roundw
      case rel => exact ⟨k + 1, by omega, by go_num, by go_num, by with_reducible assumption⟩
      case measure => simp [intOf]; omega
    · obtain rfl : k = l.length := by omega
      go_wp2
      go_ret
      exact ⟨rfl, HR⟩
end Go.Proofs.Ytmkfinahbelpdaa
