/- The sums of rows of numbers, the reference's and the program's. -/
import Derived.Test.YtcfcfgecdlpflaaPeriods
import Derived.Test.YtcfcfgecdlpflaaLotPlain
import Derived.Test.YtcfcfgecdlpflaaPartPlain
namespace Go.Proofs.Ytcfcfgecdlpflaa
open Go.RowKit

theorem sumN_bd {l : List Int} (hl : ∀ x ∈ l, 0 ≤ x ∧ x ≤ 1000) (k : Nat) (hk : k ≤ l.length) : 0 ≤ sumN l k ∧ sumN l k ≤ 1000 * k := by
  induction k with
  | zero => simp [sumN]
  | succ k ih =>
    obtain ⟨a, b⟩ := ih (by omega)
    obtain ⟨c, d⟩ := hl _ (List.getElem_mem (show k < l.length by omega))
    simp only [sumN, List.getD_eq_getElem?_getD, List.getElem?_eq_getElem (show k < l.length by omega), Option.getD_some]
    omega
theorem sumN_cut (l : List Int) (a k m : Nat) (hk : k ≤ m) (hm : a + m ≤ l.length) : sumN ((l.drop a).take m) k = sumN l (a + k) - sumN l a := by
  induction k with
  | zero => simp [sumN]
  | succ k ih =>
    have h1 : ((l.drop a).take m).getD k 0 = l.getD (a + k) 0 := by
      rw [List.getD_eq_getElem?_getD, List.getElem?_take_of_lt (by omega), List.getElem?_drop, ← List.getD_eq_getElem?_getD]
    rw [show a + (k + 1) = (a + k) + 1 by omega]
    simp only [sumN]
    rw [ih (by omega), h1]; omega
theorem cut_len (l : List Int) (a b : Nat) (hab : a ≤ b) (hb : b ≤ l.length) : ((l.drop a).take (b - a)).length = b - a := by simp; omega
theorem cut_seg (l : List Int) (a b : Nat) (hab : a ≤ b) (hb : b ≤ l.length) : sumN ((l.drop a).take (b - a)) ((l.drop a).take (b - a)).length = seg l a b := by
  rw [cut_len l a b hab hb, sumN_cut l a (b - a) (b - a) (Nat.le_refl _) (by omega), show a + (b - a) = b by omega, seg]
theorem cut_in {l : List Int} {P : Int → Prop} (h : ∀ x ∈ l, P x) (a m : Nat) : ∀ x ∈ (l.drop a).take m, P x := fun x hx => h x (List.mem_of_mem_drop (List.mem_of_mem_take hx))

set_option maxRecDepth 100000 in
set_option maxHeartbeats 1000000 in
theorem specSum_any (A : Option Addr) (n c : Nat) (l : List Int) (w : World) (hl : IntsIn w A n l) (hb : ∀ x ∈ l, 0 ≤ x ∧ x ≤ 1000) (h10 : l.length ≤ 10) :
    Calls Try.prog 94 #[.slice A n c] w fun e w' => e = .returned (.int .i64 (sumN l l.length)) ∧ w = w' := by
  have hn := hl.2.len
  obtain rfl := hl.1
  have HB := Lib.hid hb; clear hb
  go_enter Try.func94, Try.ntmps94
  go_wp2
  go_loop [3, 4] (fun s i => ∃ k : Nat, k ≤ l.length ∧ i = .int .i64 k ∧ s = .int .i64 (sumN l k)) (fun _ i => l.length - (intOf i).toNat)
  case atStart => exact ⟨0, by omega, rfl, rfl⟩
  case round =>
    obtain ⟨k, hk, rfl, rfl⟩ := hrel
    obtain ⟨s0, s1⟩ := sumN_bd HB.out k hk
    by_cases hlt : k < l.length
    · obtain ⟨b, o, rfl, _, hcell⟩ := hl.at_ hlt
      obtain ⟨y0, y1⟩ := HB.out _ (List.getElem_mem hlt)
      have HS : Hid (sumN l (k + 1) = sumN l k + l[k]) := by
        show sumN l (k + 1) = _
        simp only [sumN, List.getD_eq_getElem?_getD, List.getElem?_eq_getElem hlt, Option.getD_some]
      go_wp2
      go_round
      case rel => exact ⟨k + 1, by omega, by go_num, by rw [HS.out]; try go_num⟩
      case measure => simp [intOf]; omega
    · obtain rfl : k = l.length := by omega
      go_wp2
      go_ret
      exact ⟨rfl, rfl⟩
set_option maxRecDepth 100000 in
set_option maxHeartbeats 1000000 in
theorem implSum_any (A : Option Addr) (n c : Nat) (l : List Int) (w : World) (hl : IntsIn w A n l) (hb : ∀ x ∈ l, 0 ≤ x ∧ x ≤ 1000) (h10 : l.length ≤ 10) :
    Calls Try.prog 63 #[.slice A n c] w fun e w' => e = .returned (.int .i64 (sumN l l.length)) ∧ w = w' := by
  have hn := hl.2.len
  obtain rfl := hl.1
  have HB := Lib.hid hb; clear hb
  go_enter Try.func63, Try.ntmps63
  go_wp2
  go_loop [3, 8] (fun s i => ∃ k : Nat, k ≤ l.length ∧ i = .int .i64 k ∧ s = .int .i64 (sumN l k)) (fun _ i => l.length - (intOf i).toNat)
  case atStart => exact ⟨0, by omega, rfl, rfl⟩
  case round =>
    obtain ⟨k, hk, rfl, rfl⟩ := hrel
    obtain ⟨s0, s1⟩ := sumN_bd HB.out k hk
    by_cases hlt : k < l.length
    · obtain ⟨b, o, rfl, _, hcell⟩ := hl.at_ hlt
      obtain ⟨y0, y1⟩ := HB.out _ (List.getElem_mem hlt)
      have HS : Hid (sumN l (k + 1) = sumN l k + l[k]) := by
        show sumN l (k + 1) = _
        simp only [sumN, List.getD_eq_getElem?_getD, List.getElem?_eq_getElem hlt, Option.getD_some]
      go_wp2
      go_round
      case rel => exact ⟨k + 1, by omega, by go_num, by rw [HS.out]; try go_num⟩
      case measure => simp [intOf]; omega
    · obtain rfl : k = l.length := by omega
      go_wp2
      go_ret
      exact ⟨rfl, rfl⟩
end Go.Proofs.Ytcfcfgecdlpflaa
