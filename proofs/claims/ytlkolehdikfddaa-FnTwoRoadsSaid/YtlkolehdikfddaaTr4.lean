/- Part 4 of the texts of this claim: The walks of IsCond; Rows of numbers of the call's own: made whole, read, written one by one; What an append of a whole slice does to a row of the call's own; and the same at a step of a region that draws its order. -/
import Derived.Test.YtlkolehdikfddaaTr2
import Derived.Test.YtlkolehdikfddaaTr1
import Derived.OwnWalk
import Derived.RegionTactic
import Derived.Deep.RegionLaw
/- The walks of IsCond. -/
namespace Go.Proofs.Ytlkolehdikfddaa
open Go.RowKit
def opnds (c : Int) : Int := if c = 0 ∨ c = 1 then 0 else if c = 2 then 1 else if c = 3 ∨ c = 4 then 2 else -1
theorem cn_getD (l : List Cn) (k : Nat) (h : k < l.length) : l.getD k cnNone = l[k] := by
  rw [List.getD_eq_getElem?_getD, List.getElem?_eq_getElem h]; rfl
theorem condTo_step {l : List Cn} {k n m : Nat} (hk : k < l.length) (h : condTo l k = some n) (hn : cnNext n l[k] = some m) (ht : cnText l[k] = true) : condTo l (k + 1) = some m := by
  simp only [condTo]; rw [h, cn_getD _ _ hk]; simp only [hn, ht, if_true]
theorem condTo_next {l : List Cn} {k n : Nat} (hk : k < l.length) (h : condTo l k = some n) (hn : cnNext n l[k] = none) : isCond l = false := by
  refine isCond_at (k := k + 1) (by omega) ?_
  simp only [condTo]; rw [h, cn_getD _ _ hk]; simp only [hn]
theorem condTo_text {l : List Cn} {k n : Nat} (hk : k < l.length) (h : condTo l k = some n) (ht : cnText l[k] = false) : isCond l = false := by
  refine isCond_at (k := k + 1) (by omega) ?_
  simp only [condTo]; rw [h, cn_getD _ _ hk]
  cases hn : cnNext n l[k] with
  | none => simp only [hn]
  | some m => simp only [hn, ht, Bool.false_eq_true, if_false]
theorem isCond_long {l : List Cn} (h : ¬ (l.length : Int) ≤ 30) : isCond l = false := by
  unfold isCond; rw [decide_eq_false (by omega)]; rfl
theorem isCond_end {l : List Cn} {n : Nat} (h : (l.length : Int) ≤ 30) (hc : condTo l l.length = some n) : isCond l = ((n : Int) == 1) := by
  unfold isCond
  rw [decide_eq_true (by omega), hc]
  by_cases h1 : n = 1
  · subst h1; simp
  · rw [decide_eq_false (fun e => h1 (Option.some.inj e)), Bool.true_and]
    symm; rw [beq_eq_false_iff_ne]; omega
theorem cnNext_0 (n : Nat) (x : Cn) (h : x.1 = 0) : cnNext n x = some (n + 1) := by unfold cnNext; rw [if_pos (.inl h)]
theorem cnNext_1 (n : Nat) (x : Cn) (h : x.1 = 1) : cnNext n x = some (n + 1) := by unfold cnNext; rw [if_pos (.inr h)]
theorem cnNext_2 (n : Nat) (x : Cn) (h : x.1 = 2) (hn : 1 ≤ n) : cnNext n x = some n := by unfold cnNext; rw [if_neg (by omega), if_pos h, if_neg (by omega)]
theorem cnNext_2n (n : Nat) (x : Cn) (h : x.1 = 2) (hn : n < 1) : cnNext n x = none := by unfold cnNext; rw [if_neg (by omega), if_pos h, if_pos hn]
theorem cnNext_3 (n : Nat) (x : Cn) (h : x.1 = 3 ∨ x.1 = 4) (hn : 2 ≤ n) : cnNext n x = some (n - 1) := by unfold cnNext; rw [if_neg (by omega), if_neg (by omega), if_pos h, if_neg (by omega)]
theorem cnNext_3n (n : Nat) (x : Cn) (h : x.1 = 3 ∨ x.1 = 4) (hn : n < 2) : cnNext n x = none := by unfold cnNext; rw [if_neg (by omega), if_neg (by omega), if_pos h, if_pos hn]
theorem cnNext_o (n : Nat) (x : Cn) (h0 : x.1 ≠ 0) (h1 : x.1 ≠ 1) (h2 : x.1 ≠ 2) (h3 : x.1 ≠ 3) (h4 : x.1 ≠ 4) : cnNext n x = none := by unfold cnNext; rw [if_neg (by omega), if_neg h2, if_neg (by omega)]
theorem cnText_is (x : Cn) (h : x.1 = 1) : cnText x = (isCode x.2.1 && isCode x.2.2) := by unfold cnText; rw [if_pos h]
theorem cnText_no (x : Cn) (h : x.1 ≠ 1) : cnText x = ((x.2.1.toList == []) && (x.2.2.toList == [])) := by unfold cnText; rw [if_neg h]
set_option maxRecDepth 100000 in
theorem operands_any (c : Int) (w : World) : Calls Try.prog 70 #[.int .i64 c] w fun e w' => e = .returned (.int .i64 (opnds c)) ∧ w = w' := by
  by_cases h0 : c = 0
  · subst h0
    go_enter Try.func70, Try.ntmps70
    go_wp2
    go_ret
    exact ⟨rfl, rfl⟩
  by_cases h1 : c = 1
  · subst h1
    go_enter Try.func70, Try.ntmps70
    go_wp2
    go_ret
    exact ⟨rfl, rfl⟩
  by_cases h2 : c = 2
  · subst h2
    go_enter Try.func70, Try.ntmps70
    go_wp2
    go_ret
    exact ⟨rfl, rfl⟩
  by_cases h3 : c = 3
  · subst h3
    go_enter Try.func70, Try.ntmps70
    go_wp2
    go_ret
    exact ⟨rfl, rfl⟩
  by_cases h4 : c = 4
  · subst h4
    go_enter Try.func70, Try.ntmps70
    go_wp2
    go_ret
    exact ⟨rfl, rfl⟩
  have HO : Hid (opnds c = -1) := by show _ = _; unfold opnds; rw [if_neg (by omega), if_neg h2, if_neg (by omega)]
  have k0 : (c == 0) = false := by simpa using h0
  have k1 : (c == 1) = false := by simpa using h1
  have k2 : (c == 2) = false := by simpa using h2
  have k3 : (c == 3) = false := by simpa using h3
  have k4 : (c == 4) = false := by simpa using h4
  clear h0 h1 h2 h3 h4
  go_enter Try.func70, Try.ntmps70
  go_wp2
  go_ret
  exact ⟨ret_int HO.out.symm, rfl⟩
set_option maxRecDepth 100000 in
set_option maxHeartbeats 4000000 in
theorem specIsCond_any (A : Option Addr) (n c : Nat) (l : List Cn) (w : World) (hl : CondsIn w A n l) (hok : ∀ x ∈ l, okCn x) :
    Calls Try.prog 84 #[.slice A n c] w fun e w' => e = .returned (.bool (isCond l)) ∧ Below w.heap.size w w' := by
  have hn := hl.len
  obtain rfl := hl.1
  have HO := Lib.hid hok
  clear hok
  by_cases h30 : (l.length : Int) ≤ 30
  case neg =>
    have HL := Lib.hid (isCond_long h30)
    go_enter Try.func84, Try.ntmps84
    go_wp2
    refine wp_loop_rounds 1 ?_
    rw [rounds_succ]
    go_wp2
    all_goals
      go_ret
      exact ⟨ret_bool HL.out.symm, Below.refl _ _⟩
  go_enter Try.func84, Try.ntmps84
  go_wp2
  go_loopw [3, 4] (fun m i wr => ∃ k q : Nat, k ≤ l.length ∧ q ≤ k ∧ i = .int .i64 k ∧ m = .int .i64 q ∧ Hid (condTo l k = some q) ∧ Below w.heap.size w wr) (fun _ i _ => l.length - (intOf i).toNat)
  case atStart => exact ⟨0, 0, by omega, by omega, rfl, rfl, rfl, Below.refl _ _⟩
  case round =>
    obtain ⟨k, q, hk, hqk, rfl, rfl, HC, HR⟩ := hrel
    by_cases hlt : k < l.length
    · have hs0 := (HO.out _ (List.getElem_mem hlt)).1
      have hs1 := (HO.out _ (List.getElem_mem hlt)).2
      have hsz := HR.size
      obtain ⟨b, o, rfl, _, hc0, hc1, hc2⟩ := cond_at (hl.keep HR) hlt
      have HA := HR.alloc hsz (.cells #[.int .i64 l[k].1, .string l[k].2.1, .string l[k].2.2] 114)
      by_cases e0 : l[k].1 = 0
      · have k0 : (l[k].1 == 0) = true := by rw [e0]; rfl
        have k1 : (l[k].1 == 1) = false := by rw [e0]; rfl
        have k2 : (l[k].1 == 2) = false := by rw [e0]; rfl
        have k3 : (l[k].1 == 3) = false := by rw [e0]; rfl
        have k4 : (l[k].1 == 4) = false := by rw [e0]; rfl
        have j1 : (l[k].1 != 1) = true := by simp [bne, k1]
        have HT := Lib.hid (cnText_no l[k] (by rw [e0]; decide))
        have HNX := Lib.hid (cnNext_0 q l[k] e0)
        clear e0
        cases a0 : (l[k].2.1.toList == [])
        · have HF := Lib.hid (condTo_text hlt HC.out (HT.out.trans (by rw [a0]; rfl)))
          go_wp2_with (first | (go_at_call 44; refine (specIsCode_any _ _ (by assumption)).mono ?_; rintro e w' ⟨rfl, rfl⟩))
          go_ret
          exact ⟨ret_bool HF.out.symm, HA⟩
        cases a1 : (l[k].2.2.toList == [])
        · have HF := Lib.hid (condTo_text hlt HC.out (HT.out.trans (by rw [a0, a1]; rfl)))
          go_wp2_with (first | (go_at_call 44; refine (specIsCode_any _ _ (by assumption)).mono ?_; rintro e w' ⟨rfl, rfl⟩))
          go_ret
          exact ⟨ret_bool HF.out.symm, HA⟩
        have HE := Lib.hid (condTo_step hlt HC.out HNX.out (HT.out.trans (by rw [a0, a1]; rfl)))
        go_wp2_with (first | (go_at_call 44; refine (specIsCode_any _ _ (by assumption)).mono ?_; rintro e w' ⟨rfl, rfl⟩))
        go_roundw
        case rel => exact ⟨k + 1, q + 1, by omega, by omega, by go_num, by go_num, HE.out, HA⟩
        case measure => simp [intOf]; omega
      by_cases e1 : l[k].1 = 1
      · have k0 : (l[k].1 == 0) = false := by rw [e1]; rfl
        have k1 : (l[k].1 == 1) = true := by rw [e1]; rfl
        have k2 : (l[k].1 == 2) = false := by rw [e1]; rfl
        have k3 : (l[k].1 == 3) = false := by rw [e1]; rfl
        have k4 : (l[k].1 == 4) = false := by rw [e1]; rfl
        have j1 : (l[k].1 != 1) = false := by simp [bne, k1]
        have HT := Lib.hid (cnText_is l[k] e1)
        have HNX := Lib.hid (cnNext_1 q l[k] e1)
        clear e1
        cases a0 : isCode l[k].2.1
        · have HF := Lib.hid (condTo_text hlt HC.out (HT.out.trans (by rw [a0]; rfl)))
          go_wp2_with (first | (go_at_call 44; refine (specIsCode_any _ _ (by assumption)).mono ?_; rintro e w' ⟨rfl, rfl⟩))
          go_ret
          exact ⟨ret_bool HF.out.symm, HA⟩
        cases a1 : isCode l[k].2.2
        · have HF := Lib.hid (condTo_text hlt HC.out (HT.out.trans (by rw [a0, a1]; rfl)))
          go_wp2_with (first | (go_at_call 44; refine (specIsCode_any _ _ (by assumption)).mono ?_; rintro e w' ⟨rfl, rfl⟩))
          go_ret
          exact ⟨ret_bool HF.out.symm, HA⟩
        have HE := Lib.hid (condTo_step hlt HC.out HNX.out (HT.out.trans (by rw [a0, a1]; rfl)))
        go_wp2_with (first | (go_at_call 44; refine (specIsCode_any _ _ (by assumption)).mono ?_; rintro e w' ⟨rfl, rfl⟩))
        go_roundw
        case rel => exact ⟨k + 1, q + 1, by omega, by omega, by go_num, by go_num, HE.out, HA⟩
        case measure => simp [intOf]; omega
      by_cases e2 : l[k].1 = 2
      · have k0 : (l[k].1 == 0) = false := by rw [e2]; rfl
        have k1 : (l[k].1 == 1) = false := by rw [e2]; rfl
        have k2 : (l[k].1 == 2) = true := by rw [e2]; rfl
        have k3 : (l[k].1 == 3) = false := by rw [e2]; rfl
        have k4 : (l[k].1 == 4) = false := by rw [e2]; rfl
        have j1 : (l[k].1 != 1) = true := by simp [bne, k1]
        have HT := Lib.hid (cnText_no l[k] (by rw [e2]; decide))
        by_cases hq : q < 1
        · have HF := Lib.hid (condTo_next hlt HC.out (cnNext_2n q l[k] e2 hq))
          clear e2
          go_wp2_with (first | (go_at_call 44; refine (specIsCode_any _ _ (by assumption)).mono ?_; rintro e w' ⟨rfl, rfl⟩))
          go_ret
          exact ⟨ret_bool HF.out.symm, HA⟩
        have HNX := Lib.hid (cnNext_2 q l[k] e2 (by omega))
        clear e2
        cases a0 : (l[k].2.1.toList == [])
        · have HF := Lib.hid (condTo_text hlt HC.out (HT.out.trans (by rw [a0]; rfl)))
          go_wp2_with (first | (go_at_call 44; refine (specIsCode_any _ _ (by assumption)).mono ?_; rintro e w' ⟨rfl, rfl⟩))
          go_ret
          exact ⟨ret_bool HF.out.symm, HA⟩
        cases a1 : (l[k].2.2.toList == [])
        · have HF := Lib.hid (condTo_text hlt HC.out (HT.out.trans (by rw [a0, a1]; rfl)))
          go_wp2_with (first | (go_at_call 44; refine (specIsCode_any _ _ (by assumption)).mono ?_; rintro e w' ⟨rfl, rfl⟩))
          go_ret
          exact ⟨ret_bool HF.out.symm, HA⟩
        have HE := Lib.hid (condTo_step hlt HC.out HNX.out (HT.out.trans (by rw [a0, a1]; rfl)))
        go_wp2_with (first | (go_at_call 44; refine (specIsCode_any _ _ (by assumption)).mono ?_; rintro e w' ⟨rfl, rfl⟩))
        go_roundw
        case rel => exact ⟨k + 1, q, by omega, by omega, by go_num, by go_num, HE.out, HA⟩
        case measure => simp [intOf]; omega
      by_cases e3 : l[k].1 = 3
      · have k0 : (l[k].1 == 0) = false := by rw [e3]; rfl
        have k1 : (l[k].1 == 1) = false := by rw [e3]; rfl
        have k2 : (l[k].1 == 2) = false := by rw [e3]; rfl
        have k3 : (l[k].1 == 3) = true := by rw [e3]; rfl
        have k4 : (l[k].1 == 4) = false := by rw [e3]; rfl
        have j1 : (l[k].1 != 1) = true := by simp [bne, k1]
        have HT := Lib.hid (cnText_no l[k] (by rw [e3]; decide))
        by_cases hq : q < 2
        · have HF := Lib.hid (condTo_next hlt HC.out (cnNext_3n q l[k] (.inl e3) hq))
          clear e3
          go_wp2_with (first | (go_at_call 44; refine (specIsCode_any _ _ (by assumption)).mono ?_; rintro e w' ⟨rfl, rfl⟩))
          go_ret
          exact ⟨ret_bool HF.out.symm, HA⟩
        have HNX := Lib.hid (cnNext_3 q l[k] (.inl e3) (by omega))
        clear e3
        cases a0 : (l[k].2.1.toList == [])
        · have HF := Lib.hid (condTo_text hlt HC.out (HT.out.trans (by rw [a0]; rfl)))
          go_wp2_with (first | (go_at_call 44; refine (specIsCode_any _ _ (by assumption)).mono ?_; rintro e w' ⟨rfl, rfl⟩))
          go_ret
          exact ⟨ret_bool HF.out.symm, HA⟩
        cases a1 : (l[k].2.2.toList == [])
        · have HF := Lib.hid (condTo_text hlt HC.out (HT.out.trans (by rw [a0, a1]; rfl)))
          go_wp2_with (first | (go_at_call 44; refine (specIsCode_any _ _ (by assumption)).mono ?_; rintro e w' ⟨rfl, rfl⟩))
          go_ret
          exact ⟨ret_bool HF.out.symm, HA⟩
        have HE := Lib.hid (condTo_step hlt HC.out HNX.out (HT.out.trans (by rw [a0, a1]; rfl)))
        go_wp2_with (first | (go_at_call 44; refine (specIsCode_any _ _ (by assumption)).mono ?_; rintro e w' ⟨rfl, rfl⟩))
        go_roundw
        case rel => exact ⟨k + 1, q - 1, by omega, by omega, by go_num, by go_num, HE.out, HA⟩
        case measure => simp [intOf]; omega
      by_cases e4 : l[k].1 = 4
      · have k0 : (l[k].1 == 0) = false := by rw [e4]; rfl
        have k1 : (l[k].1 == 1) = false := by rw [e4]; rfl
        have k2 : (l[k].1 == 2) = false := by rw [e4]; rfl
        have k3 : (l[k].1 == 3) = false := by rw [e4]; rfl
        have k4 : (l[k].1 == 4) = true := by rw [e4]; rfl
        have j1 : (l[k].1 != 1) = true := by simp [bne, k1]
        have HT := Lib.hid (cnText_no l[k] (by rw [e4]; decide))
        by_cases hq : q < 2
        · have HF := Lib.hid (condTo_next hlt HC.out (cnNext_3n q l[k] (.inr e4) hq))
          clear e4
          go_wp2_with (first | (go_at_call 44; refine (specIsCode_any _ _ (by assumption)).mono ?_; rintro e w' ⟨rfl, rfl⟩))
          go_ret
          exact ⟨ret_bool HF.out.symm, HA⟩
        have HNX := Lib.hid (cnNext_3 q l[k] (.inr e4) (by omega))
        clear e4
        cases a0 : (l[k].2.1.toList == [])
        · have HF := Lib.hid (condTo_text hlt HC.out (HT.out.trans (by rw [a0]; rfl)))
          go_wp2_with (first | (go_at_call 44; refine (specIsCode_any _ _ (by assumption)).mono ?_; rintro e w' ⟨rfl, rfl⟩))
          go_ret
          exact ⟨ret_bool HF.out.symm, HA⟩
        cases a1 : (l[k].2.2.toList == [])
        · have HF := Lib.hid (condTo_text hlt HC.out (HT.out.trans (by rw [a0, a1]; rfl)))
          go_wp2_with (first | (go_at_call 44; refine (specIsCode_any _ _ (by assumption)).mono ?_; rintro e w' ⟨rfl, rfl⟩))
          go_ret
          exact ⟨ret_bool HF.out.symm, HA⟩
        have HE := Lib.hid (condTo_step hlt HC.out HNX.out (HT.out.trans (by rw [a0, a1]; rfl)))
        go_wp2_with (first | (go_at_call 44; refine (specIsCode_any _ _ (by assumption)).mono ?_; rintro e w' ⟨rfl, rfl⟩))
        go_roundw
        case rel => exact ⟨k + 1, q - 1, by omega, by omega, by go_num, by go_num, HE.out, HA⟩
        case measure => simp [intOf]; omega
      have k0 : (l[k].1 == 0) = false := by simpa using e0
      have k1 : (l[k].1 == 1) = false := by simpa using e1
      have k2 : (l[k].1 == 2) = false := by simpa using e2
      have k3 : (l[k].1 == 3) = false := by simpa using e3
      have k4 : (l[k].1 == 4) = false := by simpa using e4
      have j1 : (l[k].1 != 1) = true := by simp [bne, k1]
      have HF := Lib.hid (condTo_next hlt HC.out (cnNext_o q l[k] e0 e1 e2 e3 e4))
      clear e0 e1 e2 e3 e4
      go_wp2_with (first | (go_at_call 44; refine (specIsCode_any _ _ (by assumption)).mono ?_; rintro e w' ⟨rfl, rfl⟩))
      go_ret
      exact ⟨ret_bool HF.out.symm, HA⟩
    · obtain rfl : k = l.length := by omega
      have HF := Lib.hid (isCond_end h30 HC.out)
      cases hq1 : ((q : Int) == 1)
      all_goals
        go_wp2
        go_ret
        exact ⟨ret_bool (HF.out.trans hq1).symm, HR⟩
set_option maxRecDepth 100000 in
set_option maxHeartbeats 4000000 in
theorem implIsCond_any (A : Option Addr) (n c : Nat) (l : List Cn) (w : World) (hl : CondsIn w A n l) (hok : ∀ x ∈ l, okCn x) :
    Calls Try.prog 47 #[.slice A n c] w fun e w' => e = .returned (.bool (isCond l)) ∧ Below w.heap.size w w' := by
  have hn := hl.len
  obtain rfl := hl.1
  have HO := Lib.hid hok
  clear hok
  by_cases h30 : (l.length : Int) ≤ 30
  case neg =>
    have HL := Lib.hid (isCond_long h30)
    go_enter Try.func47, Try.ntmps47
    go_wp2
    go_ret
    exact ⟨ret_bool HL.out.symm, Below.refl _ _⟩
  go_enter Try.func47, Try.ntmps47
  go_wp2
  go_loopw [3, 12] (fun m i wr => ∃ k q : Nat, k ≤ l.length ∧ q ≤ k ∧ i = .int .i64 k ∧ m = .int .i64 q ∧ Hid (condTo l k = some q) ∧ Below w.heap.size w wr) (fun _ i _ => l.length - (intOf i).toNat)
  case atStart => exact ⟨0, 0, by omega, by omega, rfl, rfl, rfl, Below.refl _ _⟩
  case round =>
    obtain ⟨k, q, hk, hqk, rfl, rfl, HC, HR⟩ := hrel
    by_cases hlt : k < l.length
    · have hs0 := (HO.out _ (List.getElem_mem hlt)).1
      have hs1 := (HO.out _ (List.getElem_mem hlt)).2
      have hsz := HR.size
      obtain ⟨b, o, rfl, _, hc0, hc1, hc2⟩ := cond_at (hl.keep HR) hlt
      have HA := HR.alloc hsz (.cells #[.int .i64 l[k].1, .string l[k].2.1, .string l[k].2.2] 114)
      by_cases e0 : l[k].1 = 0
      · have k0 : (l[k].1 == 0) = true := by rw [e0]; rfl
        have k1 : (l[k].1 == 1) = false := by rw [e0]; rfl
        have k2 : (l[k].1 == 2) = false := by rw [e0]; rfl
        have k3 : (l[k].1 == 3) = false := by rw [e0]; rfl
        have k4 : (l[k].1 == 4) = false := by rw [e0]; rfl
        have j1 : (l[k].1 != 1) = true := by simp [bne, k1]
        have ho : opnds l[k].1 = 0 := by rw [e0]; rfl
        have HT := Lib.hid (cnText_no l[k] (by rw [e0]; decide))
        have HNX := Lib.hid (cnNext_0 q l[k] e0)
        clear e0
        cases a0 : (l[k].2.1.toList == [])
        · have HF := Lib.hid (condTo_text hlt HC.out (HT.out.trans (by rw [a0]; rfl)))
          go_wp2_with (first | (go_at_call 39; refine (implIsCode_any _ _ (by assumption)).mono ?_; rintro e w' ⟨rfl, rfl⟩) | (go_at_call 70; refine (operands_any _ _).mono ?_; rintro e w' ⟨rfl, rfl⟩; rw [ho]))
          go_ret
          exact ⟨ret_bool HF.out.symm, HA⟩
        cases a1 : (l[k].2.2.toList == [])
        · have HF := Lib.hid (condTo_text hlt HC.out (HT.out.trans (by rw [a0, a1]; rfl)))
          go_wp2_with (first | (go_at_call 39; refine (implIsCode_any _ _ (by assumption)).mono ?_; rintro e w' ⟨rfl, rfl⟩) | (go_at_call 70; refine (operands_any _ _).mono ?_; rintro e w' ⟨rfl, rfl⟩; rw [ho]))
          go_ret
          exact ⟨ret_bool HF.out.symm, HA⟩
        have HE := Lib.hid (condTo_step hlt HC.out HNX.out (HT.out.trans (by rw [a0, a1]; rfl)))
        go_wp2_with (first | (go_at_call 39; refine (implIsCode_any _ _ (by assumption)).mono ?_; rintro e w' ⟨rfl, rfl⟩) | (go_at_call 70; refine (operands_any _ _).mono ?_; rintro e w' ⟨rfl, rfl⟩; rw [ho]))
        go_roundw
        case rel => exact ⟨k + 1, q + 1, by omega, by omega, by go_num, by go_num, HE.out, HA⟩
        case measure => simp [intOf]; omega
      by_cases e1 : l[k].1 = 1
      · have k0 : (l[k].1 == 0) = false := by rw [e1]; rfl
        have k1 : (l[k].1 == 1) = true := by rw [e1]; rfl
        have k2 : (l[k].1 == 2) = false := by rw [e1]; rfl
        have k3 : (l[k].1 == 3) = false := by rw [e1]; rfl
        have k4 : (l[k].1 == 4) = false := by rw [e1]; rfl
        have j1 : (l[k].1 != 1) = false := by simp [bne, k1]
        have ho : opnds l[k].1 = 0 := by rw [e1]; rfl
        have HT := Lib.hid (cnText_is l[k] e1)
        have HNX := Lib.hid (cnNext_1 q l[k] e1)
        clear e1
        cases a0 : isCode l[k].2.1
        · have HF := Lib.hid (condTo_text hlt HC.out (HT.out.trans (by rw [a0]; rfl)))
          go_wp2_with (first | (go_at_call 39; refine (implIsCode_any _ _ (by assumption)).mono ?_; rintro e w' ⟨rfl, rfl⟩) | (go_at_call 70; refine (operands_any _ _).mono ?_; rintro e w' ⟨rfl, rfl⟩; rw [ho]))
          go_ret
          exact ⟨ret_bool HF.out.symm, HA⟩
        cases a1 : isCode l[k].2.2
        · have HF := Lib.hid (condTo_text hlt HC.out (HT.out.trans (by rw [a0, a1]; rfl)))
          go_wp2_with (first | (go_at_call 39; refine (implIsCode_any _ _ (by assumption)).mono ?_; rintro e w' ⟨rfl, rfl⟩) | (go_at_call 70; refine (operands_any _ _).mono ?_; rintro e w' ⟨rfl, rfl⟩; rw [ho]))
          go_ret
          exact ⟨ret_bool HF.out.symm, HA⟩
        have HE := Lib.hid (condTo_step hlt HC.out HNX.out (HT.out.trans (by rw [a0, a1]; rfl)))
        go_wp2_with (first | (go_at_call 39; refine (implIsCode_any _ _ (by assumption)).mono ?_; rintro e w' ⟨rfl, rfl⟩) | (go_at_call 70; refine (operands_any _ _).mono ?_; rintro e w' ⟨rfl, rfl⟩; rw [ho]))
        go_roundw
        case rel => exact ⟨k + 1, q + 1, by omega, by omega, by go_num, by go_num, HE.out, HA⟩
        case measure => simp [intOf]; omega
      by_cases e2 : l[k].1 = 2
      · have k0 : (l[k].1 == 0) = false := by rw [e2]; rfl
        have k1 : (l[k].1 == 1) = false := by rw [e2]; rfl
        have k2 : (l[k].1 == 2) = true := by rw [e2]; rfl
        have k3 : (l[k].1 == 3) = false := by rw [e2]; rfl
        have k4 : (l[k].1 == 4) = false := by rw [e2]; rfl
        have j1 : (l[k].1 != 1) = true := by simp [bne, k1]
        have ho : opnds l[k].1 = 1 := by rw [e2]; rfl
        have HT := Lib.hid (cnText_no l[k] (by rw [e2]; decide))
        by_cases hq : q < 1
        · have HF := Lib.hid (condTo_next hlt HC.out (cnNext_2n q l[k] e2 hq))
          clear e2
          go_wp2_with (first | (go_at_call 39; refine (implIsCode_any _ _ (by assumption)).mono ?_; rintro e w' ⟨rfl, rfl⟩) | (go_at_call 70; refine (operands_any _ _).mono ?_; rintro e w' ⟨rfl, rfl⟩; rw [ho]))
          go_ret
          exact ⟨ret_bool HF.out.symm, HA⟩
        have HNX := Lib.hid (cnNext_2 q l[k] e2 (by omega))
        clear e2
        cases a0 : (l[k].2.1.toList == [])
        · have HF := Lib.hid (condTo_text hlt HC.out (HT.out.trans (by rw [a0]; rfl)))
          go_wp2_with (first | (go_at_call 39; refine (implIsCode_any _ _ (by assumption)).mono ?_; rintro e w' ⟨rfl, rfl⟩) | (go_at_call 70; refine (operands_any _ _).mono ?_; rintro e w' ⟨rfl, rfl⟩; rw [ho]))
          go_ret
          exact ⟨ret_bool HF.out.symm, HA⟩
        cases a1 : (l[k].2.2.toList == [])
        · have HF := Lib.hid (condTo_text hlt HC.out (HT.out.trans (by rw [a0, a1]; rfl)))
          go_wp2_with (first | (go_at_call 39; refine (implIsCode_any _ _ (by assumption)).mono ?_; rintro e w' ⟨rfl, rfl⟩) | (go_at_call 70; refine (operands_any _ _).mono ?_; rintro e w' ⟨rfl, rfl⟩; rw [ho]))
          go_ret
          exact ⟨ret_bool HF.out.symm, HA⟩
        have HE := Lib.hid (condTo_step hlt HC.out HNX.out (HT.out.trans (by rw [a0, a1]; rfl)))
        go_wp2_with (first | (go_at_call 39; refine (implIsCode_any _ _ (by assumption)).mono ?_; rintro e w' ⟨rfl, rfl⟩) | (go_at_call 70; refine (operands_any _ _).mono ?_; rintro e w' ⟨rfl, rfl⟩; rw [ho]))
        go_roundw
        case rel => exact ⟨k + 1, q, by omega, by omega, by go_num, by go_num, HE.out, HA⟩
        case measure => simp [intOf]; omega
      by_cases e3 : l[k].1 = 3
      · have k0 : (l[k].1 == 0) = false := by rw [e3]; rfl
        have k1 : (l[k].1 == 1) = false := by rw [e3]; rfl
        have k2 : (l[k].1 == 2) = false := by rw [e3]; rfl
        have k3 : (l[k].1 == 3) = true := by rw [e3]; rfl
        have k4 : (l[k].1 == 4) = false := by rw [e3]; rfl
        have j1 : (l[k].1 != 1) = true := by simp [bne, k1]
        have ho : opnds l[k].1 = 2 := by rw [e3]; rfl
        have HT := Lib.hid (cnText_no l[k] (by rw [e3]; decide))
        by_cases hq : q < 2
        · have HF := Lib.hid (condTo_next hlt HC.out (cnNext_3n q l[k] (.inl e3) hq))
          clear e3
          go_wp2_with (first | (go_at_call 39; refine (implIsCode_any _ _ (by assumption)).mono ?_; rintro e w' ⟨rfl, rfl⟩) | (go_at_call 70; refine (operands_any _ _).mono ?_; rintro e w' ⟨rfl, rfl⟩; rw [ho]))
          go_ret
          exact ⟨ret_bool HF.out.symm, HA⟩
        have HNX := Lib.hid (cnNext_3 q l[k] (.inl e3) (by omega))
        clear e3
        cases a0 : (l[k].2.1.toList == [])
        · have HF := Lib.hid (condTo_text hlt HC.out (HT.out.trans (by rw [a0]; rfl)))
          go_wp2_with (first | (go_at_call 39; refine (implIsCode_any _ _ (by assumption)).mono ?_; rintro e w' ⟨rfl, rfl⟩) | (go_at_call 70; refine (operands_any _ _).mono ?_; rintro e w' ⟨rfl, rfl⟩; rw [ho]))
          go_ret
          exact ⟨ret_bool HF.out.symm, HA⟩
        cases a1 : (l[k].2.2.toList == [])
        · have HF := Lib.hid (condTo_text hlt HC.out (HT.out.trans (by rw [a0, a1]; rfl)))
          go_wp2_with (first | (go_at_call 39; refine (implIsCode_any _ _ (by assumption)).mono ?_; rintro e w' ⟨rfl, rfl⟩) | (go_at_call 70; refine (operands_any _ _).mono ?_; rintro e w' ⟨rfl, rfl⟩; rw [ho]))
          go_ret
          exact ⟨ret_bool HF.out.symm, HA⟩
        have HE := Lib.hid (condTo_step hlt HC.out HNX.out (HT.out.trans (by rw [a0, a1]; rfl)))
        go_wp2_with (first | (go_at_call 39; refine (implIsCode_any _ _ (by assumption)).mono ?_; rintro e w' ⟨rfl, rfl⟩) | (go_at_call 70; refine (operands_any _ _).mono ?_; rintro e w' ⟨rfl, rfl⟩; rw [ho]))
        go_roundw
        case rel => exact ⟨k + 1, q - 1, by omega, by omega, by go_num, by go_num, HE.out, HA⟩
        case measure => simp [intOf]; omega
      by_cases e4 : l[k].1 = 4
      · have k0 : (l[k].1 == 0) = false := by rw [e4]; rfl
        have k1 : (l[k].1 == 1) = false := by rw [e4]; rfl
        have k2 : (l[k].1 == 2) = false := by rw [e4]; rfl
        have k3 : (l[k].1 == 3) = false := by rw [e4]; rfl
        have k4 : (l[k].1 == 4) = true := by rw [e4]; rfl
        have j1 : (l[k].1 != 1) = true := by simp [bne, k1]
        have ho : opnds l[k].1 = 2 := by rw [e4]; rfl
        have HT := Lib.hid (cnText_no l[k] (by rw [e4]; decide))
        by_cases hq : q < 2
        · have HF := Lib.hid (condTo_next hlt HC.out (cnNext_3n q l[k] (.inr e4) hq))
          clear e4
          go_wp2_with (first | (go_at_call 39; refine (implIsCode_any _ _ (by assumption)).mono ?_; rintro e w' ⟨rfl, rfl⟩) | (go_at_call 70; refine (operands_any _ _).mono ?_; rintro e w' ⟨rfl, rfl⟩; rw [ho]))
          go_ret
          exact ⟨ret_bool HF.out.symm, HA⟩
        have HNX := Lib.hid (cnNext_3 q l[k] (.inr e4) (by omega))
        clear e4
        cases a0 : (l[k].2.1.toList == [])
        · have HF := Lib.hid (condTo_text hlt HC.out (HT.out.trans (by rw [a0]; rfl)))
          go_wp2_with (first | (go_at_call 39; refine (implIsCode_any _ _ (by assumption)).mono ?_; rintro e w' ⟨rfl, rfl⟩) | (go_at_call 70; refine (operands_any _ _).mono ?_; rintro e w' ⟨rfl, rfl⟩; rw [ho]))
          go_ret
          exact ⟨ret_bool HF.out.symm, HA⟩
        cases a1 : (l[k].2.2.toList == [])
        · have HF := Lib.hid (condTo_text hlt HC.out (HT.out.trans (by rw [a0, a1]; rfl)))
          go_wp2_with (first | (go_at_call 39; refine (implIsCode_any _ _ (by assumption)).mono ?_; rintro e w' ⟨rfl, rfl⟩) | (go_at_call 70; refine (operands_any _ _).mono ?_; rintro e w' ⟨rfl, rfl⟩; rw [ho]))
          go_ret
          exact ⟨ret_bool HF.out.symm, HA⟩
        have HE := Lib.hid (condTo_step hlt HC.out HNX.out (HT.out.trans (by rw [a0, a1]; rfl)))
        go_wp2_with (first | (go_at_call 39; refine (implIsCode_any _ _ (by assumption)).mono ?_; rintro e w' ⟨rfl, rfl⟩) | (go_at_call 70; refine (operands_any _ _).mono ?_; rintro e w' ⟨rfl, rfl⟩; rw [ho]))
        go_roundw
        case rel => exact ⟨k + 1, q - 1, by omega, by omega, by go_num, by go_num, HE.out, HA⟩
        case measure => simp [intOf]; omega
      have k0 : (l[k].1 == 0) = false := by simpa using e0
      have k1 : (l[k].1 == 1) = false := by simpa using e1
      have k2 : (l[k].1 == 2) = false := by simpa using e2
      have k3 : (l[k].1 == 3) = false := by simpa using e3
      have k4 : (l[k].1 == 4) = false := by simpa using e4
      have j1 : (l[k].1 != 1) = true := by simp [bne, k1]
      have ho : opnds l[k].1 = -1 := by unfold opnds; rw [if_neg (by omega), if_neg e2, if_neg (by omega)]
      have HF := Lib.hid (condTo_next hlt HC.out (cnNext_o q l[k] e0 e1 e2 e3 e4))
      clear e0 e1 e2 e3 e4
      go_wp2_with (first | (go_at_call 39; refine (implIsCode_any _ _ (by assumption)).mono ?_; rintro e w' ⟨rfl, rfl⟩) | (go_at_call 70; refine (operands_any _ _).mono ?_; rintro e w' ⟨rfl, rfl⟩; rw [ho]))
      go_ret
      exact ⟨ret_bool HF.out.symm, HA⟩
    · obtain rfl : k = l.length := by omega
      have HF := Lib.hid (isCond_end h30 HC.out)
      cases hq1 : ((q : Int) == 1)
      all_goals
        go_wp2
        go_ret
        exact ⟨ret_bool (HF.out.trans hq1).symm, HR⟩
end Go.Proofs.Ytlkolehdikfddaa
/- Rows of numbers of the call's own: made whole, read, written one by one. -/
namespace Go.Proofs.Ytlkolehdikfddaa
open Go.RowKit

/-- The row of numbers in block g. -/
def NumRow (w : World) (lo g n c : Nat) (l : List Int) : Prop := n = l.length ∧ w.ownsRow lo 3 1 (.slice (some ⟨g, 0, none⟩) n c) n (ints l)
section
variable {w w' : World} {lo g n c : Nat} {l : List Int}
theorem NumRow.cell (h : NumRow w lo g n c l) {j : Nat} (hj : j < l.length) : w.cell? ⟨g, j, none⟩ = some (.int .i64 l[j]) := by
  rw [h.2.cellAt j (by have := h.1; omega)]; simp [hj]
theorem NumRow.frozen (h : NumRow w lo g n c l) (j : Nat) : w.frozen? ⟨g, j, none⟩ = false := h.2.frozenAt j
theorem NumRow.set (h : NumRow w lo g n c l) (j : Nat) (x : Int) : NumRow (w.setCell ⟨g, j, none⟩ (.int .i64 x)) lo g n c (l.set j x) :=
  ⟨by simp [h.1], by rw [ints, List.map_set]; exact (h.2.stored j (.int .i64 x)).1⟩
theorem NumRow.far (h : NumRow w lo g n c l) {p : Addr} {v : Value} (hp : p.block ≠ g) : NumRow (w.setCell p v) lo g n c l := by
  refine ⟨h.1, ?_⟩
  refine h.2.kept (row := some p.block) ⟨rfl, rfl, rfl, by simp, fun k _ hk => heap_setCell_other w p k v (fun e => hk (by simp [e]))⟩ (.inr ?_)
  simp [Value.ownBlock]; exact fun h => hp h.symm
theorem NumRow.keep (h : NumRow w lo g n c l) (hb : Below w.heap.size w w') : NumRow w' lo g n c l := ⟨h.1, own_keep h.2 hb⟩
theorem NumRow.drew (h : NumRow w lo g n c l) : NumRow w.drew lo g n c l := h
theorem NumRow.drewN (h : NumRow w lo g n c l) (k : Nat) : NumRow (w.drewN k) lo g n c l := h.keep (below_drewN (Below.refl _ _) _)
theorem NumRow.lt (h : NumRow w lo g n c l) : lo ≤ g ∧ g < w.heap.size := own_lt h.2 _ rfl
theorem NumRow.len (h : NumRow w lo g n c l) : l.length = n := h.1.symm
theorem NumRow.ints (h : NumRow w lo g n c l) (hn : l.length ≤ 16777216) : IntsIn w (some ⟨g, 0, none⟩) n l := ⟨h.1, Sl.of_own h.2 (by have := h.1; omega)⟩
end
theorem cell_far {w : World} {g i b j : Nat} {v : Value} (h : g ≠ b) : (w.setCell ⟨g, i, none⟩ v).cell? ⟨b, j, none⟩ = w.cell? ⟨b, j, none⟩ :=
  World.cell?_setCell_other _ _ _ _ (by intro e; injection e; contradiction)
theorem numRow_made {w : World} {lo g n : Nat} (h : w.ownsRow lo 3 1 (.slice (some ⟨g, 0, none⟩) n n) n (madeCells (Value.int .i64 0).cells (n * 1)).toList) : NumRow w lo g n n (List.replicate n 0) := by
  refine ⟨by simp, ?_⟩
  have e : (madeCells (Value.int .i64 0).cells (n * 1)).toList = ints (List.replicate n 0) := by
    rw [show (Value.int .i64 0).cells = #[.int .i64 0] by rfl, toList_madeCells_one, Nat.mul_one, ints, List.map_replicate]
  rw [← e]; exact h
theorem wpList_make_nums {w : World} {ops : Array Oper} {rest : List Oper} {o : Oper} {a : Act} {Q : Exit → Act → World → Prop}
    (hg : o.guard = none) (l c : Operand) (hop : o.op = Op.makeSlice 26 l c) (base : Nat) {kl kc : IntKind} {L C : Int} (n : Nat) (hl : a.eval l = .int kl L) (hc : a.eval c = .int kc C) (hL : L = (n : Int)) (hC : C = (n : Int)) (hn : n ≤ 16777216) (b4 : base ≤ w.heap.size)
    (hK : ∀ w', NumRow w' base w.heap.size n n (List.replicate n 0) → Below w.heap.size w w' → w.heap.size < w'.heap.size → wpList Try.prog ops Q rest (a.put o.dst (.slice (some ⟨w.heap.size, 0, none⟩) n n)) w') :
    wpList Try.prog ops Q (o :: rest) a w := by
  obtain ⟨i0, hi0, hz0, hz1, hz2⟩ := info_parts intInfo
  refine wpList_make_full _ hg l c _ hop base 3 i0 _ 1 Try.underlying26 hi0 hz0 hz1 kl kc L C n hl hc hL hC (by rw [hz2]; omega) (by unfold maxLen; omega) b4 ?_
  intro w' h1 h2
  exact hK w' (numRow_made h1) (below_none h2) (own_lt (numRow_made h1).2 _ rfl).2
end Go.Proofs.Ytlkolehdikfddaa
/- What an append of a whole slice does to a row of the call's own; and the same at a step of a region that draws its order. -/
namespace Go.Proofs.Ytlkolehdikfddaa
open Go.RowKit
theorem wp_of_append {P : Program} {o : Oper} {a : Act} {K : Act → World → Prop} {Q : Exit → Act → World → Prop} (s x : Operand) {t : TypeId} (ho : o.op = .call { callee := .builtin .append, args := #[s, x], argTypes := #[t, t] })
    {w w' : World} {v1 v2 v' : Value} (hs : a.eval s = v1) (hx : a.eval x = v2) (hr : (Builtin.append_ #[t, t] o.type #[v1, v2]).run P w = .ok v' w') (h : K (a.put o.dst v') w') : o.wp P a w K Q := by
  unfold Oper.wp execOp
  simp only [ho, resolve, invoke, builtin, Sem.run_bind, Sem.run_pure, Result.andThen_ok, List.map_toArray, List.map_cons, List.map_nil, hs, hx, hr]
  exact h
section
variable {α : Type} {F : Flat α} {t e : TypeId}
theorem run_append_src (hE : ElemOk F t e) (ty : TypeId) {w : World} {lo : Nat} {v : Value} {l : List α} (hrow : RowVal F e w lo v l) (hl : l.length ≤ 16777216) {A : Option Addr} {m c : Nat} {l2 : List α} (hsrc : RowsIn F w A m l2)
    (hone : ∀ a, ∀ u ∈ F.enc a, u.oneCell' = true) (hlo : lo ≤ w.heap.size) :
    ∃ v' w', (Builtin.append_ #[t, t] ty #[v, .slice A m c]).run Try.prog w = .ok v' w' ∧ RowVal F e w' lo v' (l ++ l2) ∧ w.grownBy w' v.ownBlock := by
  obtain ⟨i, z, bytes, ht, hi, hz, hsz, hby, hzs, hpos, hbb⟩ := hE
  have hlen2 := hsrc.len
  have hm := hsrc.1
  have hb2 : (l.length + m) * bytes ≤ 140737488355328 := Nat.le_trans (Nat.mul_le_mul (show l.length + m ≤ 33554432 by omega) hbb) (by omega)
  have hone2 : ∀ u ∈ l2.flatMap F.enc, u.oneCell' = true := fun u hu => by
    obtain ⟨a, _, ha⟩ := List.mem_flatMap.1 hu
    exact hone a u ha
  have hjoin : ∀ (w' : World) (v' : Value), w'.ownsRow lo e F.sz v' (l.length + m) (l.flatMap F.enc ++ l2.flatMap F.enc) → RowVal F e w' lo v' (l ++ l2) := fun w' v' h => by
    unfold RowVal
    rw [List.length_append, List.flatMap_append, ← hm]; exact h
  rcases A with _ | ad
  · have h0 : m = 0 := by
      rcases Nat.eq_zero_or_pos m with h0 | h0
      · exact h0
      · obtain ⟨b, o, h, _⟩ := hsrc.2.2.2 h0
        cases h
    subst h0
    have hl0 : l2 = [] := List.eq_nil_of_length_eq_zero hm.symm
    subst hl0
    refine ⟨v, w, ?_, by rw [List.append_nil]; exact hrow, World.grownBy.refl w _⟩
    rcases hrow.2 with ⟨rfl, h0⟩ | ⟨g, cap, cur, rfl, _, _, hnc, _⟩
    · simp [Builtin.append_, run_underlying ht, sizeOf, typeInfo, hi, Builtin.lenOf, Builtin.firstCells]
    · simp [Builtin.append_, run_underlying ht, sizeOf, typeInfo, hi, Builtin.lenOf, Builtin.firstCells, hnc, storeCells]
  · have hcells : ∀ j u, (l2.flatMap F.enc)[j]? = some u → w.cell? (ad.add j) = some u := by
      intro j u hu
      rcases Nat.eq_zero_or_pos m with h0 | h0
      · have hl0 : l2 = [] := List.eq_nil_of_length_eq_zero (by omega)
        subst hl0
        simp at hu
      · obtain ⟨b, o, h, _, hc⟩ := hsrc.2.2.2 h0
        have hx := Option.some.inj h
        subst hx
        rw [Addr.add_lit]
        exact hc j u hu
    obtain ⟨v', w', hr, h2, h3, _⟩ := run_append_own (P := Try.prog) w lo t ty e i z F.sz bytes ht hi hz hsz hby hzs hpos v l.length (l.flatMap F.enc) hrow ad m c (l2.flatMap F.enc) (by rw [flatMap_len F.enc F.sz F.len, hm]) hcells hone2 (by unfold maxLen; omega) hb2 hlo
    exact ⟨v', w', hr, hjoin _ _ h2, h3⟩
theorem wp_append_src (hE : ElemOk F t e) (hone : ∀ a, ∀ u ∈ F.enc a, u.oneCell' = true) {o : Oper} {a : Act} {K : Act → World → Prop} {Q : Exit → Act → World → Prop} (s x : Operand)
    (ho : o.op = .call { callee := .builtin .append, args := #[s, x], argTypes := #[t, t] }) {w : World} {lo : Nat} {v : Value} {l : List α} (hs : a.eval s = v) (hrow : RowVal F e w lo v l) (hl : l.length ≤ 16777216)
    {A : Option Addr} {m c : Nat} {l2 : List α} (hx : a.eval x = .slice A m c) (hsrc : RowsIn F w A m l2) (hlo : lo ≤ w.heap.size)
    (h : ∀ v' w', RowVal F e w' lo v' (l ++ l2) → (∀ B, B ≤ lo → B ≤ w.heap.size → Below B w w') → K (a.put o.dst v') w') : o.wp Try.prog a w K Q := by
  obtain ⟨v', w', hr, h2, h3⟩ := run_append_src hE o.type hrow hl (c := c) hsrc hone hlo
  exact wp_of_append s x ho hs hx hr (h v' w' h2 (fun B hB hw => below_grown h3 hw (fun g hg => Nat.le_trans hB (own_block hrow g hg))))
theorem wpList_append_src (hE : ElemOk F t e) (hone : ∀ a, ∀ u ∈ F.enc a, u.oneCell' = true) {ops : Array Oper} {rest : List Oper} {o : Oper} {a : Act} {Q : Exit → Act → World → Prop} (hgd : o.guard = none) (s x : Operand)
    (ho : o.op = .call { callee := .builtin .append, args := #[s, x], argTypes := #[t, t] }) {w : World} {lo : Nat} {v : Value} {l : List α} (hs : a.eval s = v) (hrow : RowVal F e w lo v l) (hl : l.length ≤ 16777216)
    {A : Option Addr} {m c : Nat} {l2 : List α} (hx : a.eval x = .slice A m c) (hsrc : RowsIn F w A m l2) (hlo : lo ≤ w.heap.size)
    (h : ∀ v' w', RowVal F e w' lo v' (l ++ l2) → (∀ B, B ≤ lo → B ≤ w.heap.size → Below B w w') → wpList Try.prog ops Q rest (a.put o.dst v') w') : wpList Try.prog ops Q (o :: rest) a w :=
  wpList_plain hgd fun _ hK => wp_append_src hE hone s x ho hs hrow hl hx hsrc hlo fun v' w' h2 h3 => hK _ _ (h v' w' h2 h3)
/-- A cut of a slice reads as the cut of the list. -/
theorem RowsIn.take {w : World} {A : Option Addr} {n k : Nat} {l : List α} (h : RowsIn F w A n l) (hk : k ≤ n) : RowsIn F w A k (l.take k) := by
  have hlen := h.1
  refine ⟨by simp; omega, by rw [flatMap_len F.enc F.sz F.len, List.length_take, Nat.min_eq_left (by omega)], by have := h.2.2.1; omega, fun hpos => ?_⟩
  obtain ⟨b, o, e, hlt, hc⟩ := h.2.2.2 (by omega)
  refine ⟨b, o, e, hlt, fun j u hu => hc j u ?_⟩
  rw [← hu]
  have h2 : l.flatMap F.enc = (l.take k).flatMap F.enc ++ (l.drop k).flatMap F.enc := by rw [← List.flatMap_append, List.take_append_drop]
  rw [h2, List.getElem?_append_left (List.getElem?_eq_some_iff.1 hu).1]
theorem RowsIn.drop {w : World} {A : Option Addr} {n k cap : Nat} {l : List α} (h : RowsIn F w A n l) (hk : k ≤ n) (hcap : n ≤ cap) :
    RowsIn F w (if cap = k then A else A.map (·.add (k * F.sz))) (n - k) (l.drop k) := by
  have hlen := h.1
  refine ⟨by simp; omega, by rw [flatMap_len F.enc F.sz F.len, List.length_drop, ← hlen], by have := h.2.2.1; omega, fun hpos => ?_⟩
  obtain ⟨b, o, e, hlt, hc⟩ := h.2.2.2 (by omega)
  subst e
  rw [if_neg (by omega)]
  refine ⟨b, o + k * F.sz, by simp [Addr.add_lit], hlt, fun j u hu => ?_⟩
  rw [Nat.add_assoc]
  refine hc _ u ?_
  rw [← hu]
  have h2 : l.flatMap F.enc = (l.take k).flatMap F.enc ++ (l.drop k).flatMap F.enc := by rw [← List.flatMap_append, List.take_append_drop]
  have h3 : ((l.take k).flatMap F.enc).length = k * F.sz := by rw [flatMap_len F.enc F.sz F.len, List.length_take, Nat.min_eq_left (by omega)]
  rw [h2, List.getElem?_append_right (by omega), h3]
  congr 1
  omega
end
section
variable {α : Type} {F : Flat α} {t e : TypeId}
end
section
variable {α : Type} {F : Flat α} {t e : TypeId}
/-- append([]T{}, src...): the copy. -/
theorem wpList_append_copy (hE : ElemOk F t e) (hone : ∀ a, ∀ u ∈ F.enc a, u.oneCell' = true) {ops : Array Oper} {rest : List Oper} {o : Oper} {a : Act} {Q : Exit → Act → World → Prop} (hgd : o.guard = none) (s x : Operand)
    (ho : o.op = .call { callee := .builtin .append, args := #[s, x], argTypes := #[t, t] }) {w : World} {lo : Nat} {v : Value} (hs : a.eval s = v) (hrow : RowVal F e w lo v [])
    {A : Option Addr} {m c : Nat} {l2 : List α} (hx : a.eval x = .slice A m c) (hsrc : RowsIn F w A m l2) (hlo : lo ≤ w.heap.size)
    (h : ∀ A' c' w', OwnRows F e w' lo A' m c' l2 → (∀ B, B ≤ lo → B ≤ w.heap.size → Below B w w') → wpList Try.prog ops Q rest (a.put o.dst (.slice A' m c')) w') : wpList Try.prog ops Q (o :: rest) a w :=
  wpList_append_src hE hone hgd s x ho hs hrow (by simp) hx hsrc hlo (fun v' w' h2 h3 => by
    obtain ⟨A', c', hv, ho'⟩ := h2.form
    rw [List.nil_append] at hv ho'
    rw [hv, ← hsrc.1]
    exact h A' c' w' (by rw [hsrc.1]; exact ho') h3)
end
section
variable {α : Type} {F : Flat α} {t e : TypeId}
/-- The same at a step of a drawn region, with all that is known of the world behind. -/
theorem step_append_rows (hE : ElemOk F t e) (hone : ∀ a, ∀ u ∈ F.enc a, u.oneCell' = true) {ops : Array Oper} {o : Oper} {a : Act} {K : Act → World → Prop} {Q : Exit → Act → World → Prop} {E : Prop} (hgd : o.guard = none) (s x : Operand)
    (ho : o.op = .call { callee := .builtin .append, args := #[s, x], argTypes := #[t, t] }) (w : World) {lo : Nat} {v : Value} {l : List α} (hs : a.eval s = v) (hrow : RowVal F e w lo v l) (hl : l.length ≤ 16777216)
    {A : Option Addr} {m c : Nat} {l2 : List α} (hx : a.eval x = .slice A m c) (hsrc : RowsIn F w A m l2) (hlo : lo ≤ w.heap.size)
    (h : ∀ v' w', RowVal F e w' lo v' (l ++ l2) → w.grownBy w' v.ownBlock → K (a.put o.dst v') w') :
    if Region.wanted o (yielded ops a.tmps) = true then Oper.wp Try.prog o a w K Q else E := by
  have hw : Region.wanted o (yielded ops a.tmps) = true := by simp [Region.wanted, hgd]
  rw [if_pos hw]
  obtain ⟨v', w', hr, h2, h3⟩ := run_append_src hE o.type hrow hl (c := c) hsrc hone hlo
  exact wp_of_append s x ho hs hx hr (h v' w' h2 h3)
theorem RowsIn.far {w w' : World} {g n : Nat} {l : List α} {row : Option Nat} (h : RowsIn F w (some ⟨g, 0, none⟩) n l) (hg : w.grownBy w' row) (hne : some g ≠ row) : RowsIn F w' (some ⟨g, 0, none⟩) n l := by
  refine ⟨h.1, h.2.1, h.2.2.1, fun hpos => ?_⟩
  obtain ⟨b, o, he, hlt, hc⟩ := h.2.2.2 hpos
  have hx := Option.some.inj he
  injection hx with h1 h2
  subst h1 h2
  refine ⟨g, 0, rfl, Nat.lt_of_lt_of_le hlt hg.size, fun j u hu => ?_⟩
  rw [World.cell?_of_block (hg.block g hlt hne)]
  exact hc j u hu
theorem RowVal.drew {w : World} {lo : Nat} {v : Value} {l : List α} (h : RowVal F e w lo v l) : RowVal F e w.drew lo v l := h
theorem RowsIn.drew {w : World} {A : Option Addr} {n : Nat} {l : List α} (h : RowsIn F w A n l) : RowsIn F w.drew A n l := h
theorem RowsIn.nil_ (w : World) (A : Option Addr) : RowsIn F w A 0 [] := ⟨rfl, Sl.nil _ _ _⟩
end
end Go.Proofs.Ytlkolehdikfddaa
