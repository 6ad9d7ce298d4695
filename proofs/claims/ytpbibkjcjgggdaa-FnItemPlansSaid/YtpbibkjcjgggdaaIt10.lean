/- Part 10 of the texts of this claim: The walks of IsCond; Levels of a catalog's items (plain): the edges of bill lines; what the passes come to. -/
import Derived.Test.YtpbibkjcjgggdaaIt7
import Derived.Test.YtpbibkjcjgggdaaIt8
import Derived.Test.YtpbibkjcjgggdaaIt9
import Derived.Test.YtpbibkjcjgggdaaIt5
import Derived.Test.YtpbibkjcjgggdaaIt6
/- The walks of IsCond. -/
namespace Go.Proofs.Ytpbibkjcjgggdaa
open Go.RowKit
def opnds (c : Int) : Int := if c = 0 ∨ c = 1 then 0 else if c = 2 then 1 else if c = 3 ∨ c = 4 then 2 else -1
theorem cn_getD (l : List Cn) (k : Nat) (h : k < l.length) : l.getD k cnNone = l[k] := by
  rw [List.getD_eq_getElem?_getD, List.getElem?_eq_getElem h]; rfl
theorem condTo_step {l : List Cn} {k n m : Nat} (hk : k < l.length) (h : condTo l k = some n) (hn : cnNext n l[k] = some m) (ht : cnText l[k] = true) : condTo l (k + 1) = some m := by
  simp only [condTo]; rw [h, cn_getD _ _ hk]; simp only [hn, ht, if_true]
theorem condTo_next {l : List Cn} {k n : Nat} (hk : k < l.length) (h : condTo l k = some n) (hn : cnNext n l[k] = none) : isCond l = false := by
  refine isCond_at (k := k + 1) (by omega) ?_
  simp only [condTo]; rw [h, cn_getD _ _ hk]; simp only [hn]
theorem condTo_text {l : List Cn} {k n : Nat} (hk : k < l.length) (h : condTo l k = some n) (ht : cnText l[k] = false) : isCond l = false := by
  refine isCond_at (k := k + 1) (by omega) ?_
  simp only [condTo]; rw [h, cn_getD _ _ hk]
  cases hn : cnNext n l[k] with
  | none => simp only [hn]
  | some m => simp only [hn, ht, Bool.false_eq_true, if_false]
theorem isCond_long {l : List Cn} (h : ¬ (l.length : Int) ≤ 30) : isCond l = false := by
  unfold isCond; rw [decide_eq_false (by omega)]; rfl
theorem isCond_end {l : List Cn} {n : Nat} (h : (l.length : Int) ≤ 30) (hc : condTo l l.length = some n) : isCond l = ((n : Int) == 1) := by
  unfold isCond
  rw [decide_eq_true (by omega), hc]
  by_cases h1 : n = 1
  · subst h1; simp
  · rw [decide_eq_false (fun e => h1 (Option.some.inj e)), Bool.true_and]
    symm; rw [beq_eq_false_iff_ne]; omega
theorem cnNext_0 (n : Nat) (x : Cn) (h : x.1 = 0) : cnNext n x = some (n + 1) := by unfold cnNext; rw [if_pos (.inl h)]
theorem cnNext_1 (n : Nat) (x : Cn) (h : x.1 = 1) : cnNext n x = some (n + 1) := by unfold cnNext; rw [if_pos (.inr h)]
theorem cnNext_2 (n : Nat) (x : Cn) (h : x.1 = 2) (hn : 1 ≤ n) : cnNext n x = some n := by unfold cnNext; rw [if_neg (by omega), if_pos h, if_neg (by omega)]
theorem cnNext_2n (n : Nat) (x : Cn) (h : x.1 = 2) (hn : n < 1) : cnNext n x = none := by unfold cnNext; rw [if_neg (by omega), if_pos h, if_pos hn]
theorem cnNext_3 (n : Nat) (x : Cn) (h : x.1 = 3 ∨ x.1 = 4) (hn : 2 ≤ n) : cnNext n x = some (n - 1) := by unfold cnNext; rw [if_neg (by omega), if_neg (by omega), if_pos h, if_neg (by omega)]
theorem cnNext_3n (n : Nat) (x : Cn) (h : x.1 = 3 ∨ x.1 = 4) (hn : n < 2) : cnNext n x = none := by unfold cnNext; rw [if_neg (by omega), if_neg (by omega), if_pos h, if_pos hn]
theorem cnNext_o (n : Nat) (x : Cn) (h0 : x.1 ≠ 0) (h1 : x.1 ≠ 1) (h2 : x.1 ≠ 2) (h3 : x.1 ≠ 3) (h4 : x.1 ≠ 4) : cnNext n x = none := by unfold cnNext; rw [if_neg (by omega), if_neg h2, if_neg (by omega)]
theorem cnText_is (x : Cn) (h : x.1 = 1) : cnText x = (isCode x.2.1 && isCode x.2.2) := by unfold cnText; rw [if_pos h]
theorem cnText_no (x : Cn) (h : x.1 ≠ 1) : cnText x = ((x.2.1.toList == []) && (x.2.2.toList == [])) := by unfold cnText; rw [if_neg h]
set_option maxRecDepth 100000 in
theorem operands_any (c : Int) (w : World) : Calls Try.prog 78 #[.int .i64 c] w fun e w' => e = .returned (.int .i64 (opnds c)) ∧ w = w' := by
  by_cases h0 : c = 0
  · subst h0
    go_enter Try.func78, Try.ntmps78
    go_wp2
    go_ret
    exact ⟨rfl, rfl⟩
  by_cases h1 : c = 1
  · subst h1
    go_enter Try.func78, Try.ntmps78
    go_wp2
    go_ret
    exact ⟨rfl, rfl⟩
  by_cases h2 : c = 2
  · subst h2
    go_enter Try.func78, Try.ntmps78
    go_wp2
    go_ret
    exact ⟨rfl, rfl⟩
  by_cases h3 : c = 3
  · subst h3
    go_enter Try.func78, Try.ntmps78
    go_wp2
    go_ret
    exact ⟨rfl, rfl⟩
  by_cases h4 : c = 4
  · subst h4
    go_enter Try.func78, Try.ntmps78
    go_wp2
    go_ret
    exact ⟨rfl, rfl⟩
  have HO : Hid (opnds c = -1) := by show _ = _; unfold opnds; rw [if_neg (by omega), if_neg h2, if_neg (by omega)]
  have k0 : (c == 0) = false := by simpa using h0
  have k1 : (c == 1) = false := by simpa using h1
  have k2 : (c == 2) = false := by simpa using h2
  have k3 : (c == 3) = false := by simpa using h3
  have k4 : (c == 4) = false := by simpa using h4
  clear h0 h1 h2 h3 h4
  go_enter Try.func78, Try.ntmps78
  go_wp2
  go_ret
  exact ⟨ret_int HO.out.symm, rfl⟩
set_option maxRecDepth 100000 in
set_option maxHeartbeats 4000000 in
theorem specIsCond_any (A : Option Addr) (n c : Nat) (l : List Cn) (w : World) (hl : CondsIn w A n l) (hok : ∀ x ∈ l, okCn x) :
    Calls Try.prog 75 #[.slice A n c] w fun e w' => e = .returned (.bool (isCond l)) ∧ Below w.heap.size w w' := by
  have hn := hl.len
  obtain rfl := hl.1
  have HO := Lib.hid hok
  clear hok
  by_cases h30 : (l.length : Int) ≤ 30
  case neg =>
    have HL := Lib.hid (isCond_long h30)
    go_enter Try.func75, Try.ntmps75
    go_wp2
    refine wp_loop_rounds 1 ?_
    rw [rounds_succ]
    go_wp2
    all_goals
      go_ret
      exact ⟨ret_bool HL.out.symm, Below.refl _ _⟩
  go_enter Try.func75, Try.ntmps75
  go_wp2
  go_loopw [3, 4] (fun m i wr => ∃ k q : Nat, k ≤ l.length ∧ q ≤ k ∧ i = .int .i64 k ∧ m = .int .i64 q ∧ Hid (condTo l k = some q) ∧ Below w.heap.size w wr) (fun _ i _ => l.length - (intOf i).toNat)
  case atStart => exact ⟨0, 0, by omega, by omega, rfl, rfl, rfl, Below.refl _ _⟩
  case round =>
    obtain ⟨k, q, hk, hqk, rfl, rfl, HC, HR⟩ := hrel
    by_cases hlt : k < l.length
    · have hs0 := (HO.out _ (List.getElem_mem hlt)).1
      have hs1 := (HO.out _ (List.getElem_mem hlt)).2
      have hsz := HR.size
      obtain ⟨b, o, rfl, _, hc0, hc1, hc2⟩ := cond_at (hl.keep HR) hlt
      have HA := HR.alloc hsz (.cells #[.int .i64 l[k].1, .string l[k].2.1, .string l[k].2.2] 105)
      by_cases e0 : l[k].1 = 0
      · have k0 : (l[k].1 == 0) = true := by rw [e0]; rfl
        have k1 : (l[k].1 == 1) = false := by rw [e0]; rfl
        have k2 : (l[k].1 == 2) = false := by rw [e0]; rfl
        have k3 : (l[k].1 == 3) = false := by rw [e0]; rfl
        have k4 : (l[k].1 == 4) = false := by rw [e0]; rfl
        have j1 : (l[k].1 != 1) = true := by simp [bne, k1]
        have HT := Lib.hid (cnText_no l[k] (by rw [e0]; decide))
        have HNX := Lib.hid (cnNext_0 q l[k] e0)
        clear e0
        cases a0 : (l[k].2.1.toList == [])
        · have HF := Lib.hid (condTo_text hlt HC.out (HT.out.trans (by rw [a0]; rfl)))
          go_wp2_with (first | (go_at_call 62; refine (specIsCode_any _ _ (by assumption)).mono ?_; rintro e w' ⟨rfl, rfl⟩))
          go_ret
          exact ⟨ret_bool HF.out.symm, HA⟩
        cases a1 : (l[k].2.2.toList == [])
        · have HF := Lib.hid (condTo_text hlt HC.out (HT.out.trans (by rw [a0, a1]; rfl)))
          go_wp2_with (first | (go_at_call 62; refine (specIsCode_any _ _ (by assumption)).mono ?_; rintro e w' ⟨rfl, rfl⟩))
          go_ret
          exact ⟨ret_bool HF.out.symm, HA⟩
        have HE := Lib.hid (condTo_step hlt HC.out HNX.out (HT.out.trans (by rw [a0, a1]; rfl)))
        go_wp2_with (first | (go_at_call 62; refine (specIsCode_any _ _ (by assumption)).mono ?_; rintro e w' ⟨rfl, rfl⟩))
        go_roundw
        case rel => exact ⟨k + 1, q + 1, by omega, by omega, by go_num, by go_num, HE.out, HA⟩
        case measure => simp [intOf]; omega
      by_cases e1 : l[k].1 = 1
      · have k0 : (l[k].1 == 0) = false := by rw [e1]; rfl
        have k1 : (l[k].1 == 1) = true := by rw [e1]; rfl
        have k2 : (l[k].1 == 2) = false := by rw [e1]; rfl
        have k3 : (l[k].1 == 3) = false := by rw [e1]; rfl
        have k4 : (l[k].1 == 4) = false := by rw [e1]; rfl
        have j1 : (l[k].1 != 1) = false := by simp [bne, k1]
        have HT := Lib.hid (cnText_is l[k] e1)
        have HNX := Lib.hid (cnNext_1 q l[k] e1)
        clear e1
        cases a0 : isCode l[k].2.1
        · have HF := Lib.hid (condTo_text hlt HC.out (HT.out.trans (by rw [a0]; rfl)))
          go_wp2_with (first | (go_at_call 62; refine (specIsCode_any _ _ (by assumption)).mono ?_; rintro e w' ⟨rfl, rfl⟩))
          go_ret
          exact ⟨ret_bool HF.out.symm, HA⟩
        cases a1 : isCode l[k].2.2
        · have HF := Lib.hid (condTo_text hlt HC.out (HT.out.trans (by rw [a0, a1]; rfl)))
          go_wp2_with (first | (go_at_call 62; refine (specIsCode_any _ _ (by assumption)).mono ?_; rintro e w' ⟨rfl, rfl⟩))
          go_ret
          exact ⟨ret_bool HF.out.symm, HA⟩
        have HE := Lib.hid (condTo_step hlt HC.out HNX.out (HT.out.trans (by rw [a0, a1]; rfl)))
        go_wp2_with (first | (go_at_call 62; refine (specIsCode_any _ _ (by assumption)).mono ?_; rintro e w' ⟨rfl, rfl⟩))
        go_roundw
        case rel => exact ⟨k + 1, q + 1, by omega, by omega, by go_num, by go_num, HE.out, HA⟩
        case measure => simp [intOf]; omega
      by_cases e2 : l[k].1 = 2
      · have k0 : (l[k].1 == 0) = false := by rw [e2]; rfl
        have k1 : (l[k].1 == 1) = false := by rw [e2]; rfl
        have k2 : (l[k].1 == 2) = true := by rw [e2]; rfl
        have k3 : (l[k].1 == 3) = false := by rw [e2]; rfl
        have k4 : (l[k].1 == 4) = false := by rw [e2]; rfl
        have j1 : (l[k].1 != 1) = true := by simp [bne, k1]
        have HT := Lib.hid (cnText_no l[k] (by rw [e2]; decide))
        by_cases hq : q < 1
        · have HF := Lib.hid (condTo_next hlt HC.out (cnNext_2n q l[k] e2 hq))
          clear e2
          go_wp2_with (first | (go_at_call 62; refine (specIsCode_any _ _ (by assumption)).mono ?_; rintro e w' ⟨rfl, rfl⟩))
          go_ret
          exact ⟨ret_bool HF.out.symm, HA⟩
        have HNX := Lib.hid (cnNext_2 q l[k] e2 (by omega))
        clear e2
        cases a0 : (l[k].2.1.toList == [])
        · have HF := Lib.hid (condTo_text hlt HC.out (HT.out.trans (by rw [a0]; rfl)))
          go_wp2_with (first | (go_at_call 62; refine (specIsCode_any _ _ (by assumption)).mono ?_; rintro e w' ⟨rfl, rfl⟩))
          go_ret
          exact ⟨ret_bool HF.out.symm, HA⟩
        cases a1 : (l[k].2.2.toList == [])
        · have HF := Lib.hid (condTo_text hlt HC.out (HT.out.trans (by rw [a0, a1]; rfl)))
          go_wp2_with (first | (go_at_call 62; refine (specIsCode_any _ _ (by assumption)).mono ?_; rintro e w' ⟨rfl, rfl⟩))
          go_ret
          exact ⟨ret_bool HF.out.symm, HA⟩
        have HE := Lib.hid (condTo_step hlt HC.out HNX.out (HT.out.trans (by rw [a0, a1]; rfl)))
        go_wp2_with (first | (go_at_call 62; refine (specIsCode_any _ _ (by assumption)).mono ?_; rintro e w' ⟨rfl, rfl⟩))
        go_roundw
        case rel => exact ⟨k + 1, q, by omega, by omega, by go_num, by go_num, HE.out, HA⟩
        case measure => simp [intOf]; omega
      by_cases e3 : l[k].1 = 3
      · have k0 : (l[k].1 == 0) = false := by rw [e3]; rfl
        have k1 : (l[k].1 == 1) = false := by rw [e3]; rfl
        have k2 : (l[k].1 == 2) = false := by rw [e3]; rfl
        have k3 : (l[k].1 == 3) = true := by rw [e3]; rfl
        have k4 : (l[k].1 == 4) = false := by rw [e3]; rfl
        have j1 : (l[k].1 != 1) = true := by simp [bne, k1]
        have HT := Lib.hid (cnText_no l[k] (by rw [e3]; decide))
        by_cases hq : q < 2
        · have HF := Lib.hid (condTo_next hlt HC.out (cnNext_3n q l[k] (.inl e3) hq))
          clear e3
          go_wp2_with (first | (go_at_call 62; refine (specIsCode_any _ _ (by assumption)).mono ?_; rintro e w' ⟨rfl, rfl⟩))
          go_ret
          exact ⟨ret_bool HF.out.symm, HA⟩
        have HNX := Lib.hid (cnNext_3 q l[k] (.inl e3) (by omega))
        clear e3
        cases a0 : (l[k].2.1.toList == [])
        · have HF := Lib.hid (condTo_text hlt HC.out (HT.out.trans (by rw [a0]; rfl)))
          go_wp2_with (first | (go_at_call 62; refine (specIsCode_any _ _ (by assumption)).mono ?_; rintro e w' ⟨rfl, rfl⟩))
          go_ret
          exact ⟨ret_bool HF.out.symm, HA⟩
        cases a1 : (l[k].2.2.toList == [])
        · have HF := Lib.hid (condTo_text hlt HC.out (HT.out.trans (by rw [a0, a1]; rfl)))
          go_wp2_with (first | (go_at_call 62; refine (specIsCode_any _ _ (by assumption)).mono ?_; rintro e w' ⟨rfl, rfl⟩))
          go_ret
          exact ⟨ret_bool HF.out.symm, HA⟩
        have HE := Lib.hid (condTo_step hlt HC.out HNX.out (HT.out.trans (by rw [a0, a1]; rfl)))
        go_wp2_with (first | (go_at_call 62; refine (specIsCode_any _ _ (by assumption)).mono ?_; rintro e w' ⟨rfl, rfl⟩))
        go_roundw
        case rel => exact ⟨k + 1, q - 1, by omega, by omega, by go_num, by go_num, HE.out, HA⟩
        case measure => simp [intOf]; omega
      by_cases e4 : l[k].1 = 4
      · have k0 : (l[k].1 == 0) = false := by rw [e4]; rfl
        have k1 : (l[k].1 == 1) = false := by rw [e4]; rfl
        have k2 : (l[k].1 == 2) = false := by rw [e4]; rfl
        have k3 : (l[k].1 == 3) = false := by rw [e4]; rfl
        have k4 : (l[k].1 == 4) = true := by rw [e4]; rfl
        have j1 : (l[k].1 != 1) = true := by simp [bne, k1]
        have HT := Lib.hid (cnText_no l[k] (by rw [e4]; decide))
        by_cases hq : q < 2
        · have HF := Lib.hid (condTo_next hlt HC.out (cnNext_3n q l[k] (.inr e4) hq))
          clear e4
          go_wp2_with (first | (go_at_call 62; refine (specIsCode_any _ _ (by assumption)).mono ?_; rintro e w' ⟨rfl, rfl⟩))
          go_ret
          exact ⟨ret_bool HF.out.symm, HA⟩
        have HNX := Lib.hid (cnNext_3 q l[k] (.inr e4) (by omega))
        clear e4
        cases a0 : (l[k].2.1.toList == [])
        · have HF := Lib.hid (condTo_text hlt HC.out (HT.out.trans (by rw [a0]; rfl)))
          go_wp2_with (first | (go_at_call 62; refine (specIsCode_any _ _ (by assumption)).mono ?_; rintro e w' ⟨rfl, rfl⟩))
          go_ret
          exact ⟨ret_bool HF.out.symm, HA⟩
        cases a1 : (l[k].2.2.toList == [])
        · have HF := Lib.hid (condTo_text hlt HC.out (HT.out.trans (by rw [a0, a1]; rfl)))
          go_wp2_with (first | (go_at_call 62; refine (specIsCode_any _ _ (by assumption)).mono ?_; rintro e w' ⟨rfl, rfl⟩))
          go_ret
          exact ⟨ret_bool HF.out.symm, HA⟩
        have HE := Lib.hid (condTo_step hlt HC.out HNX.out (HT.out.trans (by rw [a0, a1]; rfl)))
        go_wp2_with (first | (go_at_call 62; refine (specIsCode_any _ _ (by assumption)).mono ?_; rintro e w' ⟨rfl, rfl⟩))
        go_roundw
        case rel => exact ⟨k + 1, q - 1, by omega, by omega, by go_num, by go_num, HE.out, HA⟩
        case measure => simp [intOf]; omega
      have k0 : (l[k].1 == 0) = false := by simpa using e0
      have k1 : (l[k].1 == 1) = false := by simpa using e1
      have k2 : (l[k].1 == 2) = false := by simpa using e2
      have k3 : (l[k].1 == 3) = false := by simpa using e3
      have k4 : (l[k].1 == 4) = false := by simpa using e4
      have j1 : (l[k].1 != 1) = true := by simp [bne, k1]
      have HF := Lib.hid (condTo_next hlt HC.out (cnNext_o q l[k] e0 e1 e2 e3 e4))
      clear e0 e1 e2 e3 e4
      go_wp2_with (first | (go_at_call 62; refine (specIsCode_any _ _ (by assumption)).mono ?_; rintro e w' ⟨rfl, rfl⟩))
      go_ret
      exact ⟨ret_bool HF.out.symm, HA⟩
    · obtain rfl : k = l.length := by omega
      have HF := Lib.hid (isCond_end h30 HC.out)
      cases hq1 : ((q : Int) == 1)
      all_goals
        go_wp2
        go_ret
        exact ⟨ret_bool (HF.out.trans hq1).symm, HR⟩
set_option maxRecDepth 100000 in
set_option maxHeartbeats 4000000 in
theorem implIsCond_any (A : Option Addr) (n c : Nat) (l : List Cn) (w : World) (hl : CondsIn w A n l) (hok : ∀ x ∈ l, okCn x) :
    Calls Try.prog 68 #[.slice A n c] w fun e w' => e = .returned (.bool (isCond l)) ∧ Below w.heap.size w w' := by
  have hn := hl.len
  obtain rfl := hl.1
  have HO := Lib.hid hok
  clear hok
  by_cases h30 : (l.length : Int) ≤ 30
  case neg =>
    have HL := Lib.hid (isCond_long h30)
    go_enter Try.func68, Try.ntmps68
    go_wp2
    go_ret
    exact ⟨ret_bool HL.out.symm, Below.refl _ _⟩
  go_enter Try.func68, Try.ntmps68
  go_wp2
  go_loopw [3, 12] (fun m i wr => ∃ k q : Nat, k ≤ l.length ∧ q ≤ k ∧ i = .int .i64 k ∧ m = .int .i64 q ∧ Hid (condTo l k = some q) ∧ Below w.heap.size w wr) (fun _ i _ => l.length - (intOf i).toNat)
  case atStart => exact ⟨0, 0, by omega, by omega, rfl, rfl, rfl, Below.refl _ _⟩
  case round =>
    obtain ⟨k, q, hk, hqk, rfl, rfl, HC, HR⟩ := hrel
    by_cases hlt : k < l.length
    · have hs0 := (HO.out _ (List.getElem_mem hlt)).1
      have hs1 := (HO.out _ (List.getElem_mem hlt)).2
      have hsz := HR.size
      obtain ⟨b, o, rfl, _, hc0, hc1, hc2⟩ := cond_at (hl.keep HR) hlt
      have HA := HR.alloc hsz (.cells #[.int .i64 l[k].1, .string l[k].2.1, .string l[k].2.2] 105)
      by_cases e0 : l[k].1 = 0
      · have k0 : (l[k].1 == 0) = true := by rw [e0]; rfl
        have k1 : (l[k].1 == 1) = false := by rw [e0]; rfl
        have k2 : (l[k].1 == 2) = false := by rw [e0]; rfl
        have k3 : (l[k].1 == 3) = false := by rw [e0]; rfl
        have k4 : (l[k].1 == 4) = false := by rw [e0]; rfl
        have j1 : (l[k].1 != 1) = true := by simp [bne, k1]
        have ho : opnds l[k].1 = 0 := by rw [e0]; rfl
        have HT := Lib.hid (cnText_no l[k] (by rw [e0]; decide))
        have HNX := Lib.hid (cnNext_0 q l[k] e0)
        clear e0
        cases a0 : (l[k].2.1.toList == [])
        · have HF := Lib.hid (condTo_text hlt HC.out (HT.out.trans (by rw [a0]; rfl)))
          go_wp2_with (first | (go_at_call 72; refine (implIsCode_any _ _ (by assumption)).mono ?_; rintro e w' ⟨rfl, rfl⟩) | (go_at_call 78; refine (operands_any _ _).mono ?_; rintro e w' ⟨rfl, rfl⟩; rw [ho]))
          go_ret
          exact ⟨ret_bool HF.out.symm, HA⟩
        cases a1 : (l[k].2.2.toList == [])
        · have HF := Lib.hid (condTo_text hlt HC.out (HT.out.trans (by rw [a0, a1]; rfl)))
          go_wp2_with (first | (go_at_call 72; refine (implIsCode_any _ _ (by assumption)).mono ?_; rintro e w' ⟨rfl, rfl⟩) | (go_at_call 78; refine (operands_any _ _).mono ?_; rintro e w' ⟨rfl, rfl⟩; rw [ho]))
          go_ret
          exact ⟨ret_bool HF.out.symm, HA⟩
        have HE := Lib.hid (condTo_step hlt HC.out HNX.out (HT.out.trans (by rw [a0, a1]; rfl)))
        go_wp2_with (first | (go_at_call 72; refine (implIsCode_any _ _ (by assumption)).mono ?_; rintro e w' ⟨rfl, rfl⟩) | (go_at_call 78; refine (operands_any _ _).mono ?_; rintro e w' ⟨rfl, rfl⟩; rw [ho]))
        go_roundw
        case rel => exact ⟨k + 1, q + 1, by omega, by omega, by go_num, by go_num, HE.out, HA⟩
        case measure => simp [intOf]; omega
      by_cases e1 : l[k].1 = 1
      · have k0 : (l[k].1 == 0) = false := by rw [e1]; rfl
        have k1 : (l[k].1 == 1) = true := by rw [e1]; rfl
        have k2 : (l[k].1 == 2) = false := by rw [e1]; rfl
        have k3 : (l[k].1 == 3) = false := by rw [e1]; rfl
        have k4 : (l[k].1 == 4) = false := by rw [e1]; rfl
        have j1 : (l[k].1 != 1) = false := by simp [bne, k1]
        have ho : opnds l[k].1 = 0 := by rw [e1]; rfl
        have HT := Lib.hid (cnText_is l[k] e1)
        have HNX := Lib.hid (cnNext_1 q l[k] e1)
        clear e1
        cases a0 : isCode l[k].2.1
        · have HF := Lib.hid (condTo_text hlt HC.out (HT.out.trans (by rw [a0]; rfl)))
          go_wp2_with (first | (go_at_call 72; refine (implIsCode_any _ _ (by assumption)).mono ?_; rintro e w' ⟨rfl, rfl⟩) | (go_at_call 78; refine (operands_any _ _).mono ?_; rintro e w' ⟨rfl, rfl⟩; rw [ho]))
          go_ret
          exact ⟨ret_bool HF.out.symm, HA⟩
        cases a1 : isCode l[k].2.2
        · have HF := Lib.hid (condTo_text hlt HC.out (HT.out.trans (by rw [a0, a1]; rfl)))
          go_wp2_with (first | (go_at_call 72; refine (implIsCode_any _ _ (by assumption)).mono ?_; rintro e w' ⟨rfl, rfl⟩) | (go_at_call 78; refine (operands_any _ _).mono ?_; rintro e w' ⟨rfl, rfl⟩; rw [ho]))
          go_ret
          exact ⟨ret_bool HF.out.symm, HA⟩
        have HE := Lib.hid (condTo_step hlt HC.out HNX.out (HT.out.trans (by rw [a0, a1]; rfl)))
        go_wp2_with (first | (go_at_call 72; refine (implIsCode_any _ _ (by assumption)).mono ?_; rintro e w' ⟨rfl, rfl⟩) | (go_at_call 78; refine (operands_any _ _).mono ?_; rintro e w' ⟨rfl, rfl⟩; rw [ho]))
        go_roundw
        case rel => exact ⟨k + 1, q + 1, by omega, by omega, by go_num, by go_num, HE.out, HA⟩
        case measure => simp [intOf]; omega
      by_cases e2 : l[k].1 = 2
      · have k0 : (l[k].1 == 0) = false := by rw [e2]; rfl
        have k1 : (l[k].1 == 1) = false := by rw [e2]; rfl
        have k2 : (l[k].1 == 2) = true := by rw [e2]; rfl
        have k3 : (l[k].1 == 3) = false := by rw [e2]; rfl
        have k4 : (l[k].1 == 4) = false := by rw [e2]; rfl
        have j1 : (l[k].1 != 1) = true := by simp [bne, k1]
        have ho : opnds l[k].1 = 1 := by rw [e2]; rfl
        have HT := Lib.hid (cnText_no l[k] (by rw [e2]; decide))
        by_cases hq : q < 1
        · have HF := Lib.hid (condTo_next hlt HC.out (cnNext_2n q l[k] e2 hq))
          clear e2
          go_wp2_with (first | (go_at_call 72; refine (implIsCode_any _ _ (by assumption)).mono ?_; rintro e w' ⟨rfl, rfl⟩) | (go_at_call 78; refine (operands_any _ _).mono ?_; rintro e w' ⟨rfl, rfl⟩; rw [ho]))
          go_ret
          exact ⟨ret_bool HF.out.symm, HA⟩
        have HNX := Lib.hid (cnNext_2 q l[k] e2 (by omega))
        clear e2
        cases a0 : (l[k].2.1.toList == [])
        · have HF := Lib.hid (condTo_text hlt HC.out (HT.out.trans (by rw [a0]; rfl)))
          go_wp2_with (first | (go_at_call 72; refine (implIsCode_any _ _ (by assumption)).mono ?_; rintro e w' ⟨rfl, rfl⟩) | (go_at_call 78; refine (operands_any _ _).mono ?_; rintro e w' ⟨rfl, rfl⟩; rw [ho]))
          go_ret
          exact ⟨ret_bool HF.out.symm, HA⟩
        cases a1 : (l[k].2.2.toList == [])
        · have HF := Lib.hid (condTo_text hlt HC.out (HT.out.trans (by rw [a0, a1]; rfl)))
          go_wp2_with (first | (go_at_call 72; refine (implIsCode_any _ _ (by assumption)).mono ?_; rintro e w' ⟨rfl, rfl⟩) | (go_at_call 78; refine (operands_any _ _).mono ?_; rintro e w' ⟨rfl, rfl⟩; rw [ho]))
          go_ret
          exact ⟨ret_bool HF.out.symm, HA⟩
        have HE := Lib.hid (condTo_step hlt HC.out HNX.out (HT.out.trans (by rw [a0, a1]; rfl)))
        go_wp2_with (first | (go_at_call 72; refine (implIsCode_any _ _ (by assumption)).mono ?_; rintro e w' ⟨rfl, rfl⟩) | (go_at_call 78; refine (operands_any _ _).mono ?_; rintro e w' ⟨rfl, rfl⟩; rw [ho]))
        go_roundw
        case rel => exact ⟨k + 1, q, by omega, by omega, by go_num, by go_num, HE.out, HA⟩
        case measure => simp [intOf]; omega
      by_cases e3 : l[k].1 = 3
      · have k0 : (l[k].1 == 0) = false := by rw [e3]; rfl
        have k1 : (l[k].1 == 1) = false := by rw [e3]; rfl
        have k2 : (l[k].1 == 2) = false := by rw [e3]; rfl
        have k3 : (l[k].1 == 3) = true := by rw [e3]; rfl
        have k4 : (l[k].1 == 4) = false := by rw [e3]; rfl
        have j1 : (l[k].1 != 1) = true := by simp [bne, k1]
        have ho : opnds l[k].1 = 2 := by rw [e3]; rfl
        have HT := Lib.hid (cnText_no l[k] (by rw [e3]; decide))
        by_cases hq : q < 2
        · have HF := Lib.hid (condTo_next hlt HC.out (cnNext_3n q l[k] (.inl e3) hq))
          clear e3
          go_wp2_with (first | (go_at_call 72; refine (implIsCode_any _ _ (by assumption)).mono ?_; rintro e w' ⟨rfl, rfl⟩) | (go_at_call 78; refine (operands_any _ _).mono ?_; rintro e w' ⟨rfl, rfl⟩; rw [ho]))
          go_ret
          exact ⟨ret_bool HF.out.symm, HA⟩
        have HNX := Lib.hid (cnNext_3 q l[k] (.inl e3) (by omega))
        clear e3
        cases a0 : (l[k].2.1.toList == [])
        · have HF := Lib.hid (condTo_text hlt HC.out (HT.out.trans (by rw [a0]; rfl)))
          go_wp2_with (first | (go_at_call 72; refine (implIsCode_any _ _ (by assumption)).mono ?_; rintro e w' ⟨rfl, rfl⟩) | (go_at_call 78; refine (operands_any _ _).mono ?_; rintro e w' ⟨rfl, rfl⟩; rw [ho]))
          go_ret
          exact ⟨ret_bool HF.out.symm, HA⟩
        cases a1 : (l[k].2.2.toList == [])
        · have HF := Lib.hid (condTo_text hlt HC.out (HT.out.trans (by rw [a0, a1]; rfl)))
          go_wp2_with (first | (go_at_call 72; refine (implIsCode_any _ _ (by assumption)).mono ?_; rintro e w' ⟨rfl, rfl⟩) | (go_at_call 78; refine (operands_any _ _).mono ?_; rintro e w' ⟨rfl, rfl⟩; rw [ho]))
          go_ret
          exact ⟨ret_bool HF.out.symm, HA⟩
        have HE := Lib.hid (condTo_step hlt HC.out HNX.out (HT.out.trans (by rw [a0, a1]; rfl)))
        go_wp2_with (first | (go_at_call 72; refine (implIsCode_any _ _ (by assumption)).mono ?_; rintro e w' ⟨rfl, rfl⟩) | (go_at_call 78; refine (operands_any _ _).mono ?_; rintro e w' ⟨rfl, rfl⟩; rw [ho]))
        go_roundw
        case rel => exact ⟨k + 1, q - 1, by omega, by omega, by go_num, by go_num, HE.out, HA⟩
        case measure => simp [intOf]; omega
      by_cases e4 : l[k].1 = 4
      · have k0 : (l[k].1 == 0) = false := by rw [e4]; rfl
        have k1 : (l[k].1 == 1) = false := by rw [e4]; rfl
        have k2 : (l[k].1 == 2) = false := by rw [e4]; rfl
        have k3 : (l[k].1 == 3) = false := by rw [e4]; rfl
        have k4 : (l[k].1 == 4) = true := by rw [e4]; rfl
        have j1 : (l[k].1 != 1) = true := by simp [bne, k1]
        have ho : opnds l[k].1 = 2 := by rw [e4]; rfl
        have HT := Lib.hid (cnText_no l[k] (by rw [e4]; decide))
        by_cases hq : q < 2
        · have HF := Lib.hid (condTo_next hlt HC.out (cnNext_3n q l[k] (.inr e4) hq))
          clear e4
          go_wp2_with (first | (go_at_call 72; refine (implIsCode_any _ _ (by assumption)).mono ?_; rintro e w' ⟨rfl, rfl⟩) | (go_at_call 78; refine (operands_any _ _).mono ?_; rintro e w' ⟨rfl, rfl⟩; rw [ho]))
          go_ret
          exact ⟨ret_bool HF.out.symm, HA⟩
        have HNX := Lib.hid (cnNext_3 q l[k] (.inr e4) (by omega))
        clear e4
        cases a0 : (l[k].2.1.toList == [])
        · have HF := Lib.hid (condTo_text hlt HC.out (HT.out.trans (by rw [a0]; rfl)))
          go_wp2_with (first | (go_at_call 72; refine (implIsCode_any _ _ (by assumption)).mono ?_; rintro e w' ⟨rfl, rfl⟩) | (go_at_call 78; refine (operands_any _ _).mono ?_; rintro e w' ⟨rfl, rfl⟩; rw [ho]))
          go_ret
          exact ⟨ret_bool HF.out.symm, HA⟩
        cases a1 : (l[k].2.2.toList == [])
        · have HF := Lib.hid (condTo_text hlt HC.out (HT.out.trans (by rw [a0, a1]; rfl)))
          go_wp2_with (first | (go_at_call 72; refine (implIsCode_any _ _ (by assumption)).mono ?_; rintro e w' ⟨rfl, rfl⟩) | (go_at_call 78; refine (operands_any _ _).mono ?_; rintro e w' ⟨rfl, rfl⟩; rw [ho]))
          go_ret
          exact ⟨ret_bool HF.out.symm, HA⟩
        have HE := Lib.hid (condTo_step hlt HC.out HNX.out (HT.out.trans (by rw [a0, a1]; rfl)))
        go_wp2_with (first | (go_at_call 72; refine (implIsCode_any _ _ (by assumption)).mono ?_; rintro e w' ⟨rfl, rfl⟩) | (go_at_call 78; refine (operands_any _ _).mono ?_; rintro e w' ⟨rfl, rfl⟩; rw [ho]))
        go_roundw
        case rel => exact ⟨k + 1, q - 1, by omega, by omega, by go_num, by go_num, HE.out, HA⟩
        case measure => simp [intOf]; omega
      have k0 : (l[k].1 == 0) = false := by simpa using e0
      have k1 : (l[k].1 == 1) = false := by simpa using e1
      have k2 : (l[k].1 == 2) = false := by simpa using e2
      have k3 : (l[k].1 == 3) = false := by simpa using e3
      have k4 : (l[k].1 == 4) = false := by simpa using e4
      have j1 : (l[k].1 != 1) = true := by simp [bne, k1]
      have ho : opnds l[k].1 = -1 := by unfold opnds; rw [if_neg (by omega), if_neg e2, if_neg (by omega)]
      have HF := Lib.hid (condTo_next hlt HC.out (cnNext_o q l[k] e0 e1 e2 e3 e4))
      clear e0 e1 e2 e3 e4
      go_wp2_with (first | (go_at_call 72; refine (implIsCode_any _ _ (by assumption)).mono ?_; rintro e w' ⟨rfl, rfl⟩) | (go_at_call 78; refine (operands_any _ _).mono ?_; rintro e w' ⟨rfl, rfl⟩; rw [ho]))
      go_ret
      exact ⟨ret_bool HF.out.symm, HA⟩
    · obtain rfl : k = l.length := by omega
      have HF := Lib.hid (isCond_end h30 HC.out)
      cases hq1 : ((q : Int) == 1)
      all_goals
        go_wp2
        go_ret
        exact ⟨ret_bool (HF.out.trans hq1).symm, HR⟩
end Go.Proofs.Ytpbibkjcjgggdaa
/- Levels of a catalog's items (plain): the edges of bill lines; what the passes come to. -/
namespace Go.Proofs.Ytpbibkjcjgggdaa
open Go.RowKit
def edges (it : List It) (ls : List Bl) : List (Nat × Nat) := ls.map fun x => ((findIt it x.1).toNat, (findIt it x.2.1).toNat)
def natI (m : List Nat) : List Int := m.map (fun x : Nat => (x : Int))
theorem natI_len (m : List Nat) : (natI m).length = m.length := by simp [natI]
theorem natI_getD (m : List Nat) (i : Nat) : (natI m).getD i 0 = (m.getD i 0 : Int) := by
  unfold natI
  rw [List.getD_eq_getElem?_getD, List.getD_eq_getElem?_getD, List.getElem?_map]
  cases m[i]? <;> rfl
theorem natI_set (m : List Nat) (i x : Nat) : (natI m).set i (x : Int) = natI (m.set i x) := by
  unfold natI; rw [List.map_set]
theorem natI_zero (n : Nat) : natI (List.replicate n 0) = List.replicate n 0 := by unfold natI; rw [List.map_replicate]; rfl
theorem edges_len (it : List It) (ls : List Bl) : (edges it ls).length = ls.length := by simp [edges]
theorem edges_at (it : List It) (ls : List Bl) {k : Nat} (hk : k < ls.length) {p q : Nat} (hp : findIt it ls[k].1 = (p : Int)) (hq : findIt it ls[k].2.1 = (q : Int)) : (edges it ls).getD k (0, 0) = (p, q) := by
  rw [List.getD_eq_getElem?_getD, List.getElem?_eq_getElem (by rw [edges_len]; exact hk)]
  simp only [edges, List.getElem_map, Option.getD_some]
  rw [hp, hq]; rfl
theorem edges_lt {it : List It} {ls : List Bl} (h : ∀ k (hk : k < ls.length), 0 ≤ findIt it ls[k].1 ∧ 0 ≤ findIt it ls[k].2.1) : ∀ k, k < (edges it ls).length → ((edges it ls).getD k (0, 0)).1 < it.length ∧ ((edges it ls).getD k (0, 0)).2 < it.length := by
  intro k hk
  rw [edges_len] at hk
  obtain ⟨h1, h2⟩ := h k hk
  rw [List.getD_eq_getElem?_getD, List.getElem?_eq_getElem (by rw [edges_len]; exact hk)]
  simp only [edges, List.getElem_map, Option.getD_some]
  exact ⟨findIt_lt h1, findIt_lt h2⟩
section
variable {E : List (Nat × Nat)} {n : Nat}
theorem passTo_bd (s : List Nat) (B : Nat) (h : ∀ i, s.getD i 0 ≤ B) (k : Nat) : ∀ i, (passTo E s k).1.getD i 0 ≤ B + k := by
  induction k with
  | zero => exact h
  | succ k ih =>
    intro i
    have h1 := ih i
    have h2 := ih (E.getD k (0, 0)).1
    simp only [passTo]
    split
    · by_cases hd : (E.getD k (0, 0)).2 < (passTo E s k).1.length
      · rw [natD_set _ _ _ _ hd]
        split <;> omega
      · show ((passTo E s k).1.set _ _).getD i 0 ≤ _
        rw [List.set_eq_of_length_le (by omega)]; omega
    · omega
theorem runTo_bd (r : Nat) : ∀ i, (runTo E n r).getD i 0 ≤ r * E.length := by
  induction r with
  | zero =>
    intro i
    simp only [runTo]
    rw [List.getD_eq_getElem?_getD, List.getElem?_replicate]
    split <;> simp
  | succ r ih =>
    intro i
    have := passTo_bd (E := E) (runTo E n r) _ ih E.length i
    simp only [runTo]
    rw [Nat.succ_mul]; exact this
theorem passTo_yes {s : List Nat} {k p q : Nat} (he : E.getD k (0, 0) = (p, q)) (h : (passTo E s k).1.getD q 0 ≤ (passTo E s k).1.getD p 0) : passTo E s (k + 1) = ((passTo E s k).1.set q ((passTo E s k).1.getD p 0 + 1), true) := by
  simp only [passTo, he]; rw [if_pos h]
theorem passTo_no {s : List Nat} {k p q : Nat} (he : E.getD k (0, 0) = (p, q)) (h : ¬ (passTo E s k).1.getD q 0 ≤ (passTo E s k).1.getD p 0) : passTo E s (k + 1) = passTo E s k := by
  simp only [passTo, he]; rw [if_neg h]
theorem turned_stays {r : Nat} (h : turned E n r = false) (d : Nat) : runTo E n (r + d) = runTo E n r ∧ turned E n (r + d) = false := by
  induction d with
  | zero => exact ⟨rfl, h⟩
  | succ d ih =>
    obtain ⟨h1, h2⟩ := ih
    have h3 : runTo E n (r + (d + 1)) = runTo E n (r + d) := (pass_rest (E := E) (runTo E n (r + d)) E.length (Nat.le_refl _) h2).1
    refine ⟨h3.trans h1, ?_⟩
    unfold turned
    rw [h3]; exact h2
/-- The levels; none if some way never ends. -/
def levI (E : List (Nat × Nat)) (n : Nat) : List Int := if turned E n n = true then [] else natI (runTo E n n)
theorem levI_none (h : turned E n n = true) : levI E n = [] := by unfold levI; rw [if_pos h]
theorem levI_some (h : turned E n n = false) : levI E n = natI (runTo E n n) := by unfold levI; rw [if_neg (by rw [h]; decide)]
theorem levI_stop (hE : ∀ k, k < E.length → (E.getD k (0, 0)).1 < n ∧ (E.getD k (0, 0)).2 < n) {r : Nat} (hr : r ≤ n + 1) (h : turned E n r = false) : turned E n n = false ∧ levI E n = natI (runTo E n (r + 1)) := by
  have hn : turned E n n = false ∧ runTo E n (r + 1) = runTo E n n := by
    by_cases h1 : r ≤ n
    · have h2 := turned_stays h (n - r)
      rw [show r + (n - r) = n by omega] at h2
      exact ⟨h2.2, (turned_stays h 1).1.trans h2.1.symm⟩
    · obtain rfl : r = n + 1 := by omega
      have h2 := turned_one hE h
      exact ⟨h2, (turned_stays h2 2).1⟩
  exact ⟨hn.1, by rw [levI_some hn.1, hn.2]⟩
theorem turned_pos (hE : ∀ k, k < E.length → (E.getD k (0, 0)).1 < n ∧ (E.getD k (0, 0)).2 < n) {r : Nat} (h : turned E n r = true) : 0 < n := by
  rcases Nat.eq_zero_or_pos E.length with h1 | h1
  · exfalso
    unfold turned at h
    rw [h1] at h
    simp [passTo] at h
  · have := hE 0 h1; omega
theorem levI_len : (levI E n).length = if turned E n n = true then 0 else n := by
  unfold levI
  split
  · rfl
  · rw [natI_len, runTo_len]
end
theorem NumRow.cellN {w : World} {lo g n c : Nat} {l : List Int} (h : NumRow w lo g n c l) {j : Nat} (hj : j < n) : w.cell? ⟨g, j, none⟩ = some (.int .i64 (l.getD j 0)) := by
  rw [h.cell (by rw [h.len]; exact hj), List.getD_eq_getElem?_getD, List.getElem?_eq_getElem (by rw [h.len]; exact hj)]; rfl
theorem NumRow.ownI {w : World} {lo g n c : Nat} {l : List Int} (h : NumRow w lo g n c l) : OwnInts w lo (some ⟨g, 0, none⟩) n c l := h
theorem ownI_nil (w : World) (lo : Nat) : OwnInts w lo none 0 0 [] := ⟨rfl, World.ownsRow_nil _ _ _ _⟩
theorem natD_at (m : List Nat) (i : Nat) : (natI m).getD i 0 = ((m.getD i 0 : Nat) : Int) := natI_getD m i
end Go.Proofs.Ytpbibkjcjgggdaa
