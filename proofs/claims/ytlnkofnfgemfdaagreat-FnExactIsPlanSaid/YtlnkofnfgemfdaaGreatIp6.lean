/- Part 6 of the texts of this claim: The walks of IsCond; Rows of numbers of the call's own: made whole, read, written one by one. -/
import Derived.Test.YtlnkofnfgemfdaaGreatIp2
import Derived.Test.YtlnkofnfgemfdaaGreatIp3
import Derived.OwnWalk
/- The walks of IsCond. -/
namespace Go.Proofs.YtlnkofnfgemfdaaGreat
open Go.RowKit
def opnds (c : Int) : Int := if c = 0 ∨ c = 1 then 0 else if c = 2 then 1 else if c = 3 ∨ c = 4 then 2 else -1
theorem cn_getD (l : List Cn) (k : Nat) (h : k < l.length) : l.getD k cnNone = l[k] := by
  rw [List.getD_eq_getElem?_getD, List.getElem?_eq_getElem h]; rfl
theorem condTo_step {l : List Cn} {k n m : Nat} (hk : k < l.length) (h : condTo l k = some n) (hn : cnNext n l[k] = some m) (ht : cnText l[k] = true) : condTo l (k + 1) = some m := by
  simp only [condTo]; rw [h, cn_getD _ _ hk]; simp only [hn, ht, if_true]
theorem condTo_next {l : List Cn} {k n : Nat} (hk : k < l.length) (h : condTo l k = some n) (hn : cnNext n l[k] = none) : isCond l = false := by
  refine isCond_at (k := k + 1) (by omega) ?_
  simp only [condTo]; rw [h, cn_getD _ _ hk]; simp only [hn]
theorem condTo_text {l : List Cn} {k n : Nat} (hk : k < l.length) (h : condTo l k = some n) (ht : cnText l[k] = false) : isCond l = false := by
  refine isCond_at (k := k + 1) (by omega) ?_
  simp only [condTo]; rw [h, cn_getD _ _ hk]
  cases hn : cnNext n l[k] with
  | none => simp only [hn]
  | some m => simp only [hn, ht, Bool.false_eq_true, if_false]
theorem isCond_long {l : List Cn} (h : ¬ (l.length : Int) ≤ 30) : isCond l = false := by
  unfold isCond; rw [decide_eq_false (by omega)]; rfl
theorem isCond_end {l : List Cn} {n : Nat} (h : (l.length : Int) ≤ 30) (hc : condTo l l.length = some n) : isCond l = ((n : Int) == 1) := by
  unfold isCond
  rw [decide_eq_true (by omega), hc]
  by_cases h1 : n = 1
  · subst h1; simp
  · rw [decide_eq_false (fun e => h1 (Option.some.inj e)), Bool.true_and]
    symm; rw [beq_eq_false_iff_ne]; omega
theorem cnNext_0 (n : Nat) (x : Cn) (h : x.1 = 0) : cnNext n x = some (n + 1) := by unfold cnNext; rw [if_pos (.inl h)]
theorem cnNext_1 (n : Nat) (x : Cn) (h : x.1 = 1) : cnNext n x = some (n + 1) := by unfold cnNext; rw [if_pos (.inr h)]
theorem cnNext_2 (n : Nat) (x : Cn) (h : x.1 = 2) (hn : 1 ≤ n) : cnNext n x = some n := by unfold cnNext; rw [if_neg (by omega), if_pos h, if_neg (by omega)]
theorem cnNext_2n (n : Nat) (x : Cn) (h : x.1 = 2) (hn : n < 1) : cnNext n x = none := by unfold cnNext; rw [if_neg (by omega), if_pos h, if_pos hn]
theorem cnNext_3 (n : Nat) (x : Cn) (h : x.1 = 3 ∨ x.1 = 4) (hn : 2 ≤ n) : cnNext n x = some (n - 1) := by unfold cnNext; rw [if_neg (by omega), if_neg (by omega), if_pos h, if_neg (by omega)]
theorem cnNext_3n (n : Nat) (x : Cn) (h : x.1 = 3 ∨ x.1 = 4) (hn : n < 2) : cnNext n x = none := by unfold cnNext; rw [if_neg (by omega), if_neg (by omega), if_pos h, if_pos hn]
theorem cnNext_o (n : Nat) (x : Cn) (h0 : x.1 ≠ 0) (h1 : x.1 ≠ 1) (h2 : x.1 ≠ 2) (h3 : x.1 ≠ 3) (h4 : x.1 ≠ 4) : cnNext n x = none := by unfold cnNext; rw [if_neg (by omega), if_neg h2, if_neg (by omega)]
theorem cnText_is (x : Cn) (h : x.1 = 1) : cnText x = (isCode x.2.1 && isCode x.2.2) := by unfold cnText; rw [if_pos h]
theorem cnText_no (x : Cn) (h : x.1 ≠ 1) : cnText x = ((x.2.1.toList == []) && (x.2.2.toList == [])) := by unfold cnText; rw [if_neg h]
set_option maxRecDepth 100000 in
theorem operands_any (c : Int) (w : World) : Calls Tryz.prog 162 #[.int .i64 c] w fun e w' => e = .returned (.int .i64 (opnds c)) ∧ w = w' := by
  by_cases h0 : c = 0
  · subst h0
    go_enter Tryz.func162, Tryz.ntmps162
    go_wp2
    go_ret
    exact ⟨rfl, rfl⟩
  by_cases h1 : c = 1
  · subst h1
    go_enter Tryz.func162, Tryz.ntmps162
    go_wp2
    go_ret
    exact ⟨rfl, rfl⟩
  by_cases h2 : c = 2
  · subst h2
    go_enter Tryz.func162, Tryz.ntmps162
    go_wp2
    go_ret
    exact ⟨rfl, rfl⟩
  by_cases h3 : c = 3
  · subst h3
    go_enter Tryz.func162, Tryz.ntmps162
    go_wp2
    go_ret
    exact ⟨rfl, rfl⟩
  by_cases h4 : c = 4
  · subst h4
    go_enter Tryz.func162, Tryz.ntmps162
    go_wp2
    go_ret
    exact ⟨rfl, rfl⟩
  have HO : Hid (opnds c = -1) := by show _ = _; unfold opnds; rw [if_neg (by omega), if_neg h2, if_neg (by omega)]
  have k0 : (c == 0) = false := by simpa using h0
  have k1 : (c == 1) = false := by simpa using h1
  have k2 : (c == 2) = false := by simpa using h2
  have k3 : (c == 3) = false := by simpa using h3
  have k4 : (c == 4) = false := by simpa using h4
  clear h0 h1 h2 h3 h4
  go_enter Tryz.func162, Tryz.ntmps162
  go_wp2
  go_ret
  exact ⟨ret_int HO.out.symm, rfl⟩
set_option maxRecDepth 100000 in
set_option maxHeartbeats 4000000 in
theorem specIsCond_any (A : Option Addr) (n c : Nat) (l : List Cn) (w : World) (hl : CondsIn w A n l) (hok : ∀ x ∈ l, okCn x) :
    Calls Tryz.prog 143 #[.slice A n c] w fun e w' => e = .returned (.bool (isCond l)) ∧ Below w.heap.size w w' := by
  have hn := hl.len
  obtain rfl := hl.1
  have HO := Lib.hid hok
  clear hok
  by_cases h30 : (l.length : Int) ≤ 30
  case neg =>
    have HL := Lib.hid (isCond_long h30)
    go_enter Tryz.func143, Tryz.ntmps143
    go_wp2
    refine wp_loop_rounds 1 ?_
    rw [rounds_succ]
    go_wp2
    all_goals
      go_ret
      exact ⟨ret_bool HL.out.symm, Below.refl _ _⟩
  go_enter Tryz.func143, Tryz.ntmps143
  go_wp2
  go_loopw [3, 4] (fun m i wr => ∃ k q : Nat, k ≤ l.length ∧ q ≤ k ∧ i = .int .i64 k ∧ m = .int .i64 q ∧ Hid (condTo l k = some q) ∧ Below w.heap.size w wr) (fun _ i _ => l.length - (intOf i).toNat)
  case atStart => exact ⟨0, 0, by omega, by omega, rfl, rfl, rfl, Below.refl _ _⟩
  case round =>
    obtain ⟨k, q, hk, hqk, rfl, rfl, HC, HR⟩ := hrel
    by_cases hlt : k < l.length
    · have hs0 := (HO.out _ (List.getElem_mem hlt)).1
      have hs1 := (HO.out _ (List.getElem_mem hlt)).2
      have hsz := HR.size
      obtain ⟨b, o, rfl, _, hc0, hc1, hc2⟩ := cond_at (hl.keep HR) hlt
      have HA := HR.alloc hsz (.cells #[.int .i64 l[k].1, .string l[k].2.1, .string l[k].2.2] 201)
      by_cases e0 : l[k].1 = 0
      · have k0 : (l[k].1 == 0) = true := by rw [e0]; rfl
        have k1 : (l[k].1 == 1) = false := by rw [e0]; rfl
        have k2 : (l[k].1 == 2) = false := by rw [e0]; rfl
        have k3 : (l[k].1 == 3) = false := by rw [e0]; rfl
        have k4 : (l[k].1 == 4) = false := by rw [e0]; rfl
        have j1 : (l[k].1 != 1) = true := by simp [bne, k1]
        have HT := Lib.hid (cnText_no l[k] (by rw [e0]; decide))
        have HNX := Lib.hid (cnNext_0 q l[k] e0)
        clear e0
        cases a0 : (l[k].2.1.toList == [])
        · have HF := Lib.hid (condTo_text hlt HC.out (HT.out.trans (by rw [a0]; rfl)))
          go_wp2_with (first | (go_at_call 134; refine (specIsCode_any _ _ (by assumption)).mono ?_; rintro e w' ⟨rfl, rfl⟩))
          go_ret
          exact ⟨ret_bool HF.out.symm, HA⟩
        cases a1 : (l[k].2.2.toList == [])
        · have HF := Lib.hid (condTo_text hlt HC.out (HT.out.trans (by rw [a0, a1]; rfl)))
          go_wp2_with (first | (go_at_call 134; refine (specIsCode_any _ _ (by assumption)).mono ?_; rintro e w' ⟨rfl, rfl⟩))
          go_ret
          exact ⟨ret_bool HF.out.symm, HA⟩
        have HE := Lib.hid (condTo_step hlt HC.out HNX.out (HT.out.trans (by rw [a0, a1]; rfl)))
        go_wp2_with (first | (go_at_call 134; refine (specIsCode_any _ _ (by assumption)).mono ?_; rintro e w' ⟨rfl, rfl⟩))
        go_roundw
        case rel => exact ⟨k + 1, q + 1, by omega, by omega, by go_num, by go_num, HE.out, HA⟩
        case measure => simp [intOf]; omega
      by_cases e1 : l[k].1 = 1
      · have k0 : (l[k].1 == 0) = false := by rw [e1]; rfl
        have k1 : (l[k].1 == 1) = true := by rw [e1]; rfl
        have k2 : (l[k].1 == 2) = false := by rw [e1]; rfl
        have k3 : (l[k].1 == 3) = false := by rw [e1]; rfl
        have k4 : (l[k].1 == 4) = false := by rw [e1]; rfl
        have j1 : (l[k].1 != 1) = false := by simp [bne, k1]
        have HT := Lib.hid (cnText_is l[k] e1)
        have HNX := Lib.hid (cnNext_1 q l[k] e1)
        clear e1
        cases a0 : isCode l[k].2.1
        · have HF := Lib.hid (condTo_text hlt HC.out (HT.out.trans (by rw [a0]; rfl)))
          go_wp2_with (first | (go_at_call 134; refine (specIsCode_any _ _ (by assumption)).mono ?_; rintro e w' ⟨rfl, rfl⟩))
          go_ret
          exact ⟨ret_bool HF.out.symm, HA⟩
        cases a1 : isCode l[k].2.2
        · have HF := Lib.hid (condTo_text hlt HC.out (HT.out.trans (by rw [a0, a1]; rfl)))
          go_wp2_with (first | (go_at_call 134; refine (specIsCode_any _ _ (by assumption)).mono ?_; rintro e w' ⟨rfl, rfl⟩))
          go_ret
          exact ⟨ret_bool HF.out.symm, HA⟩
        have HE := Lib.hid (condTo_step hlt HC.out HNX.out (HT.out.trans (by rw [a0, a1]; rfl)))
        go_wp2_with (first | (go_at_call 134; refine (specIsCode_any _ _ (by assumption)).mono ?_; rintro e w' ⟨rfl, rfl⟩))
        go_roundw
        case rel => exact ⟨k + 1, q + 1, by omega, by omega, by go_num, by go_num, HE.out, HA⟩
        case measure => simp [intOf]; omega
      by_cases e2 : l[k].1 = 2
      · have k0 : (l[k].1 == 0) = false := by rw [e2]; rfl
        have k1 : (l[k].1 == 1) = false := by rw [e2]; rfl
        have k2 : (l[k].1 == 2) = true := by rw [e2]; rfl
        have k3 : (l[k].1 == 3) = false := by rw [e2]; rfl
        have k4 : (l[k].1 == 4) = false := by rw [e2]; rfl
        have j1 : (l[k].1 != 1) = true := by simp [bne, k1]
        have HT := Lib.hid (cnText_no l[k] (by rw [e2]; decide))
        by_cases hq : q < 1
        · have HF := Lib.hid (condTo_next hlt HC.out (cnNext_2n q l[k] e2 hq))
          clear e2
          go_wp2_with (first | (go_at_call 134; refine (specIsCode_any _ _ (by assumption)).mono ?_; rintro e w' ⟨rfl, rfl⟩))
          go_ret
          exact ⟨ret_bool HF.out.symm, HA⟩
        have HNX := Lib.hid (cnNext_2 q l[k] e2 (by omega))
        clear e2
        cases a0 : (l[k].2.1.toList == [])
        · have HF := Lib.hid (condTo_text hlt HC.out (HT.out.trans (by rw [a0]; rfl)))
          go_wp2_with (first | (go_at_call 134; refine (specIsCode_any _ _ (by assumption)).mono ?_; rintro e w' ⟨rfl, rfl⟩))
          go_ret
          exact ⟨ret_bool HF.out.symm, HA⟩
        cases a1 : (l[k].2.2.toList == [])
        · have HF := Lib.hid (condTo_text hlt HC.out (HT.out.trans (by rw [a0, a1]; rfl)))
          go_wp2_with (first | (go_at_call 134; refine (specIsCode_any _ _ (by assumption)).mono ?_; rintro e w' ⟨rfl, rfl⟩))
          go_ret
          exact ⟨ret_bool HF.out.symm, HA⟩
        have HE := Lib.hid (condTo_step hlt HC.out HNX.out (HT.out.trans (by rw [a0, a1]; rfl)))
        go_wp2_with (first | (go_at_call 134; refine (specIsCode_any _ _ (by assumption)).mono ?_; rintro e w' ⟨rfl, rfl⟩))
        go_roundw
        case rel => exact ⟨k + 1, q, by omega, by omega, by go_num, by go_num, HE.out, HA⟩
        case measure => simp [intOf]; omega
      by_cases e3 : l[k].1 = 3
      · have k0 : (l[k].1 == 0) = false := by rw [e3]; rfl
        have k1 : (l[k].1 == 1) = false := by rw [e3]; rfl
        have k2 : (l[k].1 == 2) = false := by rw [e3]; rfl
        have k3 : (l[k].1 == 3) = true := by rw [e3]; rfl
        have k4 : (l[k].1 == 4) = false := by rw [e3]; rfl
        have j1 : (l[k].1 != 1) = true := by simp [bne, k1]
        have HT := Lib.hid (cnText_no l[k] (by rw [e3]; decide))
        by_cases hq : q < 2
        · have HF := Lib.hid (condTo_next hlt HC.out (cnNext_3n q l[k] (.inl e3) hq))
          clear e3
          go_wp2_with (first | (go_at_call 134; refine (specIsCode_any _ _ (by assumption)).mono ?_; rintro e w' ⟨rfl, rfl⟩))
          go_ret
          exact ⟨ret_bool HF.out.symm, HA⟩
        have HNX := Lib.hid (cnNext_3 q l[k] (.inl e3) (by omega))
        clear e3
        cases a0 : (l[k].2.1.toList == [])
        · have HF := Lib.hid (condTo_text hlt HC.out (HT.out.trans (by rw [a0]; rfl)))
          go_wp2_with (first | (go_at_call 134; refine (specIsCode_any _ _ (by assumption)).mono ?_; rintro e w' ⟨rfl, rfl⟩))
          go_ret
          exact ⟨ret_bool HF.out.symm, HA⟩
        cases a1 : (l[k].2.2.toList == [])
        · have HF := Lib.hid (condTo_text hlt HC.out (HT.out.trans (by rw [a0, a1]; rfl)))
          go_wp2_with (first | (go_at_call 134; refine (specIsCode_any _ _ (by assumption)).mono ?_; rintro e w' ⟨rfl, rfl⟩))
          go_ret
          exact ⟨ret_bool HF.out.symm, HA⟩
        have HE := Lib.hid (condTo_step hlt HC.out HNX.out (HT.out.trans (by rw [a0, a1]; rfl)))
        go_wp2_with (first | (go_at_call 134; refine (specIsCode_any _ _ (by assumption)).mono ?_; rintro e w' ⟨rfl, rfl⟩))
        go_roundw
        case rel => exact ⟨k + 1, q - 1, by omega, by omega, by go_num, by go_num, HE.out, HA⟩
        case measure => simp [intOf]; omega
      by_cases e4 : l[k].1 = 4
      · have k0 : (l[k].1 == 0) = false := by rw [e4]; rfl
        have k1 : (l[k].1 == 1) = false := by rw [e4]; rfl
        have k2 : (l[k].1 == 2) = false := by rw [e4]; rfl
        have k3 : (l[k].1 == 3) = false := by rw [e4]; rfl
        have k4 : (l[k].1 == 4) = true := by rw [e4]; rfl
        have j1 : (l[k].1 != 1) = true := by simp [bne, k1]
        have HT := Lib.hid (cnText_no l[k] (by rw [e4]; decide))
        by_cases hq : q < 2
        · have HF := Lib.hid (condTo_next hlt HC.out (cnNext_3n q l[k] (.inr e4) hq))
          clear e4
          go_wp2_with (first | (go_at_call 134; refine (specIsCode_any _ _ (by assumption)).mono ?_; rintro e w' ⟨rfl, rfl⟩))
          go_ret
          exact ⟨ret_bool HF.out.symm, HA⟩
        have HNX := Lib.hid (cnNext_3 q l[k] (.inr e4) (by omega))
        clear e4
        cases a0 : (l[k].2.1.toList == [])
        · have HF := Lib.hid (condTo_text hlt HC.out (HT.out.trans (by rw [a0]; rfl)))
          go_wp2_with (first | (go_at_call 134; refine (specIsCode_any _ _ (by assumption)).mono ?_; rintro e w' ⟨rfl, rfl⟩))
          go_ret
          exact ⟨ret_bool HF.out.symm, HA⟩
        cases a1 : (l[k].2.2.toList == [])
        · have HF := Lib.hid (condTo_text hlt HC.out (HT.out.trans (by rw [a0, a1]; rfl)))
          go_wp2_with (first | (go_at_call 134; refine (specIsCode_any _ _ (by assumption)).mono ?_; rintro e w' ⟨rfl, rfl⟩))
          go_ret
          exact ⟨ret_bool HF.out.symm, HA⟩
        have HE := Lib.hid (condTo_step hlt HC.out HNX.out (HT.out.trans (by rw [a0, a1]; rfl)))
        go_wp2_with (first | (go_at_call 134; refine (specIsCode_any _ _ (by assumption)).mono ?_; rintro e w' ⟨rfl, rfl⟩))
        go_roundw
        case rel => exact ⟨k + 1, q - 1, by omega, by omega, by go_num, by go_num, HE.out, HA⟩
        case measure => simp [intOf]; omega
      have k0 : (l[k].1 == 0) = false := by simpa using e0
      have k1 : (l[k].1 == 1) = false := by simpa using e1
      have k2 : (l[k].1 == 2) = false := by simpa using e2
      have k3 : (l[k].1 == 3) = false := by simpa using e3
      have k4 : (l[k].1 == 4) = false := by simpa using e4
      have j1 : (l[k].1 != 1) = true := by simp [bne, k1]
      have HF := Lib.hid (condTo_next hlt HC.out (cnNext_o q l[k] e0 e1 e2 e3 e4))
      clear e0 e1 e2 e3 e4
      go_wp2_with (first | (go_at_call 134; refine (specIsCode_any _ _ (by assumption)).mono ?_; rintro e w' ⟨rfl, rfl⟩))
      go_ret
      exact ⟨ret_bool HF.out.symm, HA⟩
    · obtain rfl : k = l.length := by omega
      have HF := Lib.hid (isCond_end h30 HC.out)
      cases hq1 : ((q : Int) == 1)
      all_goals
        go_wp2
        go_ret
        exact ⟨ret_bool (HF.out.trans hq1).symm, HR⟩
set_option maxRecDepth 100000 in
set_option maxHeartbeats 4000000 in
theorem implIsCond_any (A : Option Addr) (n c : Nat) (l : List Cn) (w : World) (hl : CondsIn w A n l) (hok : ∀ x ∈ l, okCn x) :
    Calls Tryz.prog 148 #[.slice A n c] w fun e w' => e = .returned (.bool (isCond l)) ∧ Below w.heap.size w w' := by
  have hn := hl.len
  obtain rfl := hl.1
  have HO := Lib.hid hok
  clear hok
  by_cases h30 : (l.length : Int) ≤ 30
  case neg =>
    have HL := Lib.hid (isCond_long h30)
    go_enter Tryz.func148, Tryz.ntmps148
    go_wp2
    go_ret
    exact ⟨ret_bool HL.out.symm, Below.refl _ _⟩
  go_enter Tryz.func148, Tryz.ntmps148
  go_wp2
  go_loopw [3, 12] (fun m i wr => ∃ k q : Nat, k ≤ l.length ∧ q ≤ k ∧ i = .int .i64 k ∧ m = .int .i64 q ∧ Hid (condTo l k = some q) ∧ Below w.heap.size w wr) (fun _ i _ => l.length - (intOf i).toNat)
  case atStart => exact ⟨0, 0, by omega, by omega, rfl, rfl, rfl, Below.refl _ _⟩
  case round =>
    obtain ⟨k, q, hk, hqk, rfl, rfl, HC, HR⟩ := hrel
    by_cases hlt : k < l.length
    · have hs0 := (HO.out _ (List.getElem_mem hlt)).1
      have hs1 := (HO.out _ (List.getElem_mem hlt)).2
      have hsz := HR.size
      obtain ⟨b, o, rfl, _, hc0, hc1, hc2⟩ := cond_at (hl.keep HR) hlt
      have HA := HR.alloc hsz (.cells #[.int .i64 l[k].1, .string l[k].2.1, .string l[k].2.2] 201)
      by_cases e0 : l[k].1 = 0
      · have k0 : (l[k].1 == 0) = true := by rw [e0]; rfl
        have k1 : (l[k].1 == 1) = false := by rw [e0]; rfl
        have k2 : (l[k].1 == 2) = false := by rw [e0]; rfl
        have k3 : (l[k].1 == 3) = false := by rw [e0]; rfl
        have k4 : (l[k].1 == 4) = false := by rw [e0]; rfl
        have j1 : (l[k].1 != 1) = true := by simp [bne, k1]
        have ho : opnds l[k].1 = 0 := by rw [e0]; rfl
        have HT := Lib.hid (cnText_no l[k] (by rw [e0]; decide))
        have HNX := Lib.hid (cnNext_0 q l[k] e0)
        clear e0
        cases a0 : (l[k].2.1.toList == [])
        · have HF := Lib.hid (condTo_text hlt HC.out (HT.out.trans (by rw [a0]; rfl)))
          go_wp2_with (first | (go_at_call 137; refine (implIsCode_any _ _ (by assumption)).mono ?_; rintro e w' ⟨rfl, rfl⟩) | (go_at_call 162; refine (operands_any _ _).mono ?_; rintro e w' ⟨rfl, rfl⟩; rw [ho]))
          go_ret
          exact ⟨ret_bool HF.out.symm, HA⟩
        cases a1 : (l[k].2.2.toList == [])
        · have HF := Lib.hid (condTo_text hlt HC.out (HT.out.trans (by rw [a0, a1]; rfl)))
          go_wp2_with (first | (go_at_call 137; refine (implIsCode_any _ _ (by assumption)).mono ?_; rintro e w' ⟨rfl, rfl⟩) | (go_at_call 162; refine (operands_any _ _).mono ?_; rintro e w' ⟨rfl, rfl⟩; rw [ho]))
          go_ret
          exact ⟨ret_bool HF.out.symm, HA⟩
        have HE := Lib.hid (condTo_step hlt HC.out HNX.out (HT.out.trans (by rw [a0, a1]; rfl)))
        go_wp2_with (first | (go_at_call 137; refine (implIsCode_any _ _ (by assumption)).mono ?_; rintro e w' ⟨rfl, rfl⟩) | (go_at_call 162; refine (operands_any _ _).mono ?_; rintro e w' ⟨rfl, rfl⟩; rw [ho]))
        go_roundw
        case rel => exact ⟨k + 1, q + 1, by omega, by omega, by go_num, by go_num, HE.out, HA⟩
        case measure => simp [intOf]; omega
      by_cases e1 : l[k].1 = 1
      · have k0 : (l[k].1 == 0) = false := by rw [e1]; rfl
        have k1 : (l[k].1 == 1) = true := by rw [e1]; rfl
        have k2 : (l[k].1 == 2) = false := by rw [e1]; rfl
        have k3 : (l[k].1 == 3) = false := by rw [e1]; rfl
        have k4 : (l[k].1 == 4) = false := by rw [e1]; rfl
        have j1 : (l[k].1 != 1) = false := by simp [bne, k1]
        have ho : opnds l[k].1 = 0 := by rw [e1]; rfl
        have HT := Lib.hid (cnText_is l[k] e1)
        have HNX := Lib.hid (cnNext_1 q l[k] e1)
        clear e1
        cases a0 : isCode l[k].2.1
        · have HF := Lib.hid (condTo_text hlt HC.out (HT.out.trans (by rw [a0]; rfl)))
          go_wp2_with (first | (go_at_call 137; refine (implIsCode_any _ _ (by assumption)).mono ?_; rintro e w' ⟨rfl, rfl⟩) | (go_at_call 162; refine (operands_any _ _).mono ?_; rintro e w' ⟨rfl, rfl⟩; rw [ho]))
          go_ret
          exact ⟨ret_bool HF.out.symm, HA⟩
        cases a1 : isCode l[k].2.2
        · have HF := Lib.hid (condTo_text hlt HC.out (HT.out.trans (by rw [a0, a1]; rfl)))
          go_wp2_with (first | (go_at_call 137; refine (implIsCode_any _ _ (by assumption)).mono ?_; rintro e w' ⟨rfl, rfl⟩) | (go_at_call 162; refine (operands_any _ _).mono ?_; rintro e w' ⟨rfl, rfl⟩; rw [ho]))
          go_ret
          exact ⟨ret_bool HF.out.symm, HA⟩
        have HE := Lib.hid (condTo_step hlt HC.out HNX.out (HT.out.trans (by rw [a0, a1]; rfl)))
        go_wp2_with (first | (go_at_call 137; refine (implIsCode_any _ _ (by assumption)).mono ?_; rintro e w' ⟨rfl, rfl⟩) | (go_at_call 162; refine (operands_any _ _).mono ?_; rintro e w' ⟨rfl, rfl⟩; rw [ho]))
        go_roundw
        case rel => exact ⟨k + 1, q + 1, by omega, by omega, by go_num, by go_num, HE.out, HA⟩
        case measure => simp [intOf]; omega
      by_cases e2 : l[k].1 = 2
      · have k0 : (l[k].1 == 0) = false := by rw [e2]; rfl
        have k1 : (l[k].1 == 1) = false := by rw [e2]; rfl
        have k2 : (l[k].1 == 2) = true := by rw [e2]; rfl
        have k3 : (l[k].1 == 3) = false := by rw [e2]; rfl
        have k4 : (l[k].1 == 4) = false := by rw [e2]; rfl
        have j1 : (l[k].1 != 1) = true := by simp [bne, k1]
        have ho : opnds l[k].1 = 1 := by rw [e2]; rfl
        have HT := Lib.hid (cnText_no l[k] (by rw [e2]; decide))
        by_cases hq : q < 1
        · have HF := Lib.hid (condTo_next hlt HC.out (cnNext_2n q l[k] e2 hq))
          clear e2
          go_wp2_with (first | (go_at_call 137; refine (implIsCode_any _ _ (by assumption)).mono ?_; rintro e w' ⟨rfl, rfl⟩) | (go_at_call 162; refine (operands_any _ _).mono ?_; rintro e w' ⟨rfl, rfl⟩; rw [ho]))
          go_ret
          exact ⟨ret_bool HF.out.symm, HA⟩
        have HNX := Lib.hid (cnNext_2 q l[k] e2 (by omega))
        clear e2
        cases a0 : (l[k].2.1.toList == [])
        · have HF := Lib.hid (condTo_text hlt HC.out (HT.out.trans (by rw [a0]; rfl)))
          go_wp2_with (first | (go_at_call 137; refine (implIsCode_any _ _ (by assumption)).mono ?_; rintro e w' ⟨rfl, rfl⟩) | (go_at_call 162; refine (operands_any _ _).mono ?_; rintro e w' ⟨rfl, rfl⟩; rw [ho]))
          go_ret
          exact ⟨ret_bool HF.out.symm, HA⟩
        cases a1 : (l[k].2.2.toList == [])
        · have HF := Lib.hid (condTo_text hlt HC.out (HT.out.trans (by rw [a0, a1]; rfl)))
          go_wp2_with (first | (go_at_call 137; refine (implIsCode_any _ _ (by assumption)).mono ?_; rintro e w' ⟨rfl, rfl⟩) | (go_at_call 162; refine (operands_any _ _).mono ?_; rintro e w' ⟨rfl, rfl⟩; rw [ho]))
          go_ret
          exact ⟨ret_bool HF.out.symm, HA⟩
        have HE := Lib.hid (condTo_step hlt HC.out HNX.out (HT.out.trans (by rw [a0, a1]; rfl)))
        go_wp2_with (first | (go_at_call 137; refine (implIsCode_any _ _ (by assumption)).mono ?_; rintro e w' ⟨rfl, rfl⟩) | (go_at_call 162; refine (operands_any _ _).mono ?_; rintro e w' ⟨rfl, rfl⟩; rw [ho]))
        go_roundw
        case rel => exact ⟨k + 1, q, by omega, by omega, by go_num, by go_num, HE.out, HA⟩
        case measure => simp [intOf]; omega
      by_cases e3 : l[k].1 = 3
      · have k0 : (l[k].1 == 0) = false := by rw [e3]; rfl
        have k1 : (l[k].1 == 1) = false := by rw [e3]; rfl
        have k2 : (l[k].1 == 2) = false := by rw [e3]; rfl
        have k3 : (l[k].1 == 3) = true := by rw [e3]; rfl
        have k4 : (l[k].1 == 4) = false := by rw [e3]; rfl
        have j1 : (l[k].1 != 1) = true := by simp [bne, k1]
        have ho : opnds l[k].1 = 2 := by rw [e3]; rfl
        have HT := Lib.hid (cnText_no l[k] (by rw [e3]; decide))
        by_cases hq : q < 2
        · have HF := Lib.hid (condTo_next hlt HC.out (cnNext_3n q l[k] (.inl e3) hq))
          clear e3
          go_wp2_with (first | (go_at_call 137; refine (implIsCode_any _ _ (by assumption)).mono ?_; rintro e w' ⟨rfl, rfl⟩) | (go_at_call 162; refine (operands_any _ _).mono ?_; rintro e w' ⟨rfl, rfl⟩; rw [ho]))
          go_ret
          exact ⟨ret_bool HF.out.symm, HA⟩
        have HNX := Lib.hid (cnNext_3 q l[k] (.inl e3) (by omega))
        clear e3
        cases a0 : (l[k].2.1.toList == [])
        · have HF := Lib.hid (condTo_text hlt HC.out (HT.out.trans (by rw [a0]; rfl)))
          go_wp2_with (first | (go_at_call 137; refine (implIsCode_any _ _ (by assumption)).mono ?_; rintro e w' ⟨rfl, rfl⟩) | (go_at_call 162; refine (operands_any _ _).mono ?_; rintro e w' ⟨rfl, rfl⟩; rw [ho]))
          go_ret
          exact ⟨ret_bool HF.out.symm, HA⟩
        cases a1 : (l[k].2.2.toList == [])
        · have HF := Lib.hid (condTo_text hlt HC.out (HT.out.trans (by rw [a0, a1]; rfl)))
          go_wp2_with (first | (go_at_call 137; refine (implIsCode_any _ _ (by assumption)).mono ?_; rintro e w' ⟨rfl, rfl⟩) | (go_at_call 162; refine (operands_any _ _).mono ?_; rintro e w' ⟨rfl, rfl⟩; rw [ho]))
          go_ret
          exact ⟨ret_bool HF.out.symm, HA⟩
        have HE := Lib.hid (condTo_step hlt HC.out HNX.out (HT.out.trans (by rw [a0, a1]; rfl)))
        go_wp2_with (first | (go_at_call 137; refine (implIsCode_any _ _ (by assumption)).mono ?_; rintro e w' ⟨rfl, rfl⟩) | (go_at_call 162; refine (operands_any _ _).mono ?_; rintro e w' ⟨rfl, rfl⟩; rw [ho]))
        go_roundw
        case rel => exact ⟨k + 1, q - 1, by omega, by omega, by go_num, by go_num, HE.out, HA⟩
        case measure => simp [intOf]; omega
      by_cases e4 : l[k].1 = 4
      · have k0 : (l[k].1 == 0) = false := by rw [e4]; rfl
        have k1 : (l[k].1 == 1) = false := by rw [e4]; rfl
        have k2 : (l[k].1 == 2) = false := by rw [e4]; rfl
        have k3 : (l[k].1 == 3) = false := by rw [e4]; rfl
        have k4 : (l[k].1 == 4) = true := by rw [e4]; rfl
        have j1 : (l[k].1 != 1) = true := by simp [bne, k1]
        have ho : opnds l[k].1 = 2 := by rw [e4]; rfl
        have HT := Lib.hid (cnText_no l[k] (by rw [e4]; decide))
        by_cases hq : q < 2
        · have HF := Lib.hid (condTo_next hlt HC.out (cnNext_3n q l[k] (.inr e4) hq))
          clear e4
          go_wp2_with (first | (go_at_call 137; refine (implIsCode_any _ _ (by assumption)).mono ?_; rintro e w' ⟨rfl, rfl⟩) | (go_at_call 162; refine (operands_any _ _).mono ?_; rintro e w' ⟨rfl, rfl⟩; rw [ho]))
          go_ret
          exact ⟨ret_bool HF.out.symm, HA⟩
        have HNX := Lib.hid (cnNext_3 q l[k] (.inr e4) (by omega))
        clear e4
        cases a0 : (l[k].2.1.toList == [])
        · have HF := Lib.hid (condTo_text hlt HC.out (HT.out.trans (by rw [a0]; rfl)))
          go_wp2_with (first | (go_at_call 137; refine (implIsCode_any _ _ (by assumption)).mono ?_; rintro e w' ⟨rfl, rfl⟩) | (go_at_call 162; refine (operands_any _ _).mono ?_; rintro e w' ⟨rfl, rfl⟩; rw [ho]))
          go_ret
          exact ⟨ret_bool HF.out.symm, HA⟩
        cases a1 : (l[k].2.2.toList == [])
        · have HF := Lib.hid (condTo_text hlt HC.out (HT.out.trans (by rw [a0, a1]; rfl)))
          go_wp2_with (first | (go_at_call 137; refine (implIsCode_any _ _ (by assumption)).mono ?_; rintro e w' ⟨rfl, rfl⟩) | (go_at_call 162; refine (operands_any _ _).mono ?_; rintro e w' ⟨rfl, rfl⟩; rw [ho]))
          go_ret
          exact ⟨ret_bool HF.out.symm, HA⟩
        have HE := Lib.hid (condTo_step hlt HC.out HNX.out (HT.out.trans (by rw [a0, a1]; rfl)))
        go_wp2_with (first | (go_at_call 137; refine (implIsCode_any _ _ (by assumption)).mono ?_; rintro e w' ⟨rfl, rfl⟩) | (go_at_call 162; refine (operands_any _ _).mono ?_; rintro e w' ⟨rfl, rfl⟩; rw [ho]))
        go_roundw
        case rel => exact ⟨k + 1, q - 1, by omega, by omega, by go_num, by go_num, HE.out, HA⟩
        case measure => simp [intOf]; omega
      have k0 : (l[k].1 == 0) = false := by simpa using e0
      have k1 : (l[k].1 == 1) = false := by simpa using e1
      have k2 : (l[k].1 == 2) = false := by simpa using e2
      have k3 : (l[k].1 == 3) = false := by simpa using e3
      have k4 : (l[k].1 == 4) = false := by simpa using e4
      have j1 : (l[k].1 != 1) = true := by simp [bne, k1]
      have ho : opnds l[k].1 = -1 := by unfold opnds; rw [if_neg (by omega), if_neg e2, if_neg (by omega)]
      have HF := Lib.hid (condTo_next hlt HC.out (cnNext_o q l[k] e0 e1 e2 e3 e4))
      clear e0 e1 e2 e3 e4
      go_wp2_with (first | (go_at_call 137; refine (implIsCode_any _ _ (by assumption)).mono ?_; rintro e w' ⟨rfl, rfl⟩) | (go_at_call 162; refine (operands_any _ _).mono ?_; rintro e w' ⟨rfl, rfl⟩; rw [ho]))
      go_ret
      exact ⟨ret_bool HF.out.symm, HA⟩
    · obtain rfl : k = l.length := by omega
      have HF := Lib.hid (isCond_end h30 HC.out)
      cases hq1 : ((q : Int) == 1)
      all_goals
        go_wp2
        go_ret
        exact ⟨ret_bool (HF.out.trans hq1).symm, HR⟩
end Go.Proofs.YtlnkofnfgemfdaaGreat
/- Rows of numbers of the call's own: made whole, read, written one by one. -/
namespace Go.Proofs.YtlnkofnfgemfdaaGreat
open Go.RowKit

/-- The row of numbers in block g. -/
def NumRow (w : World) (lo g n c : Nat) (l : List Int) : Prop := n = l.length ∧ w.ownsRow lo 3 1 (.slice (some ⟨g, 0, none⟩) n c) n (ints l)
section
variable {w w' : World} {lo g n c : Nat} {l : List Int}
theorem NumRow.cell (h : NumRow w lo g n c l) {j : Nat} (hj : j < l.length) : w.cell? ⟨g, j, none⟩ = some (.int .i64 l[j]) := by
  rw [h.2.cellAt j (by have := h.1; omega)]; simp [hj]
theorem NumRow.frozen (h : NumRow w lo g n c l) (j : Nat) : w.frozen? ⟨g, j, none⟩ = false := h.2.frozenAt j
theorem NumRow.set (h : NumRow w lo g n c l) (j : Nat) (x : Int) : NumRow (w.setCell ⟨g, j, none⟩ (.int .i64 x)) lo g n c (l.set j x) :=
  ⟨by simp [h.1], by rw [ints, List.map_set]; exact (h.2.stored j (.int .i64 x)).1⟩
theorem NumRow.far (h : NumRow w lo g n c l) {p : Addr} {v : Value} (hp : p.block ≠ g) : NumRow (w.setCell p v) lo g n c l := by
  refine ⟨h.1, ?_⟩
  refine h.2.kept (row := some p.block) ⟨rfl, rfl, rfl, by simp, fun k _ hk => heap_setCell_other w p k v (fun e => hk (by simp [e]))⟩ (.inr ?_)
  simp [Value.ownBlock]; exact fun h => hp h.symm
theorem NumRow.keep (h : NumRow w lo g n c l) (hb : Below w.heap.size w w') : NumRow w' lo g n c l := ⟨h.1, own_keep h.2 hb⟩
theorem NumRow.drew (h : NumRow w lo g n c l) : NumRow w.drew lo g n c l := h
theorem NumRow.drewN (h : NumRow w lo g n c l) (k : Nat) : NumRow (w.drewN k) lo g n c l := h.keep (below_drewN (Below.refl _ _) _)
theorem NumRow.lt (h : NumRow w lo g n c l) : lo ≤ g ∧ g < w.heap.size := own_lt h.2 _ rfl
theorem NumRow.len (h : NumRow w lo g n c l) : l.length = n := h.1.symm
theorem NumRow.ints (h : NumRow w lo g n c l) (hn : l.length ≤ 16777216) : IntsIn w (some ⟨g, 0, none⟩) n l := ⟨h.1, Sl.of_own h.2 (by have := h.1; omega)⟩
end
theorem below_in {w w1 : World} {b o : Nat} {v : Value} (hb : Below w.heap.size w w1) (h : b < w.heap.size) (hc : w.cell? ⟨b, o, none⟩ = some v) : w1.cell? ⟨b, o, none⟩ = some v := (hb.cell (p := ⟨b, o, none⟩) h).trans hc
theorem cell_far {w : World} {g i b j : Nat} {v : Value} (h : g ≠ b) : (w.setCell ⟨g, i, none⟩ v).cell? ⟨b, j, none⟩ = w.cell? ⟨b, j, none⟩ :=
  World.cell?_setCell_other _ _ _ _ (by intro e; injection e; contradiction)
theorem numRow_made {w : World} {lo g n : Nat} (h : w.ownsRow lo 3 1 (.slice (some ⟨g, 0, none⟩) n n) n (madeCells (Value.int .i64 0).cells (n * 1)).toList) : NumRow w lo g n n (List.replicate n 0) := by
  refine ⟨by simp, ?_⟩
  have e : (madeCells (Value.int .i64 0).cells (n * 1)).toList = ints (List.replicate n 0) := by
    rw [show (Value.int .i64 0).cells = #[.int .i64 0] by rfl, toList_madeCells_one, Nat.mul_one, ints, List.map_replicate]
  rw [← e]; exact h
theorem wpList_make_nums {w : World} {ops : Array Oper} {rest : List Oper} {o : Oper} {a : Act} {Q : Exit → Act → World → Prop}
    (hg : o.guard = none) (l c : Operand) (hop : o.op = Op.makeSlice 24 l c) (base : Nat) {kl kc : IntKind} {L C : Int} (n : Nat) (hl : a.eval l = .int kl L) (hc : a.eval c = .int kc C) (hL : L = (n : Int)) (hC : C = (n : Int)) (hn : n ≤ 16777216) (b4 : base ≤ w.heap.size)
    (hK : ∀ w', NumRow w' base w.heap.size n n (List.replicate n 0) → Below w.heap.size w w' → w.heap.size < w'.heap.size → wpList Tryz.prog ops Q rest (a.put o.dst (.slice (some ⟨w.heap.size, 0, none⟩) n n)) w') :
    wpList Tryz.prog ops Q (o :: rest) a w := by
  obtain ⟨i0, hi0, hz0, hz1, hz2⟩ := info_parts intInfo
  refine wpList_make_full _ hg l c _ hop base 3 i0 _ 1 Tryz.underlying24 hi0 hz0 hz1 kl kc L C n hl hc hL hC (by rw [hz2]; omega) (by unfold maxLen; omega) b4 ?_
  intro w' h1 h2
  exact hK w' (numRow_made h1) (below_none h2) (own_lt (numRow_made h1).2 _ rfl).2
end Go.Proofs.YtlnkofnfgemfdaaGreat
