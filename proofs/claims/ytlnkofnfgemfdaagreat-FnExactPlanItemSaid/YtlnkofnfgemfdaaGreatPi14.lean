/- Part 14 of the texts of this claim: The walks of IsCond. -/
import Derived.Test.YtlnkofnfgemfdaaGreatPi11
import Derived.Test.YtlnkofnfgemfdaaGreatPi12
/- The walks of IsCond. -/
namespace Go.Proofs.YtlnkofnfgemfdaaGreat
open Go.RowKit
def opnds (c : Int) : Int := if c = 0 ∨ c = 1 then 0 else if c = 2 then 1 else if c = 3 ∨ c = 4 then 2 else -1
theorem cn_getD (l : List Cn) (k : Nat) (h : k < l.length) : l.getD k cnNone = l[k] := by
  rw [List.getD_eq_getElem?_getD, List.getElem?_eq_getElem h]; rfl
theorem condTo_step {l : List Cn} {k n m : Nat} (hk : k < l.length) (h : condTo l k = some n) (hn : cnNext n l[k] = some m) (ht : cnText l[k] = true) : condTo l (k + 1) = some m := by
  simp only [condTo]; rw [h, cn_getD _ _ hk]; simp only [hn, ht, if_true]
theorem condTo_next {l : List Cn} {k n : Nat} (hk : k < l.length) (h : condTo l k = some n) (hn : cnNext n l[k] = none) : isCond l = false := by
  refine isCond_at (k := k + 1) (by omega) ?_
  simp only [condTo]; rw [h, cn_getD _ _ hk]; simp only [hn]
theorem condTo_text {l : List Cn} {k n : Nat} (hk : k < l.length) (h : condTo l k = some n) (ht : cnText l[k] = false) : isCond l = false := by
  refine isCond_at (k := k + 1) (by omega) ?_
  simp only [condTo]; rw [h, cn_getD _ _ hk]
  cases hn : cnNext n l[k] with
  | none => simp only [hn]
  | some m => simp only [hn, ht, Bool.false_eq_true, if_false]
theorem isCond_long {l : List Cn} (h : ¬ (l.length : Int) ≤ 30) : isCond l = false := by
  unfold isCond; rw [decide_eq_false (by omega)]; rfl
theorem isCond_end {l : List Cn} {n : Nat} (h : (l.length : Int) ≤ 30) (hc : condTo l l.length = some n) : isCond l = ((n : Int) == 1) := by
  unfold isCond
  rw [decide_eq_true (by omega), hc]
  by_cases h1 : n = 1
  · subst h1; simp
  · rw [decide_eq_false (fun e => h1 (Option.some.inj e)), Bool.true_and]
    symm; rw [beq_eq_false_iff_ne]; omega
theorem cnNext_0 (n : Nat) (x : Cn) (h : x.1 = 0) : cnNext n x = some (n + 1) := by unfold cnNext; rw [if_pos (.inl h)]
theorem cnNext_1 (n : Nat) (x : Cn) (h : x.1 = 1) : cnNext n x = some (n + 1) := by unfold cnNext; rw [if_pos (.inr h)]
theorem cnNext_2 (n : Nat) (x : Cn) (h : x.1 = 2) (hn : 1 ≤ n) : cnNext n x = some n := by unfold cnNext; rw [if_neg (by omega), if_pos h, if_neg (by omega)]
theorem cnNext_2n (n : Nat) (x : Cn) (h : x.1 = 2) (hn : n < 1) : cnNext n x = none := by unfold cnNext; rw [if_neg (by omega), if_pos h, if_pos hn]
theorem cnNext_3 (n : Nat) (x : Cn) (h : x.1 = 3 ∨ x.1 = 4) (hn : 2 ≤ n) : cnNext n x = some (n - 1) := by unfold cnNext; rw [if_neg (by omega), if_neg (by omega), if_pos h, if_neg (by omega)]
theorem cnNext_3n (n : Nat) (x : Cn) (h : x.1 = 3 ∨ x.1 = 4) (hn : n < 2) : cnNext n x = none := by unfold cnNext; rw [if_neg (by omega), if_neg (by omega), if_pos h, if_pos hn]
theorem cnNext_o (n : Nat) (x : Cn) (h0 : x.1 ≠ 0) (h1 : x.1 ≠ 1) (h2 : x.1 ≠ 2) (h3 : x.1 ≠ 3) (h4 : x.1 ≠ 4) : cnNext n x = none := by unfold cnNext; rw [if_neg (by omega), if_neg h2, if_neg (by omega)]
theorem cnText_is (x : Cn) (h : x.1 = 1) : cnText x = (isCode x.2.1 && isCode x.2.2) := by unfold cnText; rw [if_pos h]
theorem cnText_no (x : Cn) (h : x.1 ≠ 1) : cnText x = ((x.2.1.toList == []) && (x.2.2.toList == [])) := by unfold cnText; rw [if_neg h]
set_option maxRecDepth 100000 in
theorem operands_any (c : Int) (w : World) : Calls Tryz.prog 162 #[.int .i64 c] w fun e w' => e = .returned (.int .i64 (opnds c)) ∧ w = w' := by
  by_cases h0 : c = 0
  · subst h0
    go_enter Tryz.func162, Tryz.ntmps162
    go_wp2
    go_ret
    exact ⟨rfl, rfl⟩
  by_cases h1 : c = 1
  · subst h1
    go_enter Tryz.func162, Tryz.ntmps162
    go_wp2
    go_ret
    exact ⟨rfl, rfl⟩
  by_cases h2 : c = 2
  · subst h2
    go_enter Tryz.func162, Tryz.ntmps162
    go_wp2
    go_ret
    exact ⟨rfl, rfl⟩
  by_cases h3 : c = 3
  · subst h3
    go_enter Tryz.func162, Tryz.ntmps162
    go_wp2
    go_ret
    exact ⟨rfl, rfl⟩
  by_cases h4 : c = 4
  · subst h4
    go_enter Tryz.func162, Tryz.ntmps162
    go_wp2
    go_ret
    exact ⟨rfl, rfl⟩
  have HO : Hid (opnds c = -1) := by show _ = _; unfold opnds; rw [if_neg (by omega), if_neg h2, if_neg (by omega)]
  have k0 : (c == 0) = false := by simpa using h0
  have k1 : (c == 1) = false := by simpa using h1
  have k2 : (c == 2) = false := by simpa using h2
  have k3 : (c == 3) = false := by simpa using h3
  have k4 : (c == 4) = false := by simpa using h4
  clear h0 h1 h2 h3 h4
  go_enter Tryz.func162, Tryz.ntmps162
  go_wp2
  go_ret
  exact ⟨ret_int HO.out.symm, rfl⟩
set_option maxRecDepth 100000 in
set_option maxHeartbeats 4000000 in
theorem specIsCond_any (A : Option Addr) (n c : Nat) (l : List Cn) (w : World) (hl : CondsIn w A n l) (hok : ∀ x ∈ l, okCn x) :
    Calls Tryz.prog 143 #[.slice A n c] w fun e w' => e = .returned (.bool (isCond l)) ∧ Below w.heap.size w w' := by
  have hn := hl.len
  obtain rfl := hl.1
  have HO := Lib.hid hok
  clear hok
  by_cases h30 : (l.length : Int) ≤ 30
  case neg =>
    have HL := Lib.hid (isCond_long h30)
    go_enter Tryz.func143, Tryz.ntmps143
    go_wp2
    refine wp_loop_rounds 1 ?_
    rw [rounds_succ]
    go_wp2
    all_goals
      go_ret
      exact ⟨ret_bool HL.out.symm, Below.refl _ _⟩
  go_enter Tryz.func143, Tryz.ntmps143
  go_wp2
  go_loopw [3, 4] (fun m i wr => ∃ k q : Nat, k ≤ l.length ∧ q ≤ k ∧ i = .int .i64 k ∧ m = .int .i64 q ∧ Hid (condTo l k = some q) ∧ Below w.heap.size w wr) (fun _ i _ => l.length - (intOf i).toNat)
  case atStart => exact ⟨0, 0, by omega, by omega, rfl, rfl, rfl, Below.refl _ _⟩
  case round =>
    obtain ⟨k, q, hk, hqk, rfl, rfl, HC, HR⟩ := hrel
    by_cases hlt : k < l.length
    · have hs0 := (HO.out _ (List.getElem_mem hlt)).1
      have hs1 := (HO.out _ (List.getElem_mem hlt)).2
      have hsz := HR.size
      obtain ⟨b, o, rfl, _, hc0, hc1, hc2⟩ := cond_at (hl.keep HR) hlt
      have HA := HR.alloc hsz (.cells #[.int .i64 l[k].1, .string l[k].2.1, .string l[k].2.2] 201)
      by_cases e0 : l[k].1 = 0
      · have k0 : (l[k].1 == 0) = true := by rw [e0]; rfl
        have k1 : (l[k].1 == 1) = false := by rw [e0]; rfl
        have k2 : (l[k].1 == 2) = false := by rw [e0]; rfl
        have k3 : (l[k].1 == 3) = false := by rw [e0]; rfl
        have k4 : (l[k].1 == 4) = false := by rw [e0]; rfl
        have j1 : (l[k].1 != 1) = true := by simp [bne, k1]
        have HT := Lib.hid (cnText_no l[k] (by rw [e0]; decide))
        have HNX := Lib.hid (cnNext_0 q l[k] e0)
        clear e0
        cases a0 : (l[k].2.1.toList == [])
        · have HF := Lib.hid (condTo_text hlt HC.out (HT.out.trans (by rw [a0]; rfl)))
          go_wp2_with (first | (go_at_call 134; refine (specIsCode_any _ _ (by assumption)).mono ?_; rintro e w' ⟨rfl, rfl⟩))
          go_ret
          exact ⟨ret_bool HF.out.symm, HA⟩
        cases a1 : (l[k].2.2.toList == [])
        · have HF := Lib.hid (condTo_text hlt HC.out (HT.out.trans (by rw [a0, a1]; rfl)))
          go_wp2_with (first | (go_at_call 134; refine (specIsCode_any _ _ (by assumption)).mono ?_; rintro e w' ⟨rfl, rfl⟩))
          go_ret
          exact ⟨ret_bool HF.out.symm, HA⟩
        have HE := Lib.hid (condTo_step hlt HC.out HNX.out (HT.out.trans (by rw [a0, a1]; rfl)))
        go_wp2_with (first | (go_at_call 134; refine (specIsCode_any _ _ (by assumption)).mono ?_; rintro e w' ⟨rfl, rfl⟩))
        go_roundw
        case rel => exact ⟨k + 1, q + 1, by omega, by omega, by go_num, by go_num, HE.out, HA⟩
        case measure => simp [intOf]; omega
      by_cases e1 : l[k].1 = 1
      · have k0 : (l[k].1 == 0) = false := by rw [e1]; rfl
        have k1 : (l[k].1 == 1) = true := by rw [e1]; rfl
        have k2 : (l[k].1 == 2) = false := by rw [e1]; rfl
        have k3 : (l[k].1 == 3) = false := by rw [e1]; rfl
        have k4 : (l[k].1 == 4) = false := by rw [e1]; rfl
        have j1 : (l[k].1 != 1) = false := by simp [bne, k1]
        have HT := Lib.hid (cnText_is l[k] e1)
        have HNX := Lib.hid (cnNext_1 q l[k] e1)
        clear e1
        cases a0 : isCode l[k].2.1
        · have HF := Lib.hid (condTo_text hlt HC.out (HT.out.trans (by rw [a0]; rfl)))
          go_wp2_with (first | (go_at_call 134; refine (specIsCode_any _ _ (by assumption)).mono ?_; rintro e w' ⟨rfl, rfl⟩))
          go_ret
          exact ⟨ret_bool HF.out.symm, HA⟩
        cases a1 : isCode l[k].2.2
        · have HF := Lib.hid (condTo_text hlt HC.out (HT.out.trans (by rw [a0, a1]; rfl)))
          go_wp2_with (first | (go_at_call 134; refine (specIsCode_any _ _ (by assumption)).mono ?_; rintro e w' ⟨rfl, rfl⟩))
          go_ret
          exact ⟨ret_bool HF.out.symm, HA⟩
        have HE := Lib.hid (condTo_step hlt HC.out HNX.out (HT.out.trans (by rw [a0, a1]; rfl)))
        go_wp2_with (first | (go_at_call 134; refine (specIsCode_any _ _ (by assumption)).mono ?_; rintro e w' ⟨rfl, rfl⟩))
        go_roundw
        case rel => exact ⟨k + 1, q + 1, by omega, by omega, by go_num, by go_num, HE.out, HA⟩
        case measure => simp [intOf]; omega
      by_cases e2 : l[k].1 = 2
      · have k0 : (l[k].1 == 0) = false := by rw [e2]; rfl
        have k1 : (l[k].1 == 1) = false := by rw [e2]; rfl
        have k2 : (l[k].1 == 2) = true := by rw [e2]; rfl
        have k3 : (l[k].1 == 3) = false := by rw [e2]; rfl
        have k4 : (l[k].1 == 4) = false := by rw [e2]; rfl
        have j1 : (l[k].1 != 1) = true := by simp [bne, k1]
        have HT := Lib.hid (cnText_no l[k] (by rw [e2]; decide))
        by_cases hq : q < 1
        · have HF := Lib.hid (condTo_next hlt HC.out (cnNext_2n q l[k] e2 hq))
          clear e2
          go_wp2_with (first | (go_at_call 134; refine (specIsCode_any _ _ (by assumption)).mono ?_; rintro e w' ⟨rfl, rfl⟩))
          go_ret
          exact ⟨ret_bool HF.out.symm, HA⟩
        have HNX := Lib.hid (cnNext_2 q l[k] e2 (by omega))
        clear e2
        cases a0 : (l[k].2.1.toList == [])
        · have HF := Lib.hid (condTo_text hlt HC.out (HT.out.trans (by rw [a0]; rfl)))
          go_wp2_with (first | (go_at_call 134; refine (specIsCode_any _ _ (by assumption)).mono ?_; rintro e w' ⟨rfl, rfl⟩))
          go_ret
          exact ⟨ret_bool HF.out.symm, HA⟩
        cases a1 : (l[k].2.2.toList == [])
        · have HF := Lib.hid (condTo_text hlt HC.out (HT.out.trans (by rw [a0, a1]; rfl)))
          go_wp2_with (first | (go_at_call 134; refine (specIsCode_any _ _ (by assumption)).mono ?_; rintro e w' ⟨rfl, rfl⟩))
          go_ret
          exact ⟨ret_bool HF.out.symm, HA⟩
        have HE := Lib.hid (condTo_step hlt HC.out HNX.out (HT.out.trans (by rw [a0, a1]; rfl)))
        go_wp2_with (first | (go_at_call 134; refine (specIsCode_any _ _ (by assumption)).mono ?_; rintro e w' ⟨rfl, rfl⟩))
        go_roundw
        case rel => exact ⟨k + 1, q, by omega, by omega, by go_num, by go_num, HE.out, HA⟩
        case measure => simp [intOf]; omega
      by_cases e3 : l[k].1 = 3
      · have k0 : (l[k].1 == 0) = false := by rw [e3]; rfl
        have k1 : (l[k].1 == 1) = false := by rw [e3]; rfl
        have k2 : (l[k].1 == 2) = false := by rw [e3]; rfl
        have k3 : (l[k].1 == 3) = true := by rw [e3]; rfl
        have k4 : (l[k].1 == 4) = false := by rw [e3]; rfl
        have j1 : (l[k].1 != 1) = true := by simp [bne, k1]
        have HT := Lib.hid (cnText_no l[k] (by rw [e3]; decide))
        by_cases hq : q < 2
        · have HF := Lib.hid (condTo_next hlt HC.out (cnNext_3n q l[k] (.inl e3) hq))
          clear e3
          go_wp2_with (first | (go_at_call 134; refine (specIsCode_any _ _ (by assumption)).mono ?_; rintro e w' ⟨rfl, rfl⟩))
          go_ret
          exact ⟨ret_bool HF.out.symm, HA⟩
        have HNX := Lib.hid (cnNext_3 q l[k] (.inl e3) (by omega))
        clear e3
        cases a0 : (l[k].2.1.toList == [])
        · have HF := Lib.hid (condTo_text hlt HC.out (HT.out.trans (by rw [a0]; rfl)))
          go_wp2_with (first | (go_at_call 134; refine (specIsCode_any _ _ (by assumption)).mono ?_; rintro e w' ⟨rfl, rfl⟩))
          go_ret
          exact ⟨ret_bool HF.out.symm, HA⟩
        cases a1 : (l[k].2.2.toList == [])
        · have HF := Lib.hid (condTo_text hlt HC.out (HT.out.trans (by rw [a0, a1]; rfl)))
          go_wp2_with (first | (go_at_call 134; refine (specIsCode_any _ _ (by assumption)).mono ?_; rintro e w' ⟨rfl, rfl⟩))
          go_ret
          exact ⟨ret_bool HF.out.symm, HA⟩
        have HE := Lib.hid (condTo_step hlt HC.out HNX.out (HT.out.trans (by rw [a0, a1]; rfl)))
        go_wp2_with (first | (go_at_call 134; refine (specIsCode_any _ _ (by assumption)).mono ?_; rintro e w' ⟨rfl, rfl⟩))
        go_roundw
        case rel => exact ⟨k + 1, q - 1, by omega, by omega, by go_num, by go_num, HE.out, HA⟩
        case measure => simp [intOf]; omega
      by_cases e4 : l[k].1 = 4
      · have k0 : (l[k].1 == 0) = false := by rw [e4]; rfl
        have k1 : (l[k].1 == 1) = false := by rw [e4]; rfl
        have k2 : (l[k].1 == 2) = false := by rw [e4]; rfl
        have k3 : (l[k].1 == 3) = false := by rw [e4]; rfl
        have k4 : (l[k].1 == 4) = true := by rw [e4]; rfl
        have j1 : (l[k].1 != 1) = true := by simp [bne, k1]
        have HT := Lib.hid (cnText_no l[k] (by rw [e4]; decide))
        by_cases hq : q < 2
        · have HF := Lib.hid (condTo_next hlt HC.out (cnNext_3n q l[k] (.inr e4) hq))
          clear e4
          go_wp2_with (first | (go_at_call 134; refine (specIsCode_any _ _ (by assumption)).mono ?_; rintro e w' ⟨rfl, rfl⟩))
          go_ret
          exact ⟨ret_bool HF.out.symm, HA⟩
        have HNX := Lib.hid (cnNext_3 q l[k] (.inr e4) (by omega))
        clear e4
        cases a0 : (l[k].2.1.toList == [])
        · have HF := Lib.hid (condTo_text hlt HC.out (HT.out.trans (by rw [a0]; rfl)))
          go_wp2_with (first | (go_at_call 134; refine (specIsCode_any _ _ (by assumption)).mono ?_; rintro e w' ⟨rfl, rfl⟩))
          go_ret
          exact ⟨ret_bool HF.out.symm, HA⟩
        cases a1 : (l[k].2.2.toList == [])
        · have HF := Lib.hid (condTo_text hlt HC.out (HT.out.trans (by rw [a0, a1]; rfl)))
          go_wp2_with (first | (go_at_call 134; refine (specIsCode_any _ _ (by assumption)).mono ?_; rintro e w' ⟨rfl, rfl⟩))
          go_ret
          exact ⟨ret_bool HF.out.symm, HA⟩
        have HE := Lib.hid (condTo_step hlt HC.out HNX.out (HT.out.trans (by rw [a0, a1]; rfl)))
        go_wp2_with (first | (go_at_call 134; refine (specIsCode_any _ _ (by assumption)).mono ?_; rintro e w' ⟨rfl, rfl⟩))
        go_roundw
        case rel => exact ⟨k + 1, q - 1, by omega, by omega, by go_num, by go_num, HE.out, HA⟩
        case measure => simp [intOf]; omega
      have k0 : (l[k].1 == 0) = false := by simpa using e0
      have k1 : (l[k].1 == 1) = false := by simpa using e1
      have k2 : (l[k].1 == 2) = false := by simpa using e2
      have k3 : (l[k].1 == 3) = false := by simpa using e3
      have k4 : (l[k].1 == 4) = false := by simpa using e4
      have j1 : (l[k].1 != 1) = true := by simp [bne, k1]
      have HF := Lib.hid (condTo_next hlt HC.out (cnNext_o q l[k] e0 e1 e2 e3 e4))
      clear e0 e1 e2 e3 e4
      go_wp2_with (first | (go_at_call 134; refine (specIsCode_any _ _ (by assumption)).mono ?_; rintro e w' ⟨rfl, rfl⟩))
      go_ret
      exact ⟨ret_bool HF.out.symm, HA⟩
    · obtain rfl : k = l.length := by omega
      have HF := Lib.hid (isCond_end h30 HC.out)
      cases hq1 : ((q : Int) == 1)
      all_goals
        go_wp2
        go_ret
        exact ⟨ret_bool (HF.out.trans hq1).symm, HR⟩
set_option maxRecDepth 100000 in
set_option maxHeartbeats 4000000 in
theorem implIsCond_any (A : Option Addr) (n c : Nat) (l : List Cn) (w : World) (hl : CondsIn w A n l) (hok : ∀ x ∈ l, okCn x) :
    Calls Tryz.prog 148 #[.slice A n c] w fun e w' => e = .returned (.bool (isCond l)) ∧ Below w.heap.size w w' := by
  have hn := hl.len
  obtain rfl := hl.1
  have HO := Lib.hid hok
  clear hok
  by_cases h30 : (l.length : Int) ≤ 30
  case neg =>
    have HL := Lib.hid (isCond_long h30)
    go_enter Tryz.func148, Tryz.ntmps148
    go_wp2
    go_ret
    exact ⟨ret_bool HL.out.symm, Below.refl _ _⟩
  go_enter Tryz.func148, Tryz.ntmps148
  go_wp2
  go_loopw [3, 12] (fun m i wr => ∃ k q : Nat, k ≤ l.length ∧ q ≤ k ∧ i = .int .i64 k ∧ m = .int .i64 q ∧ Hid (condTo l k = some q) ∧ Below w.heap.size w wr) (fun _ i _ => l.length - (intOf i).toNat)
  case atStart => exact ⟨0, 0, by omega, by omega, rfl, rfl, rfl, Below.refl _ _⟩
  case round =>
    obtain ⟨k, q, hk, hqk, rfl, rfl, HC, HR⟩ := hrel
    by_cases hlt : k < l.length
    · have hs0 := (HO.out _ (List.getElem_mem hlt)).1
      have hs1 := (HO.out _ (List.getElem_mem hlt)).2
      have hsz := HR.size
      obtain ⟨b, o, rfl, _, hc0, hc1, hc2⟩ := cond_at (hl.keep HR) hlt
      have HA := HR.alloc hsz (.cells #[.int .i64 l[k].1, .string l[k].2.1, .string l[k].2.2] 201)
      by_cases e0 : l[k].1 = 0
      · have k0 : (l[k].1 == 0) = true := by rw [e0]; rfl
        have k1 : (l[k].1 == 1) = false := by rw [e0]; rfl
        have k2 : (l[k].1 == 2) = false := by rw [e0]; rfl
        have k3 : (l[k].1 == 3) = false := by rw [e0]; rfl
        have k4 : (l[k].1 == 4) = false := by rw [e0]; rfl
        have j1 : (l[k].1 != 1) = true := by simp [bne, k1]
        have ho : opnds l[k].1 = 0 := by rw [e0]; rfl
        have HT := Lib.hid (cnText_no l[k] (by rw [e0]; decide))
        have HNX := Lib.hid (cnNext_0 q l[k] e0)
        clear e0
        cases a0 : (l[k].2.1.toList == [])
        · have HF := Lib.hid (condTo_text hlt HC.out (HT.out.trans (by rw [a0]; rfl)))
          go_wp2_with (first | (go_at_call 137; refine (implIsCode_any _ _ (by assumption)).mono ?_; rintro e w' ⟨rfl, rfl⟩) | (go_at_call 162; refine (operands_any _ _).mono ?_; rintro e w' ⟨rfl, rfl⟩; rw [ho]))
          go_ret
          exact ⟨ret_bool HF.out.symm, HA⟩
        cases a1 : (l[k].2.2.toList == [])
        · have HF := Lib.hid (condTo_text hlt HC.out (HT.out.trans (by rw [a0, a1]; rfl)))
          go_wp2_with (first | (go_at_call 137; refine (implIsCode_any _ _ (by assumption)).mono ?_; rintro e w' ⟨rfl, rfl⟩) | (go_at_call 162; refine (operands_any _ _).mono ?_; rintro e w' ⟨rfl, rfl⟩; rw [ho]))
          go_ret
          exact ⟨ret_bool HF.out.symm, HA⟩
        have HE := Lib.hid (condTo_step hlt HC.out HNX.out (HT.out.trans (by rw [a0, a1]; rfl)))
        go_wp2_with (first | (go_at_call 137; refine (implIsCode_any _ _ (by assumption)).mono ?_; rintro e w' ⟨rfl, rfl⟩) | (go_at_call 162; refine (operands_any _ _).mono ?_; rintro e w' ⟨rfl, rfl⟩; rw [ho]))
        go_roundw
        case rel => exact ⟨k + 1, q + 1, by omega, by omega, by go_num, by go_num, HE.out, HA⟩
        case measure => simp [intOf]; omega
      by_cases e1 : l[k].1 = 1
      · have k0 : (l[k].1 == 0) = false := by rw [e1]; rfl
        have k1 : (l[k].1 == 1) = true := by rw [e1]; rfl
        have k2 : (l[k].1 == 2) = false := by rw [e1]; rfl
        have k3 : (l[k].1 == 3) = false := by rw [e1]; rfl
        have k4 : (l[k].1 == 4) = false := by rw [e1]; rfl
        have j1 : (l[k].1 != 1) = false := by simp [bne, k1]
        have ho : opnds l[k].1 = 0 := by rw [e1]; rfl
        have HT := Lib.hid (cnText_is l[k] e1)
        have HNX := Lib.hid (cnNext_1 q l[k] e1)
        clear e1
        cases a0 : isCode l[k].2.1
        · have HF := Lib.hid (condTo_text hlt HC.out (HT.out.trans (by rw [a0]; rfl)))
          go_wp2_with (first | (go_at_call 137; refine (implIsCode_any _ _ (by assumption)).mono ?_; rintro e w' ⟨rfl, rfl⟩) | (go_at_call 162; refine (operands_any _ _).mono ?_; rintro e w' ⟨rfl, rfl⟩; rw [ho]))
          go_ret
          exact ⟨ret_bool HF.out.symm, HA⟩
        cases a1 : isCode l[k].2.2
        · have HF := Lib.hid (condTo_text hlt HC.out (HT.out.trans (by rw [a0, a1]; rfl)))
          go_wp2_with (first | (go_at_call 137; refine (implIsCode_any _ _ (by assumption)).mono ?_; rintro e w' ⟨rfl, rfl⟩) | (go_at_call 162; refine (operands_any _ _).mono ?_; rintro e w' ⟨rfl, rfl⟩; rw [ho]))
          go_ret
          exact ⟨ret_bool HF.out.symm, HA⟩
        have HE := Lib.hid (condTo_step hlt HC.out HNX.out (HT.out.trans (by rw [a0, a1]; rfl)))
        go_wp2_with (first | (go_at_call 137; refine (implIsCode_any _ _ (by assumption)).mono ?_; rintro e w' ⟨rfl, rfl⟩) | (go_at_call 162; refine (operands_any _ _).mono ?_; rintro e w' ⟨rfl, rfl⟩; rw [ho]))
        go_roundw
        case rel => exact ⟨k + 1, q + 1, by omega, by omega, by go_num, by go_num, HE.out, HA⟩
        case measure => simp [intOf]; omega
      by_cases e2 : l[k].1 = 2
      · have k0 : (l[k].1 == 0) = false := by rw [e2]; rfl
        have k1 : (l[k].1 == 1) = false := by rw [e2]; rfl
        have k2 : (l[k].1 == 2) = true := by rw [e2]; rfl
        have k3 : (l[k].1 == 3) = false := by rw [e2]; rfl
        have k4 : (l[k].1 == 4) = false := by rw [e2]; rfl
        have j1 : (l[k].1 != 1) = true := by simp [bne, k1]
        have ho : opnds l[k].1 = 1 := by rw [e2]; rfl
        have HT := Lib.hid (cnText_no l[k] (by rw [e2]; decide))
        by_cases hq : q < 1
        · have HF := Lib.hid (condTo_next hlt HC.out (cnNext_2n q l[k] e2 hq))
          clear e2
          go_wp2_with (first | (go_at_call 137; refine (implIsCode_any _ _ (by assumption)).mono ?_; rintro e w' ⟨rfl, rfl⟩) | (go_at_call 162; refine (operands_any _ _).mono ?_; rintro e w' ⟨rfl, rfl⟩; rw [ho]))
          go_ret
          exact ⟨ret_bool HF.out.symm, HA⟩
        have HNX := Lib.hid (cnNext_2 q l[k] e2 (by omega))
        clear e2
        cases a0 : (l[k].2.1.toList == [])
        · have HF := Lib.hid (condTo_text hlt HC.out (HT.out.trans (by rw [a0]; rfl)))
          go_wp2_with (first | (go_at_call 137; refine (implIsCode_any _ _ (by assumption)).mono ?_; rintro e w' ⟨rfl, rfl⟩) | (go_at_call 162; refine (operands_any _ _).mono ?_; rintro e w' ⟨rfl, rfl⟩; rw [ho]))
          go_ret
          exact ⟨ret_bool HF.out.symm, HA⟩
        cases a1 : (l[k].2.2.toList == [])
        · have HF := Lib.hid (condTo_text hlt HC.out (HT.out.trans (by rw [a0, a1]; rfl)))
          go_wp2_with (first | (go_at_call 137; refine (implIsCode_any _ _ (by assumption)).mono ?_; rintro e w' ⟨rfl, rfl⟩) | (go_at_call 162; refine (operands_any _ _).mono ?_; rintro e w' ⟨rfl, rfl⟩; rw [ho]))
          go_ret
          exact ⟨ret_bool HF.out.symm, HA⟩
        have HE := Lib.hid (condTo_step hlt HC.out HNX.out (HT.out.trans (by rw [a0, a1]; rfl)))
        go_wp2_with (first | (go_at_call 137; refine (implIsCode_any _ _ (by assumption)).mono ?_; rintro e w' ⟨rfl, rfl⟩) | (go_at_call 162; refine (operands_any _ _).mono ?_; rintro e w' ⟨rfl, rfl⟩; rw [ho]))
        go_roundw
        case rel => exact ⟨k + 1, q, by omega, by omega, by go_num, by go_num, HE.out, HA⟩
        case measure => simp [intOf]; omega
      by_cases e3 : l[k].1 = 3
      · have k0 : (l[k].1 == 0) = false := by rw [e3]; rfl
        have k1 : (l[k].1 == 1) = false := by rw [e3]; rfl
        have k2 : (l[k].1 == 2) = false := by rw [e3]; rfl
        have k3 : (l[k].1 == 3) = true := by rw [e3]; rfl
        have k4 : (l[k].1 == 4) = false := by rw [e3]; rfl
        have j1 : (l[k].1 != 1) = true := by simp [bne, k1]
        have ho : opnds l[k].1 = 2 := by rw [e3]; rfl
        have HT := Lib.hid (cnText_no l[k] (by rw [e3]; decide))
        by_cases hq : q < 2
        · have HF := Lib.hid (condTo_next hlt HC.out (cnNext_3n q l[k] (.inl e3) hq))
          clear e3
          go_wp2_with (first | (go_at_call 137; refine (implIsCode_any _ _ (by assumption)).mono ?_; rintro e w' ⟨rfl, rfl⟩) | (go_at_call 162; refine (operands_any _ _).mono ?_; rintro e w' ⟨rfl, rfl⟩; rw [ho]))
          go_ret
          exact ⟨ret_bool HF.out.symm, HA⟩
        have HNX := Lib.hid (cnNext_3 q l[k] (.inl e3) (by omega))
        clear e3
        cases a0 : (l[k].2.1.toList == [])
        · have HF := Lib.hid (condTo_text hlt HC.out (HT.out.trans (by rw [a0]; rfl)))
          go_wp2_with (first | (go_at_call 137; refine (implIsCode_any _ _ (by assumption)).mono ?_; rintro e w' ⟨rfl, rfl⟩) | (go_at_call 162; refine (operands_any _ _).mono ?_; rintro e w' ⟨rfl, rfl⟩; rw [ho]))
          go_ret
          exact ⟨ret_bool HF.out.symm, HA⟩
        cases a1 : (l[k].2.2.toList == [])
        · have HF := Lib.hid (condTo_text hlt HC.out (HT.out.trans (by rw [a0, a1]; rfl)))
          go_wp2_with (first | (go_at_call 137; refine (implIsCode_any _ _ (by assumption)).mono ?_; rintro e w' ⟨rfl, rfl⟩) | (go_at_call 162; refine (operands_any _ _).mono ?_; rintro e w' ⟨rfl, rfl⟩; rw [ho]))
          go_ret
          exact ⟨ret_bool HF.out.symm, HA⟩
        have HE := Lib.hid (condTo_step hlt HC.out HNX.out (HT.out.trans (by rw [a0, a1]; rfl)))
        go_wp2_with (first | (go_at_call 137; refine (implIsCode_any _ _ (by assumption)).mono ?_; rintro e w' ⟨rfl, rfl⟩) | (go_at_call 162; refine (operands_any _ _).mono ?_; rintro e w' ⟨rfl, rfl⟩; rw [ho]))
        go_roundw
        case rel => exact ⟨k + 1, q - 1, by omega, by omega, by go_num, by go_num, HE.out, HA⟩
        case measure => simp [intOf]; omega
      by_cases e4 : l[k].1 = 4
      · have k0 : (l[k].1 == 0) = false := by rw [e4]; rfl
        have k1 : (l[k].1 == 1) = false := by rw [e4]; rfl
        have k2 : (l[k].1 == 2) = false := by rw [e4]; rfl
        have k3 : (l[k].1 == 3) = false := by rw [e4]; rfl
        have k4 : (l[k].1 == 4) = true := by rw [e4]; rfl
        have j1 : (l[k].1 != 1) = true := by simp [bne, k1]
        have ho : opnds l[k].1 = 2 := by rw [e4]; rfl
        have HT := Lib.hid (cnText_no l[k] (by rw [e4]; decide))
        by_cases hq : q < 2
        · have HF := Lib.hid (condTo_next hlt HC.out (cnNext_3n q l[k] (.inr e4) hq))
          clear e4
          go_wp2_with (first | (go_at_call 137; refine (implIsCode_any _ _ (by assumption)).mono ?_; rintro e w' ⟨rfl, rfl⟩) | (go_at_call 162; refine (operands_any _ _).mono ?_; rintro e w' ⟨rfl, rfl⟩; rw [ho]))
          go_ret
          exact ⟨ret_bool HF.out.symm, HA⟩
        have HNX := Lib.hid (cnNext_3 q l[k] (.inr e4) (by omega))
        clear e4
        cases a0 : (l[k].2.1.toList == [])
        · have HF := Lib.hid (condTo_text hlt HC.out (HT.out.trans (by rw [a0]; rfl)))
          go_wp2_with (first | (go_at_call 137; refine (implIsCode_any _ _ (by assumption)).mono ?_; rintro e w' ⟨rfl, rfl⟩) | (go_at_call 162; refine (operands_any _ _).mono ?_; rintro e w' ⟨rfl, rfl⟩; rw [ho]))
          go_ret
          exact ⟨ret_bool HF.out.symm, HA⟩
        cases a1 : (l[k].2.2.toList == [])
        · have HF := Lib.hid (condTo_text hlt HC.out (HT.out.trans (by rw [a0, a1]; rfl)))
          go_wp2_with (first | (go_at_call 137; refine (implIsCode_any _ _ (by assumption)).mono ?_; rintro e w' ⟨rfl, rfl⟩) | (go_at_call 162; refine (operands_any _ _).mono ?_; rintro e w' ⟨rfl, rfl⟩; rw [ho]))
          go_ret
          exact ⟨ret_bool HF.out.symm, HA⟩
        have HE := Lib.hid (condTo_step hlt HC.out HNX.out (HT.out.trans (by rw [a0, a1]; rfl)))
        go_wp2_with (first | (go_at_call 137; refine (implIsCode_any _ _ (by assumption)).mono ?_; rintro e w' ⟨rfl, rfl⟩) | (go_at_call 162; refine (operands_any _ _).mono ?_; rintro e w' ⟨rfl, rfl⟩; rw [ho]))
        go_roundw
        case rel => exact ⟨k + 1, q - 1, by omega, by omega, by go_num, by go_num, HE.out, HA⟩
        case measure => simp [intOf]; omega
      have k0 : (l[k].1 == 0) = false := by simpa using e0
      have k1 : (l[k].1 == 1) = false := by simpa using e1
      have k2 : (l[k].1 == 2) = false := by simpa using e2
      have k3 : (l[k].1 == 3) = false := by simpa using e3
      have k4 : (l[k].1 == 4) = false := by simpa using e4
      have j1 : (l[k].1 != 1) = true := by simp [bne, k1]
      have ho : opnds l[k].1 = -1 := by unfold opnds; rw [if_neg (by omega), if_neg e2, if_neg (by omega)]
      have HF := Lib.hid (condTo_next hlt HC.out (cnNext_o q l[k] e0 e1 e2 e3 e4))
      clear e0 e1 e2 e3 e4
      go_wp2_with (first | (go_at_call 137; refine (implIsCode_any _ _ (by assumption)).mono ?_; rintro e w' ⟨rfl, rfl⟩) | (go_at_call 162; refine (operands_any _ _).mono ?_; rintro e w' ⟨rfl, rfl⟩; rw [ho]))
      go_ret
      exact ⟨ret_bool HF.out.symm, HA⟩
    · obtain rfl : k = l.length := by omega
      have HF := Lib.hid (isCond_end h30 HC.out)
      cases hq1 : ((q : Int) == 1)
      all_goals
        go_wp2
        go_ret
        exact ⟨ret_bool (HF.out.trans hq1).symm, HR⟩
end Go.Proofs.YtlnkofnfgemfdaaGreat
