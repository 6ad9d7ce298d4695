/- The walks of AreDemands. -/
import Derived.Test.YtdofhdelcendeaaCode
import Derived.Test.YtdofhdelcendeaaDemandTo
namespace Go.Proofs.Ytdofhdelcendeaa
open Go.RowKit
def dmNone : Dm := (0, ByteArray.empty, 0, 0, 0)
def okDem (l : List Dm) (k : Nat) : Bool :=
  inB (l.getD k dmNone).1 1 9999 && (isCode (l.getD k dmNone).2.1 && (inB (l.getD k dmNone).2.2.1 1 100000 && (inB (l.getD k dmNone).2.2.2.1 0 999 && (inB (l.getD k dmNone).2.2.2.2 0 9 && !((List.range k).any fun j => (l.getD j dmNone).1 == (l.getD k dmNone).1)))))
def areDemands (l : List Dm) : Bool := (List.range l.length).all (okDem l) && decide ((l.length : Int) ≤ 16)
theorem areDemands_no {l : List Dm} {k : Nat} (hk : k < l.length) (h : okDem l k = false) : areDemands l = false := by
  unfold areDemands
  have : (List.range l.length).all (okDem l) = false := by rw [List.all_eq_false]; exact ⟨k, by simpa using hk, by simp [h]⟩
  simp [this]
theorem areDemands_end {l : List Dm} (h : ∀ j < l.length, okDem l j = true) : areDemands l = decide ((l.length : Int) ≤ 16) := by
  unfold areDemands
  have : (List.range l.length).all (okDem l) = true := by rw [List.all_eq_true]; intro x hx; exact h x (by simpa using hx)
  simp [this]
theorem areDemands_16 {l : List Dm} (h : ¬ (l.length : Int) ≤ 16) : areDemands l = false := by unfold areDemands; rw [decide_eq_false h, Bool.and_false]
theorem dm_getD (l : List Dm) (k : Nat) (h : k < l.length) : l.getD k dmNone = l[k] := by
  rw [List.getD_eq_getElem?_getD, List.getElem?_eq_getElem h]; rfl
theorem dm_any {l : List Dm} {k : Nat} (hk : k < l.length) (h : ∀ j (hj : j < l.length), j < k → l[j].1 ≠ l[k].1) : ((List.range k).any fun j => (l.getD j dmNone).1 == l[k].1) = false := by
  rw [List.any_eq_false]
  intro j hj
  rw [List.mem_range] at hj
  rw [dm_getD l j (by omega)]
  simpa using h j (by omega) hj
theorem dm_any_yes {l : List Dm} {k : Nat} (hk : k < l.length) (j : Nat) (hj : j < l.length) (hjk : j < k) (he : l[j].1 = l[k].1) : ((List.range k).any fun j => (l.getD j dmNone).1 == l[k].1) = true := by
  rw [List.any_eq_true]
  exact ⟨j, by rw [List.mem_range]; exact hjk, by rw [dm_getD l j hj]; simpa using he⟩
set_option maxRecDepth 100000 in
set_option maxHeartbeats 4000000 in
theorem specAreDemands_any (A : Option Addr) (n c : Nat) (l : List Dm) (w : World) (hl : DemandsIn w A n l) (hok : ∀ x ∈ l, okDm x) :
    Calls Try.prog 92 #[.slice A n c] w fun e w' => e = .returned (.bool (areDemands l)) ∧ Below w.heap.size w w' := by
  have hn := hl.len
  obtain rfl := hl.1
  have HO := Lib.hid hok
  clear hok
  by_cases h16 : (l.length : Int) ≤ 16
  case neg =>
    go_enter Try.func92, Try.ntmps92
    go_wp2
    refine wp_loop_rounds 1 ?_
    rw [rounds_succ]
    go_wp2
    all_goals
      go_ret
      exact ⟨ret_bool (by rw [areDemands_16 (l := l) (by omega)]; first | rfl | exact decide_eq_false (by omega)), Below.refl _ _⟩
  go_enter Try.func92, Try.ntmps92
  go_wp2
  go_loopw [3] (fun i wr => ∃ k : Nat, k ≤ l.length ∧ i = .int .i64 k ∧ Hid (∀ j < k, okDem l j = true) ∧ Below w.heap.size w wr) (fun i _ => l.length - (intOf i).toNat)
  case atStart => exact ⟨0, by omega, rfl, fun j h => absurd h (by omega), Below.refl _ _⟩
  case round =>
    obtain ⟨k, hk, rfl, HI, HD⟩ := hrel
    by_cases hlt : k < l.length
    · have hsz := HO.out _ (List.getElem_mem hlt)
      unfold okDm at hsz
      have hsw := HD.size
      obtain ⟨b, o, rfl, hbl, hc0, hc1, hc2, hc3, hc4⟩ := demand_at (hl.keep HD) hlt
      have HG : Hid (l.getD k dmNone = l[k]) := dm_getD _ _ hlt
      cases h1 : inB l[k].1 1 9999
      · go_wp2_with (first | (go_at_call 68; refine (l1In_any _ _ _ _).mono ?_; rintro e w' ⟨rfl, rfl⟩) | (go_at_call 105; refine (specIsCode_any _ _ hsz).mono ?_; rintro e w' ⟨rfl, rfl⟩))
        go_ret
        exact ⟨ret_bool (areDemands_no hlt (by unfold okDem; rw [HG.out, h1]; rfl)).symm, HD.alloc hsw _⟩
      cases h2 : isCode l[k].2.1
      · go_wp2_with (first | (go_at_call 68; refine (l1In_any _ _ _ _).mono ?_; rintro e w' ⟨rfl, rfl⟩) | (go_at_call 105; refine (specIsCode_any _ _ hsz).mono ?_; rintro e w' ⟨rfl, rfl⟩))
        go_ret
        exact ⟨ret_bool (areDemands_no hlt (by unfold okDem; rw [HG.out, h1, h2]; rfl)).symm, HD.alloc hsw _⟩
      cases h3 : inB l[k].2.2.1 1 100000
      · go_wp2_with (first | (go_at_call 68; refine (l1In_any _ _ _ _).mono ?_; rintro e w' ⟨rfl, rfl⟩) | (go_at_call 105; refine (specIsCode_any _ _ hsz).mono ?_; rintro e w' ⟨rfl, rfl⟩))
        go_ret
        exact ⟨ret_bool (areDemands_no hlt (by unfold okDem; rw [HG.out, h1, h2, h3]; rfl)).symm, HD.alloc hsw _⟩
      cases h4 : inB l[k].2.2.2.1 0 999
      · go_wp2_with (first | (go_at_call 68; refine (l1In_any _ _ _ _).mono ?_; rintro e w' ⟨rfl, rfl⟩) | (go_at_call 105; refine (specIsCode_any _ _ hsz).mono ?_; rintro e w' ⟨rfl, rfl⟩))
        go_ret
        exact ⟨ret_bool (areDemands_no hlt (by unfold okDem; rw [HG.out, h1, h2, h3, h4]; rfl)).symm, HD.alloc hsw _⟩
      cases h5 : inB l[k].2.2.2.2 0 9
      · go_wp2_with (first | (go_at_call 68; refine (l1In_any _ _ _ _).mono ?_; rintro e w' ⟨rfl, rfl⟩) | (go_at_call 105; refine (specIsCode_any _ _ hsz).mono ?_; rintro e w' ⟨rfl, rfl⟩))
        go_ret
        exact ⟨ret_bool (areDemands_no hlt (by unfold okDem; rw [HG.out, h1, h2, h3, h4, h5]; rfl)).symm, HD.alloc hsw _⟩
      have HX : Hid ((∀ j (hj : j < l.length), j < k → l[j].1 ≠ l[k].1) → ∀ j < k + 1, okDem l j = true) := fun hb j hj => by
        rcases Nat.lt_or_ge j k with e1 | e1
        · exact HI.out j e1
        · obtain rfl : j = k := by omega
          unfold okDem
          rw [HG.out, h1, h2, h3, h4, h5, dm_any hlt hb]; rfl
      have HN : Hid (∀ j (hj : j < l.length), j < k → l[j].1 = l[k].1 → areDemands l = false) := fun j hj hjk he => areDemands_no hlt (by
        unfold okDem
        rw [HG.out, h1, h2, h3, h4, h5, dm_any_yes hlt j hj hjk he]; rfl)
      have x0 : (wr.alloc (.cells #[.int .i64 l[k].1, .string l[k].2.1, .int .i64 l[k].2.2.1, .int .i64 l[k].2.2.2.1, .int .i64 l[k].2.2.2.2] 99)).cell? ⟨wr.heap.size, 0, none⟩ = some (.int .i64 l[k].1) := by simp [go_sem]
      have HD1 := HD.alloc hsw (.cells #[.int .i64 l[k].1, .string l[k].2.1, .int .i64 l[k].2.2.1, .int .i64 l[k].2.2.2.1, .int .i64 l[k].2.2.2.2] 99)
      have hz1 : wr.heap.size < (wr.alloc (.cells #[.int .i64 l[k].1, .string l[k].2.1, .int .i64 l[k].2.2.1, .int .i64 l[k].2.2.2.1, .int .i64 l[k].2.2.2.2] 99)).heap.size := by simp
      go_wp2_with (first | (go_at_call 68; refine (l1In_any _ _ _ _).mono ?_; rintro e w' ⟨rfl, rfl⟩) | (go_at_call 105; refine (specIsCode_any _ _ hsz).mono ?_; rintro e w' ⟨rfl, rfl⟩))
      clear hc0 hc1 hc2 hc3 hc4 hbl HI h1 h2 h3 h4 h5 hsz
      generalize wr.alloc (.cells #[.int .i64 l[k].1, .string l[k].2.1, .int .i64 l[k].2.2.1, .int .i64 l[k].2.2.2.1, .int .i64 l[k].2.2.2.2] 99) = W1 at *
      have hswr := hsw
      generalize wr.heap.size = H at *
      go_loopw [5] (fun i wr => ∃ j : Nat, j ≤ k ∧ i = .int .i64 j ∧ Hid (∀ i (hi : i < l.length), i < j → l[i].1 ≠ l[k].1) ∧ H < wr.heap.size ∧ wr.cell? ⟨H, 0, none⟩ = some (.int .i64 l[k].1) ∧ Below w.heap.size w wr) (fun i _ => k - (intOf i).toNat)
      case atStart => exact ⟨0, by omega, rfl, fun i _ h => absurd h (by omega), hz1, x0, HD1⟩
      case round =>
        clear x0 HD1 hz1 HD
        obtain ⟨j, hj, rfl, HJ, hz1, x0, HD⟩ := hrel
        by_cases hjk : j < k
        · have hjl : j < l.length := by omega
          have hsw := HD.size
          obtain ⟨b2, o2, e2, hbl, hc0, hc1, hc2, hc3, hc4⟩ := demand_at (hl.keep HD) hjl
          obtain ⟨rfl, rfl⟩ : b = b2 ∧ o = o2 := by simpa using e2
          by_cases he : l[j].1 = l[k].1
          · have hq : (l[j].1 == l[k].1) = true := by rw [beq_iff_eq]; exact he
            have HE := Lib.hid (HN.out j hjl hjk he)
            clear he
            go_wp2
            go_quiet (fail)
            go_wp2
            go_ret
            exact ⟨ret_bool HE.out.symm, below_drewN HD _⟩
          · have hq : (l[j].1 == l[k].1) = false := by rw [beq_eq_false_iff_ne]; exact he
            have HJ2 : Hid (∀ i (hi : i < l.length), i < j + 1 → l[i].1 ≠ l[k].1) := fun i hi hij => by
              rcases Nat.lt_or_ge i j with e1 | e1
              · exact HJ.out i hi e1
              · obtain rfl : i = j := by omega
                exact he
            clear he
            go_wp2
            go_quiet (fail)
            go_wp2
            go_roundw
            case rel => exact ⟨j + 1, by omega, by go_num, HJ2.out, hz1, x0, below_drewN HD _⟩
            case measure => simp [intOf]; omega
        · obtain rfl : j = k := by omega
          have HY := Lib.hid (HX.out HJ.out)
          go_wp2
          go_roundw
          case rel => exact ⟨j + 1, by omega, by go_num, HY.out, HD⟩
          case measure => simp [intOf]; omega
    · obtain rfl : k = l.length := by omega
      go_wp2
      all_goals
        go_ret
        first
          | exact ⟨ret_bool (areDemands_end HI.out).symm, HD⟩
          | exact ⟨ret_bool (by rw [areDemands_end HI.out]; exact (decide_eq_true h16).symm), HD⟩
set_option maxRecDepth 100000 in
set_option maxHeartbeats 4000000 in
theorem implAreDemands_any (A : Option Addr) (n c : Nat) (l : List Dm) (w : World) (hl : DemandsIn w A n l) (hok : ∀ x ∈ l, okDm x) (hnc : n ≤ c) :
    Calls Try.prog 94 #[.slice A n c] w fun e w' => e = .returned (.bool (areDemands l)) ∧ Below w.heap.size w w' := by
  have hn := hl.len
  obtain rfl := hl.1
  have HO := Lib.hid hok
  clear hok
  go_enter Try.func94, Try.ntmps94
  go_wp2
  go_loopw [9] (fun i wr => ∃ k : Nat, k ≤ l.length ∧ i = .int .i64 k ∧ Hid (∀ j < k, okDem l j = true) ∧ Below w.heap.size w wr) (fun i _ => l.length - (intOf i).toNat)
  case atStart => exact ⟨0, by omega, rfl, fun j h => absurd h (by omega), Below.refl _ _⟩
  case round =>
    obtain ⟨k, hk, rfl, HI, HD⟩ := hrel
    by_cases hlt : k < l.length
    · have hsz := HO.out _ (List.getElem_mem hlt)
      unfold okDm at hsz
      have hsw := HD.size
      obtain ⟨b, o, rfl, hbl, hc0, hc1, hc2, hc3, hc4⟩ := demand_at (hl.keep HD) hlt
      have HG : Hid (l.getD k dmNone = l[k]) := dm_getD _ _ hlt
      have hkc : k ≤ c := by omega
      cases h1 : inB l[k].1 1 9999
      · go_wp2_with (first | (go_at_call 72; refine (in_any _ _ _ _).mono ?_; rintro e w' ⟨rfl, rfl⟩) | (go_at_call 106; refine (implIsCode_any _ _ hsz).mono ?_; rintro e w' ⟨rfl, rfl⟩))
        go_ret
        exact ⟨ret_bool (areDemands_no hlt (by unfold okDem; rw [HG.out, h1]; rfl)).symm, HD.alloc hsw _⟩
      cases h2 : isCode l[k].2.1
      · go_wp2_with (first | (go_at_call 72; refine (in_any _ _ _ _).mono ?_; rintro e w' ⟨rfl, rfl⟩) | (go_at_call 106; refine (implIsCode_any _ _ hsz).mono ?_; rintro e w' ⟨rfl, rfl⟩))
        go_ret
        exact ⟨ret_bool (areDemands_no hlt (by unfold okDem; rw [HG.out, h1, h2]; rfl)).symm, HD.alloc hsw _⟩
      cases h3 : inB l[k].2.2.1 1 100000
      · go_wp2_with (first | (go_at_call 72; refine (in_any _ _ _ _).mono ?_; rintro e w' ⟨rfl, rfl⟩) | (go_at_call 106; refine (implIsCode_any _ _ hsz).mono ?_; rintro e w' ⟨rfl, rfl⟩))
        go_ret
        exact ⟨ret_bool (areDemands_no hlt (by unfold okDem; rw [HG.out, h1, h2, h3]; rfl)).symm, HD.alloc hsw _⟩
      cases h4 : inB l[k].2.2.2.1 0 999
      · go_wp2_with (first | (go_at_call 72; refine (in_any _ _ _ _).mono ?_; rintro e w' ⟨rfl, rfl⟩) | (go_at_call 106; refine (implIsCode_any _ _ hsz).mono ?_; rintro e w' ⟨rfl, rfl⟩))
        go_ret
        exact ⟨ret_bool (areDemands_no hlt (by unfold okDem; rw [HG.out, h1, h2, h3, h4]; rfl)).symm, HD.alloc hsw _⟩
      cases h5 : inB l[k].2.2.2.2 0 9
      · go_wp2_with (first | (go_at_call 72; refine (in_any _ _ _ _).mono ?_; rintro e w' ⟨rfl, rfl⟩) | (go_at_call 106; refine (implIsCode_any _ _ hsz).mono ?_; rintro e w' ⟨rfl, rfl⟩))
        go_ret
        exact ⟨ret_bool (areDemands_no hlt (by unfold okDem; rw [HG.out, h1, h2, h3, h4, h5]; rfl)).symm, HD.alloc hsw _⟩
      have HX : Hid ((∀ j (hj : j < l.length), j < k → l[j].1 ≠ l[k].1) → ∀ j < k + 1, okDem l j = true) := fun hb j hj => by
        rcases Nat.lt_or_ge j k with e1 | e1
        · exact HI.out j e1
        · obtain rfl : j = k := by omega
          unfold okDem
          rw [HG.out, h1, h2, h3, h4, h5, dm_any hlt hb]; rfl
      have HN : Hid (∀ j (hj : j < l.length), j < k → l[j].1 = l[k].1 → areDemands l = false) := fun j hj hjk he => areDemands_no hlt (by
        unfold okDem
        rw [HG.out, h1, h2, h3, h4, h5, dm_any_yes hlt j hj hjk he]; rfl)
      have x0 : (wr.alloc (.cells #[.int .i64 l[k].1, .string l[k].2.1, .int .i64 l[k].2.2.1, .int .i64 l[k].2.2.2.1, .int .i64 l[k].2.2.2.2] 99)).cell? ⟨wr.heap.size, 0, none⟩ = some (.int .i64 l[k].1) := by simp [go_sem]
      have HD1 := HD.alloc hsw (.cells #[.int .i64 l[k].1, .string l[k].2.1, .int .i64 l[k].2.2.1, .int .i64 l[k].2.2.2.1, .int .i64 l[k].2.2.2.2] 99)
      have hz1 : wr.heap.size < (wr.alloc (.cells #[.int .i64 l[k].1, .string l[k].2.1, .int .i64 l[k].2.2.1, .int .i64 l[k].2.2.2.1, .int .i64 l[k].2.2.2.2] 99)).heap.size := by simp
      go_wp2_with (first | (go_at_call 72; refine (in_any _ _ _ _).mono ?_; rintro e w' ⟨rfl, rfl⟩) | (go_at_call 106; refine (implIsCode_any _ _ hsz).mono ?_; rintro e w' ⟨rfl, rfl⟩))
      clear hc0 hc1 hc2 hc3 hc4 hbl HI h1 h2 h3 h4 h5 hsz
      generalize wr.alloc (.cells #[.int .i64 l[k].1, .string l[k].2.1, .int .i64 l[k].2.2.1, .int .i64 l[k].2.2.2.1, .int .i64 l[k].2.2.2.2] 99) = W1 at *
      have hswr := hsw
      generalize wr.heap.size = H at *
      go_loopw [46] (fun i wr => ∃ j : Nat, j ≤ k ∧ i = .int .i64 j ∧ Hid (∀ i (hi : i < l.length), i < j → l[i].1 ≠ l[k].1) ∧ H < wr.heap.size ∧ wr.cell? ⟨H, 0, none⟩ = some (.int .i64 l[k].1) ∧ Below w.heap.size w wr) (fun i _ => k - (intOf i).toNat)
      case atStart => exact ⟨0, by omega, rfl, fun i _ h => absurd h (by omega), hz1, x0, HD1⟩
      case round =>
        clear x0 HD1 hz1 HD
        obtain ⟨j, hj, rfl, HJ, hz1, x0, HD⟩ := hrel
        by_cases hjk : j < k
        · have hjl : j < l.length := by omega
          have hsw := HD.size
          obtain ⟨b2, o2, e2, hbl, hc0, hc1, hc2, hc3, hc4⟩ := demand_at (hl.keep HD) hjl
          obtain ⟨rfl, rfl⟩ : b = b2 ∧ o = o2 := by simpa using e2
          have hw0 := World.cell?_alloc_lt wr (.cells #[.int .i64 l[j].1, .string l[j].2.1, .int .i64 l[j].2.2.1, .int .i64 l[j].2.2.2.1, .int .i64 l[j].2.2.2.2] 99) ⟨H, 0, none⟩ hz1
          rw [x0] at hw0
          by_cases he : l[j].1 = l[k].1
          · have hq : (l[j].1 == l[k].1) = true := by rw [beq_iff_eq]; exact he
            have HE := Lib.hid (HN.out j hjl hjk he)
            clear he
            go_wp2
            go_ret
            exact ⟨ret_bool HE.out.symm, HD.alloc hsw _⟩
          · have hq : (l[j].1 == l[k].1) = false := by rw [beq_eq_false_iff_ne]; exact he
            have HJ2 : Hid (∀ i (hi : i < l.length), i < j + 1 → l[i].1 ≠ l[k].1) := fun i hi hij => by
              rcases Nat.lt_or_ge i j with e1 | e1
              · exact HJ.out i hi e1
              · obtain rfl : i = j := by omega
                exact he
            clear he
            go_wp2
            go_roundw
            case rel => exact ⟨j + 1, by omega, by go_num, HJ2.out, by simp; omega, hw0, HD.alloc hsw _⟩
            case measure => simp [intOf]; omega
        · obtain rfl : j = k := by omega
          have HY := Lib.hid (HX.out HJ.out)
          go_wp2
          go_roundw
          case rel => exact ⟨j + 1, by omega, by go_num, HY.out, HD⟩
          case measure => simp [intOf]; omega
    · obtain rfl : k = l.length := by omega
      go_wp2
      all_goals
        go_ret
        first
          | exact ⟨ret_bool (areDemands_end HI.out).symm, HD⟩
          | exact ⟨ret_bool (by rw [areDemands_end HI.out]; exact (decide_eq_true h16).symm), HD⟩
end Go.Proofs.Ytdofhdelcendeaa
