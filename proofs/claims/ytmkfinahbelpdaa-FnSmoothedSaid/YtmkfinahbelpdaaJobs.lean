/- The walks of AreJobs. -/
import Derived.Test.YtmkfinahbelpdaaJobTo
import Derived.Test.YtmkfinahbelpdaaCode
namespace Go.Proofs.Ytmkfinahbelpdaa
open Go.RowKit
def okWork (x : Wk) : Bool := isCode x.1 && inB x.2 1 1000
def okJob (j : Jb) : Bool := inB j.1 0 100000 && (inB j.2.1 0 100000 && (decide ((j.2.2.length : Int) ≤ 5) && j.2.2.all okWork))
def areJobs (l : List Jb) : Bool := l.all okJob && decide ((l.length : Int) ≤ 6)
theorem areJobs_no {l : List Jb} {k : Nat} (hk : k < l.length) (h : okJob l[k] = false) : areJobs l = false := by
  unfold areJobs; rw [all_false l _ k hk h]; rfl
theorem areJobs_parts {l : List Jb} (h : areJobs l = true) : l.length ≤ 6 ∧ ∀ k (hk : k < l.length), 0 ≤ l[k].1 ∧ l[k].1 ≤ 100000 ∧ 0 ≤ l[k].2.1 ∧ l[k].2.1 ≤ 100000 ∧ l[k].2.2.length ≤ 5 ∧ ∀ j (hj : j < l[k].2.2.length), 1 ≤ l[k].2.2[j].2 ∧ l[k].2.2[j].2 ≤ 1000 := by
  simp only [areJobs, Bool.and_eq_true, List.all_eq_true, decide_eq_true_eq] at h
  refine ⟨by omega, fun k hk => ?_⟩
  have h1 := h.1 _ (List.getElem_mem hk)
  simp only [okJob, Bool.and_eq_true, List.all_eq_true, decide_eq_true_eq, inB_iff] at h1
  obtain ⟨⟨a1, a2⟩, ⟨a3, a4⟩, a5, a6⟩ := h1
  refine ⟨a1, a2, a3, a4, by omega, fun j hj => ?_⟩
  have h2 := a6 _ (List.getElem_mem hj)
  simp only [okWork, Bool.and_eq_true, inB_iff] at h2
  exact h2.2
set_option maxRecDepth 100000 in
set_option maxHeartbeats 4000000 in
theorem specAreJobs_any (A : Option Addr) (n c : Nat) (l : List Jb) (w : World) (hl : JobsIn w A n l) (hok : ∀ x ∈ l, okJb x) :
    Calls Try.prog 50 #[.slice A n c] w fun e w' => e = .returned (.bool (areJobs l)) ∧ w = w' := by
  have hn := hl.len
  obtain rfl := hl.num
  have HO := Lib.hid hok
  clear hok
  go_enter Try.func50, Try.ntmps50
  go_wp2
  go_loop [3] (fun i => ∃ k : Nat, k ≤ l.length ∧ i = .int .i64 k ∧ (l.take k).all okJob = true) (fun i => l.length - (intOf i).toNat)
  case atStart => exact ⟨0, by omega, rfl, rfl⟩
  case round =>
    obtain ⟨k, hk, rfl, hall⟩ := hrel
    have HA := Lib.hid hall; clear hall
    by_cases hlt : k < l.length
    · obtain ⟨b, o, B, m, c2, rfl, _, hc0, hc1, hc2, hw⟩ := jb_at hl hlt
      have hokk := HO.out _ (List.getElem_mem hlt)
      simp only [okJb] at hokk
      have HOK := Lib.hid hokk
      clear hokk
      have hwl := hw.len
      obtain rfl := hw.1
      cases g1 : inB l[k].1 0 100000
      · go_wp2_with (go_at_call 42; refine (l1In_any _ _ _ _).mono ?_; rintro e w' ⟨rfl, rfl⟩)
        go_ret
        exact ⟨ret_bool (areJobs_no hlt (by unfold okJob; rw [g1]; rfl)).symm, rfl⟩
      cases g2 : inB l[k].2.1 0 100000
      · go_wp2_with (go_at_call 42; refine (l1In_any _ _ _ _).mono ?_; rintro e w' ⟨rfl, rfl⟩)
        go_ret
        exact ⟨ret_bool (areJobs_no hlt (by unfold okJob; rw [g1, g2]; rfl)).symm, rfl⟩
      by_cases g3 : (l[k].2.2.length : Int) ≤ 5
      case neg =>
        have HG := Lib.hid (decide_eq_false g3)
        go_wp2_with (go_at_call 42; refine (l1In_any _ _ _ _).mono ?_; rintro e w' ⟨rfl, rfl⟩)
        go_ret
        exact ⟨ret_bool (areJobs_no hlt (by unfold okJob; rw [g1, g2, HG.out]; rfl)).symm, rfl⟩
      have HG := Lib.hid (decide_eq_true g3)
      go_wp2_with (go_at_call 42; refine (l1In_any _ _ _ _).mono ?_; rintro e w' ⟨rfl, rfl⟩)
      go_loop [4] (fun i => ∃ j : Nat, j ≤ l[k].2.2.length ∧ i = .int .i64 j ∧ (l[k].2.2.take j).all okWork = true) (fun i => l[k].2.2.length - (intOf i).toNat)
      case atStart => exact ⟨0, by omega, rfl, rfl⟩
      case round =>
        obtain ⟨j, hj, rfl, hall⟩ := hrel
        have HB := Lib.hid hall; clear hall
        by_cases hltj : j < l[k].2.2.length
        · obtain ⟨b2, o2, rfl, _, hd0, hd1⟩ := work_at hw hltj
          have hsz := HOK.out _ (List.getElem_mem hltj)
          unfold okWk at hsz
          cases q1 : isCode l[k].2.2[j].1
          · go_wp2_with (first | (go_at_call 42; refine (l1In_any _ _ _ _).mono ?_; rintro e w' ⟨rfl, rfl⟩) | (go_at_call 71; refine (specIsCode_any _ _ hsz).mono ?_; rintro e w' ⟨rfl, rfl⟩))
            go_ret
            exact ⟨ret_bool (areJobs_no hlt (by unfold okJob; rw [g1, g2, HG.out, all_false _ _ j hltj (by unfold okWork; rw [q1]; rfl)]; rfl)).symm, rfl⟩
          cases q2 : inB l[k].2.2[j].2 1 1000
          · go_wp2_with (first | (go_at_call 42; refine (l1In_any _ _ _ _).mono ?_; rintro e w' ⟨rfl, rfl⟩) | (go_at_call 71; refine (specIsCode_any _ _ hsz).mono ?_; rintro e w' ⟨rfl, rfl⟩))
            go_ret
            exact ⟨ret_bool (areJobs_no hlt (by unfold okJob; rw [g1, g2, HG.out, all_false _ _ j hltj (by unfold okWork; rw [q1, q2]; rfl)]; rfl)).symm, rfl⟩
          go_wp2_with (first | (go_at_call 42; refine (l1In_any _ _ _ _).mono ?_; rintro e w' ⟨rfl, rfl⟩) | (go_at_call 71; refine (specIsCode_any _ _ hsz).mono ?_; rintro e w' ⟨rfl, rfl⟩))
          go_round
          case rel => exact ⟨j + 1, by omega, by go_num, by rw [all_take _ _ j hltj, HB.out, okWork, q1, q2]; rfl⟩
          case measure => simp [intOf]; omega
        · obtain rfl : j = l[k].2.2.length := by omega
          have HC : Hid (l[k].2.2.all okWork = true) := by have := HB.out; rw [List.take_length] at this; exact this
          clear HB
          go_wp2
          go_round
          case rel => exact ⟨k + 1, by omega, by go_num, by rw [all_take l _ k hlt, HA.out, okJob, g1, g2, HG.out, HC.out]; rfl⟩
          case measure => simp [intOf]; omega
    · obtain rfl : k = l.length := by omega
      go_wp2
      go_ret
      exact ⟨ret_bool (by have := HA.out; rw [List.take_length] at this; rw [areJobs, this]; rfl), rfl⟩
set_option maxRecDepth 100000 in
set_option maxHeartbeats 4000000 in
theorem implAreJobs_any (A : Option Addr) (n c : Nat) (l : List Jb) (w : World) (hl : JobsIn w A n l) (hok : ∀ x ∈ l, okJb x) :
    Calls Try.prog 48 #[.slice A n c] w fun e w' => e = .returned (.bool (areJobs l)) ∧ Below w.heap.size w w' := by
  have hn := hl.len
  obtain rfl := hl.num
  have HO := Lib.hid hok
  clear hok
  go_enter Try.func48, Try.ntmps48
  go_wp2
  go_loopw [9] (fun i wr => ∃ k : Nat, k ≤ l.length ∧ i = .int .i64 k ∧ (l.take k).all okJob = true ∧ Below w.heap.size w wr) (fun i _ => l.length - (intOf i).toNat)
  case atStart => exact ⟨0, by omega, rfl, rfl, Below.refl _ _⟩
  case round =>
    obtain ⟨k, hk, rfl, hall, HR⟩ := hrel
    have HA := Lib.hid hall; clear hall
    by_cases hlt : k < l.length
    · obtain ⟨b, o, B, m, c2, rfl, _, hc0, hc1, hc2, hw⟩ := jb_at (hl.keep HR) hlt
      have hokk := HO.out _ (List.getElem_mem hlt)
      simp only [okJb] at hokk
      have HOK := Lib.hid hokk
      clear hokk
      have hwl := hw.len
      obtain rfl := hw.1
      have hsr := HR.size
      have hR2 := HR.alloc hsr (.cells #[.int .i64 l[k].1, .int .i64 l[k].2.1, .slice B l[k].2.2.length c2] 44)
      have hsx := below_alloc wr (.cells #[.int .i64 l[k].1, .int .i64 l[k].2.1, .slice B l[k].2.2.length c2] 44)
      cases g1 : inB l[k].1 0 100000
      · go_wp2_with (go_at_call 38; refine (in_any _ _ _ _).mono ?_; rintro e w' ⟨rfl, rfl⟩)
        go_ret
        exact ⟨ret_bool (areJobs_no hlt (by unfold okJob; rw [g1]; rfl)).symm, hR2⟩
      cases g2 : inB l[k].2.1 0 100000
      · go_wp2_with (go_at_call 38; refine (in_any _ _ _ _).mono ?_; rintro e w' ⟨rfl, rfl⟩)
        go_ret
        exact ⟨ret_bool (areJobs_no hlt (by unfold okJob; rw [g1, g2]; rfl)).symm, hR2⟩
      by_cases g3 : (l[k].2.2.length : Int) ≤ 5
      case neg =>
        have HG := Lib.hid (decide_eq_false g3)
        go_wp2_with (go_at_call 38; refine (in_any _ _ _ _).mono ?_; rintro e w' ⟨rfl, rfl⟩)
        go_ret
        exact ⟨ret_bool (areJobs_no hlt (by unfold okJob; rw [g1, g2, HG.out]; rfl)).symm, hR2⟩
      have HG := Lib.hid (decide_eq_true g3)
      go_wp2_with (go_at_call 38; refine (in_any _ _ _ _).mono ?_; rintro e w' ⟨rfl, rfl⟩)
      generalize wr.alloc (.cells #[.int .i64 l[k].1, .int .i64 l[k].2.1, .slice B l[k].2.2.length c2] 44) = wq at *
      go_loopw [32] (fun i wr => ∃ j : Nat, j ≤ l[k].2.2.length ∧ i = .int .i64 j ∧ (l[k].2.2.take j).all okWork = true ∧ Below wq.heap.size wq wr) (fun i _ => l[k].2.2.length - (intOf i).toNat)
      case atStart => exact ⟨0, by omega, rfl, rfl, Below.refl _ _⟩
      case round =>
        obtain ⟨j, hj, rfl, hall, HS⟩ := hrel
        have HB := Lib.hid hall; clear hall
        by_cases hltj : j < l[k].2.2.length
        · obtain ⟨b2, o2, rfl, _, hd0, hd1⟩ := work_at ((hw.keep hsx).keep HS) hltj
          have hsz := HOK.out _ (List.getElem_mem hltj)
          unfold okWk at hsz
          have hss := HS.size
          have hS2 := HS.alloc hss (.cells #[.string l[k].2.2[j].1, .int .i64 l[k].2.2[j].2] 46)
          cases q1 : isCode l[k].2.2[j].1
          · go_wp2_with (first | (go_at_call 38; refine (in_any _ _ _ _).mono ?_; rintro e w' ⟨rfl, rfl⟩) | (go_at_call 69; refine (implIsCode_any _ _ hsz).mono ?_; rintro e w' ⟨rfl, rfl⟩))
            go_ret
            exact ⟨ret_bool (areJobs_no hlt (by unfold okJob; rw [g1, g2, HG.out, all_false _ _ j hltj (by unfold okWork; rw [q1]; rfl)]; rfl)).symm, below_on hR2 hS2⟩
          cases q2 : inB l[k].2.2[j].2 1 1000
          · go_wp2_with (first | (go_at_call 38; refine (in_any _ _ _ _).mono ?_; rintro e w' ⟨rfl, rfl⟩) | (go_at_call 69; refine (implIsCode_any _ _ hsz).mono ?_; rintro e w' ⟨rfl, rfl⟩))
            go_ret
            exact ⟨ret_bool (areJobs_no hlt (by unfold okJob; rw [g1, g2, HG.out, all_false _ _ j hltj (by unfold okWork; rw [q1, q2]; rfl)]; rfl)).symm, below_on hR2 hS2⟩
          go_wp2_with (first | (go_at_call 38; refine (in_any _ _ _ _).mono ?_; rintro e w' ⟨rfl, rfl⟩) | (go_at_call 69; refine (implIsCode_any _ _ hsz).mono ?_; rintro e w' ⟨rfl, rfl⟩))
          go_round
          case rel => exact ⟨j + 1, by omega, by go_num, by rw [all_take _ _ j hltj, HB.out, okWork, q1, q2]; rfl, hS2⟩
          case measure => simp [intOf]; omega
        · obtain rfl : j = l[k].2.2.length := by omega
          have HC : Hid (l[k].2.2.all okWork = true) := by have := HB.out; rw [List.take_length] at this; exact this
          clear HB
          go_wp2
          go_round
          case rel => exact ⟨k + 1, by omega, by go_num, by rw [all_take l _ k hlt, HA.out, okJob, g1, g2, HG.out, HC.out]; rfl, below_on hR2 HS⟩
          case measure => simp [intOf]; omega
    · obtain rfl : k = l.length := by omega
      go_wp2
      go_ret
      exact ⟨ret_bool (by have := HA.out; rw [List.take_length] at this; rw [areJobs, this]; rfl), HR⟩
end Go.Proofs.Ytmkfinahbelpdaa
