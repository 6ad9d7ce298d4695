/- The walk of the law FnDispatched: for every input it returns true, and no memory that was there is written. -/
import Derived.Test.YtmkfinahbelpdaaDispImpl
import Derived.Test.YtmkfinahbelpdaaDrawSlots
import Derived.Test.YtmkfinahbelpdaaSchedImpl
import Derived.Test.YtmkfinahbelpdaaSchedSpec
import Derived.Test.YtmkfinahbelpdaaWorkImpl
import Derived.Test.YtmkfinahbelpdaaBytesCore
namespace Go.Proofs.Ytmkfinahbelpdaa
open Go.RowKit
theorem workW_take {jobs : List Jb} (hm : ∀ j ∈ jobs, MinOk j.2.2) (k : Nat) : 0 ≤ workW (jobs.take k) ∧ workW (jobs.take k) ≤ 5000 * jobs.length := by
  have h1 := workW_bd (jobs := jobs.take k) (fun j hj => hm j (List.mem_of_mem_take hj))
  have h2 : (jobs.take k).length ≤ jobs.length := by simp; omega
  omega
theorem workTo_bd {jobs : List Jb} (h : areJobs jobs = true) (k : Nat) (hk : k ≤ jobs.length) : 0 ≤ workTo jobs k ∧ workTo jobs k ≤ 30000 := by
  have hm : ∀ j ∈ jobs, MinOk j.2.2 := fun j hjj => by
    obtain ⟨k, hk, rfl⟩ := List.mem_iff_getElem.1 hjj
    have := (areJobs_parts h).2 k hk
    exact ⟨this.2.2.2.2.1, this.2.2.2.2.2⟩
  have h1 := workW_take hm k
  have h2 := (areJobs_parts h).1
  rw [workTo_eq jobs k hk]
  omega
set_option maxRecDepth 100000 in
set_option maxHeartbeats 4000000 in
theorem lawDispatched {w : World} (A : Option Addr) (n c : Nat) (l : List Int) (hl : n ≤ 1048576 → RowsIn byteF w A n l ∧ ∀ x ∈ l, okByte x) (hn : n ≤ 9223372036854775807) :
    Calls Try.prog 4 #[.slice A n c] w fun e w' => e = .returned (.bool true) ∧ Below w.heap.size w w' := by
  by_cases big : 1048576 < n
  · go_enter Try.func4, Try.ntmps4
    go_wp2_with fail
    refine (big_yes _ _ _ _ big hn).mono ?_
    rintro e w1 ⟨rfl, rfl⟩
    go_wp2_with fail
    go_ret
    exact ⟨rfl, Below.refl _ _⟩
  obtain ⟨hi, hok⟩ := hl (by omega)
  have hby := bytesAt_of hi hok
  clear hl hi hok l
  go_enter Try.func4, Try.ntmps4
  go_wp2_with fail
  refine (big_no _ _ _ _ big).mono ?_
  rintro e w1 ⟨rfl, rfl⟩
  go_wp2_with fail
  refine (DrawDispatchJobs_any _ _ _ _ hby).mono ?_
  rintro e w1 ⟨jobs, R, b1, c1, rule, rfl, hj4, hokj, hr, hJ, hb⟩
  have hjc : JobsC w1 (some ⟨b1, 0, none⟩) jobs.length jobs := hJ.jobsC hr (by omega)
  have hokJ : ∀ x ∈ jobs, okJb x := fun x hx => (hokj x hx).1
  have HO := Lib.hid hokJ
  clear hby hr hJ hokj hokJ big
  go_wp2_with fail
  refine (implDispatchJobs_any _ _ _ jobs rule _ hjc HO.out).mono ?_
  rintro e w2 (⟨hf, rfl, hB⟩ | ⟨hf, sl, b2, c2, rfl, hsc, hmk, h30, hs, hB⟩)
  · replace hjc := hjc.keep hB
    replace hb := below_on hb hB
    clear hB
    go_wp2_with fail
    refine (specDispatchJobs_any _ _ _ jobs rule _ hjc.in_ HO.out).mono ?_
    rintro e w3 ⟨sl, b3, c3, rfl, h30, hsz, _, hs, hB⟩
    rw [hf]
    replace hb := below_on hb hB
    clear hB
    go_wp2_with fail
    go_ret
    exact ⟨rfl, hb⟩
  have hsl : SlotsIn w2 (some ⟨b2, 0, none⟩) sl.length sl := hs.rows (by omega)
  have hcap := own_cap hs
  replace hjc := hjc.keep hB
  replace hb := below_on hb hB
  clear hB hs
  go_wp2_with fail
  refine (specDispatchJobs_any _ _ _ jobs rule _ hjc.in_ HO.out).mono ?_
  rintro e w3 ⟨sl3, b3, c3, rfl, h303, hsz3, _, hs3, hB⟩
  rw [hf]
  replace hjc := hjc.keep hB
  replace hsl := hsl.keep hB
  replace hb := below_on hb hB
  have HP := Lib.hid (show areJobs jobs = true by simp only [Bool.and_eq_true] at hf; exact hf.1)
  have HS := Lib.hid hsc
  have HM := Lib.hid hmk
  clear hB hs3 hsz3 h303 hf hsc hmk
  go_wp2_with fail
  go_loop [9, 10, 11] (fun la wo i => ∃ k : Nat, k ≤ jobs.length ∧ i = .int .i64 k ∧ la = .int .i64 (lastTo jobs k) ∧ wo = .int .i64 (workTo jobs k)) (fun _ _ i => jobs.length - (intOf i).toNat)
  case atStart => exact ⟨0, by omega, rfl, rfl, rfl⟩
  case round =>
    obtain ⟨k, hk, rfl, rfl, rfl⟩ := hrel
    have hjl := (areJobs_parts HP.out).1
    have hwb := workTo_bd HP.out k hk
    by_cases hlt : k < jobs.length
    · obtain ⟨b, o, B, c9, hAe, _, _, hcells, hwk⟩ := jbc_all hjc hlt
      obtain ⟨rfl, rfl⟩ : b1 = b ∧ 0 = o := by simpa using hAe
      clear hAe
      obtain ⟨hd0, hd1, hd2⟩ := hcells w3 (Below.refl _ _)
      rw [Nat.zero_add] at hd0 hd1 hd2
      clear hcells
      have hp := (areJobs_parts HP.out).2 k hlt
      have hm : MinOk jobs[k].2.2 := ⟨hp.2.2.2.2.1, hp.2.2.2.2.2⟩
      have hm5 := hm.1
      have HMO := Lib.hid hm
      clear hm hp
      have HLA : Hid (lastTo jobs (k + 1) = if lastTo jobs k < jobs[k].1 then jobs[k].1 else lastTo jobs k) := by
        show lastTo jobs (k + 1) = _
        simp only [lastTo]; rw [jb_getD _ _ hlt]; split <;> omega
      obtain ⟨lx, hlx⟩ : ∃ lx : Int, (if lastTo jobs k < jobs[k].1 then jobs[k].1 else lastTo jobs k) = lx := ⟨_, rfl⟩
      have HLX : Hid (lastTo jobs (k + 1) = lx) := by show lastTo jobs (k + 1) = lx; rw [HLA.out, hlx]
      go_wp2_with fail
      clear hlx
      go_loop [10, 12] (fun wo i => ∃ j : Nat, j ≤ jobs[k].2.2.length ∧ i = .int .i64 j ∧ wo = .int .i64 (workTo jobs k + beforeN jobs[k].2.2 j)) (fun _ i => jobs[k].2.2.length - (intOf i).toNat)
      case atStart => exact ⟨0, by omega, rfl, by simp [beforeN]⟩
      case round =>
        obtain ⟨j, hj, rfl, rfl⟩ := hrel
        have hbn := beforeN_bd HMO.out j
        by_cases hlj : j < jobs[k].2.2.length
        · obtain ⟨bw, ow, rfl, _, v0, v1⟩ := work_at hwk hlj
          have hmj := HMO.out.2 j hlj
          have HW : Hid (workTo jobs k + beforeN jobs[k].2.2 (j + 1) = workTo jobs k + beforeN jobs[k].2.2 j + jobs[k].2.2[j].2) := by
            show workTo jobs k + beforeN jobs[k].2.2 (j + 1) = _
            simp only [beforeN]; rw [wk_getD _ _ hlj]; omega
          go_wp2
          go_round
          case rel => exact ⟨j + 1, by omega, by go_num, by rw [HW.out]⟩
          case measure => simp [intOf]; omega
        · obtain rfl : j = jobs[k].2.2.length := by omega
          have HW : Hid (workTo jobs (k + 1) = workTo jobs k + beforeN jobs[k].2.2 jobs[k].2.2.length) := by
            show workTo jobs (k + 1) = _
            simp only [workTo]; rw [jb_getD _ _ hlt]
          go_wp2
          go_round
          case rel => exact ⟨k + 1, by omega, by go_num, by rw [HLX.out], by rw [HW.out]⟩
          case measure => simp [intOf]; omega
    · obtain rfl : k = jobs.length := by omega
      have hle := bound_le HS.out
      have hlb := lastTo_bd HP.out jobs.length (Nat.le_refl _)
      obtain ⟨hl0, hl1, _⟩ := hlb
      have hmk := HM.out
      go_wp2_with fail
      refine (implMakespanOf_any _ _ _ sl _ hsl).mono ?_
      rintro e w4 ⟨rfl, hB⟩
      replace hjc := hjc.keep hB
      replace hsl := hsl.keep hB
      replace hb := below_on hb hB
      clear hB
      go_wp2_with fail
      refine (implIsSchedule_any _ _ _ _ _ _ jobs sl _ hjc.in_ hsl HO.out hcap).mono ?_
      rintro e w5 ⟨rfl, hB⟩
      rw [HS.out]
      replace hjc := hjc.keep hB
      replace hsl := hsl.keep hB
      replace hb := below_on hb hB
      clear hB
      go_wp2_with fail
      refine (specIsSchedule_any _ _ _ _ _ _ jobs sl _ hjc.in_ hsl HO.out).mono ?_
      rintro e w6 ⟨rfl, hB⟩
      rw [HS.out]
      replace hjc := hjc.keep hB
      replace hb := below_on hb hB
      clear hB
      go_wp2_with fail
      refine (implWorkBound_any _ _ _ jobs _ hjc.in_ HO.out).mono ?_
      rintro e w7 ⟨rfl, hB⟩
      replace hb := below_on hb hB
      clear hB
      go_wp2_with fail
      go_ret
      exact ⟨rfl, hb⟩
end Go.Proofs.Ytmkfinahbelpdaa
