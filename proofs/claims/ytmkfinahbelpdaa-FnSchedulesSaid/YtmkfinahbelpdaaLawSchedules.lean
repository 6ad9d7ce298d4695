/- The walk of the law FnSchedules: for every input it returns true, and no memory that was there is written. -/
import Derived.Test.YtmkfinahbelpdaaSchedEnd
import Derived.Test.YtmkfinahbelpdaaDrawSlots
import Derived.Test.YtmkfinahbelpdaaSchedImpl
import Derived.Test.YtmkfinahbelpdaaWorkImpl
import Derived.Test.YtmkfinahbelpdaaBytesCore
namespace Go.Proofs.Ytmkfinahbelpdaa
open Go.RowKit
set_option maxRecDepth 100000 in
set_option maxHeartbeats 4000000 in
theorem lawSchedules {w : World} (A : Option Addr) (n c : Nat) (l : List Int) (hl : n ≤ 1048576 → RowsIn byteF w A n l ∧ ∀ x ∈ l, okByte x) (hn : n ≤ 9223372036854775807) :
    Calls Try.prog 5 #[.slice A n c] w fun e w' => e = .returned (.bool true) ∧ Below w.heap.size w w' := by
  by_cases big : 1048576 < n
  · go_enter Try.func5, Try.ntmps5
    go_wp2_with fail
    refine (big_yes _ _ _ _ big hn).mono ?_
    rintro e w1 ⟨rfl, rfl⟩
    go_wp2_with fail
    go_ret
    exact ⟨rfl, Below.refl _ _⟩
  obtain ⟨hi, hok⟩ := hl (by omega)
  have hby := bytesAt_of hi hok
  clear hl hi hok l
  go_enter Try.func5, Try.ntmps5
  go_wp2_with fail
  refine (big_no _ _ _ _ big).mono ?_
  rintro e w1 ⟨rfl, rfl⟩
  go_wp2_with fail
  refine (DrawTardinessOf_any _ _ _ _ hby).mono ?_
  rintro e w1 ⟨jobs, sl, R, b1, c1, b2, c2, rfl, hj4, hokj, hs30, hr, hJ, hs, hsok, hb⟩
  have hjobs : JobsIn w1 (some ⟨b1, 0, none⟩) jobs.length jobs := hJ.jobs hr (by omega)
  have hsl : SlotsIn w1 (some ⟨b2, 0, none⟩) sl.length sl := hs.rows (by omega)
  have hcap := own_cap hs
  have hokJ : ∀ x ∈ jobs, okJb x := fun x hx => (hokj x hx).1
  have HO := Lib.hid hokJ
  clear hby hr hJ hs hsok hokj hokJ big
  go_wp2_with fail
  refine (implTardinessOf_any _ _ _ _ _ _ jobs sl _ hjobs hsl HO.out hcap).mono ?_
  rintro e w2 ⟨rfl, hB⟩
  replace hjobs := hjobs.keep hB
  replace hsl := hsl.keep hB
  replace hb := below_on hb hB
  clear hB
  cases hp : isSched jobs sl
  · rw [tard_no hp]; simp only [pairV]
    go_wp2_with fail
    refine (specTardinessOf_any _ _ _ _ _ _ jobs sl _ hjobs hsl HO.out).mono ?_
    rintro e w3 ⟨rfl, hB⟩
    rw [tard_no hp]; simp only [pairV]
    replace hjobs := hjobs.keep hB
    replace hsl := hsl.keep hB
    replace hb := below_on hb hB
    clear hB
    go_wp2_with fail
    refine (implIsSchedule_any _ _ _ _ _ _ jobs sl _ hjobs hsl HO.out hcap).mono ?_
    rintro e w4 ⟨rfl, hB⟩
    rw [hp]
    replace hb := below_on hb hB
    clear hB
    go_wp2_with fail
    go_ret
    exact ⟨rfl, hb⟩
  have HP := Lib.hid hp
  clear hp
  rw [tard_yes HP.out]; simp only [pairV]
  go_wp2_with fail
  refine (specTardinessOf_any _ _ _ _ _ _ jobs sl _ hjobs hsl HO.out).mono ?_
  rintro e w3 ⟨rfl, hB⟩
  rw [tard_yes HP.out]; simp only [pairV]
  replace hjobs := hjobs.keep hB
  replace hsl := hsl.keep hB
  replace hb := below_on hb hB
  clear hB
  go_wp2_with fail
  go_loopw [9, 10, 11] (fun s en i wr => ∃ k : Nat, k ≤ jobs.length ∧ i = .int .i64 k ∧ s = .int .i64 (tardTo jobs sl k) ∧ en = .int .i64 (endTo sl k) ∧ Below w3.heap.size w3 wr) (fun _ _ i _ => jobs.length - (intOf i).toNat)
  case atStart => exact ⟨0, by omega, rfl, rfl, rfl, Below.refl _ _⟩
  case round =>
    obtain ⟨k, hk, rfl, rfl, rfl, HR⟩ := hrel
    by_cases hlt : k < jobs.length
    · go_wp2_with fail
      refine (implFinishOf_any _ _ _ sl _ _ (hsl.keep HR)).mono ?_
      rintro e w4 ⟨rfl, hB⟩
      replace HR := below_on HR hB
      clear hB
      obtain ⟨b, o, B1, m1, c3, hAe, _, hc0, hc1, hc2, hw⟩ := jb_at (hjobs.keep HR) hlt
      obtain ⟨rfl, rfl⟩ : b1 = b ∧ 0 = o := by simpa using hAe
      clear hAe
      rw [Nat.zero_add] at hc0 hc1 hc2
      have h1 := finishOf_bd HP.out k
      have h2 := (areJobs_parts (isSched_parts HP.out).1).2 k hlt
      obtain ⟨f1, f2⟩ := h1
      obtain ⟨e1, e2, e3, e4, _⟩ := h2
      obtain ⟨z1, z2⟩ := tardTo_bd HP.out k hk
      have HW := Lib.hid (tard_wrap HP.out k hlt)
      have HW2 := Lib.hid (tard_next (slots := sl) k hlt)
      have wr1 : IntKind.i64.wrap (finishOf sl k - jobs[k].2.1) = finishOf sl k - jobs[k].2.1 := IntWalk.i64_in _ (by omega)
      go_wp2_with fail
      go_roundw
      case rel => exact ⟨k + 1, by omega, by go_num, (by first | exact congrArg (Value.int .i64) HW.out | exact congrArg (Value.int .i64) HW2.out), congrArg (Value.int .i64) (max_if _ _), HR⟩
      case measure => simp [intOf]; omega
    · obtain rfl : k = jobs.length := by omega
      have hle := bound_le HP.out
      have HE := Lib.hid (end_eq HP.out)
      rw [HE.out]
      go_wp2_with fail
      refine (implMakespanOf_any _ _ _ sl _ (hsl.keep HR)).mono ?_
      rintro e w4 ⟨rfl, hB⟩
      replace HR := below_on HR hB
      clear hB
      go_wp2_with fail
      refine (implWorkBound_any _ _ _ jobs _ (hjobs.keep HR) HO.out).mono ?_
      rintro e w5 ⟨rfl, hB⟩
      replace HR := below_on HR hB
      clear hB
      go_wp2_with fail
      go_ret
      exact ⟨rfl, below_on hb HR⟩
end Go.Proofs.Ytmkfinahbelpdaa
