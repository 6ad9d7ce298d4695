/- The walks of TardinessOf. -/
import Derived.Test.YtmkfinahbelpdaaSchedSpec
import Derived.Test.YtmkfinahbelpdaaSchedImpl
import Derived.Test.YtmkfinahbelpdaaMakespan
import Derived.Test.YtmkfinahbelpdaaLotPair
import Derived.Deep.RegionHeld3
import Derived.Deep.DeepMust
namespace Go.Proofs.Ytmkfinahbelpdaa
open Go.RowKit
def tardTo (jobs : List Jb) (slots : List Slt) : Nat → Int
  | 0 => 0
  | k + 1 => tardTo jobs slots k + max 0 (finishOf slots k - (jobs.getD k jbNone).2.1)
def tardinessOf (jobs : List Jb) (slots : List Slt) : Int × Bool := if isSched jobs slots then (tardTo jobs slots jobs.length, true) else (0, false)
theorem isSched_parts {jobs : List Jb} {slots : List Slt} (h : isSched jobs slots = true) : areJobs jobs = true ∧ slots.length = stepsTo jobs jobs.length ∧ ∀ i < slots.length, okSl jobs slots i = true := by
  simp only [isSched, Bool.and_eq_true, decide_eq_true_eq, List.all_eq_true, List.mem_range] at h
  exact ⟨h.1, h.2.1, h.2.2⟩
theorem okSl_end {jobs : List Jb} {slots : List Slt} (hj : areJobs jobs = true) {i : Nat} (hi : i < slots.length) (h : okSl jobs slots i = true) : 0 ≤ slots[i].2.2.2.2 ∧ slots[i].2.2.2.2 ≤ 1001000 := by
  unfold okSl at h
  rw [sl_getD _ _ hi] at h
  simp only [Bool.and_eq_true] at h
  have h1 := h.1
  unfold fit at h1
  simp only [Bool.and_eq_true, inB_iff, decide_eq_true_eq] at h1
  obtain ⟨⟨a1, a2⟩, ⟨a3, a4⟩, ⟨a5, a6⟩, _, a8⟩ := h1
  have hjl : slots[i].1.toNat < jobs.length := by omega
  have e1 : jobOf jobs slots[i] = jobs[slots[i].1.toNat] := by unfold jobOf; rw [jb_getD _ _ hjl]
  rw [e1] at a4 a5
  have hsl : slots[i].2.1.toNat < jobs[slots[i].1.toNat].2.2.length := by omega
  have e2 : workOf jobs slots[i] = jobs[slots[i].1.toNat].2.2[slots[i].2.1.toNat] := by unfold workOf; rw [e1, wk_getD _ _ hsl]
  rw [e2] at a8
  have b := (areJobs_parts hj).2 _ hjl
  have b2 := b.2.2.2.2.2 _ hsl
  omega
theorem finishTo_bd {slots : List Slt} (j : Int) (h : ∀ i (hi : i < slots.length), 0 ≤ slots[i].2.2.2.2 ∧ slots[i].2.2.2.2 ≤ 1001000) (k : Nat) (hk : k ≤ slots.length) : 0 ≤ finishTo slots j k ∧ finishTo slots j k ≤ 1001000 := by
  induction k with
  | zero => simp [finishTo]
  | succ k ih =>
    rw [finishTo_succ _ _ _ (by omega)]
    have := ih (by omega)
    have := h k (by omega)
    split
    · omega
    · omega
theorem finishOf_bd {jobs : List Jb} {slots : List Slt} (h : isSched jobs slots = true) (j : Int) : 0 ≤ finishOf slots j ∧ finishOf slots j ≤ 1001000 := by
  obtain ⟨h1, _, h3⟩ := isSched_parts h
  exact finishTo_bd j (fun i hi => okSl_end h1 hi (h3 i hi)) _ (Nat.le_refl _)
theorem tardTo_bd {jobs : List Jb} {slots : List Slt} (h : isSched jobs slots = true) (k : Nat) (hk : k ≤ jobs.length) : 0 ≤ tardTo jobs slots k ∧ tardTo jobs slots k ≤ 1001000 * k := by
  induction k with
  | zero => simp [tardTo]
  | succ k ih =>
    have h0 := ih (by omega)
    have h1 := finishOf_bd h k
    have h2 := (areJobs_parts (isSched_parts h).1).2 k (by omega)
    simp only [tardTo]
    rw [jb_getD _ _ (by omega)]
    omega
theorem tard_wrap {jobs : List Jb} {slots : List Slt} (h : isSched jobs slots = true) (k : Nat) (hk : k < jobs.length) :
    IntKind.i64.wrap (tardTo jobs slots k + if jobs[k].2.1 < finishOf slots k then finishOf slots k - jobs[k].2.1 else 0) = tardTo jobs slots (k + 1) := by
  have z := tardTo_bd h k (by omega)
  have h1 := finishOf_bd h k
  have h2 := (areJobs_parts (isSched_parts h).1).2 k hk
  have h3 := (areJobs_parts (isSched_parts h).1).1
  simp only [tardTo]
  rw [jb_getD _ _ hk]
  split
  · rw [show max 0 (finishOf slots k - jobs[k].2.1) = finishOf slots k - jobs[k].2.1 by omega]; exact IntWalk.i64_in _ (by omega)
  · rw [show max 0 (finishOf slots k - jobs[k].2.1) = 0 by omega]; exact IntWalk.i64_in _ (by omega)
theorem tard_next {jobs : List Jb} {slots : List Slt} (k : Nat) (hk : k < jobs.length) :
    (tardTo jobs slots k + if jobs[k].2.1 < finishOf slots k then finishOf slots k - jobs[k].2.1 else 0) = tardTo jobs slots (k + 1) := by
  simp only [tardTo]
  rw [jb_getD _ _ hk]
  split <;> omega
theorem tard_no {jobs : List Jb} {slots : List Slt} (h : isSched jobs slots = false) : tardinessOf jobs slots = (0, false) := by simp [tardinessOf, h]
theorem tard_yes {jobs : List Jb} {slots : List Slt} (h : isSched jobs slots = true) : tardinessOf jobs slots = (tardTo jobs slots jobs.length, true) := by simp [tardinessOf, h]
set_option maxRecDepth 100000 in
set_option maxHeartbeats 4000000 in
theorem specTardinessOf_any (A B : Option Addr) (n c m d : Nat) (jobs : List Jb) (slots : List Slt) (w : World) (hl : JobsIn w A n jobs) (hs : SlotsIn w B m slots) (hok : ∀ x ∈ jobs, okJb x) :
    Calls Try.prog 21 #[.slice A n c, .slice B m d] w fun e w' => e = .returned (pairV (tardinessOf jobs slots)) ∧ Below w.heap.size w w' := by
  have hn := hl.len
  have hm := hs.len
  obtain rfl := hl.num
  obtain rfl := hs.1
  cases hp : isSched jobs slots
  · go_enter Try.func21, Try.ntmps21
    go_wp2_with (go_at_call 17; refine (specIsSchedule_any _ _ _ _ _ _ jobs slots _ hl hs hok).mono ?_; rintro e w1 ⟨rfl, hb⟩)
    go_ret2
    exact ⟨ret_pair (p := (0, false)) (tard_no hp).symm, hb⟩
  have HP := Lib.hid hp
  have hsl := (areJobs_parts (isSched_parts hp).1).1
  go_enter Try.func21, Try.ntmps21
  go_wp2_with (go_at_call 17; refine (specIsSchedule_any _ _ _ _ _ _ jobs slots _ hl hs hok).mono ?_; rintro e w1 ⟨rfl, hb⟩)
  clear hp
  go_loopw [6, 7] (fun s i wr => ∃ k : Nat, k ≤ jobs.length ∧ i = .int .i64 k ∧ s = .int .i64 (tardTo jobs slots k) ∧ Below w.heap.size w wr) (fun _ i _ => jobs.length - (intOf i).toNat)
  case atStart => exact ⟨0, by omega, rfl, rfl, hb⟩
  case round =>
    clear hb
    obtain ⟨k, hk, rfl, rfl, HR⟩ := hrel
    by_cases hlt : k < jobs.length
    · obtain ⟨b, o, B1, m1, c1, rfl, _, hc0, hc1, hc2, hw⟩ := jb_at (hl.keep HR) hlt
      have h1 := finishOf_bd HP.out k
      have h2 := (areJobs_parts (isSched_parts HP.out).1).2 k hlt
      obtain ⟨f1, f2⟩ := h1
      obtain ⟨e1, e2, e3, e4, _⟩ := h2
      obtain ⟨z1, z2⟩ := tardTo_bd HP.out k hk
      have HW := Lib.hid (tard_wrap HP.out k hlt)
      have HW2 := Lib.hid (tard_next (slots := slots) k hlt)
      have wr1 : IntKind.i64.wrap (finishOf slots k - jobs[k].2.1) = finishOf slots k - jobs[k].2.1 := IntWalk.i64_in _ (by omega)
      go_wp2_with fail
      go_quiet ((go_at_call 53; exact quietD (fun W hW => (specFinishOf_any _ _ _ slots _ W (hs.keep (HR.trans (hW.below _)))).mono (fun _ _ h => ⟨h.1, by rw [← h.2]; exact Drew.refl _⟩))))
      clear wr1
      go_wp2
      go_roundw
      case rel => exact ⟨k + 1, by omega, by go_num, (by first | exact congrArg (Value.int .i64) HW.out | exact congrArg (Value.int .i64) HW2.out), below_drewN HR _⟩
      case measure => simp [intOf]; omega
    · obtain rfl : k = jobs.length := by omega
      go_wp2_with fail
      go_ret2
      exact ⟨ret_pair (p := (_, true)) (tard_yes HP.out).symm, HR⟩
set_option maxRecDepth 100000 in
set_option maxHeartbeats 4000000 in
theorem implTardinessOf_any (A B : Option Addr) (n c m d : Nat) (jobs : List Jb) (slots : List Slt) (w : World) (hl : JobsIn w A n jobs) (hs : SlotsIn w B m slots) (hok : ∀ x ∈ jobs, okJb x) (hcap : slots.length ≤ d) :
    Calls Try.prog 20 #[.slice A n c, .slice B m d] w fun e w' => e = .returned (pairV (tardinessOf jobs slots)) ∧ Below w.heap.size w w' := by
  have hn := hl.len
  have hm := hs.len
  obtain rfl := hl.num
  obtain rfl := hs.1
  cases hp : isSched jobs slots
  · go_enter Try.func20, Try.ntmps20
    go_wp2_with (go_at_call 16; refine (implIsSchedule_any _ _ _ _ _ _ jobs slots _ hl hs hok hcap).mono ?_; rintro e w1 ⟨rfl, hb⟩)
    go_ret2
    exact ⟨ret_pair (p := (0, false)) (tard_no hp).symm, hb⟩
  have HP := Lib.hid hp
  have hsl := (areJobs_parts (isSched_parts hp).1).1
  go_enter Try.func20, Try.ntmps20
  go_wp2_with (go_at_call 16; refine (implIsSchedule_any _ _ _ _ _ _ jobs slots _ hl hs hok hcap).mono ?_; rintro e w1 ⟨rfl, hb⟩)
  clear hp
  go_loopw [6, 15] (fun s i wr => ∃ k : Nat, k ≤ jobs.length ∧ i = .int .i64 k ∧ s = .int .i64 (tardTo jobs slots k) ∧ Below w.heap.size w wr) (fun _ i _ => jobs.length - (intOf i).toNat)
  case atStart => exact ⟨0, by omega, rfl, rfl, hb⟩
  case round =>
    clear hb
    obtain ⟨k, hk, rfl, rfl, HR⟩ := hrel
    by_cases hlt : k < jobs.length
    · obtain ⟨b, o, B1, m1, c1, rfl, _, hc0, hc1, hc2, hw⟩ := jb_at (hl.keep HR) hlt
      have h1 := finishOf_bd HP.out k
      have h2 := (areJobs_parts (isSched_parts HP.out).1).2 k hlt
      obtain ⟨f1, f2⟩ := h1
      obtain ⟨e1, e2, e3, e4, _⟩ := h2
      obtain ⟨z1, z2⟩ := tardTo_bd HP.out k hk
      have HW := Lib.hid (tard_wrap HP.out k hlt)
      have HW2 := Lib.hid (tard_next (slots := slots) k hlt)
      have wr1 : IntKind.i64.wrap (finishOf slots k - jobs[k].2.1) = finishOf slots k - jobs[k].2.1 := IntWalk.i64_in _ (by omega)
      have hsz := HR.size
      have hR2 := HR.alloc hsz (.cells #[.int .i64 jobs[k].1, .int .i64 jobs[k].2.1, .slice B1 m1 c1] 44)
      have d1 : (wr.alloc (.cells #[.int .i64 jobs[k].1, .int .i64 jobs[k].2.1, .slice B1 m1 c1] 44)).cell? ⟨wr.heap.size, 1, none⟩ = some (.int .i64 jobs[k].2.1) := by simp [go_sem]
      have dl : wr.heap.size < (wr.alloc (.cells #[.int .i64 jobs[k].1, .int .i64 jobs[k].2.1, .slice B1 m1 c1] 44)).heap.size := by simp
      go_wp2_with fail
      generalize wr.alloc (.cells #[.int .i64 jobs[k].1, .int .i64 jobs[k].2.1, .slice B1 m1 c1] 44) = wq at *
      clear hc0 hc1 hc2 hsz
      generalize wr.heap.size = N2 at *
      go_region_held3 (fun w' => w'.cell? ⟨N2, 1, none⟩ = some (.int .i64 jobs[k].2.1) ∧ N2 < w'.heap.size ∧ Below w.heap.size w w')
        (first
          | exact ⟨d1, dl, hR2.drew⟩
          | (go_split_ands; refine ⟨?_, ?_, ?_⟩ <;> with_reducible assumption)
          | (go_split_ands; exact ⟨(hb3.cell (by with_reducible assumption)).trans (by with_reducible assumption), Nat.lt_of_lt_of_le (by with_reducible assumption) hb3.size, below_on (by with_reducible assumption) hb3⟩))
        (first
          | ((with_reducible refine (implFinishOf_any _ _ _ slots _ _ (hs.keep ?_)).mono ?_); (go_split_ands; with_reducible assumption); rintro e w3 ⟨rfl, hb3⟩))
      clear wr1
      go_split_ands
      go_wp2
      go_roundw
      case rel => exact ⟨k + 1, by omega, by go_num, (by first | exact congrArg (Value.int .i64) HW.out | exact congrArg (Value.int .i64) HW2.out), by with_reducible assumption⟩
      case measure => simp [intOf]; omega
    · obtain rfl : k = jobs.length := by omega
      go_wp2_with fail
      go_ret2
      exact ⟨ret_pair (p := (_, true)) (tard_yes HP.out).symm, HR⟩
end Go.Proofs.Ytmkfinahbelpdaa
