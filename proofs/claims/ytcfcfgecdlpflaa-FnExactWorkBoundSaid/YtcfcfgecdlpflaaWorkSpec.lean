/- The walk of the reference's WorkBound. -/
import Derived.Test.YtcfcfgecdlpflaaWorkPlain
import Derived.Deep.RegionHeld3
import Derived.Deep.DeepMust
namespace Go.Proofs.Ytcfcfgecdlpflaa
open Go.RowKit
theorem jb_all {w : World} {A : Option Addr} {n : Nat} {l : List Jb} (h : JobsIn w A n l) {k : Nat} (hk : k < l.length) :
    ∃ b o B m c, A = some ⟨b, o, none⟩ ∧ b < w.heap.size ∧ (∀ w', Below w.heap.size w w' → w'.cell? ⟨b, o + k * 3, none⟩ = some (.int .i64 l[k].1) ∧ w'.cell? ⟨b, o + k * 3 + 1, none⟩ = some (.int .i64 l[k].2.1) ∧ w'.cell? ⟨b, o + k * 3 + 2, none⟩ = some (.slice B m c)) ∧ WorksIn w B m l[k].2.2 := by
  obtain ⟨b, o, B, m, c, e, hlt, h0, h1, h2, hw⟩ := jb_at h hk
  exact ⟨b, o, B, m, c, e, hlt, fun w' hb => ⟨(hb.cell (p := ⟨b, o + k * 3, none⟩) hlt).trans h0, (hb.cell (p := ⟨b, o + k * 3 + 1, none⟩) hlt).trans h1, (hb.cell (p := ⟨b, o + k * 3 + 2, none⟩) hlt).trans h2⟩, hw⟩
theorem leftN_bd {l : List Wk} (h : MinOk l) (k : Nat) (hk : k ≤ l.length) : 0 ≤ leftN l k ∧ leftN l k ≤ 5000 := by
  have h1 := h.1
  have mono : ∀ d, beforeN l k ≤ beforeN l (k + d) := by
    intro d
    induction d with
    | zero => exact Int.le_refl _
    | succ d ih => have := (h.at_ (k + d)).1; rw [show k + (d + 1) = (k + d) + 1 by omega]; simp only [beforeN]; omega
  have h2 := mono (l.length - k)
  rw [show k + (l.length - k) = l.length by omega] at h2
  have h3 := beforeN_bd h l.length
  have h4 := beforeN_bd h k
  unfold leftN; omega
set_option maxRecDepth 100000 in
set_option maxHeartbeats 2000000 in
theorem specLeft_any (x0 x1 : Int) (B : Option Addr) (m c : Nat) (l : List Wk) (k : Nat) (kk : Int) (w : World) (hkk : kk = (k : Int)) (hl : WorksIn w B m l) (hm : MinOk l) (hk : k ≤ l.length) :
    Calls Try.prog 72 #[.agg #[.int .i64 x0, .int .i64 x1, .slice B m c], .int .i64 kk] w fun e w' => e = .returned (.int .i64 (leftN l k)) ∧ Below w.heap.size w w' := by
  subst hkk
  have h5 := hm.1
  obtain rfl := hl.1
  have HM := Lib.hid hm
  clear hm
  have hb := below_alloc w (.cells #[.int .i64 x0, .int .i64 x1, .slice B l.length c] 59)
  have g2 : (w.alloc (.cells #[.int .i64 x0, .int .i64 x1, .slice B l.length c] 59)).cell? ⟨w.heap.size, 2, none⟩ = some (.slice B l.length c) := by simp [go_sem]
  have hl2 := hl.keep hb
  go_enter Try.func72, Try.ntmps72
  go_wp2_with fail
  generalize w.alloc (.cells #[.int .i64 x0, .int .i64 x1, .slice B l.length c] 59) = w1 at *
  go_loop [5, 6] (fun s i => ∃ j : Nat, k ≤ j ∧ j ≤ l.length ∧ i = .int .i64 j ∧ s = .int .i64 (beforeN l j - beforeN l k)) (fun _ i => l.length - (intOf i).toNat)
  case atStart => exact ⟨k, Nat.le_refl _, hk, rfl, by rw [Int.sub_self]⟩
  case round =>
    obtain ⟨j, hkj, hj, rfl, rfl⟩ := hrel
    have b1 := beforeN_bd HM.out j
    have b2 := beforeN_bd HM.out k
    by_cases hlt : j < l.length
    · obtain ⟨b, o, rfl, _, hd0, hd1⟩ := work_at hl2 hlt
      obtain ⟨z1, z2⟩ := HM.out.2 j hlt
      have HS : Hid (beforeN l (j + 1) - beforeN l k = beforeN l j - beforeN l k + l[j].2) := by
        show beforeN l (j + 1) - beforeN l k = _
        simp only [beforeN]; rw [wk_getD _ _ hlt]; omega
      go_wp2
      go_round
      case rel => exact ⟨j + 1, by omega, by omega, by go_num, by rw [HS.out]⟩
      case measure => simp [intOf]; omega
    · obtain rfl : j = l.length := by omega
      go_wp2
      go_ret
      exact ⟨rfl, hb⟩
set_option maxRecDepth 100000 in
set_option maxHeartbeats 8000000 in
theorem specWorkBound_any (A : Option Addr) (n c : Nat) (jobs : List Jb) (w : World) (hl : JobsIn w A n jobs) (hok : ∀ x ∈ jobs, okJb x) :
    Calls Try.prog 32 #[.slice A n c] w fun e w' => e = .returned (.int .i64 (workBound jobs)) ∧ Below w.heap.size w w' := by
  have hn := hl.len
  obtain rfl := hl.num
  cases hp : areJobs jobs
  · have hpos : 0 < jobs.length := by
      rcases Nat.eq_zero_or_pos jobs.length with h0 | h0
      · have : jobs = [] := List.eq_nil_of_length_eq_zero h0
        rw [this] at hp; cases hp
      · exact h0
    go_enter Try.func32, Try.ntmps32
    go_wp2
    go_loop [3, 4] (fun s i => i = .int .i64 0 ∧ s = .int .i64 0) (fun _ i => (intOf i).toNat)
    case atStart => exact ⟨rfl, rfl⟩
    case round =>
      obtain ⟨rfl, rfl⟩ := hrel
      go_wp2_with (go_at_call 28; refine (specAreJobs_any _ _ _ jobs _ hl hok).mono ?_; rintro e w' ⟨rfl, rfl⟩)
      go_ret
      exact ⟨ret_int (workBound_no hp).symm, Below.refl _ _⟩
  have HP := Lib.hid hp
  have hsl := (areJobs_parts HP.out).1
  have HO := Lib.hid hok
  clear hp hok
  go_enter Try.func32, Try.ntmps32
  go_wp2
  go_loopw [3, 4] (fun s i wr => ∃ k : Nat, k ≤ jobs.length ∧ i = .int .i64 k ∧ s = .int .i64 (boundI jobs k) ∧ Below w.heap.size w wr) (fun _ i _ => jobs.length - (intOf i).toNat)
  case atStart => exact ⟨0, by omega, rfl, rfl, Below.refl _ _⟩
  case round =>
    obtain ⟨i, hi, rfl, rfl, HR⟩ := hrel
    have hal : Calls Try.prog 28 #[.slice A jobs.length c] wr fun e w' => e = .returned (.bool true) ∧ wr = w' := by
      have := specAreJobs_any A jobs.length c jobs wr (hl.keep HR) HO.out
      rw [HP.out] at this; exact this
    have HAL := Lib.hid hal
    clear hal
    by_cases hlt : i < jobs.length
    · obtain ⟨b, o, B, m, ci, rfl, hbl, hcs, hw⟩ := jb_all hl hlt
      have HCS := Lib.hid hcs
      clear hcs
      obtain ⟨hc0, hc1, hc2⟩ := HCS.out _ HR
      obtain ⟨mo, r0, r1⟩ := jobs_ok HP.out i
      rw [jb_getD _ _ hlt] at mo r0 r1
      have MO := Lib.hid mo
      have m5 := mo.1
      clear mo
      obtain ⟨z1, z2⟩ := boundI_bd HP.out i
      obtain ⟨l1, l2⟩ := leftN_bd MO.out 0 (Nat.zero_le _)
      have hbl2 : b < wr.heap.size := Nat.lt_of_lt_of_le hbl HR.size
      have HB : Hid (boundI jobs (i + 1) = boundK jobs jobs[i].2.2 (if 0 < jobs[i].2.2.length then max (boundI jobs i) (jobs[i].1 + leftN jobs[i].2.2 0) else boundI jobs i) jobs[i].2.2.length) := by
        show boundI jobs (i + 1) = _
        simp only [boundI]; rw [jb_getD _ _ hlt]
      obtain rfl := hw.1
      by_cases hpos : 0 < jobs[i].2.2.length
      · rw [if_pos hpos] at HB
        have wr1 : IntKind.i64.wrap (jobs[i].1 + leftN jobs[i].2.2 0) = jobs[i].1 + leftN jobs[i].2.2 0 := IntWalk.i64_in _ (by omega)
        go_wp2_with (go_at_call 28; refine HAL.out.mono ?_; rintro e w' ⟨rfl, rfl⟩)
        go_region_held3 (fun w' => w'.cell? ⟨b, o + i * 3, none⟩ = some (.int .i64 jobs[i].1) ∧ w'.cell? ⟨b, o + i * 3 + 1, none⟩ = some (.int .i64 jobs[i].2.1) ∧ w'.cell? ⟨b, o + i * 3 + 2, none⟩ = some (.slice B jobs[i].2.2.length ci) ∧ Below w.heap.size w w')
          (first
            | exact ⟨hc0, hc1, hc2, HR.drew⟩
            | (go_split_ands; refine ⟨?_, ?_, ?_, ?_⟩ <;> with_reducible assumption)
            | (go_split_ands; exact ⟨(HCS.out _ (below_on (by with_reducible assumption) hb3)).1, (HCS.out _ (below_on (by with_reducible assumption) hb3)).2.1, (HCS.out _ (below_on (by with_reducible assumption) hb3)).2.2, below_on (by with_reducible assumption) hb3⟩))
          (first
            | ((with_reducible refine (specLeft_any _ _ _ _ _ jobs[i].2.2 0 0 _ rfl (hw.keep ?_) MO.out (Nat.zero_le _)).mono ?_); (go_split_ands; with_reducible assumption); rintro e w3 ⟨rfl, hb3⟩))
        clear wr1
        go_split_ands
        have hR3 : Below w.heap.size w w3 := by with_reducible assumption
        obtain ⟨N1, hN1⟩ : ∃ N1, N1 = max (boundI jobs i) (jobs[i].1 + leftN jobs[i].2.2 0) := ⟨_, rfl⟩
        have hN1b : 0 ≤ N1 ∧ N1 ≤ 1000000 := by omega
        have hmx : (if boundI jobs i < jobs[i].1 + leftN jobs[i].2.2 0 then jobs[i].1 + leftN jobs[i].2.2 0 else boundI jobs i) = N1 := by rw [hN1]; split <;> omega
        rw [← hN1] at HB
        clear hN1
        clear hc0 hc1 hc2 HR HAL
        rw [hmx]
        clear hmx
        go_wp2_with fail
        go_loopw [3, 5] (fun s t wr => ∃ k : Nat, k ≤ jobs[i].2.2.length ∧ t = .int .i64 k ∧ s = .int .i64 (boundK jobs jobs[i].2.2 N1 k) ∧ Below w.heap.size w wr) (fun _ t _ => jobs[i].2.2.length - (intOf t).toNat)
        case atStart => exact ⟨0, by omega, rfl, rfl, hR3⟩
        case round =>
          clear hR3
          obtain ⟨k, hk, rfl, rfl, HR⟩ := hrel
          obtain ⟨hc0, hc1, hc2⟩ := HCS.out _ HR
          by_cases hltk : k < jobs[i].2.2.length
          · have HK : Hid (boundK jobs jobs[i].2.2 N1 (k + 1) = max (boundK jobs jobs[i].2.2 N1 k) (headC jobs[i].2.2[k].1 jobs jobs.length + sumC jobs[i].2.2[k].1 jobs jobs.length)) := by
              show boundK jobs jobs[i].2.2 N1 (k + 1) = _
              simp only [boundK]; rw [wk_getD _ _ hltk]
            obtain ⟨q1, q2⟩ := boundK_bd HP.out jobs[i].2.2 N1 hN1b k
            go_wp2_with fail
            go_loopw [6, 7, 8] (fun sm fr t wr => ∃ a : Nat, a ≤ jobs.length ∧ t = .int .i64 a ∧ sm = .int .i64 (sumC jobs[i].2.2[k].1 jobs a) ∧ fr = .int .i64 (headC jobs[i].2.2[k].1 jobs a) ∧ Below w.heap.size w wr) (fun _ _ t _ => jobs.length - (intOf t).toNat)
            case atStart => exact ⟨0, by omega, rfl, rfl, rfl, HR⟩
            case round =>
              clear HR hc0 hc1 hc2
              obtain ⟨a, ha, rfl, rfl, rfl, HR⟩ := hrel
              obtain ⟨s1, s2⟩ := sumC_bd HP.out jobs[i].2.2[k].1 a
              obtain ⟨t1, t2⟩ := headC_bd HP.out jobs[i].2.2[k].1 a
              by_cases hlta : a < jobs.length
              · obtain ⟨b', o', B2, m2, ca, e9, _, hcs2, hw2⟩ := jb_all hl hlta
                obtain ⟨rfl, rfl⟩ : b = b' ∧ o = o' := by simpa using e9
                clear e9
                have HCS2 := Lib.hid hcs2
                clear hcs2
                obtain ⟨hd0, hd1, hd2⟩ := HCS2.out _ HR
                obtain ⟨mo, r2, r3⟩ := jobs_ok HP.out a
                rw [jb_getD _ _ hlta] at mo r2 r3
                have MO2 := Lib.hid mo
                have m6 := mo.1
                clear mo
                obtain rfl := hw2.1
                have HSA : Hid (sumC jobs[i].2.2[k].1 jobs (a + 1) = sumC jobs[i].2.2[k].1 jobs a + sumJ jobs[i].2.2[k].1 jobs[a].2.2 jobs[a].2.2.length ∧ headC jobs[i].2.2[k].1 jobs (a + 1) = headJ jobs[i].2.2[k].1 jobs[a].1 jobs[a].2.2 (headC jobs[i].2.2[k].1 jobs a) jobs[a].2.2.length) := by
                  show sumC _ jobs (a + 1) = _ ∧ headC _ jobs (a + 1) = _
                  simp only [sumC, headC]; rw [jb_getD _ _ hlta]; exact ⟨rfl, rfl⟩
                go_wp2_with fail
                go_loopw [6, 7, 9] (fun sm fr t wr => ∃ e : Nat, e ≤ jobs[a].2.2.length ∧ t = .int .i64 e ∧ sm = .int .i64 (sumC jobs[i].2.2[k].1 jobs a + sumJ jobs[i].2.2[k].1 jobs[a].2.2 e) ∧ fr = .int .i64 (headJ jobs[i].2.2[k].1 jobs[a].1 jobs[a].2.2 (headC jobs[i].2.2[k].1 jobs a) e) ∧ Below w.heap.size w wr) (fun _ _ t _ => jobs[a].2.2.length - (intOf t).toNat)
                case atStart => exact ⟨0, by omega, rfl, by simp [sumJ], rfl, HR⟩
                case round =>
                  clear HR hd0 hd1 hd2
                  obtain ⟨e, he, rfl, rfl, rfl, HR⟩ := hrel
                  obtain ⟨hc0, hc1, hc2⟩ := HCS.out _ HR
                  obtain ⟨hd0, hd1, hd2⟩ := HCS2.out _ HR
                  obtain ⟨s3, s4⟩ := sumJ_bd MO2.out jobs[i].2.2[k].1 e
                  obtain ⟨t3, t4⟩ := headJ_bd MO2.out jobs[i].2.2[k].1 jobs[a].1 (headC jobs[i].2.2[k].1 jobs a) r2 t1 e
                  by_cases hlte : e < jobs[a].2.2.length
                  · obtain ⟨bw, ow, rfl, _, w0, w1⟩ := work_at (hw.keep HR) hltk
                    obtain ⟨bv, ov, rfl, hbv, v0, v1⟩ := work_at (hw2.keep HR) hlte
                    obtain ⟨z3, z4⟩ := MO2.out.2 e hlte
                    obtain ⟨l3, l4⟩ := leftN_bd MO2.out 0 (Nat.zero_le _)
                    obtain ⟨l5, l6⟩ := leftN_bd MO2.out e (Nat.le_of_lt hlte)
                    obtain ⟨p1, p2⟩ := beforeN_bd MO2.out e
                    have hle : leftN jobs[a].2.2 0 - leftN jobs[a].2.2 e = beforeN jobs[a].2.2 e := by simp only [leftN, beforeN]; omega
                    have hst : sumJ jobs[i].2.2[k].1 jobs[a].2.2 (e + 1) = sumJ jobs[i].2.2[k].1 jobs[a].2.2 e + (if (jobs[a].2.2[e].1.toList == jobs[i].2.2[k].1.toList) = true then jobs[a].2.2[e].2 else 0) ∧ headJ jobs[i].2.2[k].1 jobs[a].1 jobs[a].2.2 (headC jobs[i].2.2[k].1 jobs a) (e + 1) = (if (jobs[a].2.2[e].1.toList == jobs[i].2.2[k].1.toList) = true then min (headJ jobs[i].2.2[k].1 jobs[a].1 jobs[a].2.2 (headC jobs[i].2.2[k].1 jobs a) e) (jobs[a].1 + beforeN jobs[a].2.2 e) else headJ jobs[i].2.2[k].1 jobs[a].1 jobs[a].2.2 (headC jobs[i].2.2[k].1 jobs a) e) := by
                      simp only [sumJ, headJ]; rw [wk_getD _ _ hlte]; exact ⟨rfl, rfl⟩
                    cases hcc : (jobs[a].2.2[e].1.toList == jobs[i].2.2[k].1.toList)
                    · rw [hcc] at hst
                      have HST := Lib.hid hst
                      clear hst
                      have HLE := Lib.hid hle
                      clear hle
                      go_wp2_with fail
                      go_quiet (fail)
                      go_wp2
                      go_roundw
                      case rel => exact ⟨e + 1, by omega, by go_num, by rw [HST.out.1]; simp, by rw [HST.out.2]; simp, below_drewN HR _⟩
                      case measure => simp [intOf]; omega
                    · rw [hcc] at hst
                      have HST := Lib.hid hst
                      clear hst
                      have wr2 : IntKind.i64.wrap (jobs[a].1 + leftN jobs[a].2.2 0) = jobs[a].1 + leftN jobs[a].2.2 0 := IntWalk.i64_in _ (by omega)
                      have wr3 : IntKind.i64.wrap (jobs[a].1 + leftN jobs[a].2.2 0 - leftN jobs[a].2.2 e) = jobs[a].1 + leftN jobs[a].2.2 0 - leftN jobs[a].2.2 e := IntWalk.i64_in _ (by omega)
                      have HLE := Lib.hid hle
                      clear hle
                      go_wp2_with fail
                      go_quiet (fail)
                      have HR2 := below_drewN HR nq
                      generalize wr.drewN nq = wq at *
                      obtain ⟨hd0, hd1, hd2⟩ := HCS2.out _ HR2
                      obtain ⟨bv2, ov2, e8, _, v2, v3⟩ := work_at (hw2.keep HR2) hlte
                      obtain ⟨rfl, rfl⟩ : bv = bv2 ∧ ov = ov2 := by simpa using e8
                      clear e8 w0 w1 v0 v1 hc0 hc1 hc2
                      go_wp2_with fail
                      go_region_held3 (fun w' => w'.cell? ⟨b, o + a * 3, none⟩ = some (.int .i64 jobs[a].1) ∧ w'.cell? ⟨b, o + a * 3 + 1, none⟩ = some (.int .i64 jobs[a].2.1) ∧ w'.cell? ⟨b, o + a * 3 + 2, none⟩ = some (.slice (some ⟨bv, ov, none⟩) jobs[a].2.2.length ca) ∧ Below w.heap.size w w')
                        (first
                          | exact ⟨hd0, hd1, hd2, HR2.drew⟩
                          | (go_split_ands; refine ⟨?_, ?_, ?_, ?_⟩ <;> with_reducible assumption)
                          | (go_split_ands; exact ⟨(HCS2.out _ (below_on (by with_reducible assumption) hb3)).1, (HCS2.out _ (below_on (by with_reducible assumption) hb3)).2.1, (HCS2.out _ (below_on (by with_reducible assumption) hb3)).2.2, below_on (by with_reducible assumption) hb3⟩)
                          | (go_split_ands; exact ⟨(HCS2.out _ (below_on (by with_reducible assumption) hb4)).1, (HCS2.out _ (below_on (by with_reducible assumption) hb4)).2.1, (HCS2.out _ (below_on (by with_reducible assumption) hb4)).2.2, below_on (by with_reducible assumption) hb4⟩))
                        (first
                          | ((with_reducible refine (specLeft_any _ _ _ _ _ jobs[a].2.2 0 0 _ rfl (hw2.keep ?_) MO2.out (Nat.zero_le _)).mono ?_); (go_split_ands; with_reducible assumption); rintro e' w3 ⟨rfl, hb3⟩)
                          | ((with_reducible refine (specLeft_any _ _ _ _ _ jobs[a].2.2 e (e : Int) _ rfl (hw2.keep ?_) MO2.out (Nat.le_of_lt hlte)).mono ?_); (go_split_ands; with_reducible assumption); rintro e' w4 ⟨rfl, hb4⟩))
                      clear wr2 wr3
                      go_split_ands
                      have hmn : (if jobs[a].1 + leftN jobs[a].2.2 0 - leftN jobs[a].2.2 e < headJ jobs[i].2.2[k].1 jobs[a].1 jobs[a].2.2 (headC jobs[i].2.2[k].1 jobs a) e then jobs[a].1 + leftN jobs[a].2.2 0 - leftN jobs[a].2.2 e else headJ jobs[i].2.2[k].1 jobs[a].1 jobs[a].2.2 (headC jobs[i].2.2[k].1 jobs a) e) = headJ jobs[i].2.2[k].1 jobs[a].1 jobs[a].2.2 (headC jobs[i].2.2[k].1 jobs a) (e + 1) := by
                        have h1 := HLE.out
                        rw [HST.out.2, if_pos trivial]
                        split <;> omega
                      rw [hmn]
                      clear hmn
                      go_wp2
                      go_roundw
                      case rel => exact ⟨e + 1, by omega, by go_num, by rw [HST.out.1, if_pos trivial, Int.add_assoc], rfl, by with_reducible assumption⟩
                      case measure => simp [intOf]; omega
                  · obtain rfl : e = jobs[a].2.2.length := by omega
                    go_wp2
                    go_roundw
                    case rel => exact ⟨a + 1, by omega, by go_num, by rw [HSA.out.1], by rw [HSA.out.2], HR⟩
                    case measure => simp [intOf]; omega
              · obtain rfl : a = jobs.length := by omega
                have hmx : (if boundK jobs jobs[i].2.2 N1 k < headC jobs[i].2.2[k].1 jobs jobs.length + sumC jobs[i].2.2[k].1 jobs jobs.length then headC jobs[i].2.2[k].1 jobs jobs.length + sumC jobs[i].2.2[k].1 jobs jobs.length else boundK jobs jobs[i].2.2 N1 k) = boundK jobs jobs[i].2.2 N1 (k + 1) := by rw [HK.out]; split <;> omega
                have HMX := Lib.hid hmx
                clear hmx
                go_wp2
                go_roundw
                case rel => exact ⟨k + 1, by omega, by go_num, congrArg (Value.int .i64) HMX.out, HR⟩
                case measure => simp [intOf]; omega
          · obtain rfl : k = jobs[i].2.2.length := by omega
            go_wp2
            go_roundw
            case rel => exact ⟨i + 1, by omega, by go_num, by rw [HB.out], HR⟩
            case measure => simp [intOf]; omega
      · rw [if_neg hpos] at HB
        have hz : jobs[i].2.2.length = 0 := by omega
        have hB2 : boundI jobs (i + 1) = boundI jobs i := by rw [HB.out, hz]; rfl
        have HB2 := Lib.hid hB2
        clear hB2
        have HZ := Lib.hid hz
        clear hz
        go_wp2_with (go_at_call 28; refine HAL.out.mono ?_; rintro e w' ⟨rfl, rfl⟩)
        go_loopw [3, 5] (fun s t wr => t = .int .i64 0 ∧ s = .int .i64 (boundI jobs i) ∧ Below w.heap.size w wr) (fun _ t _ => (intOf t).toNat)
        case atStart => exact ⟨rfl, rfl, HR⟩
        case round =>
          clear hc0 hc1 hc2 HR
          obtain ⟨rfl, rfl, HR⟩ := hrel
          obtain ⟨hc0, hc1, hc2⟩ := HCS.out _ HR
          go_wp2
          go_roundw
          case rel => exact ⟨i + 1, by omega, by go_num, by rw [HB2.out], HR⟩
          case measure => simp [intOf]; omega
    · obtain rfl : i = jobs.length := by omega
      go_wp2_with (go_at_call 28; refine HAL.out.mono ?_; rintro e w' ⟨rfl, rfl⟩)
      go_ret
      exact ⟨ret_int (workBound_yes HP.out).symm, HR⟩
end Go.Proofs.Ytcfcfgecdlpflaa
