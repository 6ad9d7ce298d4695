/- The walk of the reference's IsSchedule. -/
import Derived.Test.YtmkfinahbelpdaaSchedPlain
import Derived.Test.YtmkfinahbelpdaaBox
import Derived.BigGuardPart
import Derived.Deep.RegionHeld3
namespace Go.Proofs.Ytmkfinahbelpdaa
open Go.RowKit
set_option maxRecDepth 100000 in
set_option maxHeartbeats 8000000 in
theorem specIsSchedule_any (A B : Option Addr) (n c m d : Nat) (jobs : List Jb) (slots : List Slt) (w : World) (hl : JobsIn w A n jobs) (hs : SlotsIn w B m slots) (hok : ∀ x ∈ jobs, okJb x) :
    Calls Try.prog 17 #[.slice A n c, .slice B m d] w fun e w' => e = .returned (.bool (isSched jobs slots)) ∧ Below w.heap.size w w' := by
  have hn := hl.len
  have hm := hs.len
  obtain rfl := hl.num
  obtain rfl := hs.1
  have HO := Lib.hid hok
  clear hok
  cases hp : areJobs jobs
  · have hpos : 0 < jobs.length := by
      rcases Nat.eq_zero_or_pos jobs.length with h0 | h0
      · have : jobs = [] := List.eq_nil_of_length_eq_zero h0
        rw [this] at hp; cases hp
      · exact h0
    go_enter Try.func17, Try.ntmps17
    go_wp2
    go_loop [5, 6] (fun s i => i = .int .i64 0 ∧ s = .int .i64 0) (fun _ i => (intOf i).toNat)
    case atStart => exact ⟨rfl, rfl⟩
    case round =>
      obtain ⟨rfl, rfl⟩ := hrel
      go_wp2_with (go_at_call 50; refine (specAreJobs_any _ _ _ jobs _ hl HO.out).mono ?_; rintro e w' ⟨rfl, rfl⟩)
      go_ret
      exact ⟨ret_bool (isSched_no hp).symm, Below.refl _ _⟩
  have HP := Lib.hid hp
  clear hp
  have hal := specAreJobs_any A jobs.length c jobs w hl HO.out
  have HAL : Hid (areJobs jobs = true) := HP
  have hsl := (areJobs_parts HP.out).1
  go_enter Try.func17, Try.ntmps17
  go_wp2
  go_loop [5, 6] (fun s i => ∃ k : Nat, k ≤ jobs.length ∧ i = .int .i64 k ∧ s = .int .i64 (stepsTo jobs k)) (fun _ i => jobs.length - (intOf i).toNat)
  case atStart => exact ⟨0, by omega, rfl, rfl⟩
  case round =>
    obtain ⟨k, hk, rfl, rfl⟩ := hrel
    have hst := stepsTo_bd HP.out k hk
    by_cases hlt : k < jobs.length
    · obtain ⟨b, o, B1, m1, c1, rfl, _, hc0, hc1, hc2, hw⟩ := jb_at hl hlt
      have h5 := ((areJobs_parts HP.out).2 k hlt).2.2.2.2.1
      obtain rfl := hw.1
      have HS : Hid (stepsTo jobs (k + 1) = stepsTo jobs k + jobs[k].2.2.length) := by
        show stepsTo jobs (k + 1) = _
        simp only [stepsTo]; rw [jb_getD _ _ hlt]
      go_wp2_with (go_at_call 50; refine hal.mono ?_; rintro e w' ⟨rfl, rfl⟩; rw [HAL.out])
      go_round
      case rel => exact ⟨k + 1, by omega, by go_num, by rw [HS.out]; go_num⟩
      case measure => simp [intOf]; omega
    · obtain rfl : k = jobs.length := by omega
      by_cases hlen : slots.length = stepsTo jobs jobs.length
      case neg =>
        have hb : ((slots.length : Int) != (stepsTo jobs jobs.length : Int)) = true := by rw [bne_iff_ne]; omega
        have HN := Lib.hid hlen; clear hlen
        go_wp2_with (go_at_call 50; refine hal.mono ?_; rintro e w' ⟨rfl, rfl⟩; rw [HAL.out])
        go_ret
        exact ⟨ret_bool (isSched_len HN.out).symm, Below.refl _ _⟩
      have hb : ((slots.length : Int) != (stepsTo jobs jobs.length : Int)) = false := by rw [bne_eq_false_iff_eq]; omega
      have hs30 : slots.length ≤ 30 := by omega
      have HN := Lib.hid hlen; clear hlen
      go_wp2_with (go_at_call 50; refine hal.mono ?_; rintro e w' ⟨rfl, rfl⟩; rw [HAL.out])
      clear hb hal
      go_loopw [7] (fun i wr => ∃ k : Nat, k ≤ slots.length ∧ i = .int .i64 k ∧ Hid (∀ j < k, okSl jobs slots j = true) ∧ Below w.heap.size w wr) (fun i _ => slots.length - (intOf i).toNat)
      case atStart => exact ⟨0, by omega, rfl, fun j h => absurd h (by omega), Below.refl _ _⟩
      case round =>
        clear hk hst hlt
        obtain ⟨i, hi, rfl, HI, HR⟩ := hrel
        by_cases hlt : i < slots.length
        · obtain ⟨b, o, rfl, hbl, hc0, hc1, hc2, hc3, hc4⟩ := slot_at (hs.keep HR) hlt
          have hsz := HR.size
          have hR2 := HR.alloc hsz (.cells #[.int .i64 slots[i].1, .int .i64 slots[i].2.1, .string slots[i].2.2.1, .int .i64 slots[i].2.2.2.1, .int .i64 slots[i].2.2.2.2] 84)
          have hx := boxOf_alloc wr #[.int .i64 slots[i].1, .int .i64 slots[i].2.1, .string slots[i].2.2.1, .int .i64 slots[i].2.2.2.1, .int .i64 slots[i].2.2.2.2] 84
          simp only at hx
          have w1 : IntKind.i64.wrap ((jobs.length : Int) - 1) = (jobs.length : Int) - 1 := IntWalk.i64_in _ (by omega)
          have hNs : wr.heap.size < (wr.alloc (.cells #[.int .i64 slots[i].1, .int .i64 slots[i].2.1, .string slots[i].2.2.1, .int .i64 slots[i].2.2.2.1, .int .i64 slots[i].2.2.2.2] 84)).heap.size := by simp
          go_wp2_with fail
          generalize wr.alloc (.cells #[.int .i64 slots[i].1, .int .i64 slots[i].2.1, .string slots[i].2.2.1, .int .i64 slots[i].2.2.2.1, .int .i64 slots[i].2.2.2.2] 84) = wq at *
          generalize wr.heap.size = N at *
          clear hc0 hc1 hc2 hc3 hc4
          have x0 := hx.2 0 _ rfl
          have x1 := hx.2 1 _ rfl
          have x2 := hx.2 2 _ rfl
          have x3 := hx.2 3 _ rfl
          have x4 := hx.2 4 _ rfl
          cases g1 : inB slots[i].1 0 ((jobs.length : Int) - 1)
          · go_quiet ((go_at_call 42; exact quietS (l1In_any _ _ _)))
            go_wp2
            go_ret
            exact ⟨ret_bool (isSched_at hlt (okSl_fit hlt (fit_job g1))).symm, below_drewN hR2 _⟩
          obtain ⟨y1, y2⟩ := inB_iff.1 g1
          obtain ⟨jn, hjn⟩ : ∃ jn : Nat, slots[i].1 = (jn : Int) := ⟨slots[i].1.toNat, by omega⟩
          have hjl : jn < jobs.length := by omega
          have j1 : (jn : Int) < (jobs.length : Int) := by omega
          have j2 : (0 : Int) ≤ (jn : Int) := by omega
          rw [hjn] at x0 g1
          have HJ := Lib.hid hjn
          clear hjn y1 y2
          obtain ⟨bj, oj, B1, m1, c1, rfl, hbj, hd0, hd1, hd2, hw⟩ := jb_at (hl.keep hR2) hjl
          obtain ⟨a1, a2, a3, a4, a5, a6⟩ := (areJobs_parts HP.out).2 jn hjl
          have HA6 := Lib.hid a6
          clear a6
          obtain rfl := hw.1
          have w2 : IntKind.i64.wrap ((jobs[jn].2.2.length : Int) - 1) = (jobs[jn].2.2.length : Int) - 1 := IntWalk.i64_in _ (by omega)
          cases g2 : inB slots[i].2.1 0 ((jobs[jn].2.2.length : Int) - 1)
          · go_quiet ((go_at_call 42; exact quietS (l1In_any _ _ _)))
            go_wp2
            go_ret
            exact ⟨ret_bool (isSched_at hlt (okSl_fit hlt (fit_step HJ.out hjl g2))).symm, below_drewN hR2 _⟩
          obtain ⟨y1, y2⟩ := inB_iff.1 g2
          obtain ⟨sn, hsn⟩ : ∃ sn : Nat, slots[i].2.1 = (sn : Int) := ⟨slots[i].2.1.toNat, by omega⟩
          have hsl2 : sn < jobs[jn].2.2.length := by omega
          have j3 : (sn : Int) < (jobs[jn].2.2.length : Int) := by omega
          have j4 : (0 : Int) ≤ (sn : Int) := by omega
          rw [hsn] at x1 g2
          have HSN := Lib.hid hsn
          clear hsn y1 y2
          have HF := Lib.hid (fit_of HJ.out hjl HSN.out hsl2)
          cases g3 : inB slots[i].2.2.2.1 jobs[jn].1 1000000
          · go_quiet ((go_at_call 42; exact quietS (l1In_any _ _ _)))
            go_wp2
            go_ret
            exact ⟨ret_bool (isSched_at hlt (okSl_fit hlt (by rw [HF.out, g3]; rfl))).symm, below_drewN hR2 _⟩
          obtain ⟨y1, y2⟩ := inB_iff.1 g3
          obtain ⟨z1, z2⟩ := HA6.out sn hsl2
          obtain ⟨bw, ow, rfl, hbw, he0, he1⟩ := work_at hw hsl2
          go_quiet ((go_at_call 42; exact quietS (l1In_any _ _ _)))
          clear w1 w2
          go_wp2_with fail
          have X0 : (wq.drewN nq).cell? ⟨N, 0, none⟩ = some (.int .i64 jn) := x0
          have X1 : (wq.drewN nq).cell? ⟨N, 1, none⟩ = some (.int .i64 sn) := x1
          have X2 : (wq.drewN nq).cell? ⟨N, 2, none⟩ = some (.string slots[i].2.2.1) := x2
          have X3 : (wq.drewN nq).cell? ⟨N, 3, none⟩ = some (.int .i64 slots[i].2.2.2.1) := x3
          have X4 : (wq.drewN nq).cell? ⟨N, 4, none⟩ = some (.int .i64 slots[i].2.2.2.2) := x4
          have D2 : (wq.drewN nq).cell? ⟨bj, oj + jn * 3 + 2, none⟩ = some (.slice (some ⟨bw, ow, none⟩) jobs[jn].2.2.length c1) := hd2
          have E0 : (wq.drewN nq).cell? ⟨bw, ow + sn * 2, none⟩ = some (.string jobs[jn].2.2[sn].1) := he0
          have E1 : (wq.drewN nq).cell? ⟨bw, ow + sn * 2 + 1, none⟩ = some (.int .i64 jobs[jn].2.2[sn].2) := he1
          have hR3 := below_drewN hR2 nq
          have hNs3 : N < (wq.drewN nq).heap.size := hNs
          have hx2 : BoxOf (wq.drewN nq) N [.int .i64 slots[i].1, .int .i64 slots[i].2.1, .string slots[i].2.2.1, .int .i64 slots[i].2.2.2.1, .int .i64 slots[i].2.2.2.2] := hx
          generalize wq.drewN nq = W2 at *
          clear x0 x1 x2 x3 x4 hd0 hd1 hd2 he0 he1 hR2 hw hx hNs hbl hbj hbw
          go_region_held3 (fun w' => w'.cell? ⟨N, 0, none⟩ = some (.int .i64 jn) ∧ w'.cell? ⟨N, 1, none⟩ = some (.int .i64 sn) ∧ w'.cell? ⟨bj, oj + jn * 3 + 2, none⟩ = some (.slice (some ⟨bw, ow, none⟩) jobs[jn].2.2.length c1) ∧ w'.cell? ⟨bw, ow + sn * 2, none⟩ = some (.string jobs[jn].2.2[sn].1) ∧ w'.cell? ⟨bw, ow + sn * 2 + 1, none⟩ = some (.int .i64 jobs[jn].2.2[sn].2)) (go_keep) (fail)
          have hR4 := (hR3.alloc hR3.size (.cells #[.string jobs[jn].2.2[sn].1, .int .i64 jobs[jn].2.2[sn].2] 46)).drew
          have hx3 : BoxOf (W2.alloc (.cells #[.string jobs[jn].2.2[sn].1, .int .i64 jobs[jn].2.2[sn].2] 46)).drew N [.int .i64 slots[i].1, .int .i64 slots[i].2.1, .string slots[i].2.2.1, .int .i64 slots[i].2.2.2.1, .int .i64 slots[i].2.2.2.2] := by
            have hk := (below_alloc W2 (.cells #[.string jobs[jn].2.2[sn].1, .int .i64 jobs[jn].2.2[sn].2] 46)).drew
            have h5 : BoxOf W2 N [.int .i64 slots[i].1, .int .i64 slots[i].2.1, .string slots[i].2.2.1, .int .i64 slots[i].2.2.2.1, .int .i64 slots[i].2.2.2.2] := hx2
            exact (h5.keep hk)
          have v0 : (W2.alloc (.cells #[.string jobs[jn].2.2[sn].1, .int .i64 jobs[jn].2.2[sn].2] 46)).drew.cell? ⟨W2.heap.size, 0, none⟩ = some (.string jobs[jn].2.2[sn].1) := by simp [go_sem]
          have v1 : (W2.alloc (.cells #[.string jobs[jn].2.2[sn].1, .int .i64 jobs[jn].2.2[sn].2] 46)).drew.cell? ⟨W2.heap.size, 1, none⟩ = some (.int .i64 jobs[jn].2.2[sn].2) := by simp [go_sem]
          have u2 := hx3.2 2 _ rfl
          have u3 := hx3.2 3 _ rfl
          have u4 := hx3.2 4 _ rfl
          clear hR3 X0 X1 X2 X3 X4 D2 E0 E1 hNs3 hx2
          generalize (W2.alloc (.cells #[.string jobs[jn].2.2[sn].1, .int .i64 jobs[jn].2.2[sn].2] 46)).drew = W3 at *
          generalize W2.heap.size = N3 at *
          cases g4 : (slots[i].2.2.1.toList == jobs[jn].2.2[sn].1.toList)
          · go_wp2
            go_ret
            exact ⟨ret_bool (isSched_at hlt (okSl_fit hlt (by rw [HF.out, g3, g4]; rfl))).symm, hR4⟩
          by_cases g5 : slots[i].2.2.2.2 = slots[i].2.2.2.1 + jobs[jn].2.2[sn].2
          case neg =>
            have g5b : (slots[i].2.2.2.2 != slots[i].2.2.2.1 + jobs[jn].2.2[sn].2) = true := by rw [bne_iff_ne]; exact g5
            have G5 := Lib.hid g5; clear g5
            go_wp2
            go_ret
            exact ⟨ret_bool (isSched_at hlt (okSl_fit hlt (by rw [HF.out, g3, g4, decide_eq_false G5.out]; rfl))).symm, hR4⟩
          have g5b : (slots[i].2.2.2.2 != slots[i].2.2.2.1 + jobs[jn].2.2[sn].2) = false := by rw [bne_eq_false_iff_eq]; exact g5
          have HFT : Hid (fit jobs slots[i] = true) := by show fit jobs slots[i] = true; rw [HF.out, g3, g4, decide_eq_true g5]; rfl
          clear g5
          go_wp2_with fail
          clear u2 u3 u4 v0 v1 g5b
          go_loopw [10] (fun t wr => ∃ k : Nat, k ≤ i ∧ t = .int .i64 k ∧ Hid (∀ j (hj : j < k) (hji : j < slots.length), clashJ slots[i] slots[j] = false ∧ clashC slots[i] slots[j] = false) ∧ Below W3.heap.size W3 wr) (fun t _ => i - (intOf t).toNat)
          case atStart => exact ⟨0, by omega, rfl, fun j h => absurd h (by omega), Below.refl _ _⟩
          case round =>
            obtain ⟨k, hk, rfl, HK, HS⟩ := hrel
            have hRk := below_on hR4 HS
            by_cases hltk : k < i
            · obtain ⟨b2, o2, e2, _, hk0, hk1, hk2, hk3, hk4⟩ := slot_at (hs.keep hRk) (show k < slots.length by omega)
              obtain ⟨rfl, rfl⟩ : b = b2 ∧ o = o2 := by simpa using e2
              clear e2
              have hsk := HS.size
              have hS2 : Below W3.heap.size W3 (wr.alloc (.cells #[.int .i64 slots[k].1, .int .i64 slots[k].2.1, .string slots[k].2.2.1, .int .i64 slots[k].2.2.2.1, .int .i64 slots[k].2.2.2.2] 84)) := HS.alloc hsk _
              have hX := (hx3.keep hS2)
              have x0 := hX.2 0 _ rfl
              have x1 := hX.2 1 _ rfl
              have x2 := hX.2 2 _ rfl
              have x3 := hX.2 3 _ rfl
              have x4 := hX.2 4 _ rfl
              have HNX : Hid ((clashJ slots[i] slots[k] = false ∧ clashC slots[i] slots[k] = false) → ∀ j (hj : j < k + 1) (hji : j < slots.length), clashJ slots[i] slots[j] = false ∧ clashC slots[i] slots[j] = false) := fun h j hj hji => by
                rcases Nat.lt_or_ge j k with h1 | h1
                · exact HK.out j h1 hji
                · obtain rfl : j = k := by omega
                  exact h
              have HRT : Hid (clashJ slots[i] slots[k] = true ∨ clashC slots[i] slots[k] = true → isSched jobs slots = false) := fun h => isSched_at hlt (okSl_clash hlt hltk h)
              by_cases hJ : slots[k].1 = slots[i].1
              · skip
                have bja : (slots[k].1 == slots[i].1) = true := by rw [beq_iff_eq]; omega
                have bjb : (slots[i].1 == slots[k].1) = true := by rw [beq_iff_eq]; omega
                have HJ1 := Lib.hid hJ; clear hJ
                by_cases hS : slots[k].2.1 = slots[i].2.1
                · skip
                  have bsa : (slots[k].2.1 == slots[i].2.1) = true := by rw [beq_iff_eq]; omega
                  have bsb : (slots[i].2.1 == slots[k].2.1) = true := by rw [beq_iff_eq]; omega
                  have HS1 := Lib.hid hS; clear hS
                  go_wp2
                  go_ret
                  exact ⟨ret_bool (HRT.out (.inl (clash_yesJ HJ1.out (.inl HS1.out)))).symm, below_on hR4 hS2⟩
                · skip
                  have bsa : (slots[k].2.1 == slots[i].2.1) = false := by rw [beq_eq_false_iff_ne]; omega
                  have bsb : (slots[i].2.1 == slots[k].2.1) = false := by rw [beq_eq_false_iff_ne]; omega
                  by_cases hlts : slots[k].2.1 < slots[i].2.1
                  · have hngt : ¬ slots[i].2.1 < slots[k].2.1 := by omega
                    clear hS
                    by_cases h4 : slots[i].2.2.2.1 < slots[k].2.2.2.2
                    · skip
                      go_wp2
                      go_ret
                      exact ⟨ret_bool (HRT.out (.inl (clash_yesJ HJ1.out (.inr (.inl ⟨hlts, h4⟩))))).symm, below_on hR4 hS2⟩
                    · skip
                      cases hc : (slots[k].2.2.1.toList == slots[i].2.2.1.toList)
                      · have hc2 : (slots[i].2.2.1.toList == slots[k].2.2.1.toList) = false := by rw [← hc]; exact BEq.comm
                        go_wp2
                        go_roundw
                        case rel => exact ⟨k + 1, by omega, by go_num, HNX.out (clash_no (by have z1 := HJ1.out; omega) (.inl hc)), hS2⟩
                        case measure => simp [intOf]; omega
                      · have hc2 : (slots[i].2.2.1.toList == slots[k].2.2.1.toList) = true := by rw [← hc]; exact BEq.comm
                        go_wp2
                        go_roundw
                        case rel => exact ⟨k + 1, by omega, by go_num, HNX.out (clash_no (by have z1 := HJ1.out; omega) (.inr (by omega))), hS2⟩
                        case measure => simp [intOf]; omega
                  · have hgt : slots[i].2.1 < slots[k].2.1 := by omega
                    clear hS
                    by_cases h6 : slots[k].2.2.2.1 < slots[i].2.2.2.2
                    · skip
                      go_wp2
                      go_ret
                      exact ⟨ret_bool (HRT.out (.inl (clash_yesJ HJ1.out (.inr (.inr ⟨hgt, h6⟩))))).symm, below_on hR4 hS2⟩
                    · skip
                      cases hc : (slots[k].2.2.1.toList == slots[i].2.2.1.toList)
                      · have hc2 : (slots[i].2.2.1.toList == slots[k].2.2.1.toList) = false := by rw [← hc]; exact BEq.comm
                        go_wp2
                        go_roundw
                        case rel => exact ⟨k + 1, by omega, by go_num, HNX.out (clash_no (by have z1 := HJ1.out; omega) (.inl hc)), hS2⟩
                        case measure => simp [intOf]; omega
                      · have hc2 : (slots[i].2.2.1.toList == slots[k].2.2.1.toList) = true := by rw [← hc]; exact BEq.comm
                        by_cases h4 : slots[i].2.2.2.1 < slots[k].2.2.2.2
                        · skip
                          go_wp2
                          go_roundw
                          case rel => exact ⟨k + 1, by omega, by go_num, HNX.out (clash_no (by have z1 := HJ1.out; omega) (.inr (by omega))), hS2⟩
                          case measure => simp [intOf]; omega
                        · skip
                          go_wp2
                          go_roundw
                          case rel => exact ⟨k + 1, by omega, by go_num, HNX.out (clash_no (by have z1 := HJ1.out; omega) (.inr (by omega))), hS2⟩
                          case measure => simp [intOf]; omega
              · skip
                have bja : (slots[k].1 == slots[i].1) = false := by rw [beq_eq_false_iff_ne]; omega
                have bjb : (slots[i].1 == slots[k].1) = false := by rw [beq_eq_false_iff_ne]; omega
                have HJ1 := Lib.hid hJ; clear hJ
                cases hc : (slots[k].2.2.1.toList == slots[i].2.2.1.toList)
                · have hc2 : (slots[i].2.2.1.toList == slots[k].2.2.1.toList) = false := by rw [← hc]; exact BEq.comm
                  go_wp2
                  go_roundw
                  case rel => exact ⟨k + 1, by omega, by go_num, HNX.out (clash_no (by have z1 := HJ1.out; omega) (.inl hc)), hS2⟩
                  case measure => simp [intOf]; omega
                · have hc2 : (slots[i].2.2.1.toList == slots[k].2.2.1.toList) = true := by rw [← hc]; exact BEq.comm
                  by_cases h4 : slots[i].2.2.2.1 < slots[k].2.2.2.2
                  · by_cases h6 : slots[k].2.2.2.1 < slots[i].2.2.2.2
                    · skip
                      go_wp2
                      go_ret
                      exact ⟨ret_bool (HRT.out (.inr (clash_yesC hc h4 h6))).symm, below_on hR4 hS2⟩
                    · skip
                      go_wp2
                      go_roundw
                      case rel => exact ⟨k + 1, by omega, by go_num, HNX.out (clash_no (by have z1 := HJ1.out; omega) (.inr (by omega))), hS2⟩
                      case measure => simp [intOf]; omega
                  · skip
                    go_wp2
                    go_roundw
                    case rel => exact ⟨k + 1, by omega, by go_num, HNX.out (clash_no (by have z1 := HJ1.out; omega) (.inr (by omega))), hS2⟩
                    case measure => simp [intOf]; omega
            · obtain rfl : k = i := by omega
              go_wp2
              go_roundw
              case rel =>
                refine ⟨k + 1, by omega, by go_num, fun j hj => ?_, hRk⟩
                rcases Nat.lt_or_ge j k with h1 | h1
                · exact HI.out j h1
                · obtain rfl : j = k := by omega
                  exact okSl_yes hlt HFT.out (fun k hk => HK.out k hk (by omega))
              case measure => simp [intOf]; omega
        · obtain rfl : i = slots.length := by omega
          go_wp2
          go_ret
          exact ⟨ret_bool (isSched_yes HP.out HN.out HI.out).symm, HR⟩
end Go.Proofs.Ytmkfinahbelpdaa
