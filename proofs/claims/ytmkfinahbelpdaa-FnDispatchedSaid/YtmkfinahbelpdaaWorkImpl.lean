/- The walk of the program's WorkBound. -/
import Derived.Test.YtmkfinahbelpdaaWorkMap
import Derived.Test.YtmkfinahbelpdaaWorkSpec
namespace Go.Proofs.Ytmkfinahbelpdaa
open Go.RowKit Go.Maps Go.WideMaps
theorem minOk_pos {l : List Wk} {b : Nat} (hb : b < l.length) : beforeN l (b + 1) = beforeN l b + l[b].2 := by simp only [beforeN]; rw [wk_getD _ _ hb]
theorem workAt_bd {jobs : List Jb} (h : areJobs jobs = true) {a : Nat} (ha : a < jobs.length) (e : Nat) (c : ByteArray) : 0 ≤ workAt jobs a jobs[a].2.2 e c ∧ workAt jobs a jobs[a].2.2 e c ≤ 5000 * a + 1000 * e := by
  have h1 := sumC_bd h c a
  have h2 := (jobs_ok h a).1
  rw [jb_getD _ _ ha] at h2
  have h3 := sumJ_bd h2 c e
  unfold workAt; omega
theorem headAt_bd {jobs : List Jb} (h : areJobs jobs = true) {a : Nat} (ha : a < jobs.length) (e : Nat) (c : ByteArray) : 0 ≤ headAt jobs a jobs[a].1 jobs[a].2.2 e c ∧ headAt jobs a jobs[a].1 jobs[a].2.2 e c ≤ 100000 := by
  have h1 := headC_bd h c a
  obtain ⟨h2, h3, _⟩ := jobs_ok h a
  rw [jb_getD _ _ ha] at h2 h3
  have h4 := headJ_bd h2 c jobs[a].1 (headC c jobs a) h3 h1.1 e
  unfold headAt; omega
set_option maxRecDepth 100000 in
set_option maxHeartbeats 8000000 in
theorem implWorkBound_any (A : Option Addr) (n c : Nat) (jobs : List Jb) (w : World) (hl : JobsIn w A n jobs) (hok : ∀ x ∈ jobs, okJb x) :
    Calls Try.prog 18 #[.slice A n c] w fun e w' => e = .returned (.int .i64 (workBound jobs)) ∧ Below w.heap.size w w' := by
  have hn := hl.len
  obtain rfl := hl.num
  have hmm := @run_makeMap Try.prog
  cases hp : areJobs jobs
  · go_enter Try.func18, Try.ntmps18
    go_wp2_with (go_at_call 48; refine (implAreJobs_any _ _ _ jobs _ hl hok).mono ?_; rintro e w1 ⟨rfl, hb⟩)
    go_ret
    exact ⟨ret_int (workBound_no hp).symm, hb⟩
  have HP := Lib.hid hp
  have hsl := (areJobs_parts HP.out).1
  have HO := Lib.hid hok
  go_enter Try.func18, Try.ntmps18
  go_wp2_with (go_at_call 48; refine (implAreJobs_any _ _ _ jobs _ hl hok).mono ?_; rintro e w1 ⟨rfl, hb⟩)
  clear hp hok
  generalize hBw : w1.heap.size = Bw at *
  have hBB : w.heap.size ≤ Bw := by rw [← hBw]; exact hb.size
  have hm10 : ((w1.alloc (.map #[] 0)).alloc (.map #[] 0)).ownsMap Try.prog 9 (plainElem Try.prog 3) Bw (0) (.map [] : DataW Unit) := by have := World.ownsMap_made (H := Unit) w1 Try.prog 9 (plainElem Try.prog 3); rw [hBw] at this; exact this.alloc _
  have hm20 : ((w1.alloc (.map #[] 0)).alloc (.map #[] 0)).ownsMap Try.prog 9 (plainElem Try.prog 3) (Bw + 1) (0) (.map [] : DataW Unit) := by have := World.ownsMap_made (H := Unit) (w1.alloc (.map #[] 0)) Try.prog 9 (plainElem Try.prog 3); rw [show (w1.alloc (.map #[] 0)).heap.size = Bw + 1 by simp [hBw]] at this; exact this
  have hb0 : Below w.heap.size w ((w1.alloc (.map #[] 0)).alloc (.map #[] 0)) := (hb.alloc (by omega) _).alloc (by simp; omega) _
  have hz0 : ((w1.alloc (.map #[] 0)).alloc (.map #[] 0)).heap.size = Bw + 2 := by simp [hBw]
  have hz1 : Bw + 2 ≤ ((w1.alloc (.map #[] 0)).alloc (.map #[] 0)).heap.size := by omega
  clear hmm hb hz0
  generalize (w1.alloc (.map #[] 0)).alloc (.map #[] 0) = w2 at *
  go_loopw [3, 22] (fun s i wr => ∃ (a : Nat) (bd : Int) (D1 D2 : DataW Unit), a ≤ jobs.length ∧ i = .int .i64 a ∧ s = .int .i64 bd ∧ IsTop (WayTo jobs a) bd ∧ 0 ≤ bd ∧ bd ≤ 1000000 ∧ wr.ownsMap Try.prog 9 (plainElem Try.prog 3) Bw (12 * a) D1 ∧ View D1 (fun s => sumC s jobs a) (fun s => SeenC s jobs a) ∧ wr.ownsMap Try.prog 9 (plainElem Try.prog 3) (Bw + 1) (12 * a) D2 ∧ View D2 (fun s => headC s jobs a) (fun s => SeenC s jobs a) ∧ Bw + 2 ≤ wr.heap.size ∧ Below w.heap.size w wr) (fun _ i _ => jobs.length - (intOf i).toNat)
  case atStart => exact ⟨0, 0, _, _, by omega, rfl, rfl, isTop_none (fun x hx => by obtain ⟨i, hi, _⟩ := hx; omega), by omega, by omega, hm10, View.empty, hm20, View.empty, hz1, hb0⟩
  case round =>
    clear hm10 hm20 hb0 hz1
    obtain ⟨a, bd, D1, D2, ha, rfl, rfl, hT, hbd0, hbd1, hm1, V1, hm2, V2, hzr, HR⟩ := hrel
    have HT := Lib.hid hT
    have HV1 := Lib.hid V1
    have HV2 := Lib.hid V2
    clear hT V1 V2
    by_cases hlta : a < jobs.length
    · obtain ⟨b, o, B, m, ca, rfl, hbl, hcs, hw⟩ := jb_all hl hlta
      obtain ⟨hc0, hc1, hc2⟩ := hcs _ HR
      obtain ⟨mo, r0, r1⟩ := jobs_ok HP.out a
      rw [jb_getD _ _ hlta] at mo r0 r1
      have MO := Lib.hid mo
      have m5 := mo.1
      clear mo hcs
      obtain rfl := hw.1
      have hokk := HO.out _ (List.getElem_mem hlta)
      simp only [okJb] at hokk
      have HOK := Lib.hid hokk
      clear hokk
      have hsz := HR.size
      have hbx := boxOf_alloc wr #[.int .i64 jobs[a].1, .int .i64 jobs[a].2.1, .slice B jobs[a].2.2.length ca] 44
      simp only at hbx
      have hRb := HR.alloc hsz (.cells #[.int .i64 jobs[a].1, .int .i64 jobs[a].2.1, .slice B jobs[a].2.2.length ca] 44)
      have hm1b := hm1.alloc (.cells #[.int .i64 jobs[a].1, .int .i64 jobs[a].2.1, .slice B jobs[a].2.2.length ca] 44)
      have hm2b := hm2.alloc (.cells #[.int .i64 jobs[a].1, .int .i64 jobs[a].2.1, .slice B jobs[a].2.2.length ca] 44)
      have hzb : Bw + 2 ≤ (wr.alloc (.cells #[.int .i64 jobs[a].1, .int .i64 jobs[a].2.1, .slice B jobs[a].2.2.length ca] 44)).heap.size := by simp; omega
      go_wp2_with fail
      generalize wr.alloc (.cells #[.int .i64 jobs[a].1, .int .i64 jobs[a].2.1, .slice B jobs[a].2.2.length ca] 44) = wq at *
      generalize hNj : wr.heap.size = Nj at *
      clear hc0 hc1 hc2 hm1 hm2 HR hsz
      go_loopw [8, 31] (fun t i wr => ∃ (e : Nat) (D1 D2 : DataW Unit), e ≤ jobs[a].2.2.length ∧ i = .int .i64 e ∧ t = .int .i64 (jobs[a].1 + beforeN jobs[a].2.2 e) ∧ wr.ownsMap Try.prog 9 (plainElem Try.prog 3) Bw (12 * a + 2 * e) D1 ∧ View D1 (workAt jobs a jobs[a].2.2 e) (SeenAt jobs a jobs[a].2.2 e) ∧ wr.ownsMap Try.prog 9 (plainElem Try.prog 3) (Bw + 1) (12 * a + 2 * e) D2 ∧ View D2 (headAt jobs a jobs[a].1 jobs[a].2.2 e) (SeenAt jobs a jobs[a].2.2 e) ∧ BoxOf wr Nj [.int .i64 jobs[a].1, .int .i64 jobs[a].2.1, .slice B jobs[a].2.2.length ca] ∧ Below w.heap.size w wr) (fun _ i _ => jobs[a].2.2.length - (intOf i).toNat)
      case atStart => exact ⟨0, D1, D2, by omega, rfl, by simp [beforeN], hm1b, HV1.out.congr (fun s => seenAt_start.symm) (fun s _ => workAt_start.symm), hm2b, HV2.out.congr (fun s => seenAt_start.symm) (fun s _ => rfl), hbx, hRb⟩
      case round =>
        clear hm1b hm2b hbx hRb HV1 HV2 hzb
        obtain ⟨e, D1, D2, he, rfl, rfl, hm1, V1, hm2, V2, hbx, HR⟩ := hrel
        have HV1 := Lib.hid V1
        have HV2 := Lib.hid V2
        clear V1 V2
        obtain ⟨p1, p2⟩ := beforeN_bd MO.out e
        by_cases hlte : e < jobs[a].2.2.length
        · obtain ⟨bw, ow, rfl, _, w0, w1'⟩ := work_at (hw.keep HR) hlte
          obtain ⟨z3, z4⟩ := MO.out.2 e hlte
          have hsc := HOK.out _ (List.getElem_mem hlte)
          unfold okWk at hsc
          have hkey : keyOf Try.prog 9 (.string jobs[a].2.2[e].1) = some (kl jobs[a].2.2[e].1) := keyOf_string_mk Try.underlying9 (by unfold maxLen; exact hsc)
          have HKEY := Lib.hid hkey
          clear hkey
          have hsz := HR.size
          have hst := boxOf_alloc wr #[.string jobs[a].2.2[e].1, .int .i64 jobs[a].2.2[e].2] 46
          simp only at hst
          have hm1b := hm1.alloc (.cells #[.string jobs[a].2.2[e].1, .int .i64 jobs[a].2.2[e].2] 46)
          have hm2b := hm2.alloc (.cells #[.string jobs[a].2.2[e].1, .int .i64 jobs[a].2.2[e].2] 46)
          have hbx1 := hbx.keep (below_alloc wr (.cells #[.string jobs[a].2.2[e].1, .int .i64 jobs[a].2.2[e].2] 46))
          have hR1 := HR.alloc hsz (.cells #[.string jobs[a].2.2[e].1, .int .i64 jobs[a].2.2[e].2] 46)
          have hb1 := hm1.lt
          have hb2 := hm2.lt
          have hbN := hbx.1
          have nn1 : 12 * a + 2 * e ≤ 100 := by omega
          obtain ⟨t1, t2⟩ := headAt_bd HP.out hlta e jobs[a].2.2[e].1
          obtain ⟨s1, s2'⟩ := workAt_bd HP.out hlta e jobs[a].2.2[e].1
          have s2 : workAt jobs a jobs[a].2.2 e jobs[a].2.2[e].1 ≤ 100000 := by omega
          clear s2'
          have hq1 : wr.ownsMap Try.prog 9 (plainElem Try.prog 3) Bw (0) D1 → True := fun _ => trivial
          clear hq1 hm1 hm2 hbx HR
          have HN1 : Hid (∀ D, View D (fun s => if kl s = kl jobs[a].2.2[e].1 then workAt jobs a jobs[a].2.2 e jobs[a].2.2[e].1 + jobs[a].2.2[e].2 else workAt jobs a jobs[a].2.2 e s) (fun s => SeenAt jobs a jobs[a].2.2 e s ∨ kl s = kl jobs[a].2.2[e].1) → View D (workAt jobs a jobs[a].2.2 (e + 1)) (SeenAt jobs a jobs[a].2.2 (e + 1))) := fun D h =>
            h.congr (fun s => (seenAt_next hlte).symm) (fun s _ => (workAt_next hlte).symm)
          have HN2 : Hid (∀ D, View D (fun s => if kl s = kl jobs[a].2.2[e].1 then min (headAt jobs a jobs[a].1 jobs[a].2.2 e jobs[a].2.2[e].1) (jobs[a].1 + beforeN jobs[a].2.2 e) else headAt jobs a jobs[a].1 jobs[a].2.2 e s) (fun s => SeenAt jobs a jobs[a].2.2 e s ∨ kl s = kl jobs[a].2.2[e].1) → View D (headAt jobs a jobs[a].1 jobs[a].2.2 (e + 1)) (SeenAt jobs a jobs[a].2.2 (e + 1))) := fun D h =>
            h.congr (fun s => (seenAt_next hlte).symm) (fun s _ => (headAt_next hlte).symm)
          have HB : Hid (jobs[a].1 + beforeN jobs[a].2.2 (e + 1) = jobs[a].1 + beforeN jobs[a].2.2 e + jobs[a].2.2[e].2) := by
            show jobs[a].1 + beforeN jobs[a].2.2 (e + 1) = _
            rw [minOk_pos hlte]; omega
          have hne1 : some (Bw + 1) ≠ some Bw := by simp
          have hne2 : some Bw ≠ some (Bw + 1) := by simp
          have hgl : ∀ (x y : World) (r : Nat), x.grownBy y (some r) → w.heap.size ≤ r → Below w.heap.size w x → Below w.heap.size w y := fun x y r hg hr hb => hb.trans (below_grown hg hb.size (fun g hgg => by cases hgg; exact hr))
          have HGL := Lib.hid hgl
          clear hgl
          by_cases hS : SeenAt jobs a jobs[a].2.2 e jobs[a].2.2[e].1
          · have hhas : has D2 (kl jobs[a].2.2[e].1) = true := (HV2.out.2 jobs[a].2.2[e].1).1.2 hS
            have HS := Lib.hid hS
            have HH := Lib.hid hhas
            clear hS hhas
            go_wp2_with (first
              | (at_lookup; refine wpList_lookup_own_ok_int _ rfl _ _ 81 rfl 9 3 .i64 strKeyed Try.underlying81 Try.underlying3 (zeroI _) (Bw + 1) (12 * a + 2 * e) D2 rfl hm2b _ _ rfl HKEY.out ?_; intro c0 hat0 hw0; rw [HH.out])
              | (at_lookup; refine wpList_lookup_own_int _ rfl _ _ 81 rfl 9 3 .i64 strKeyed Try.underlying81 Try.underlying3 (zeroI _) (Bw + 1) (12 * a + 2 * e) D2 rfl hm2b _ _ rfl HKEY.out ?_; intro c1 hat1 hw1; have hc1 := HV2.out.at_ HS.out hat1; have hc1a : 0 ≤ c1 ∧ c1 ≤ 100000 := (by rw [hc1]; exact ⟨t1, t2⟩); obtain ⟨hc1b, hc1c⟩ := hc1a; have HC1 := Lib.hid hc1; have HW1 := Lib.hid hat1; clear hc1 hat1 hw1)
              | (at_mapUpdate; refine wpList_mapUpdate_own _ rfl _ _ _ 81 rfl 9 3 strKeyed Try.underlying81 (plainElem Try.prog 3) (Bw + 1) (12 * a + 2 * e) D2 rfl hm2b (by unfold maxLen; omega) _ _ _ rfl rfl HKEY.out _ [] (plainElem_int Try.underlying3 (WalkArith.wf_i64 (by split <;> omega))) ?_; intro w4 hm4 hg4; have hm14 := hm1b.kept hg4 hne2; have hst4 := hst.grown hg4 (by simp; omega); have hbx4 := hbx1.grown hg4 (by simp; omega); have x0 := hst4.2 0 _ rfl; have x1 := hst4.2 1 _ rfl; have hR4 := HGL.out _ _ _ hg4 (by omega) hR1; have HG4 := Lib.hid hg4; clear hg4)
              | (at_lookup; refine wpList_lookup_own_int _ rfl _ _ 81 rfl 9 3 .i64 strKeyed Try.underlying81 Try.underlying3 (zeroI _) Bw (12 * a + 2 * e) D1 rfl hm14 _ _ rfl HKEY.out ?_; intro c2 hat2 hw2; have hc2 : c2 = workAt jobs a jobs[a].2.2 e jobs[a].2.2[e].1 := HV1.out.at_ HS.out hat2; have hc2a : 0 ≤ c2 ∧ c2 ≤ 100000 := (by rw [hc2]; exact ⟨s1, s2⟩); obtain ⟨hc2b, hc2c⟩ := hc2a; have HC2 := Lib.hid hc2; clear hc2 hat2 hw2)
              | (at_mapUpdate; refine wpList_mapUpdate_own _ rfl _ _ _ 81 rfl 9 3 strKeyed Try.underlying81 (plainElem Try.prog 3) Bw (12 * a + 2 * e) D1 rfl hm14 (by unfold maxLen; omega) _ _ _ rfl rfl HKEY.out _ [] (plainElem_int Try.underlying3 (WalkArith.wf_i64 (by omega))) ?_; intro w5 hm15 hg5; have hm25 := hm4.kept hg5 hne1; have hst5 := hst4.grown hg5 (by simp; omega); have hbx5 := hbx4.grown hg5 (by simp; omega); have x2 := hst5.2 1 _ rfl; have hR5 := HGL.out _ _ _ hg5 (by omega) hR4; have HG5 := Lib.hid hg5; clear hg5))
            go_round
            case rel =>
              refine ⟨e + 1, _, _, by omega, by go_num, by rw [HB.out], hm15.mono (by omega), HN1.out _ ?_, hm25.mono (by omega), HN2.out _ ?_, hbx5, hR5⟩
              · refine (HV1.out.put jobs[a].2.2[e].1 (c2 + jobs[a].2.2[e].2)).congr (fun s => Iff.rfl) (fun s _ => ?_)
                split
                · rw [HC2.out]
                · rfl
              · refine (HV2.out.put jobs[a].2.2[e].1 _).congr (fun s => Iff.rfl) (fun s _ => ?_)
                split
                · have := HC1.out
                  split <;> omega
                · rfl
            case measure => simp [intOf]; omega
          · have hhas : has D2 (kl jobs[a].2.2[e].1) = false := by
              cases hh : has D2 (kl jobs[a].2.2[e].1)
              · rfl
              · exact absurd ((HV2.out.2 jobs[a].2.2[e].1).1.1 hh) hS
            have NS := Lib.hid hS
            have HH := Lib.hid hhas
            clear hS hhas
            go_wp2_with (first
              | (at_lookup; refine wpList_lookup_own_ok_int _ rfl _ _ 81 rfl 9 3 .i64 strKeyed Try.underlying81 Try.underlying3 (zeroI _) (Bw + 1) (12 * a + 2 * e) D2 rfl hm2b _ _ rfl HKEY.out ?_; intro c0 hat0 hw0; rw [HH.out])
              | (at_mapUpdate; refine wpList_mapUpdate_own _ rfl _ _ _ 81 rfl 9 3 strKeyed Try.underlying81 (plainElem Try.prog 3) (Bw + 1) (12 * a + 2 * e) D2 rfl hm2b (by unfold maxLen; omega) _ _ _ rfl rfl HKEY.out _ [] (plainElem_int Try.underlying3 (WalkArith.wf_i64 (by omega))) ?_; intro w3 hm3 hg3; have hm13 := hm1b.kept hg3 hne2; have hst3 := hst.grown hg3 (by simp; omega); have hbx3 := hbx1.grown hg3 (by simp; omega); have y0 := hst3.2 0 _ rfl; have y1 := hst3.2 1 _ rfl; have hR3 := HGL.out _ _ _ hg3 (by omega) hR1; have HG3 := Lib.hid hg3; clear hg3)
              | (at_lookup; refine wpList_lookup_own_int _ rfl _ _ 81 rfl 9 3 .i64 strKeyed Try.underlying81 Try.underlying3 (zeroI _) (Bw + 1) (12 * a + 2 * e + 1) (D2.put (kl jobs[a].2.2[e].1) (.lit (.int .i64 100000))) rfl hm3 _ _ rfl HKEY.out ?_; intro c1 hat1 hw1; have hc1 : c1 = 100000 := ((HV2.out.put jobs[a].2.2[e].1 100000).at_ (.inr rfl) hat1).trans (if_pos rfl); have hc1b : 0 ≤ c1 := (by omega); have hc1c : c1 ≤ 100000 := (by omega); have HC1 := Lib.hid hc1; clear hc1 hat1 hw1)
              | (at_mapUpdate; refine wpList_mapUpdate_own _ rfl _ _ _ 81 rfl 9 3 strKeyed Try.underlying81 (plainElem Try.prog 3) (Bw + 1) (12 * a + 2 * e + 1) (D2.put (kl jobs[a].2.2[e].1) (.lit (.int .i64 100000))) rfl hm3 (by unfold maxLen; omega) _ _ _ rfl rfl HKEY.out _ [] (plainElem_int Try.underlying3 (WalkArith.wf_i64 (by split <;> omega))) ?_; intro w4 hm4 hg4; have hm14 := hm13.kept hg4 hne2; have hst4 := hst3.grown hg4 (by simp; omega); have hbx4 := hbx3.grown hg4 (by simp; omega); have x0 := hst4.2 0 _ rfl; have x1 := hst4.2 1 _ rfl; have hR4 := HGL.out _ _ _ hg4 (by omega) hR3; have HG4 := Lib.hid hg4; clear hg4)
              | (at_lookup; refine wpList_lookup_own_int _ rfl _ _ 81 rfl 9 3 .i64 strKeyed Try.underlying81 Try.underlying3 (zeroI _) Bw (12 * a + 2 * e) D1 rfl hm14 _ _ rfl HKEY.out ?_; intro c2 hat2 hw2; have hc2 : c2 = workAt jobs a jobs[a].2.2 e jobs[a].2.2[e].1 := (HV1.out.none NS.out hat2).trans (workAt_unseen NS.out).symm; have hc2a : 0 ≤ c2 ∧ c2 ≤ 100000 := (by rw [hc2]; exact ⟨s1, s2⟩); obtain ⟨hc2b, hc2c⟩ := hc2a; have HC2 := Lib.hid hc2; clear hc2 hat2 hw2)
              | (at_mapUpdate; refine wpList_mapUpdate_own _ rfl _ _ _ 81 rfl 9 3 strKeyed Try.underlying81 (plainElem Try.prog 3) Bw (12 * a + 2 * e) D1 rfl hm14 (by unfold maxLen; omega) _ _ _ rfl rfl HKEY.out _ [] (plainElem_int Try.underlying3 (WalkArith.wf_i64 (by omega))) ?_; intro w5 hm15 hg5; have hm25 := hm4.kept hg5 hne1; have hst5 := hst4.grown hg5 (by simp; omega); have hbx5 := hbx4.grown hg5 (by simp; omega); have x2 := hst5.2 1 _ rfl; have hR5 := HGL.out _ _ _ hg5 (by omega) hR4; have HG5 := Lib.hid hg5; clear hg5))
            go_round
            case rel =>
              refine ⟨e + 1, _, _, by omega, by go_num, by rw [HB.out], hm15.mono (by omega), HN1.out _ ?_, hm25.mono (by omega), HN2.out _ ?_, hbx5, hR5⟩
              · refine (HV1.out.put jobs[a].2.2[e].1 (c2 + jobs[a].2.2[e].2)).congr (fun s => Iff.rfl) (fun s _ => ?_)
                split
                · rw [HC2.out]
                · rfl
              · refine ((HV2.out.put jobs[a].2.2[e].1 100000).put jobs[a].2.2[e].1 _).congr (fun s => ?_) (fun s _ => ?_)
                · constructor
                  · rintro (h | h)
                    · exact h
                    · exact .inr h
                  · exact .inl
                · split
                  · have h1 := HC1.out
                    have h2 := headAt_unseen (rel := jobs[a].1) NS.out
                    split <;> omega
                  · rename_i hks
                    rfl
            case measure => simp [intOf]; omega
        · obtain rfl : e = jobs[a].2.2.length := by omega
          have b2 := hbx.2 2 _ rfl
          have hat : jobs[a].1 + beforeN jobs[a].2.2 jobs[a].2.2.length = jobs[a].1 + leftN jobs[a].2.2 0 := by simp only [leftN, beforeN]; omega
          have hzz : Bw + 2 ≤ wr.heap.size := by have := hm2.lt; omega
          have HV1n := Lib.hid (HV1.out.congr (fun s => seenAt_job hlta) (fun s _ => workAt_job hlta))
          have HV2n := Lib.hid (HV2.out.congr (fun s => seenAt_job hlta) (fun s _ => headAt_job hlta))
          clear HV1 HV2
          by_cases hpos : 0 < jobs[a].2.2.length
          · have HTn : Hid (IsTop (WayTo jobs (a + 1)) (max bd (jobs[a].1 + beforeN jobs[a].2.2 jobs[a].2.2.length))) := by
              rw [hat]
              refine isTop_iff (isTop_add HT.out _) (fun x => ⟨fun h => ?_, fun h => ?_⟩)
              · rcases h with ⟨i, hi, h1, h2⟩ | h
                · exact ⟨i, by omega, h1, h2⟩
                · exact ⟨a, by omega, by rw [jb_getD _ _ hlta]; exact hpos, by rw [jb_getD _ _ hlta]; exact h⟩
              · obtain ⟨i, hi, h1, h2⟩ := h
                rcases Nat.lt_or_ge i a with h3 | h3
                · exact .inl ⟨i, h3, h1, h2⟩
                · obtain rfl : i = a := by omega
                  rw [jb_getD _ _ hlta] at h2
                  exact .inr h2
            have hmx : (if bd < jobs[a].1 + beforeN jobs[a].2.2 jobs[a].2.2.length then jobs[a].1 + beforeN jobs[a].2.2 jobs[a].2.2.length else bd) = max bd (jobs[a].1 + beforeN jobs[a].2.2 jobs[a].2.2.length) := by split <;> omega
            have HMX := Lib.hid hmx
            clear hmx hat
            by_cases hlb : bd < jobs[a].1 + beforeN jobs[a].2.2 jobs[a].2.2.length
            all_goals
              go_wp2
              go_round
              case rel => exact ⟨a + 1, max bd (jobs[a].1 + beforeN jobs[a].2.2 jobs[a].2.2.length), _, _, by omega, by go_num, congrArg (Value.int .i64) (by omega), HTn.out, by omega, by omega, hm1.mono (by omega), HV1n.out, hm2.mono (by omega), HV2n.out, hzz, HR⟩
              case measure => simp [intOf]; omega
          · have HTn : Hid (IsTop (WayTo jobs (a + 1)) bd) := by
              refine isTop_iff HT.out (fun x => ⟨fun ⟨i, hi, h1, h2⟩ => ⟨i, by omega, h1, h2⟩, fun ⟨i, hi, h1, h2⟩ => ?_⟩)
              rcases Nat.lt_or_ge i a with h3 | h3
              · exact ⟨i, h3, h1, h2⟩
              · obtain rfl : i = a := by omega
                rw [jb_getD _ _ hlta] at h1
                exact absurd h1 hpos
            clear hat
            go_wp2
            go_round
            case rel => exact ⟨a + 1, bd, _, _, by omega, by go_num, rfl, HTn.out, by omega, by omega, hm1.mono (by omega), HV1n.out, hm2.mono (by omega), HV2n.out, hzz, HR⟩
            case measure => simp [intOf]; omega
    · obtain rfl : a = jobs.length := by omega
      go_wp2_with (first
        | (at_range; refine wpList_range_own _ rfl _ 81 rfl 9 3 strKeyed Try.underlying81 _ Bw (12 * jobs.length) D1 rfl hm1 ?_; intro w5 hrg hg5 hs5))
      go_frame
      have hNr : Bw + 2 ≤ wr.heap.size := hzr
      have hR5 := HR.trans ((below_none hg5).mono HR.size)
      have hm25 := hm2.kept hg5 (by simp)
      generalize wr.heap.size = Nr at *
      have hT5 : IsTop (fun x => WayTo jobs jobs.length x ∨ ∃ s : ByteArray, SeenC s jobs jobs.length ∧ has D1 (kl s) = false ∧ x = headC s jobs jobs.length + sumC s jobs jobs.length) bd := by
        refine isTop_iff HT.out (fun x => ⟨.inl, fun h => ?_⟩)
        rcases h with h | ⟨s, h1, h2, _⟩
        · exact h
        · rw [(HV1.out.2 s).1.2 h1] at h2; cases h2
      clear HT hm1 hm2 HR hg5 hs5 hzr
      go_loopw [3] (fun t wr => ∃ (bd : Int) (left : Lit → Bool) (cnt : Nat), t = .int .i64 bd ∧ 0 ≤ bd ∧ bd ≤ 1000000 ∧ wr.ranges Try.prog 9 (plainElem Try.prog 3) Bw Nr (12 * jobs.length) D1 left cnt ∧ wr.ownsMap Try.prog 9 (plainElem Try.prog 3) (Bw + 1) (12 * jobs.length) D2 ∧ IsTop (fun x => WayTo jobs jobs.length x ∨ ∃ s : ByteArray, SeenC s jobs jobs.length ∧ left (kl s) = false ∧ x = headC s jobs jobs.length + sumC s jobs jobs.length) bd ∧ Below w.heap.size w wr) (fun _ wr => wr.rangeLeft Bw Nr)
      case atStart => exact ⟨bd, _, _, rfl, hbd0, hbd1, hrg, hm25, hT5, hR5⟩
      case round =>
        clear hrg hm25 hT5 hR5 hbd0 hbd1
        obtain ⟨bd, left, cnt, rfl, hbd0, hbd1, hrg, hm2, hT, HR⟩ := hrel
        have HT := Lib.hid hT
        clear hT
        go_wp2_with (first
          | (at_next; refine wpList_next_ranges (α := ByteArray) (β := Int) _ rfl _ rfl 9 strKeyed (plainElem Try.prog 3) Value.string (Value.int .i64) (fun key k h => by obtain ⟨s, h1, _⟩ := keyOf_string_inv h; exact ⟨s, h1⟩) (fun v y h => by obtain ⟨a, h1, _⟩ := plainElem_int_inv Try.underlying3 h; exact ⟨a, h1⟩) Bw Nr (12 * jobs.length) D1 left cnt rfl hrg ?_ ?_))
        · intro _ hl0
          have hfin : bd = workBound jobs := by
            rw [workBound_yes HP.out]
            refine isTop_one (isTop_iff HT.out (fun x => ?_)) (workBound_top jobs)
            rw [← item_iff]
            constructor
            · rintro (h | ⟨s, h1, _, h3⟩)
              · exact .inl h
              · exact .inr ⟨s, h1, h3⟩
            · rintro (h | ⟨s, h1, h3⟩)
              · exact .inl h
              · exact .inr ⟨s, h1, hl0 _, h3⟩
          have HF := Lib.hid hfin
          clear hfin
          go_wp2
          go_ret
          exact ⟨ret_int HF.out, HR⟩
        · intro x cv kx yd yp w6 cnt6 hkey hlk hv hat hrg6 hlt6 hg6 hs6 hen
          obtain ⟨x', ex, rfl, hxs⟩ := keyOf_string_inv hkey
          obtain rfl : x = x' := by injection ex
          clear ex
          obtain ⟨cv', ec, ey, _⟩ := plainElem_int_inv Try.underlying3 hv
          obtain rfl : cv = cv' := by injection ec
          obtain ⟨rfl, rfl⟩ := Prod.mk.inj ey
          clear ec hv ey
          have hseen : SeenC x jobs jobs.length := (HV1.out.2 x).1.1 (has_true_of_atKey hat)
          have hcv : cv = sumC x jobs jobs.length := HV1.out.at_ hseen (hat _)
          have hb1 := sumC_bd HP.out x jobs.length
          have hb2 := headC_bd HP.out x jobs.length
          have hcb : 0 ≤ cv ∧ cv ≤ 30000 := by omega
          have HCV := Lib.hid hcv
          have HSE := Lib.hid hseen
          have HKEY := Lib.hid hkey
          have hm26 := hm2.kept hg6 (by simp; omega)
          have hR6 : Below w.heap.size w w6 := HR.trans (below_grown hg6 HR.size (fun g hgg => by cases hgg; omega))
          clear hcv hseen hkey hat
          obtain ⟨hcb1, hcb2⟩ := hcb
          go_wp2_with (first
            | (at_lookup; refine wpList_lookup_own_int _ rfl _ _ 81 rfl 9 3 .i64 strKeyed Try.underlying81 Try.underlying3 (zeroI _) (Bw + 1) (12 * jobs.length) D2 rfl hm26 _ _ rfl HKEY.out ?_; intro c1 hat1 hw1; have hc1 := HV2.out.at_ HSE.out hat1; have hc1a : 0 ≤ c1 ∧ c1 ≤ 100000 := (by rw [hc1]; exact hb2); obtain ⟨hc1b, hc1c⟩ := hc1a; have HC1 := Lib.hid hc1; clear hc1 hat1 hw1))
          have hmx : (if bd < c1 + cv then c1 + cv else bd) = max bd (c1 + cv) := by split <;> omega
          have HMX := Lib.hid hmx
          clear hmx
          have hTn : IsTop (fun z => WayTo jobs jobs.length z ∨ ∃ s : ByteArray, SeenC s jobs jobs.length ∧ (left (kl s) && !(kl s).sameKey (kl x)) = false ∧ z = headC s jobs jobs.length + sumC s jobs jobs.length) (max bd (c1 + cv)) := by
            refine isTop_iff (isTop_add HT.out (c1 + cv)) (fun z => ⟨fun h => ?_, fun h => ?_⟩)
            · rcases h with (h | ⟨s, h1, h2, h3⟩) | h
              · exact .inl h
              · exact .inr ⟨s, h1, by rw [h2]; rfl, h3⟩
              · refine .inr ⟨x, HSE.out, ?_, by rw [h, HC1.out, HCV.out]⟩
                have : (kl x).sameKey (kl x) = true := by simp [kl, Lit.sameKey]
                rw [this]; simp
            · rcases h with h | ⟨s, h1, h2, h3⟩
              · exact .inl (.inl h)
              · cases hls : left (kl s)
                · exact .inl (.inr ⟨s, h1, hls, h3⟩)
                · rw [hls] at h2
                  have h4 : (kl s).sameKey (kl x) = true := by simpa using h2
                  have h5 := WideAt.sameKey_eq h4
                  refine .inr ?_
                  rw [h3, HC1.out, HCV.out, headC_congr h5, sumC_congr h5]
          have HTN := Lib.hid hTn
          clear hTn
          go_round
          case rel => exact ⟨max bd (c1 + cv), _, cnt6, congrArg (Value.int .i64) HMX.out, by omega, by omega, hrg6, hm26, HTN.out, hR6⟩
          case measure => rw [hrg6.left_eq, hrg.left_eq]; exact hlt6
end Go.Proofs.Ytmkfinahbelpdaa
