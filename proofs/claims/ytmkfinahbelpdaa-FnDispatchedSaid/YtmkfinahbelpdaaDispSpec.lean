/- The reference's DispatchJobs: some slots, and whether the jobs and the rule are ones. -/
import Derived.Test.YtmkfinahbelpdaaDispKey
import Derived.Test.YtmkfinahbelpdaaDispPlain
import Derived.Test.YtmkfinahbelpdaaBestRows
import Derived.Test.YtmkfinahbelpdaaSlotTo
import Derived.Test.YtmkfinahbelpdaaDrawBest
import Derived.Test.YtmkfinahbelpdaaDrawJobs
namespace Go.Proofs.Ytmkfinahbelpdaa
open Go.RowKit
def isRule (r : Int) : Bool := inB r 0 2
/-- The ending: slots of the call's own, few, and a Bool. -/
def DispEnd (w : World) (is : Bool) (e : Ending) (w' : World) : Prop := ∃ (l : List Slt) (b c : Nat), e = .returned (.tuple #[.slice (some ⟨b, 0, none⟩) l.length c, .bool is]) ∧ l.length ≤ 30 ∧ (∀ s ∈ l, s.2.2.1.size ≤ 9223372036854775807) ∧ (is = false → l = []) ∧ OwnRows slF 84 w' w.heap.size (some ⟨b, 0, none⟩) l.length c l ∧ Below w.heap.size w w'
theorem slOne : ∀ (a : Slt), ∀ u ∈ slF.enc a, u.oneCell' = true := by
  intro a u hu
  simp [slF] at hu
  rcases hu with rfl | rfl | rfl | rfl | rfl <;> rfl
theorem RowVal.own_ {α : Type} {F : Flat α} {t : TypeId} {w : World} {lo : Nat} {A : Option Addr} {c : Nat} {l : List α} (h : RowVal F t w lo (.slice A l.length c) l) : OwnRows F t w lo A l.length c l := ⟨rfl, h⟩
theorem NumRow.blk {w w' : World} {lo g n c : Nat} {l : List Int} (h : NumRow w lo g n c l) (hb : w'.heap[g]? = w.heap[g]?) : NumRow w' lo g n c l := by
  refine ⟨h.1, h.2.1, ?_⟩
  rcases h.2.2 with h0 | ⟨g1, cap, cur, hv, hlo, hg, hr⟩
  · exact .inl h0
  · refine .inr ⟨g1, cap, cur, hv, hlo, ?_, hr⟩
    have e : g = g1 := by injection hv with e; injection e with e; injection e
    subst e
    rw [hb]; exact hg
/-- A job that is chosen has a step left. -/
def BestAt (jobs : List Jb) (nx : List Nat) (bst : Int) : Prop := bst = -1 ∨ ∃ q : Nat, bst = q ∧ ∃ (h1 : q < nx.length) (h2 : q < jobs.length), nx[q] < jobs[q].2.2.length
set_option maxRecDepth 100000 in
set_option maxHeartbeats 8000000 in
theorem specDispatchJobs_any (A : Option Addr) (n c : Nat) (jobs : List Jb) (rule : Int) (w : World) (hl : JobsIn w A n jobs) (hok : ∀ x ∈ jobs, okJb x) :
    Calls Try.prog 14 #[.slice A n c, .int .i64 rule] w (DispEnd w (areJobs jobs && isRule rule)) := by
  have hn := hl.len
  obtain rfl := hl.num
  have hb0 := below_alloc w (.cells #[] 84)
  have hr0 : RowVal slF 84 (w.alloc (.cells #[] 84)) w.heap.size (.slice (some ⟨w.heap.size, 0, none⟩) 0 0) [] := empty_row (F := slF) rfl (Nat.le_refl _)
  cases hp : areJobs jobs
  · go_enter Try.func14, Try.ntmps14
    go_wp2_with fail
    refine (specAreJobs_any _ _ _ jobs _ hl hok).mono ?_
    rintro e w1 ⟨rfl, rfl⟩
    rw [hp]
    go_wp2_with fail
    go_ret2
    exact ⟨[], _, _, rfl, by simp, by simp, by simp, ⟨rfl, hr0⟩, hb0⟩
  · cases hq : isRule rule
    · go_enter Try.func14, Try.ntmps14
      go_wp2_with fail
      refine (specAreJobs_any _ _ _ jobs _ hl hok).mono ?_
      rintro e w1 ⟨rfl, rfl⟩
      rw [hp]
      go_wp2_with fail
      refine (l1In_any _ _ _ _).mono ?_
      rintro e w1 ⟨rfl, rfl⟩
      have hq2 : inB rule 0 2 = false := hq
      rw [hq2]
      go_wp2_with fail
      go_ret2
      exact ⟨[], _, _, rfl, by simp, by simp, by simp, ⟨rfl, hr0⟩, hb0⟩
    · go_enter Try.func14, Try.ntmps14
      go_wp2_with fail
      refine (specAreJobs_any _ _ _ jobs _ hl hok).mono ?_
      rintro e w1 ⟨rfl, rfl⟩
      rw [hp]
      go_wp2_with fail
      refine (l1In_any _ _ _ _).mono ?_
      rintro e w1 ⟨rfl, rfl⟩
      have hq2 : inB rule 0 2 = true := hq
      rw [hq2]
      have HJ := Lib.hid (areJobs_parts hp)
      have hz0 : (w.alloc (.cells #[] 84)).heap.size = w.heap.size + 1 := by simp
      go_wp2_with (at_make; refine wpList_make_nums rfl (.tmp 27) (.tmp 27) rfl w.heap.size jobs.length rfl rfl rfl rfl (by omega) (by simp) ?_; intro w1 hA hA2 hA3)
      rw [hz0] at hA hA3 hA2
      have hr1 := hr0.keep (w' := w1) (by rw [hz0]; exact hA2)
      have hbb := below_on hb0 (by rw [hz0]; exact hA2)
      clear hA2 hr0 hb0 hz0
      have hi0 := below_alloc w1 (.cells #[] 3)
      have hI := numRow_empty (w := w1) (lo := w1.heap.size) rfl (Nat.le_refl _)
      have hz2 : w1.heap.size < (w1.alloc (.cells #[] 3)).heap.size := by simp
      go_loopw [8, 9] (fun v i wr => ∃ k g cc : Nat, k ≤ jobs.length ∧ i = .int .i64 k ∧ v = .slice (some ⟨g, 0, none⟩) k cc ∧ NumRow wr w1.heap.size g k cc ((jobs.take k).map (·.1)) ∧ w1.heap.size < wr.heap.size ∧ Below w1.heap.size w1 wr) (fun _ i _ => jobs.length - (intOf i).toNat)
      case atStart => exact ⟨0, _, _, by omega, rfl, rfl, hI, hz2, hi0⟩
      case round =>
        clear hI hz2 hi0
        obtain ⟨k, g, cc, hk, rfl, rfl, hR, hz2, hi0⟩ := hrel
        by_cases hlt : k < jobs.length
        · have hlW := hl.keep (below_on hbb hi0)
          obtain ⟨b, o, B, m, c2, rfl, _, hd0, _, _, _⟩ := jb_at hlW hlt
          have hll : ((jobs.take k).map (·.1)).length ≤ 16777216 := by simp; omega
          go_wp2_with (at_builtin; refine wpList_append_num rfl _ _ rfl rfl hR hll jobs[k].1 (_) _ rfl rfl (by omega) ?_; intro b' c' w9 hnum2 hbl2 hgr2)
          have hB := hbl2 w1.heap.size (Nat.le_refl _) (by omega)
          have hT : (jobs.take (k + 1)).map (·.1) = (jobs.take k).map (·.1) ++ [jobs[k].1] := by rw [List.take_succ_eq_append_getElem hlt, List.map_append]; rfl
          go_roundw
          case rel => exact ⟨k + 1, b', c', by omega, by go_num, rfl, by rw [hT]; exact hnum2, by omega, hi0.trans hB⟩
          case measure => simp [intOf]; omega
        · obtain rfl : k = jobs.length := by omega
          rw [List.take_length] at hR
          have hgl := hR.lt
          have hnx : NumRow wr w.heap.size (w.heap.size + 1) jobs.length jobs.length ((List.replicate jobs.length 0).map Int.ofNat) := by
            have := hA.keepB hi0 hA3
            rw [List.map_replicate]; exact this
          have hrd : NumRow wr w.heap.size g jobs.length cc (jobs.map (·.1)) := hR.lower (by omega)
          have hsl : RowVal slF 84 wr w.heap.size (.slice (some ⟨w.heap.size, 0, none⟩) 0 0) [] := hr1.keep hi0
          have hW := below_on hbb hi0
          have hrb : ∀ x ∈ jobs.map (·.1), 0 ≤ x ∧ x ≤ 100000 := by
            intro x hx
            obtain ⟨j, hj, rfl⟩ := List.mem_map.1 hx
            obtain ⟨k, hk, rfl⟩ := List.mem_iff_getElem.1 hj
            have := HJ.out.2 k hk
            exact ⟨this.1, this.2.1⟩
          have hgd : w.heap.size + 1 < g := by omega
          clear hR hA hr1 hbb hi0 hgl hz2
          go_wp2_with fail
          go_loopw [6] (fun v wr2 => ∃ (sl : List Slt) (nx : List Nat) (rd : List Int) (ob oc : Nat), v = .slice (some ⟨ob, 0, none⟩) sl.length oc ∧ RowVal slF 84 wr2 w.heap.size (.slice (some ⟨ob, 0, none⟩) sl.length oc) sl ∧ sl.length = nx.sum ∧ NextOk jobs nx ∧ (∀ s ∈ sl, s.2.2.1.size ≤ 9223372036854775807 ∧ 0 ≤ s.2.2.2.2 ∧ s.2.2.2.2 ≤ 100000 + 1000 * sl.length) ∧ NumRow wr2 w.heap.size (w.heap.size + 1) jobs.length jobs.length (nx.map Int.ofNat) ∧ NumRow wr2 w.heap.size g jobs.length cc rd ∧ (∀ x ∈ rd, 0 ≤ x ∧ x ≤ 100000 + 1000 * sl.length) ∧ Below w.heap.size w wr2) (fun v _ => totN jobs - (match v with | .slice _ n _ => n | _ => 0))
          case atStart => exact ⟨[], List.replicate jobs.length 0, jobs.map (·.1), _, _, rfl, hsl, by simp, NextOk.zero jobs, by simp, hnx, hrd, fun x hx => by have := hrb x hx; simp; omega, hW⟩
          case round =>
            clear hsl hnx hrd hrb hW
            obtain ⟨sl, nx, rd, ob, oc, rfl, hsl, hlen, hno, hsb, hnx, hrd, hrb, hW⟩ := hrel
            go_wp2_with fail
            have hnl := hno.1
            have hr30 : rd.length = jobs.length := hrd.len
            have hl30 : sl.length ≤ 30 := by
              have h1 := hno.sum_le
              have h2 := totN_le (jobs := jobs) (fun j hj => by obtain ⟨k, hk, rfl⟩ := List.mem_iff_getElem.1 hj; exact (HJ.out.2 k hk).2.2.2.2.1)
              have h3 := HJ.out.1
              omega
            have HLN := Lib.hid hlen
            clear hlen
            obtain ⟨wo, rfl⟩ : ∃ W, W = wr := ⟨wr, rfl⟩
            have hlo := hl.keep hW
            go_loopw [10, 11, 12] (fun bv sv iv wr3 => ∃ (k : Nat) (bst st : Int), k ≤ jobs.length ∧ iv = .int .i64 k ∧ bv = .int .i64 bst ∧ sv = .int .i64 st ∧ BestAt jobs nx bst ∧ 0 ≤ st ∧ st ≤ 100000 + 1000 * sl.length ∧ Below wo.heap.size wo wr3) (fun _ _ i _ => jobs.length - (intOf i).toNat)
            case atStart => exact ⟨0, -1, 0, by omega, rfl, rfl, rfl, .inl rfl, by omega, by omega, Below.refl _ _⟩
            case round =>
              obtain ⟨k, bst, st, hk, rfl, rfl, rfl, hbst, hst0, hst1, hb3⟩ := hrel
              by_cases hlt : k < jobs.length
              · obtain ⟨b, o, B, m, c2, hAe, hbl, hcells, hwk⟩ := jb_all hlo hlt
                have HC := Lib.hid hcells
                clear hcells
                subst hAe
                obtain rfl := hwk.1
                obtain ⟨hd0, hd1, hd2⟩ := HC.out _ hb3
                have cn : ∀ w', Below wo.heap.size wo w' → w'.cell? ⟨w.heap.size + 1, k, none⟩ = some (.int .i64 (nx[k]'(by omega))) := fun w' hb => by
                  rw [(hnx.keep hb).cell (by simp; omega)]; simp
                have HN := Lib.hid cn
                clear cn
                have cr : wr.cell? ⟨g, k, none⟩ = some (.int .i64 (rd[k]'(by omega))) := (hrd.keep hb3).cell (by omega)
                have cn := HN.out _ hb3
                have hrk := hrb (rd[k]'(by omega)) (List.getElem_mem _)
                by_cases hfull : nx[k]'(by omega) = jobs[k].2.2.length
                · have hd : ((nx[k]'(by omega) : Int) == (jobs[k].2.2.length : Int)) = true := by rw [hfull]; exact beq_self_eq_true _
                  have HF := Lib.hid hfull
                  clear hfull
                  go_wp2_with fail
                  go_quiet (fail)
                  go_wp2_with fail
                  go_roundw
                  case rel => exact ⟨k + 1, bst, st, by omega, by go_num, rfl, rfl, hbst, hst0, hst1, below_drewN hb3 _⟩
                  case measure => simp [intOf]; omega
                · have hlt2 : nx[k]'(by omega) < jobs[k].2.2.length := by have := hno.2 k (by omega) hlt; omega
                  have hd : ((nx[k]'(by omega) : Int) == (jobs[k].2.2.length : Int)) = false := beq_eq_false_iff_ne.2 (by omega)
                  clear hfull
                  go_wp2_with fail
                  go_quiet (fail)
                  go_wp2_with fail
                  have hbq := below_drewN hb3 nq
                  generalize wr.drewN nq = wq at *
                  clear hd hd0 hd1 hd2 cn cr hb3
                  go_loopw [13, 14] (fun tv kv wr4 => ∃ (k2 : Nat) (t : Int), k2 ≤ sl.length ∧ kv = .int .i64 k2 ∧ tv = .int .i64 t ∧ 0 ≤ t ∧ t ≤ 100000 + 1000 * sl.length ∧ Below wo.heap.size wo wr4) (fun _ i _ => sl.length - (intOf i).toNat)
                  case atStart => exact ⟨0, rd[k], by omega, rfl, rfl, hrk.1, hrk.2, hbq⟩
                  case round =>
                    clear hbq
                    obtain ⟨k2, t, hk2, rfl, rfl, ht0, ht1, hb4⟩ := hrel
                    obtain ⟨hd0, hd1, hd2⟩ := HC.out _ hb4
                    have cn := HN.out _ hb4
                    by_cases hlt4 : k2 < sl.length
                    · obtain ⟨bw, ow, rfl, hbw, hw0, hw1⟩ := work_at (hwk.keep hb4) hlt2
                      have hs4 := hsl.keep hb4
                      have e2 : wr.cell? ⟨ob, k2 * 5 + 2, none⟩ = some (.string sl[k2].2.2.1) := by
                        rw [hs4.cellAt (k2 * 5 + 2) (by show _ < sl.length * 5; omega)]; exact (flatMap_at slF.enc slF.sz slF.len sl k2 2 hlt4 (by decide)).trans rfl
                      have e4 : wr.cell? ⟨ob, k2 * 5 + 4, none⟩ = some (.int .i64 sl[k2].2.2.2.2) := by
                        rw [hs4.cellAt (k2 * 5 + 4) (by show _ < sl.length * 5; omega)]; exact (flatMap_at slF.enc slF.sz slF.len sl k2 4 hlt4 (by decide)).trans rfl
                      obtain ⟨hx1, hx2, hx3⟩ := hsb _ (List.getElem_mem hlt4)
                      cases he : (sl[k2].2.2.1.toList == jobs[k].2.2[nx[k]].1.toList)
                      · go_wp2_with fail
                        go_quiet (fail)
                        go_wp2_with fail
                        go_roundw
                        case rel => exact ⟨k2 + 1, t, by omega, by go_num, rfl, ht0, ht1, below_drewN hb4 _⟩
                        case measure => simp [intOf]; omega
                      · obtain ⟨mx, hmx, hm0, hm1⟩ : ∃ mx : Int, (if t < sl[k2].2.2.2.2 then sl[k2].2.2.2.2 else t) = mx ∧ 0 ≤ mx ∧ mx ≤ 100000 + 1000 * sl.length := ⟨_, rfl, by split <;> omega, by split <;> omega⟩
                        go_wp2_with fail
                        go_quiet (fail)
                        go_wp2_with fail
                        go_roundw
                        case rel => exact ⟨k2 + 1, mx, by omega, by go_num, rfl, hm0, hm1, below_drewN hb4 _⟩
                        case measure => simp [intOf]; omega
                    · rcases hbst with rfl | ⟨q, rfl, hq1, hq2, hq3⟩
                      · go_wp2_with fail
                        go_quiet (fail)
                        go_wp2_with fail
                        go_roundw
                        case rel => exact ⟨k + 1, k, t, by omega, by go_num, rfl, rfl, .inr ⟨k, rfl, by omega, hlt, hlt2⟩, ht0, ht1, below_drewN hb4 _⟩
                        case measure => simp [intOf]; omega
                      · have dq : decide ((q : Int) < 0) = false := decide_eq_false (by omega)
                        rcases Int.lt_trichotomy t st with ht | ht | ht
                        · have dt : decide (t < st) = true := decide_eq_true ht
                          go_wp2_with fail
                          go_quiet (fail)
                          go_wp2_with fail
                          go_roundw
                          case rel => exact ⟨k + 1, k, t, by omega, by go_num, rfl, rfl, .inr ⟨k, rfl, by omega, hlt, hlt2⟩, ht0, ht1, below_drewN hb4 _⟩
                          case measure => simp [intOf]; omega
                        · obtain ⟨b5, o5, B5, m5, c5, hAe, hbl5, hcells5, hwk5⟩ := jb_all hlo hq2
                          obtain ⟨rfl, rfl⟩ : b = b5 ∧ o = o5 := by simpa using hAe
                          clear hAe
                          have HC5 := Lib.hid hcells5
                          obtain rfl := hwk5.1
                          have hm1 : MinOk jobs[k].2.2 := ⟨(HJ.out.2 k hlt).2.2.2.2.1, (HJ.out.2 k hlt).2.2.2.2.2⟩
                          have hm5 : MinOk jobs[q].2.2 := ⟨(HJ.out.2 q hq2).2.2.2.2.1, (HJ.out.2 q hq2).2.2.2.2.2⟩
                          have hj1 := (HJ.out.2 k hlt).2.2
                          have hj5 := (HJ.out.2 q hq2).2.2
                          have cn5 : ∀ w', Below wo.heap.size wo w' → w'.cell? ⟨w.heap.size + 1, q, none⟩ = some (.int .i64 nx[q]) := fun w' hb => by
                            rw [(hnx.keep hb).cell (by simp; omega)]; simp
                          have HN5 := Lib.hid cn5
                          obtain ⟨hd50, hd51, hd52⟩ := HC5.out _ hb4
                          have cn50 := HN5.out _ hb4
                          clear cn5 hcells5
                          have dt : decide (t < st) = false := decide_eq_false (by omega)
                          have de : (t == st) = true := by rw [ht]; exact beq_self_eq_true _
                          have HT := Lib.hid ht
                          clear ht
                          go_wp2_with fail
                          go_region_held3 (fun w' => w'.cell? ⟨b, o + k * 3, none⟩ = some (.int .i64 jobs[k].1) ∧ w'.cell? ⟨b, o + k * 3 + 1, none⟩ = some (.int .i64 jobs[k].2.1) ∧ w'.cell? ⟨b, o + k * 3 + 2, none⟩ = some (.slice B jobs[k].2.2.length c2) ∧ w'.cell? ⟨b, o + q * 3, none⟩ = some (.int .i64 jobs[q].1) ∧ w'.cell? ⟨b, o + q * 3 + 1, none⟩ = some (.int .i64 jobs[q].2.1) ∧ w'.cell? ⟨b, o + q * 3 + 2, none⟩ = some (.slice B5 jobs[q].2.2.length c5) ∧ w'.cell? ⟨w.heap.size + 1, k, none⟩ = some (.int .i64 nx[k]) ∧ w'.cell? ⟨w.heap.size + 1, q, none⟩ = some (.int .i64 nx[q]) ∧ Below wo.heap.size wo w')
                            (first
                              | exact ⟨hd0, hd1, hd2, hd50, hd51, hd52, cn, cn50, hb4.drew⟩
                              | (go_split_ands; refine ⟨?_, ?_, ?_, ?_, ?_, ?_, ?_, ?_, ?_⟩ <;> with_reducible assumption)
                              | (go_split_ands; (have hz9 := below_on (by with_reducible assumption) hz3); exact ⟨(HC.out _ hz9).1, (HC.out _ hz9).2.1, (HC.out _ hz9).2.2, (HC5.out _ hz9).1, (HC5.out _ hz9).2.1, (HC5.out _ hz9).2.2, HN.out _ hz9, HN5.out _ hz9, hz9⟩)
                              | (go_split_ands; (have hz9 := below_on (by with_reducible assumption) hz4); exact ⟨(HC.out _ hz9).1, (HC.out _ hz9).2.1, (HC.out _ hz9).2.2, (HC5.out _ hz9).1, (HC5.out _ hz9).2.1, (HC5.out _ hz9).2.2, HN.out _ hz9, HN5.out _ hz9, hz9⟩))
                            (first
                              | ((with_reducible refine (l22Key_any jobs[k].1 jobs[k].2.1 _ _ _ jobs[k].2.2 nx[k] _ _ _ rfl (hwk.keep ?_) hm1 hlt2 hj1.1 hj1.2.1).mono ?_); (go_split_ands; with_reducible assumption); rintro e' w3 ⟨y3, rfl, hz3⟩)
                              | ((with_reducible refine (l22Key_any jobs[q].1 jobs[q].2.1 _ _ _ jobs[q].2.2 nx[q] _ _ _ rfl (hwk5.keep ?_) hm5 hq3 hj5.1 hj5.2.1).mono ?_); (go_split_ands; with_reducible assumption); rintro e' w4 ⟨y4, rfl, hz4⟩))
                          all_goals go_split_ands
                          all_goals go_wp2_with fail
                          all_goals
                            go_roundw
                            case rel => first | exact ⟨k + 1, k, t, by omega, by go_num, rfl, rfl, .inr ⟨k, rfl, by omega, hlt, hlt2⟩, ht0, ht1, by with_reducible assumption⟩ | exact ⟨k + 1, q, st, by omega, by go_num, rfl, rfl, .inr ⟨q, rfl, hq1, hq2, hq3⟩, hst0, hst1, by with_reducible assumption⟩
                            case measure => simp [intOf]; omega
                        · have dt : decide (t < st) = false := decide_eq_false (by omega)
                          have de : (t == st) = false := beq_eq_false_iff_ne.2 (by omega)
                          go_wp2_with fail
                          go_quiet (fail)
                          go_wp2_with fail
                          go_roundw
                          case rel => exact ⟨k + 1, q, st, by omega, by go_num, rfl, rfl, .inr ⟨q, rfl, hq1, hq2, hq3⟩, hst0, hst1, below_drewN hb4 _⟩
                          case measure => simp [intOf]; omega
              · obtain rfl : k = jobs.length := by omega
                rcases hbst with rfl | ⟨q, rfl, hq1, hq2, hq3⟩
                · go_wp2_with fail
                  go_ret2
                  exact ⟨sl, ob, oc, rfl, hl30, fun s hs => (hsb s hs).1, by simp, ⟨rfl, hsl.keep hb3⟩, below_on hW hb3⟩
                · have dq : decide ((q : Int) < 0) = false := decide_eq_false (by omega)
                  obtain ⟨b, o, B, m, c2, hAe, hbl, hcells, hwk⟩ := jb_all hlo hq2
                  subst hAe
                  obtain rfl := hwk.1
                  obtain ⟨_, _, hd2⟩ := hcells _ hb3
                  obtain ⟨bw, ow, rfl, hbw, hw0, hw1⟩ := work_at (hwk.keep hb3) hq3
                  obtain ⟨hmn0, hmn1⟩ := (HJ.out.2 q hq2).2.2.2.2.2 _ hq3
                  have hokw := hok _ (List.getElem_mem hq2) _ (List.getElem_mem hq3)
                  have cn : wr.cell? ⟨w.heap.size + 1, q, none⟩ = some (.int .i64 nx[q]) := by
                    rw [(hnx.keep hb3).cell (by simp; omega)]; simp
                  clear hcells
                  go_wp2_with fail
                  go_region_held3 (fun w' => w'.cell? ⟨b, o + q * 3 + 2, none⟩ = some (.slice (some ⟨bw, ow, none⟩) jobs[q].2.2.length c2) ∧ w'.cell? ⟨w.heap.size + 1, q, none⟩ = some (.int .i64 nx[q]) ∧ w'.cell? ⟨bw, ow + nx[q] * 2, none⟩ = some (.string jobs[q].2.2[nx[q]].1) ∧ w'.cell? ⟨bw, ow + nx[q] * 2 + 1, none⟩ = some (.int .i64 jobs[q].2.2[nx[q]].2)) (go_keep) (fail)
                  have v0 : (wr.alloc (.cells #[.string jobs[q].2.2[nx[q]].1, .int .i64 jobs[q].2.2[nx[q]].2] 46)).drew.cell? ⟨wr.heap.size, 0, none⟩ = some (.string jobs[q].2.2[nx[q]].1) := by simp [go_sem]
                  have v1 : (wr.alloc (.cells #[.string jobs[q].2.2[nx[q]].1, .int .i64 jobs[q].2.2[nx[q]].2] 46)).drew.cell? ⟨wr.heap.size, 1, none⟩ = some (.int .i64 jobs[q].2.2[nx[q]].2) := by simp [go_sem]
                  have hb5 := (hb3.alloc hb3.size (.cells #[.string jobs[q].2.2[nx[q]].1, .int .i64 jobs[q].2.2[nx[q]].2] 46)).drew
                  have hN5 : wr.heap.size < (wr.alloc (.cells #[.string jobs[q].2.2[nx[q]].1, .int .i64 jobs[q].2.2[nx[q]].2] 46)).drew.heap.size := by simp
                  have hzo := hb3.size
                  generalize (wr.alloc (.cells #[.string jobs[q].2.2[nx[q]].1, .int .i64 jobs[q].2.2[nx[q]].2] 46)).drew = w5 at *
                  generalize wr.heap.size = N at *
                  clear hb3
                  have hob := own_lt hsl.own_.2 _ rfl
                  have hz5 := hb5.size
                  have hwz := hW.size
                  have cn5 : w5.cell? ⟨w.heap.size + 1, q, none⟩ = some (.int .i64 nx[q]) := by
                    rw [(hnx.keep hb5).cell (by simp; omega)]; simp
                  have m3 : IntKind.i64.wrap (st + jobs[q].2.2[nx[q]].2) = st + jobs[q].2.2[nx[q]].2 := IntWalk.i64_in _ (by omega)
                  have hv5 : RowVal slF 84 ((w5.alloc (.cells #[.int .i64 q, .int .i64 nx[q], .string jobs[q].2.2[nx[q]].1, .int .i64 st, .int .i64 (st + jobs[q].2.2[nx[q]].2)] 84)).drew) w.heap.size (.slice (some ⟨ob, 0, none⟩) sl.length oc) sl := RowVal.drew (RowVal.alloc (hsl.keep hb5) _)
                  have hsrc : RowsIn slF ((w5.alloc (.cells #[.int .i64 q, .int .i64 nx[q], .string jobs[q].2.2[nx[q]].1, .int .i64 st, .int .i64 (st + jobs[q].2.2[nx[q]].2)] 84)).drew) (some ⟨w5.heap.size, 0, none⟩) 1 [((q : Int), (nx[q] : Int), jobs[q].2.2[nx[q]].1, st, st + jobs[q].2.2[nx[q]].2)] := RowsIn.drew (lit_row rfl _ _ rfl)
                  have hsz6 : w.heap.size ≤ ((w5.alloc (.cells #[.int .i64 q, .int .i64 nx[q], .string jobs[q].2.2[nx[q]].1, .int .i64 st, .int .i64 (st + jobs[q].2.2[nx[q]].2)] 84)).drew).heap.size := by simp; omega
                  have hB6 := (below_alloc w5 (.cells #[.int .i64 q, .int .i64 nx[q], .string jobs[q].2.2[nx[q]].1, .int .i64 st, .int .i64 (st + jobs[q].2.2[nx[q]].2)] 84)).drew
                  go_wp2_with fail
                  go_region_law (refine step_append_rows slotElem slOne rfl (.tmp 147) (.tmp 161) rfl ((w5.alloc (.cells #[.int .i64 q, .int .i64 nx[q], .string jobs[q].2.2[nx[q]].1, .int .i64 st, .int .i64 (st + jobs[q].2.2[nx[q]].2)] 84)).drew) (lo := w.heap.size) rfl hv5 (by omega) rfl hsrc hsz6 ?_; intro v9 w9 hr9 hg9; obtain ⟨b9, c9, rfl⟩ := hr9.some_of (n := sl.length) (by simp))
                  all_goals
                    have e1 : ob ≠ w.heap.size + 1 := fun e => RowVal.apart (by decide) hsl hnx.own ob rfl (by simp [Value.ownBlock, e])
                    have e2 : ob ≠ g := fun e => RowVal.apart (by decide) hsl hrd.own ob rfl (by simp [Value.ownBlock, e])
                    have hnw : w.heap.size + 1 < wo.heap.size := hnx.lt.2
                    have hgw : g < wo.heap.size := hrd.lt.2
                    have hobw : ob < wo.heap.size := hob.2
                    have hap : ∀ k, k < w5.heap.size → k ≠ ob → w9.heap[k]? = w5.heap[k]? := fun k hk hne => (hg9.block k (by simp; omega) (fun e => hne (Option.some.inj (show some k = some ob from e)))).trans (hB6.block k hk)
                    have hB9 : Below w.heap.size w5 w9 := (hB6.mono (by omega)).trans (RowVal.below hv5 hg9 (Nat.le_refl _) hsz6)
                    have hn9 := (hnx.keep hb5).blk (hap _ (by omega) (by omega))
                    have hd9 := (hrd.keep hb5).blk (hap g (by omega) (by omega))
                    have v19 : w9.cell? ⟨N, 1, none⟩ = some (.int .i64 jobs[q].2.2[nx[q]].2) := (World.cell?_of_block (hap N (by omega) (by omega))).trans v1
                    have c9r : w9.cell? ⟨g, q, none⟩ = some (.int .i64 (rd[q]'(by omega))) := hd9.cell (by omega)
                    have f9r : w9.frozen? ⟨g, q, none⟩ = false := hd9.frozen q
                    have hd10 := hd9.set q (st + jobs[q].2.2[nx[q]].2)
                    have hn10 := hn9.far (p := ⟨g, q, none⟩) (v := .int .i64 (st + jobs[q].2.2[nx[q]].2)) (by show g ≠ _; omega)
                    have c10 : (w9.setCell ⟨g, q, none⟩ (.int .i64 (st + jobs[q].2.2[nx[q]].2))).cell? ⟨w.heap.size + 1, q, none⟩ = some (.int .i64 nx[q]) := by rw [hn10.cell (by simp; omega)]; simp
                    have f10 : (w9.setCell ⟨g, q, none⟩ (.int .i64 (st + jobs[q].2.2[nx[q]].2))).frozen? ⟨w.heap.size + 1, q, none⟩ = false := hn10.frozen q
                    have hn11 := hn10.set q (nx[q] + 1)
                    have hd11 := hd10.far (p := ⟨w.heap.size + 1, q, none⟩) (v := .int .i64 (nx[q] + 1)) (by show w.heap.size + 1 ≠ _; omega)
                    have e3 : b9 ≠ w.heap.size + 1 := fun e => RowVal.apart (by decide) hr9 hn9.own b9 rfl (by simp [Value.ownBlock, e])
                    have e4 : b9 ≠ g := fun e => RowVal.apart (by decide) hr9 hd9.own b9 rfl (by simp [Value.ownBlock, e])
                    have hr11 := (hr9.blk (w' := w9.setCell ⟨g, q, none⟩ (.int .i64 (st + jobs[q].2.2[nx[q]].2))) (fun k hk hlt => heap_setCell_other w9 _ k _ (by intro e; simp [Value.ownBlock] at hk e; omega))).blk (w' := (w9.setCell ⟨g, q, none⟩ (.int .i64 (st + jobs[q].2.2[nx[q]].2))).setCell ⟨w.heap.size + 1, q, none⟩ (.int .i64 (nx[q] + 1))) (fun k hk hlt => heap_setCell_other _ _ k _ (by intro e; simp [Value.ownBlock] at hk e; omega))
                    have hB11 : Below w.heap.size w ((w9.setCell ⟨g, q, none⟩ (.int .i64 (st + jobs[q].2.2[nx[q]].2))).setCell ⟨w.heap.size + 1, q, none⟩ (.int .i64 (nx[q] + 1))) := (((below_on hW hb5).trans hB9).setCell (p := ⟨g, q, none⟩) (by show w.heap.size ≤ g; omega) _).setCell (p := ⟨w.heap.size + 1, q, none⟩) (by show w.heap.size ≤ w.heap.size + 1; omega) _
                    have hst' := hno.step hq1 hq2 hq3
                    have hsum := sum_set nx q hq1
                    have hle' := hst'.sum_le
                    have HS1 := Lib.hid hst'
                    have HS2 := Lib.hid hsum
                    clear hst' hsum
                    have hql : (q : Int) < jobs.length := by omega
                    have hq5 : nx[q] < 5 := by have := (HJ.out.2 q hq2).2.2.2.2.1; omega
                    clear hn9 hd9 hn10 hd10 hsrc hv5 hB6 hg9 hap m3
                    go_wp2_with fail
                    go_roundw
                    case rel =>
                      refine ⟨sl ++ [((q : Int), (nx[q] : Int), jobs[q].2.2[nx[q]].1, st, st + jobs[q].2.2[nx[q]].2)], nx.set q (nx[q] + 1), rd.set q (st + jobs[q].2.2[nx[q]].2), b9, c9, by simp, ?_, ?_, HS1.out, ?_, ?_, hd11, ?_, hB11⟩
                      · have := hr11
                        simp only [List.length_append, List.length_cons, List.length_nil] at this ⊢
                        exact this
                      · rw [HS2.out, List.length_append, HLN.out]; rfl
                      · intro s hs
                        simp only [List.length_append, List.length_cons, List.length_nil]
                        rcases List.mem_append.1 hs with hs | hs
                        · obtain ⟨h1, h2, h3⟩ := hsb s hs
                          exact ⟨h1, h2, by omega⟩
                        · simp only [List.mem_singleton] at hs
                          subst hs
                          exact ⟨hokw, by show (0 : Int) ≤ st + _; omega, by show st + jobs[q].2.2[nx[q]].2 ≤ _; omega⟩
                      · rw [List.map_set]; exact hn11
                      · intro x hx
                        simp only [List.length_append, List.length_cons, List.length_nil]
                        rcases List.mem_or_eq_of_mem_set hx with hx | rfl
                        · have := hrb x hx
                          omega
                        · omega
                    case measure =>
                      have h1 := HLN.out
                      have h2 := HS2.out
                      show totN jobs - (sl.length + 1) < totN jobs - sl.length
                      omega
end Go.Proofs.Ytmkfinahbelpdaa
