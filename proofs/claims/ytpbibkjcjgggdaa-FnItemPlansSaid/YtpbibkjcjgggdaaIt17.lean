/- Part 17 of the texts of this claim: The walks of LotsFor; Planned: its cells, and the walks of the laws' own helpers on lists of it; PlanItem (plain): what both the reference and the program plan for an item. -/
import Derived.Test.YtpbibkjcjgggdaaIt5
import Derived.Test.YtpbibkjcjgggdaaIt2
import Derived.Test.YtpbibkjcjgggdaaIt6
import Derived.StillTailTactics
import Derived.Test.YtpbibkjcjgggdaaIt1
import Derived.Test.YtpbibkjcjgggdaaIt14
import Derived.Test.YtpbibkjcjgggdaaIt16
/- The walks of LotsFor. -/
namespace Go.Proofs.Ytpbibkjcjgggdaa
open Go.RowKit
theorem floor_a (n d : Int) (hd : 1 ≤ d) (h : n.tmod d < 0) : n.tdiv d - 1 = n / d := by
  have h1 := @Int.tdiv_eq_ediv n d
  have h2 := @Int.tmod_eq_emod n d
  have h3 : ¬ (0 ≤ n ∨ d ∣ n) := by
    intro hc
    rw [if_pos hc] at h2
    have := Int.emod_nonneg n (show d ≠ 0 by omega)
    omega
  rw [if_neg h3, Int.sign_eq_one_of_pos (by omega)] at h1
  omega
theorem floor_b (n d : Int) (hd : 1 ≤ d) (h : 0 ≤ n.tmod d) : n.tdiv d = n / d := by
  have h1 := @Int.tdiv_eq_ediv n d
  have h2 := @Int.tmod_eq_emod n d
  have h3 : (0 ≤ n ∨ d ∣ n) := by
    by_cases hc : (0 ≤ n ∨ d ∣ n)
    · exact hc
    · rw [if_neg hc] at h2
      have := Int.emod_lt_of_pos n (show 0 < d by omega)
      omega
  rw [if_pos h3] at h1
  omega
theorem lotRule_parts {r s : Int} (h : lotRule r s = true) : (r = 0 ∧ s = 0) ∨ (r = 1 ∧ 1 ≤ s ∧ s ≤ 1000) ∨ (r = 2 ∧ 1 ≤ s ∧ s ≤ 1000) := by
  simp only [lotRule, Bool.or_eq_true, Bool.and_eq_true, beq_iff_eq, inB_iff] at h
  omega
theorem flSet (l : List Fl) (k : Nat) (x : Int) (hk : k < l.length) : (l.flatMap flF.enc).set (k * 2 + 1) (.int .i64 x) = (l.set k (l[k].1, x)).flatMap flF.enc := by
  induction l generalizing k with
  | nil => simp at hk
  | cons f t ih =>
    cases k with
    | zero => simp [flF]
    | succ k =>
      have h := ih k (by simpa using hk)
      simp only [List.flatMap_cons, List.set_cons_succ, List.getElem_cons_succ]
      rw [← h, List.set_append_right _ _ (by simp [flF]; omega)]
      congr 2
      simp [flF]
      omega
/-- What a store to the last flow's quantity makes of a row. -/
theorem bump_row {w : World} {lo g c : Nat} {l : List Fl} (h : OwnRows flF 53 w lo (some ⟨g, 0, none⟩) l.length c l) (hl : 0 < l.length) (q x : Int) (hx : x = (l.getD (l.length - 1) (0, 0)).2 + q) :
    RowVal flF 53 (w.setCell ⟨g, (l.length - 1) * 2 + 1, none⟩ (.int .i64 x)) lo (.slice (some ⟨g, 0, none⟩) l.length c) (bump l q) := by
  have s1 := (h.2.stored ((l.length - 1) * 2 + 1) (.int .i64 x)).1
  have e : bump l q = l.set (l.length - 1) ((l[l.length - 1]'(by omega)).1, x) := by
    unfold bump lastDay
    rw [hx, getD_at _ _ _ (show l.length - 1 < l.length by omega)]
  unfold RowVal
  rw [bump_len, e, ← flSet l (l.length - 1) x (by omega)]
  exact s1
theorem last_cells {w : World} {lo g c : Nat} {l : List Fl} (h : OwnRows flF 53 w lo (some ⟨g, 0, none⟩) l.length c l) (hl : 0 < l.length) :
    w.cell? ⟨g, (l.length - 1) * 2, none⟩ = some (.int .i64 (lastDay l)) ∧ w.cell? ⟨g, (l.length - 1) * 2 + 1, none⟩ = some (.int .i64 (l.getD (l.length - 1) (0, 0)).2) ∧ w.frozen? ⟨g, (l.length - 1) * 2 + 1, none⟩ = false := by
  have hk : l.length - 1 < l.length := by omega
  have h0 := flatMap_at flF.enc 2 flF.len l (l.length - 1) 0 hk (by omega)
  have h1 := flatMap_at flF.enc 2 flF.len l (l.length - 1) 1 hk (by omega)
  refine ⟨?_, ?_, h.2.frozenAt _⟩
  · rw [h.2.cellAt ((l.length - 1) * 2) (by show _ < l.length * 2; omega)]
    unfold lastDay
    rw [getD_at _ _ _ hk]
    exact h0
  · rw [h.2.cellAt ((l.length - 1) * 2 + 1) (by show _ < l.length * 2; omega), getD_at _ _ _ hk]
    exact h1
set_option maxHeartbeats 1000000 in
theorem floorOf_neg (n d : Int) (w : World) (h1 : -1000000000 ≤ n) (h2 : n < 0) (h3 : 1 ≤ d) (h4 : d ≤ 1000) : Calls Try.prog 71 #[.int .i64 n, .int .i64 d] w fun e w' => e = .returned (.int .i64 (n / d)) ∧ w = w' := by
  have b1 : -1000000001 ≤ n.tdiv d ∧ n.tdiv d ≤ 0 := by
    have e := @Int.tdiv_eq_ediv n d
    have e2 := Int.mul_ediv_add_emod n d
    have e3 := Int.emod_nonneg n (show d ≠ 0 by omega)
    have e4 : n ≤ n / d := by
      rw [Int.le_ediv_iff_mul_le (by omega)]
      have : n * d ≤ n * 1 := Int.mul_le_mul_of_nonpos_left (by omega) (by omega)
      omega
    have e5 : n / d < 0 := Int.ediv_neg_of_neg_of_pos h2 (by omega)
    rw [Int.sign_eq_one_of_pos (by omega)] at e
    split at e <;> omega
  obtain ⟨b2, b3⟩ := b1
  by_cases hm : n.tmod d < 0
  · have HF := Lib.hid (floor_a n d h3 hm)
    go_enter Try.func71, Try.ntmps71
    go_wp2
    go_ret
    exact ⟨ret_int HF.out, rfl⟩
  · have HF := Lib.hid (floor_b n d h3 (by omega))
    go_enter Try.func71, Try.ntmps71
    go_wp2
    go_ret
    exact ⟨ret_int HF.out, rfl⟩
theorem ceilOf_pos (n d : Int) (w : World) (h1 : 1 ≤ n) (h2 : n ≤ 1000000000) (h3 : 1 ≤ d) (h4 : d ≤ 1000) : Calls Try.prog 55 #[.int .i64 n, .int .i64 d] w fun e w' => e = .returned (.int .i64 ((n + d - 1) / d)) ∧ w = w' := by
  have HC := Lib.hid (ceil_eq n d h3)
  obtain ⟨_, _, _, c1, c2⟩ := lotUp_bd n d h3 h4 h1 h2
  have c3 : -1000001000 ≤ (-n) / d := by have := HC.out; omega
  have c4 : (-n) / d ≤ 0 := by have := HC.out; omega
  go_enter Try.func55, Try.ntmps55
  go_wp2_with fail
  refine (floorOf_neg _ _ _ (by omega) (by omega) h3 h4).mono ?_
  rintro e w' ⟨rfl, rfl⟩
  go_wp2_with fail
  go_ret
  exact ⟨ret_int HC.out, rfl⟩
theorem lotStep_new {rule size : Int} {out : List Fl} {sp : Int} {f : Fl} (h1 : rule ≠ 1) (h : ¬ (rule = 2 ∧ 0 < out.length ∧ f.1 < lastDay out + size)) : lotStep rule size (out, sp) f = (out ++ [f], sp) := by
  unfold lotStep; rw [if_neg h1, if_neg h]
theorem lotStep_more {size : Int} {out : List Fl} {sp : Int} {f : Fl} (h : 0 < out.length) (h2 : f.1 < lastDay out + size) : lotStep 2 size (out, sp) f = (bump out f.2, sp) := by
  unfold lotStep; rw [if_neg (by omega), if_pos ⟨rfl, h, h2⟩]
theorem lotStep_lot {size : Int} {out : List Fl} {sp : Int} {f : Fl} (h : sp < f.2) : lotStep 1 size (out, sp) f = (out ++ [(f.1, (f.2 - sp + size - 1) / size * size)], (f.2 - sp + size - 1) / size * size - (f.2 - sp)) := by
  unfold lotStep; rw [if_pos rfl, if_pos h]; rfl
theorem lotStep_have {size : Int} {out : List Fl} {sp : Int} {f : Fl} (h : ¬ sp < f.2) : lotStep 1 size (out, sp) f = (out, sp - f.2) := by
  unfold lotStep; rw [if_pos rfl, if_neg h]
set_option maxRecDepth 100000 in
set_option maxHeartbeats 4000000 in
theorem specLotsFor_any (A : Option Addr) (n c : Nat) (needs : List Fl) (rule size : Int) (w : World) (ha : FlowsIn w A n needs) :
    Calls Try.prog 31 #[.int .i64 rule, .int .i64 size, .slice A n c] w (PairRows w (lotsFor needs rule size)) := by
  have hb : Below w.heap.size w w := Below.refl _ _
  have hln := ha.len
  obtain rfl := ha.1
  go_enter Try.func31, Try.ntmps31
  go_wp2_with fail
  refine (l15Rule_any _ _ _).mono ?_
  rintro e v ⟨rfl, rfl⟩
  cases g1 : lotRule rule size
  · go_wp2_with fail
    go_ret2
    exact pairRows_mk (l := []) (lotsFor_no (by simp [g1])) (empty_row rfl hb.size) (hb.alloc hb.size _)
  go_wp2_with fail
  refine (specAreFlows_any _ _ _ needs _ (ha.keep hb)).mono ?_
  rintro e u2 ⟨rfl, hs⟩
  replace hb := below_on hb (hs.below _)
  clear hs
  cases g2 : areFlows needs
  · go_wp2_with fail
    go_ret2
    exact pairRows_mk (l := []) (lotsFor_no (by simp [g2])) (empty_row rfl hb.size) (hb.alloc hb.size _)
  have HB := Lib.hid (fun k hk => lotTo_parts rule size needs g2 g1 k hk)
  have HM := Lib.hid (areFlows_mem g2)
  have hn4 := (areFlows_parts g2).2
  have hru := lotRule_parts g1
  have hsz0 := hb.size
  go_wp2
  have hb0 := hb.alloc hsz0 (.cells #[] 53)
  have hv0 : RowVal flF 53 (u2.alloc (.cells #[] 53)) w.heap.size (.slice (some ⟨u2.heap.size, 0, none⟩) 0 0) [] := empty_row rfl hsz0
  clear hb
  go_loopw [8, 9, 10] (fun v s i wr => ∃ k : Nat, k ≤ needs.length ∧ i = .int .i64 k ∧ s = .int .i64 (lotTo rule size needs k).2 ∧ RowVal flF 53 wr w.heap.size v (lotTo rule size needs k).1 ∧ Below w.heap.size w wr) (fun _ _ i _ => needs.length - (intOf i).toNat)
  case atStart => exact ⟨0, by omega, rfl, rfl, hv0, hb0⟩
  case round =>
    clear hv0 hb0
    obtain ⟨k, hk, rfl, rfl, hrow, HR⟩ := hrel
    by_cases hlt : k < needs.length
    · have HS := Lib.hid (lotTo_succ rule size needs k hlt)
      obtain ⟨n1, n2, n3, n4⟩ := HB.out k hk
      have HN4 := Lib.hid n4
      clear n4
      generalize hst : lotTo rule size needs k = st at *
      obtain ⟨out, sp⟩ := st
      dsimp only at hrow n1 n2 n3 HS HN4 ⊢
      have HST := Lib.hid hst
      clear hst
      have hout : out.length ≤ 1000 := by omega
      obtain ⟨⟨m1, m2⟩, m3, m4⟩ := HM.out _ (List.getElem_mem hlt)
      obtain ⟨b, o, rfl, _, hc1, hc2⟩ := flow_at (ha.keep HR) hlt
      have hsz := HR.size
      obtain ⟨X, C, rfl, hrow2⟩ := hrow.form
      have hid1 : 0 ≤ needs[k].2 - sp ∨ needs[k].2 - sp < 0 := by omega
      rcases hru with ⟨rfl, rfl⟩ | ⟨rfl, s1, s2⟩ | ⟨rfl, s1, s2⟩
      · have HE := Lib.hid (lotStep_new (rule := 0) (size := 0) (out := out) (sp := sp) (f := needs[k]) (by omega) (by omega))
        go_wp2_with fail
        go_quiet (fail)
        have hrow3 : RowVal flF 53 (wr.drewN nq) w.heap.size _ out := hrow.keep (below_drewN (Below.refl _ _) _)
        have HR3 : Below w.heap.size w (wr.drewN nq) := below_drewN HR _
        obtain ⟨b', o', e', _, hd1, hd2⟩ := flow_at (ha.keep HR3) hlt
        obtain ⟨rfl, rfl⟩ : b = b' ∧ o = o' := by simpa using e'
        clear hrow HR hrow2 hc1 hc2 e'
        generalize wr.drewN nq = W1 at *
        have hsz3 := HR3.size
        go_wp2_with (at_builtin; refine wpList_append_one flowElem rfl _ _ rfl rfl (l := out) hrow3 (by omega) needs[k] #[.int .i64 needs[k].1, .int .i64 needs[k].2] rfl (by simp [Value.oneCell']) W1.heap.size _ rfl rfl hsz3 ?_; intro v' w2 hrow' hbl hgr)
        go_roundw
        case rel => exact ⟨k + 1, by omega, by go_num, by rw [HS.out, HE.out], by rw [HS.out, HE.out]; exact hrow', HR3.trans (hbl _ (Nat.le_refl _) hsz3)⟩
        case measure => simp [intOf]; omega
      · by_cases hs : sp < needs[k].2
        · have HE := Lib.hid (lotStep_lot (size := size) (out := out) (f := needs[k]) hs)
          obtain ⟨l1, l2, l3, l4, l5⟩ := lotUp_bd (needs[k].2 - sp) size s1 s2 (by omega) (by omega)
          unfold lotUp at l1 l2 l3
          have hp : 0 < needs[k].2 - sp := by omega
          have hz1 : decide (0 < needs[k].2 - sp) = true := by simpa using hp
          go_wp2_with (at_builtin; refine wpList_append_one flowElem rfl _ _ rfl rfl (l := out) hrow (by omega) (needs[k].1, (needs[k].2 - sp + size - 1) / size * size) #[.int .i64 needs[k].1, .int .i64 ((needs[k].2 - sp + size - 1) / size * size)] rfl (by simp [Value.oneCell']) wr.heap.size _ rfl rfl hsz ?_; intro v' w2 hrow' hbl hgr)
          go_roundw
          case rel => exact ⟨k + 1, by omega, by go_num, by rw [HS.out, HE.out], by rw [HS.out, HE.out]; exact hrow', HR.trans (hbl _ (Nat.le_refl _) hsz)⟩
          case measure => simp [intOf]; omega
        · have HE := Lib.hid (lotStep_have (size := size) (out := out) (f := needs[k]) hs)
          have hp : ¬ 0 < needs[k].2 - sp := by omega
          have hz1 : decide (0 < needs[k].2 - sp) = false := by simpa using hp
          go_wp2_with fail
          go_roundw
          case rel => exact ⟨k + 1, by omega, by go_num, by rw [HS.out, HE.out]; go_num, by rw [HS.out, HE.out]; exact hrow, HR⟩
          case measure => simp [intOf]; omega
      · by_cases h0 : 0 < out.length
        · obtain ⟨g, rfl⟩ := rowOf_some hrow2 h0
          obtain ⟨x1, x2, x3⟩ := last_cells hrow2 h0
          have hlast : out.length - 1 < out.length := by omega
          obtain ⟨d1, d2, d3, d4⟩ := HN4.out _ (List.getElem_mem hlast)
          have e1 : lastDay out = out[out.length - 1].1 := by unfold lastDay; rw [getD_at _ _ _ hlast]
          have e2 : (out.getD (out.length - 1) (0, 0)).2 = out[out.length - 1].2 := by rw [getD_at _ _ _ hlast]
          rw [← e1] at d1 d2
          rw [← e2] at d3 d4
          clear e1 e2
          have hi1 : (0 : Int) ≤ (out.length : Int) - 1 := by omega
          have hi2 : (out.length : Int) - 1 < (out.length : Int) := by omega
          have hi3 : ((out.length : Int) - 1).toNat = out.length - 1 := by omega
          have hz1 : decide (0 < out.length) = true := by simpa using h0
          have hz2 : decide ((0 : Int) < (out.length : Int)) = true := by simp; omega
          have hz5 : IntKind.i64.wrap (lastDay out + size) = lastDay out + size := IntWalk.i64_in _ (by omega)
          by_cases hday : needs[k].1 < lastDay out + size
          · have HE := Lib.hid (lotStep_more (size := size) (out := out) (sp := sp) (f := needs[k]) h0 hday)
            have hz3 : decide (needs[k].1 < lastDay out + size) = true := by simpa using hday
            go_wp2_with fail
            go_quiet (fail)
            go_wp2_with fail
            have hrow3 := hrow2.keep (below_drewN (Below.refl _ _) nq)
            have HR3 : Below w.heap.size w (wr.drewN nq) := below_drewN HR _
            obtain ⟨b', o', e', _, hd1, hd2⟩ := flow_at (ha.keep HR3) hlt
            obtain ⟨rfl, rfl⟩ : b = b' ∧ o = o' := by simpa using e'
            obtain ⟨y1, y2, y3⟩ := last_cells hrow3 h0
            obtain ⟨lq, hlq⟩ : ∃ q, (out.getD (out.length - 1) (0, 0)).2 = q := ⟨_, rfl⟩
            rw [hlq] at y2 d3 d4
            have HLQ := Lib.hid hlq
            clear hlq
            have hgw := (own_lt hrow2.2 _ rfl).1
            clear hrow HR hrow2 hc1 hc2 e' x1 x2 x3
            generalize wr.drewN nq = W1 at *
            have m3 : IntKind.i64.wrap (lq + needs[k].2) = lq + needs[k].2 := IntWalk.i64_in _ (by omega)
            have hi4 : (1 : Int) ≤ (out.length : Int) := by omega
            have hi5 : 1 ≤ out.length := by omega
            have hi6 : out.length - 1 < out.length := by omega
            have m4 : IntKind.i64.wrap ((out.length : Int) - 1) = (out.length : Int) - 1 := IntWalk.i64_in _ (by omega)
            go_still_tail 15, (by kernel_rfl)
            change wpList _ _ _ _ _ W1.drew
            have hrow4 : OwnRows flF 53 W1.drew w.heap.size (some ⟨g, 0, none⟩) out.length C out := hrow3
            have HR4 := HR3.drew
            change W1.drew.cell? _ = _ at y2
            change W1.drew.frozen? _ = _ at y3
            have HB3 := Lib.hid (bump_row hrow4 h0 needs[k].2 (lq + needs[k].2) (by rw [HLQ.out]))
            have HR5 := HR4.setCell (p := ⟨g, (out.length - 1) * 2 + 1, none⟩) hgw (.int .i64 (lq + needs[k].2))
            clear m3 m4 hrow4 hrow3 HR3 HR4
            generalize W1.drew = W2 at *
            go_wp2_with fail
            go_roundw
            case rel => exact ⟨k + 1, by omega, by go_num, by rw [HS.out, HE.out], by rw [HS.out, HE.out]; exact HB3.out, HR5⟩
            case measure => simp [intOf]; omega
          · have HE := Lib.hid (lotStep_new (rule := 2) (size := size) (out := out) (sp := sp) (f := needs[k]) (by omega) (fun h => hday h.2.2))
            have hz3 : decide (needs[k].1 < lastDay out + size) = false := by simpa using hday
            go_wp2_with fail
            go_quiet (fail)
            have hrow3 : RowVal flF 53 (wr.drewN nq) w.heap.size _ out := hrow.keep (below_drewN (Below.refl _ _) _)
            have HR3 : Below w.heap.size w (wr.drewN nq) := below_drewN HR _
            obtain ⟨b', o', e', _, hd1, hd2⟩ := flow_at (ha.keep HR3) hlt
            obtain ⟨rfl, rfl⟩ : b = b' ∧ o = o' := by simpa using e'
            clear hrow HR hrow2 hc1 hc2 e' x1 x2 x3
            generalize wr.drewN nq = W1 at *
            have hsz3 := HR3.size
            go_wp2_with (at_builtin; refine wpList_append_one flowElem rfl _ _ rfl rfl (l := out) hrow3 (by omega) needs[k] #[.int .i64 needs[k].1, .int .i64 needs[k].2] rfl (by simp [Value.oneCell']) W1.heap.size _ rfl rfl hsz3 ?_; intro v' w2 hrow' hbl hgr)
            go_roundw
            case rel => exact ⟨k + 1, by omega, by go_num, by rw [HS.out, HE.out], by rw [HS.out, HE.out]; exact hrow', HR3.trans (hbl _ (Nat.le_refl _) hsz3)⟩
            case measure => simp [intOf]; omega
        · have hz1 : decide (0 < out.length) = false := by simpa using h0
          have HE := Lib.hid (lotStep_new (rule := 2) (size := size) (out := out) (sp := sp) (f := needs[k]) (by omega) (fun h => h0 h.2.1))
          have h00 : (out.length : Int) ≤ 0 := by omega
          have hz2 : decide ((0 : Int) < (out.length : Int)) = false := decide_eq_false (by omega)
          go_wp2_with fail
          go_quiet (fail)
          have hrow3 : RowVal flF 53 (wr.drewN nq) w.heap.size _ out := hrow.keep (below_drewN (Below.refl _ _) _)
          have HR3 : Below w.heap.size w (wr.drewN nq) := below_drewN HR _
          obtain ⟨b', o', e', _, hd1, hd2⟩ := flow_at (ha.keep HR3) hlt
          obtain ⟨rfl, rfl⟩ : b = b' ∧ o = o' := by simpa using e'
          clear hrow HR hrow2 hc1 hc2 e'
          generalize wr.drewN nq = W1 at *
          have hsz3 := HR3.size
          go_wp2_with (at_builtin; refine wpList_append_one flowElem rfl _ _ rfl rfl (l := out) hrow3 (by omega) needs[k] #[.int .i64 needs[k].1, .int .i64 needs[k].2] rfl (by simp [Value.oneCell']) W1.heap.size _ rfl rfl hsz3 ?_; intro v' w2 hrow' hbl hgr)
          go_roundw
          case rel => exact ⟨k + 1, by omega, by go_num, by rw [HS.out, HE.out], by rw [HS.out, HE.out]; exact hrow', HR3.trans (hbl _ (Nat.le_refl _) hsz3)⟩
          case measure => simp [intOf]; omega
    · obtain rfl : k = needs.length := by omega
      obtain ⟨n1, n2, n3, n4⟩ := HB.out needs.length (Nat.le_refl _)
      clear n4
      obtain ⟨X, C, rfl, hrow2⟩ := hrow.form
      go_wp2_with fail
      refine (specAreFlows_any _ _ _ (lotTo rule size needs needs.length).1 _ (hrow2.rows (by omega))).mono ?_
      rintro e v1 ⟨rfl, hs⟩
      replace hrow2 := hrow2.keep (hs.below _)
      replace HR := HR.trans (hs.below _)
      clear hs
      have hsz := HR.size
      cases hfl : areFlows (lotTo rule size needs needs.length).1
      · go_wp2_with fail
        go_ret2
        exact pairRows_mk (l := []) (lotsFor_no (by rw [hfl, Bool.and_false])) (empty_row rfl hsz) (HR.alloc hsz _)
      · go_wp2_with fail
        go_ret2
        exact pairRows_mk (lotsFor_yes (by rw [hfl, g1, g2]; rfl)) hrow2.val HR
set_option maxRecDepth 100000 in
set_option maxHeartbeats 4000000 in
theorem implLotsFor_any (A : Option Addr) (n c : Nat) (needs : List Fl) (rule size : Int) (w : World) (ha : FlowsIn w A n needs) :
    Calls Try.prog 25 #[.int .i64 rule, .int .i64 size, .slice A n c] w (PairRows w (lotsFor needs rule size)) := by
  have hb : Below w.heap.size w w := Below.refl _ _
  have hln := ha.len
  obtain rfl := ha.1
  go_enter Try.func25, Try.ntmps25
  go_wp2_with fail
  refine (isLotRule_any _ _ _).mono ?_
  rintro e v ⟨rfl, rfl⟩
  cases g1 : lotRule rule size
  · go_wp2_with fail
    go_ret2
    exact pairRows_mk (l := []) (lotsFor_no (by simp [g1])) (RowVal.nil _ _) hb
  go_wp2_with fail
  refine (implAreFlows_any _ _ _ needs _ (ha.keep hb)).mono ?_
  rintro e u2 ⟨rfl, hs⟩
  replace hb := below_on hb hs
  clear hs
  cases g2 : areFlows needs
  · go_wp2_with fail
    go_ret2
    exact pairRows_mk (l := []) (lotsFor_no (by simp [g2])) (RowVal.nil _ _) hb
  have HB := Lib.hid (fun k hk => lotTo_parts rule size needs g2 g1 k hk)
  have HM := Lib.hid (areFlows_mem g2)
  have hn4 := (areFlows_parts g2).2
  have hru := lotRule_parts g1
  have hsz0 := hb.size
  go_wp2
  have hb0 := hb.alloc hsz0 (.cells #[] 53)
  have hv0 : RowVal flF 53 (u2.alloc (.cells #[] 53)) w.heap.size (.slice (some ⟨u2.heap.size, 0, none⟩) 0 0) [] := empty_row rfl hsz0
  have hl0 : rule = 2 → 0 < (lotTo rule size needs 0).1.length → (0 : Int) = lastDay (lotTo rule size needs 0).1 := fun _ h => by simp [lotTo] at h
  clear hb
  go_loopw [8, 9, 10, 27] (fun v s z i wr => ∃ (k : Nat) (lastv : Int), k ≤ needs.length ∧ i = .int .i64 k ∧ s = .int .i64 (lotTo rule size needs k).2 ∧ z = .int .i64 lastv ∧ 0 ≤ lastv ∧ lastv ≤ 999 ∧ Hid (rule = 2 → 0 < (lotTo rule size needs k).1.length → lastv = lastDay (lotTo rule size needs k).1) ∧ RowVal flF 53 wr w.heap.size v (lotTo rule size needs k).1 ∧ Below w.heap.size w wr) (fun _ _ _ i _ => needs.length - (intOf i).toNat)
  case atStart => exact ⟨0, 0, by omega, rfl, rfl, rfl, by omega, by omega, hl0, hv0, hb0⟩
  case round =>
    clear hv0 hb0 hl0
    obtain ⟨k, lastv, hk, rfl, rfl, rfl, z0, z1, HLA, hrow, HR⟩ := hrel
    by_cases hlt : k < needs.length
    · have HS := Lib.hid (lotTo_succ rule size needs k hlt)
      obtain ⟨n1, n2, n3, n4⟩ := HB.out k hk
      have HN4 := Lib.hid n4
      clear n4
      generalize hst : lotTo rule size needs k = st at *
      obtain ⟨out, sp⟩ := st
      dsimp only at hrow n1 n2 n3 HS HN4 HLA ⊢
      have HST := Lib.hid hst
      clear hst
      have hout : out.length ≤ 1000 := by omega
      obtain ⟨⟨m1, m2⟩, m3, m4⟩ := HM.out _ (List.getElem_mem hlt)
      obtain ⟨b, o, rfl, _, hc1, hc2⟩ := flow_at (ha.keep HR) hlt
      have hsz := HR.size
      obtain ⟨X, C, rfl, hrow2⟩ := hrow.form
      have hne := row_ne hrow (Nat.le_refl _)
      have hf0 : (wr.alloc (.cells #[.int .i64 needs[k].1, .int .i64 needs[k].2] 53)).cell? ⟨wr.heap.size, 0, none⟩ = some (.int .i64 needs[k].1) := by simp [go_sem]
      have hf1 : (wr.alloc (.cells #[.int .i64 needs[k].1, .int .i64 needs[k].2] 53)).cell? ⟨wr.heap.size, 1, none⟩ = some (.int .i64 needs[k].2) := by simp [go_sem]
      have hsz1 : w.heap.size ≤ (wr.alloc (.cells #[.int .i64 needs[k].1, .int .i64 needs[k].2] 53)).heap.size := by simp; omega
      have hrow1 := RowVal.alloc hrow (.cells #[.int .i64 needs[k].1, .int .i64 needs[k].2] 53)
      have HR1 := HR.alloc hsz (.cells #[.int .i64 needs[k].1, .int .i64 needs[k].2] 53)
      rcases hru with ⟨rfl, rfl⟩ | ⟨rfl, s1, s2⟩ | ⟨rfl, s1, s2⟩
      · have HE := Lib.hid (lotStep_new (rule := 0) (size := 0) (out := out) (sp := sp) (f := needs[k]) (by omega) (by omega))
        have HLX : Hid ((0 : Int) = 2 → 0 < (out ++ [needs[k]]).length → lastv = lastDay (out ++ [needs[k]])) := fun h => absurd h (by omega)
        go_wp2_with (at_builtin; refine wpList_append_at flowElem rfl _ _ rfl rfl (l := out) hrow1 (by omega) needs[k] #[.int .i64 needs[k].1, .int .i64 (needs[k].2)] rfl (by simp [Value.oneCell']) (wr.heap.size + 1) _ (by simp) rfl hsz1 ?_; intro v' w2 hrow' hbl hgr hfar _; have hx0 := (hfar ⟨wr.heap.size, 0, none⟩ (by simp) hne).trans hf0; have hx1 := (hfar ⟨wr.heap.size, 1, none⟩ (by simp) hne).trans hf1)
        go_roundw
        case rel => exact ⟨k + 1, lastv, by omega, by go_num, by rw [HS.out, HE.out], rfl, by omega, by omega, by rw [HS.out, HE.out]; exact HLX.out, by rw [HS.out, HE.out]; exact hrow', HR1.trans (hbl _ (Nat.le_refl _) hsz1)⟩
        case measure => simp [intOf]; omega
      · by_cases hs : sp < needs[k].2
        · have HE := Lib.hid (lotStep_lot (size := size) (out := out) (f := needs[k]) hs)
          obtain ⟨l1, l2, l3, l4, l5⟩ := lotUp_bd (needs[k].2 - sp) size s1 s2 (by omega) (by omega)
          unfold lotUp at l1 l2 l3
          have HLX : Hid ((1 : Int) = 2 → 0 < (out ++ [(needs[k].1, (needs[k].2 - sp + size - 1) / size * size)]).length → lastv = lastDay (out ++ [(needs[k].1, (needs[k].2 - sp + size - 1) / size * size)])) := fun h => absurd h (by omega)
          go_wp2_with (first | (go_at_call 55; refine (ceilOf_pos _ _ _ (by omega) (by omega) s1 s2).mono ?_; rintro e w' ⟨rfl, rfl⟩) | (at_builtin; refine wpList_append_at flowElem rfl _ _ rfl rfl (l := out) hrow1 (by omega) (needs[k].1, (needs[k].2 - sp + size - 1) / size * size) #[.int .i64 needs[k].1, .int .i64 ((needs[k].2 - sp + size - 1) / size * size)] rfl (by simp [Value.oneCell']) (wr.heap.size + 1) _ (by simp) rfl hsz1 ?_; intro v' w2 hrow' hbl hgr hfar _; have hx0 := (hfar ⟨wr.heap.size, 0, none⟩ (by simp) hne).trans hf0; have hx1 := (hfar ⟨wr.heap.size, 1, none⟩ (by simp) hne).trans hf1))
          go_roundw
          case rel => exact ⟨k + 1, lastv, by omega, by go_num, by rw [HS.out, HE.out]; go_num, rfl, by omega, by omega, by rw [HS.out, HE.out]; exact HLX.out, by rw [HS.out, HE.out]; exact hrow', HR1.trans (hbl _ (Nat.le_refl _) hsz1)⟩
          case measure => simp [intOf]; omega
        · have HE := Lib.hid (lotStep_have (size := size) (out := out) (f := needs[k]) hs)
          have HLX : Hid ((1 : Int) = 2 → 0 < out.length → lastv = lastDay out) := fun h => absurd h (by omega)
          go_wp2_with fail
          go_roundw
          case rel => exact ⟨k + 1, lastv, by omega, by go_num, by rw [HS.out, HE.out], rfl, by omega, by omega, by rw [HS.out, HE.out]; exact HLX.out, by rw [HS.out, HE.out]; exact hrow1, HR1⟩
          case measure => simp [intOf]; omega
      · by_cases h0 : 0 < out.length
        · have hlv := HLA.out rfl h0
          obtain ⟨g, rfl⟩ := rowOf_some hrow2 h0
          have hlast : out.length - 1 < out.length := by omega
          obtain ⟨d1, d2, d3, d4⟩ := HN4.out _ (List.getElem_mem hlast)
          have hi1 : (0 : Int) ≤ (out.length : Int) - 1 := by omega
          have hi2 : (out.length : Int) - 1 < (out.length : Int) := by omega
          have hi3 : ((out.length : Int) - 1).toNat = out.length - 1 := by omega
          have hi4 : (1 : Int) ≤ (out.length : Int) := by omega
          have hi5 : 1 ≤ out.length := by omega
          have hi6 : out.length - 1 < out.length := by omega
          have hz1 : decide (0 < out.length) = true := by simpa using h0
          have hz2 : decide ((0 : Int) < (out.length : Int)) = true := by simp; omega
          by_cases hday : needs[k].1 - lastv < size
          · have HE := Lib.hid (lotStep_more (size := size) (out := out) (sp := sp) (f := needs[k]) h0 (by omega))
            have HLX : Hid ((2 : Int) = 2 → 0 < (bump out needs[k].2).length → lastv = lastDay (bump out needs[k].2)) := fun _ _ => by rw [bump_last]; exact hlv
            have hz3 : decide (needs[k].1 - lastv < size) = true := by simpa using hday
            clear hlv
            go_wp2_with fail
            have hrow3 := hrow2.keep (below_alloc wr (.cells #[.int .i64 needs[k].1, .int .i64 needs[k].2] 53))
            obtain ⟨lq, hlq⟩ : ∃ q, (out.getD (out.length - 1) (0, 0)).2 = q := ⟨_, rfl⟩
            have e2 : (out.getD (out.length - 1) (0, 0)).2 = out[out.length - 1].2 := by rw [getD_at _ _ _ hlast]
            rw [← e2, hlq] at d3 d4
            obtain ⟨y1, y2, y3⟩ := last_cells hrow3 h0
            rw [hlq] at y2
            have HLQ := Lib.hid hlq
            clear hlq e2 y1
            have hgw := (own_lt hrow2.2 _ rfl).1
            clear hrow HR hrow2 hc1 hc2 hrow1
            generalize wr.alloc (.cells #[.int .i64 needs[k].1, .int .i64 needs[k].2] 53) = W1 at *
            have m3 : IntKind.i64.wrap (lq + needs[k].2) = lq + needs[k].2 := IntWalk.i64_in _ (by omega)
            have m4 : IntKind.i64.wrap ((out.length : Int) - 1) = (out.length : Int) - 1 := IntWalk.i64_in _ (by omega)
            go_still_tail 11, (by kernel_rfl)
            change wpList _ _ _ _ _ W1.drew
            have hrow4 : OwnRows flF 53 W1.drew w.heap.size (some ⟨g, 0, none⟩) out.length C out := hrow3
            have HR4 := HR1.drew
            change W1.drew.cell? _ = _ at y2 hf1
            change W1.drew.frozen? _ = _ at y3
            have HB3 := Lib.hid (bump_row hrow4 h0 needs[k].2 (lq + needs[k].2) (by rw [HLQ.out]))
            have HR5 := HR4.setCell (p := ⟨g, (out.length - 1) * 2 + 1, none⟩) hgw (.int .i64 (lq + needs[k].2))
            clear m3 m4 hrow4 hrow3 HR1 HR4
            generalize W1.drew = W2 at *
            go_wp2_with fail
            go_roundw
            case rel => exact ⟨k + 1, lastv, by omega, by go_num, by rw [HS.out, HE.out], rfl, by omega, by omega, by rw [HS.out, HE.out]; exact HLX.out, by rw [HS.out, HE.out]; exact HB3.out, HR5⟩
            case measure => simp [intOf]; omega
          · have HE := Lib.hid (lotStep_new (rule := 2) (size := size) (out := out) (sp := sp) (f := needs[k]) (by omega) (fun h => hday (by have := h.2.2; omega)))
            have hz3 : decide (needs[k].1 - lastv < size) = false := by simpa using hday
            clear hlv
            have HLX : Hid ((2 : Int) = 2 → 0 < (out ++ [needs[k]]).length → needs[k].1 = lastDay (out ++ [needs[k]])) := fun _ _ => (lastDay_snoc _ _).symm
            go_wp2_with (at_builtin; refine wpList_append_at flowElem rfl _ _ rfl rfl (l := out) hrow1 (by omega) needs[k] #[.int .i64 needs[k].1, .int .i64 (needs[k].2)] rfl (by simp [Value.oneCell']) (wr.heap.size + 1) _ (by simp) rfl hsz1 ?_; intro v' w2 hrow' hbl hgr hfar _; have hx0 := (hfar ⟨wr.heap.size, 0, none⟩ (by simp) hne).trans hf0; have hx1 := (hfar ⟨wr.heap.size, 1, none⟩ (by simp) hne).trans hf1)
            go_roundw
            case rel => exact ⟨k + 1, needs[k].1, by omega, by go_num, by rw [HS.out, HE.out], rfl, by omega, by omega, by rw [HS.out, HE.out]; exact fun _ => HLX.out rfl, by rw [HS.out, HE.out]; exact hrow', HR1.trans (hbl _ (Nat.le_refl _) hsz1)⟩
            case measure => simp [intOf]; omega
        · have h00 : (out.length : Int) ≤ 0 := by omega
          have HE := Lib.hid (lotStep_new (rule := 2) (size := size) (out := out) (sp := sp) (f := needs[k]) (by omega) (fun h => h0 h.2.1))
          have hz1 : decide (0 < out.length) = false := by simpa using h0
          have hz2 : decide ((0 : Int) < (out.length : Int)) = false := decide_eq_false (by omega)
          have HLX : Hid ((2 : Int) = 2 → 0 < (out ++ [needs[k]]).length → needs[k].1 = lastDay (out ++ [needs[k]])) := fun _ _ => (lastDay_snoc _ _).symm
          go_wp2_with (at_builtin; refine wpList_append_at flowElem rfl _ _ rfl rfl (l := out) hrow1 (by omega) needs[k] #[.int .i64 needs[k].1, .int .i64 (needs[k].2)] rfl (by simp [Value.oneCell']) (wr.heap.size + 1) _ (by simp) rfl hsz1 ?_; intro v' w2 hrow' hbl hgr hfar _; have hx0 := (hfar ⟨wr.heap.size, 0, none⟩ (by simp) hne).trans hf0; have hx1 := (hfar ⟨wr.heap.size, 1, none⟩ (by simp) hne).trans hf1)
          go_roundw
          case rel => exact ⟨k + 1, needs[k].1, by omega, by go_num, by rw [HS.out, HE.out], rfl, by omega, by omega, by rw [HS.out, HE.out]; exact fun _ => HLX.out rfl, by rw [HS.out, HE.out]; exact hrow', HR1.trans (hbl _ (Nat.le_refl _) hsz1)⟩
          case measure => simp [intOf]; omega
    · obtain rfl : k = needs.length := by omega
      obtain ⟨n1, n2, n3, n4⟩ := HB.out needs.length (Nat.le_refl _)
      clear n4
      obtain ⟨X, C, rfl, hrow2⟩ := hrow.form
      go_wp2_with fail
      refine (implAreFlows_any _ _ _ (lotTo rule size needs needs.length).1 _ (hrow2.rows (by omega))).mono ?_
      rintro e v1 ⟨rfl, hs⟩
      replace hrow2 := hrow2.keep hs
      replace HR := below_on HR hs
      clear hs
      have hsz := HR.size
      cases hfl : areFlows (lotTo rule size needs needs.length).1
      · go_wp2_with fail
        go_ret2
        exact pairRows_mk (l := []) (lotsFor_no (by rw [hfl, Bool.and_false])) (RowVal.nil _ _) HR
      · go_wp2_with fail
        go_ret2
        exact pairRows_mk (lotsFor_yes (by rw [hfl, g1, g2]; rfl)) hrow2.val HR
end Go.Proofs.Ytpbibkjcjgggdaa
/- Planned: its cells, and the walks of the laws' own helpers on lists of it. -/
namespace Go.Proofs.Ytpbibkjcjgggdaa
open Go.RowKit

abbrev Pl := ByteArray × Int × Int × Int × Bool
def plF : Flat Pl := ⟨fun f => [.string (f.1), .int .i64 (f.2.1), .int .i64 (f.2.2.1), .int .i64 (f.2.2.2.1), .bool (f.2.2.2.2)], 5, fun _ => rfl⟩
abbrev PlannedsIn (w : World) (A : Option Addr) (n : Nat) (l : List Pl) : Prop := RowsIn plF w A n l
theorem planned_at {w : World} {A : Option Addr} {n : Nat} {l : List Pl} (h : PlannedsIn w A n l) {k : Nat} (hk : k < l.length) :
    ∃ b o, A = some ⟨b, o, none⟩ ∧ b < w.heap.size ∧ w.cell? ⟨b, o + k * 5, none⟩ = some (.string (l[k].1)) ∧ w.cell? ⟨b, o + k * 5 + 1, none⟩ = some (.int .i64 (l[k].2.1)) ∧ w.cell? ⟨b, o + k * 5 + 2, none⟩ = some (.int .i64 (l[k].2.2.1)) ∧ w.cell? ⟨b, o + k * 5 + 3, none⟩ = some (.int .i64 (l[k].2.2.2.1)) ∧ w.cell? ⟨b, o + k * 5 + 4, none⟩ = some (.bool (l[k].2.2.2.2)) := by
  obtain ⟨b, o, e, hlt, hc⟩ := h.at_ hk
  exact ⟨b, o, e, hlt, hc 0 _ rfl, hc 1 _ rfl, hc 2 _ rfl, hc 3 _ rfl, hc 4 _ rfl⟩
theorem plannedInfo : (Try.prog.info? 48).map (fun i => (i.zero, i.size, i.bytes)) = some (some (.agg #[.string ByteArray.empty, .int .i64 0, .int .i64 0, .int .i64 0, .bool false]), 5, 48) := by kernel_rfl
theorem plannedElem : ElemOk plF 38 48 := by
  obtain ⟨i, h1, h2, h3, h4⟩ := info_parts plannedInfo
  exact ⟨i, _, 48, Try.underlying38, h1, h2, h3, h4, rfl, by decide, by omega⟩
def okPl (x : Pl) : Prop := x.1.size ≤ 9223372036854775807
end Go.Proofs.Ytpbibkjcjgggdaa
/- PlanItem (plain): what both the reference and the program plan for an item. -/
namespace Go.Proofs.Ytpbibkjcjgggdaa
open Go.RowKit
def plOf (p : Pt) (item : ByteArray) (x : It) (f : Fl) : Pl := (item, (grossOf x f.2).1, (addWd p.wk p.ex f.1 (-x.2.2.2.1)).1, f.1, !(addWd p.wk p.ex f.1 (-x.2.2.2.1)).2)
def planX (p : Pt) (item : ByteArray) : It := p.it.getD (findIt p.it item).toNat itNone
def planNet (p : Pt) (item : ByteArray) (needs : List Fl) : List Fl × Bool := netNeeds (receiptFlows p item) needs (stockOf p item) (planX p item).2.2.2.2.2.2.1
def planLots (p : Pt) (item : ByteArray) (needs : List Fl) : List Fl × Bool := lotsFor (planNet p item needs).1 (planX p item).2.2.2.2.1 (planX p item).2.2.2.2.2.1
def smallF (x : It) (f : Fl) : Bool := decide ((grossOf x f.2).1 ≤ 100000)
def planOk (p : Pt) (item : ByteArray) (needs : List Fl) : Bool := isPlant p && (decide (0 ≤ findIt p.it item) && ((!((planX p item).2.2.1 == 2)) && areFlows needs))
def planItem (p : Pt) (item : ByteArray) (needs : List Fl) : List Pl × Bool :=
  if (planOk p item needs && ((planNet p item needs).2 && ((planLots p item needs).2 && (planLots p item needs).1.all (smallF (planX p item))))) = true then ((planLots p item needs).1.map (plOf p item (planX p item)), true) else ([], false)
theorem planItem_no {p : Pt} {item : ByteArray} {needs : List Fl} (h : (planOk p item needs && ((planNet p item needs).2 && ((planLots p item needs).2 && (planLots p item needs).1.all (smallF (planX p item))))) = false) : planItem p item needs = ([], false) := by unfold planItem; rw [if_neg (by rw [h]; decide)]
theorem planItem_yes {p : Pt} {item : ByteArray} {needs : List Fl} (h1 : planOk p item needs = true) (h2 : (planNet p item needs).2 = true) (h3 : (planLots p item needs).2 = true) (h4 : (planLots p item needs).1.all (smallF (planX p item)) = true) : planItem p item needs = ((planLots p item needs).1.map (plOf p item (planX p item)), true) := by
  unfold planItem; rw [if_pos (by rw [h1, h2, h3, h4]; rfl)]
theorem planX_at {p : Pt} {item : ByteArray} {q : Nat} (h : findIt p.it item = (q : Int)) (hq : q < p.it.length) : planX p item = p.it[q] := by
  unfold planX; rw [h, Int.toNat_natCast, it_getD _ _ hq]
theorem planOk_eq {p : Pt} {item : ByteArray} {needs : List Fl} {q : Nat} {b1 b2 b3 : Bool} (h : findIt p.it item = (q : Int)) (hq : q < p.it.length) (h1 : isPlant p = b1) (h2 : (p.it[q].2.2.1 == 2) = b2) (h3 : areFlows needs = b3) : planOk p item needs = (b1 && (!b2 && b3)) := by
  unfold planOk; rw [planX_at h hq, h1, h2, h3, h, decide_eq_true (by omega)]; rfl
theorem planLots_40 (p : Pt) (item : ByteArray) (needs : List Fl) : (planLots p item needs).1.length ≤ 40 := (areFlows_parts (lotsFor_flows _ _ _)).2
theorem lotsFor_nil' {needs : List Fl} {rule size : Int} (h : (lotsFor needs rule size).2 = false) : (lotsFor needs rule size).1 = [] := by
  cases hb : ((lotRule rule size && areFlows needs) && areFlows (lotTo rule size needs needs.length).1)
  · rw [lotsFor_no hb]
  · rw [lotsFor_yes hb] at h; cases h
theorem planItem_len (p : Pt) (item : ByteArray) (needs : List Fl) : (planItem p item needs).1.length ≤ 40 := by
  unfold planItem
  split
  · rw [List.length_map]; exact planLots_40 _ _ _
  · simp
theorem map_take {α β : Type} (f : α → β) (l : List α) (k : Nat) (h : k < l.length) : (l.take (k + 1)).map f = (l.take k).map f ++ [f l[k]] := by
  rw [List.take_succ_eq_append_getElem h, List.map_append]; rfl
theorem isPlant_item {p : Pt} (h : isPlant p = true) {q : Nat} (hq : q < p.it.length) : isItem p.it[q] = true := isCat_item (isBills_parts (isPlant_parts h).1).1 hq
set_option maxRecDepth 100000 in
set_option maxHeartbeats 4000000 in
theorem releaseOf_any (r : PtR) (p : Pt) (x : It) (due : Int) (w : World) (hp : PlantIn w r p) (kn : Nat) (hkn : x.2.2.2.1 = (kn : Int)) (hk : kn ≤ 30) :
    Calls Try.prog 27 #[.agg #[.slice r.i.a r.i.n r.i.c, .slice r.l.a r.l.n r.l.c, .slice r.w.a r.w.n r.w.c, .slice r.e.a r.e.n r.e.c, .slice r.p.a r.p.n r.p.c, .slice r.s.a r.s.n r.s.c, .slice r.q.a r.q.n r.q.c], .agg #[.string x.1, .string x.2.1, .int .i64 x.2.2.1, .int .i64 x.2.2.2.1, .int .i64 x.2.2.2.2.1, .int .i64 x.2.2.2.2.2.1, .int .i64 x.2.2.2.2.2.2.1, .int .i64 x.2.2.2.2.2.2.2], .int .i64 due] w (PairI w ((addWd p.wk p.ex due (-x.2.2.2.1)).1, !(addWd p.wk p.ex due (-x.2.2.2.1)).2)) := by
  have HK := Lib.hid hkn
  have hb : Below w.heap.size w ((w.alloc (.cells #[.slice r.i.a r.i.n r.i.c, .slice r.l.a r.l.n r.l.c, .slice r.w.a r.w.n r.w.c, .slice r.e.a r.e.n r.e.c, .slice r.p.a r.p.n r.p.c, .slice r.s.a r.s.n r.s.c, .slice r.q.a r.q.n r.q.c] 34)).alloc (.cells #[.string x.1, .string x.2.1, .int .i64 x.2.2.1, .int .i64 x.2.2.2.1, .int .i64 x.2.2.2.2.1, .int .i64 x.2.2.2.2.2.1, .int .i64 x.2.2.2.2.2.2.1, .int .i64 x.2.2.2.2.2.2.2] 42)) := below_on (below_alloc _ _) (below_alloc _ _)
  have B0 : BoxOf ((w.alloc (.cells #[.slice r.i.a r.i.n r.i.c, .slice r.l.a r.l.n r.l.c, .slice r.w.a r.w.n r.w.c, .slice r.e.a r.e.n r.e.c, .slice r.p.a r.p.n r.p.c, .slice r.s.a r.s.n r.s.c, .slice r.q.a r.q.n r.q.c] 34)).alloc (.cells #[.string x.1, .string x.2.1, .int .i64 x.2.2.1, .int .i64 x.2.2.2.1, .int .i64 x.2.2.2.2.1, .int .i64 x.2.2.2.2.2.1, .int .i64 x.2.2.2.2.2.2.1, .int .i64 x.2.2.2.2.2.2.2] 42)) w.heap.size [.slice r.i.a r.i.n r.i.c, .slice r.l.a r.l.n r.l.c, .slice r.w.a r.w.n r.w.c, .slice r.e.a r.e.n r.e.c, .slice r.p.a r.p.n r.p.c, .slice r.s.a r.s.n r.s.c, .slice r.q.a r.q.n r.q.c] := (boxOf_alloc w #[.slice r.i.a r.i.n r.i.c, .slice r.l.a r.l.n r.l.c, .slice r.w.a r.w.n r.w.c, .slice r.e.a r.e.n r.e.c, .slice r.p.a r.p.n r.p.c, .slice r.s.a r.s.n r.s.c, .slice r.q.a r.q.n r.q.c] 34).keep (below_alloc _ _)
  have B1 : BoxOf ((w.alloc (.cells #[.slice r.i.a r.i.n r.i.c, .slice r.l.a r.l.n r.l.c, .slice r.w.a r.w.n r.w.c, .slice r.e.a r.e.n r.e.c, .slice r.p.a r.p.n r.p.c, .slice r.s.a r.s.n r.s.c, .slice r.q.a r.q.n r.q.c] 34)).alloc (.cells #[.string x.1, .string x.2.1, .int .i64 x.2.2.1, .int .i64 x.2.2.2.1, .int .i64 x.2.2.2.2.1, .int .i64 x.2.2.2.2.2.1, .int .i64 x.2.2.2.2.2.2.1, .int .i64 x.2.2.2.2.2.2.2] 42)) (w.heap.size + 1) [.string x.1, .string x.2.1, .int .i64 x.2.2.1, .int .i64 x.2.2.2.1, .int .i64 x.2.2.2.2.1, .int .i64 x.2.2.2.2.2.1, .int .i64 x.2.2.2.2.2.2.1, .int .i64 x.2.2.2.2.2.2.2] := by simpa using boxOf_alloc (w.alloc (.cells #[.slice r.i.a r.i.n r.i.c, .slice r.l.a r.l.n r.l.c, .slice r.w.a r.w.n r.w.c, .slice r.e.a r.e.n r.e.c, .slice r.p.a r.p.n r.p.c, .slice r.s.a r.s.n r.s.c, .slice r.q.a r.q.n r.q.c] 34)) #[.string x.1, .string x.2.1, .int .i64 x.2.2.1, .int .i64 x.2.2.2.1, .int .i64 x.2.2.2.2.1, .int .i64 x.2.2.2.2.2.1, .int .i64 x.2.2.2.2.2.2.1, .int .i64 x.2.2.2.2.2.2.2] 42
  obtain ⟨b0, b1, b2, b3, b4, b5, b6, bl⟩ := B0.seven
  have hwn : IntKind.i64.wrap (-x.2.2.2.1) = -x.2.2.2.1 := IntWalk.i64_in _ (by omega)
  clear hkn
  have HPK := Lib.hid (hp.keep hb)
  obtain ⟨res, hres⟩ : ∃ res, addWd p.wk p.ex due (-x.2.2.2.1) = res := ⟨_, rfl⟩
  have HR := Lib.hid hres
  rw [hres]
  have HR2 : Hid (addWd p.wk p.ex due (-(kn : Int)) = res) := by show _ = _; rw [← HK.out]; exact hres
  clear hres
  go_enter Try.func27, Try.ntmps27
  go_wp2_with fail
  generalize ((w.alloc (.cells #[.slice r.i.a r.i.n r.i.c, .slice r.l.a r.l.n r.l.c, .slice r.w.a r.w.n r.w.c, .slice r.e.a r.e.n r.e.c, .slice r.p.a r.p.n r.p.c, .slice r.s.a r.s.n r.s.c, .slice r.q.a r.q.n r.q.c] 34)).alloc (.cells #[.string x.1, .string x.2.1, .int .i64 x.2.2.1, .int .i64 x.2.2.2.1, .int .i64 x.2.2.2.2.1, .int .i64 x.2.2.2.2.2.1, .int .i64 x.2.2.2.2.2.2.1, .int .i64 x.2.2.2.2.2.2.2] 42)) = V at *
  rw [HK.out]
  refine (implAddWorkdays_any _ _ _ _ _ _ p.wk p.ex due kn _ HPK.out.wk HPK.out.ex (by omega)).mono ?_
  rintro e V1 ⟨rfl, hs⟩
  rw [HR2.out]
  have hb1 := below_on hb hs
  have HZ : Hid (res.2 = false → res.1 = 0) := fun h => by
    rw [← HR.out] at h ⊢
    unfold addWd at h ⊢
    split at h
    · next hc =>
      rw [if_pos hc]
      cases hbk : backD (fun d => hoursTo p.wk p.ex d p.ex.length) due.toNat (- -x.2.2.2.1).toNat with
      | none => rfl
      | some d => rw [hbk] at h; cases h
    · next hc => rw [if_neg hc]
  clear b0 b1 b2 b3 b4 b5 b6 bl hs
  obtain ⟨ra, rb⟩ := res
  cases rb
  · have hz := HZ.out rfl
    dsimp only at hz
    subst hz
    go_wp2_with fail
    go_ret2
    exact ⟨rfl, hb1⟩
  · go_wp2_with fail
    go_ret2
    exact ⟨rfl, hb1⟩
end Go.Proofs.Ytpbibkjcjgggdaa
