/- Part 11 of the texts of this claim: The walks of l9Levels and levels. -/
import Derived.Test.YtpbibkjcjgggdaaIt10
/- The walks of l9Levels and levels. -/
namespace Go.Proofs.Ytpbibkjcjgggdaa
open Go.RowKit
def LevPair (w : World) (E : List (Nat × Nat)) (n : Nat) (e : Ending) (w' : World) : Prop := ∃ A' k c', e = .returned (.tuple #[.slice A' k c', .bool (!turned E n n)]) ∧ OwnInts w' w.heap.size A' k c' (levI E n) ∧ Below w.heap.size w w'
def LevOne (w : World) (E : List (Nat × Nat)) (n : Nat) (e : Ending) (w' : World) : Prop := ∃ A' k c', e = .returned (.slice A' k c') ∧ OwnInts w' w.heap.size A' k c' (levI E n) ∧ Below w.heap.size w w'
theorem levPair_mk {w w' : World} {E : List (Nat × Nat)} {n : Nat} {A' : Option Addr} {k c' : Nat} {b : Bool} {x : List Int} (hb : turned E n n = !b) (hx : levI E n = x) (h : OwnInts w' w.heap.size A' k c' x) (hB : Below w.heap.size w w') : LevPair w E n (.returned (.tuple #[.slice A' k c', .bool b])) w' := by
  subst hx
  exact ⟨A', k, c', by rw [hb, Bool.not_not], h, hB⟩
theorem levOne_mk {w w' : World} {E : List (Nat × Nat)} {n : Nat} {A' : Option Addr} {k c' : Nat} {x : List Int} (hx : levI E n = x) (h : OwnInts w' w.heap.size A' k c' x) (hB : Below w.heap.size w w') : LevOne w E n (.returned (.slice A' k c')) w' := by
  subst hx
  exact ⟨A', k, c', rfl, h, hB⟩
set_option maxRecDepth 100000 in
set_option maxHeartbeats 4000000 in
theorem l9Levels_any (A B : Option Addr) (n c m d : Nat) (it : List It) (ls : List Bl) (w : World) (hi : ItemsIn w A n it) (hl : BillLinesIn w B m ls) (h12 : it.length ≤ 12) (h24 : ls.length ≤ 24) (hf : ∀ k (hk : k < ls.length), 0 ≤ findIt it ls[k].1 ∧ 0 ≤ findIt it ls[k].2.1) :
    Calls Try.prog 76 #[.slice A n c, .slice B m d] w (LevOne w (edges it ls) it.length) := by
  have hn := hi.len
  obtain rfl := hi.1
  obtain rfl := hl.num
  have hE := edges_lt hf
  have hEL := edges_len it ls
  have HEA := Lib.hid (fun k hk p q hp hq => edges_at it ls (k := k) hk (p := p) (q := q) hp hq)
  have HF := Lib.hid hf
  clear hf
  generalize edges it ls = E at *
  have HE := Lib.hid hE
  clear hE
  go_enter Try.func76, Try.ntmps76
  go_wp2_with (at_make; refine wpList_make_nums rfl _ _ rfl w.heap.size it.length rfl rfl rfl rfl (by omega) (by omega) ?_; intro w5 hA hA2 hA3)
  have hb0 := hA2
  clear hA2
  have hA0 : NumRow w5 w.heap.size w.heap.size it.length it.length (natI (runTo E it.length 0)) := by
    simp only [runTo]; rw [natI_zero]; exact hA
  clear hA hA3
  generalize hG : w.heap.size = g at hA0
  replace hA0 : NumRow w5 w.heap.size g it.length it.length (natI (runTo E it.length 0)) := by rw [hG]; exact hA0
  have hgl : w.heap.size ≤ g := by omega
  go_loopw [6] (fun i wr => ∃ r : Nat, r ≤ it.length + 1 ∧ i = .int .i64 r ∧ Hid (∀ s < r, turned E it.length s = true) ∧ NumRow wr w.heap.size g it.length it.length (natI (runTo E it.length r)) ∧ Below w.heap.size w wr) (fun i _ => it.length + 2 - (intOf i).toNat)
  case atStart => exact ⟨0, by omega, rfl, fun s h => absurd h (by omega), hA0, hb0⟩
  case round =>
    clear hA0 hb0
    obtain ⟨r, hr, rfl, HT, hA, hb⟩ := hrel
    by_cases hrn : r ≤ it.length
    case neg =>
      have HN : Hid (levI E it.length = []) := levI_none (HT.out it.length (by omega))
      go_wp2_with fail
      go_ret
      exact levOne_mk HN.out (numRow_empty (H := wr.heap.size) rfl hb.size).ownI (hb.alloc hb.size _)
    obtain ⟨T, hTT⟩ : ∃ T, runTo E it.length r = T := ⟨_, rfl⟩
    have HP : Hid (passTo E T ls.length = (runTo E it.length (r + 1), turned E it.length r)) := by
      show _ = _
      unfold turned
      simp only [runTo]
      rw [← hTT, hEL]
    have HBD : Hid (∀ k, ∀ i, (passTo E T k).1.getD i 0 ≤ (it.length + 1) * ls.length + k) := by
      intro k
      refine passTo_bd T _ (fun i => ?_) k
      rw [← hTT]
      refine Nat.le_trans (runTo_bd r i) ?_
      rw [hEL]
      exact Nat.mul_le_mul_right _ (by omega)
    have hmul : (it.length + 1) * ls.length ≤ 13 * 24 := Nat.mul_le_mul (by omega) h24
    rw [hTT] at hA
    have HTT := Lib.hid hTT
    clear hTT
    have hA1 : NumRow wr w.heap.size g it.length it.length (natI (passTo E T 0).1) := hA
    clear hA
    go_wp2_with fail
    go_loopw [7, 8] (fun ch i wr => ∃ k : Nat, k ≤ ls.length ∧ i = .int .i64 k ∧ ch = .bool (passTo E T k).2 ∧ NumRow wr w.heap.size g it.length it.length (natI (passTo E T k).1) ∧ Below w.heap.size w wr) (fun _ i _ => ls.length - (intOf i).toNat)
    case atStart => exact ⟨0, by omega, rfl, rfl, hA1, hb⟩
    case round =>
      clear hA1 hb
      obtain ⟨k, hk, rfl, rfl, hA, hb⟩ := hrel
      by_cases hlt : k < ls.length
      · obtain ⟨b, o, B2, m2, c2, rfl, hbl, hc0, hc1, hc2, hc3, hc4, hc5, _⟩ := bl_at (hl.keep hb) hlt
        obtain ⟨f1, f2⟩ := HF.out k hlt
        have f3 := findIt_bd it ls[k].1
        have f4 := findIt_bd it ls[k].2.1
        obtain ⟨pn, hpn⟩ : ∃ pn : Nat, findIt it ls[k].1 = (pn : Int) := ⟨(findIt it ls[k].1).toNat, by omega⟩
        obtain ⟨qn, hqn⟩ : ∃ qn : Nat, findIt it ls[k].2.1 = (qn : Int) := ⟨(findIt it ls[k].2.1).toNat, by omega⟩
        have hEk := Lib.hid (HEA.out k hlt pn qn hpn hqn)
        rw [hpn] at f3
        rw [hqn] at f4
        have p1 : pn < it.length := by omega
        have q1 : qn < it.length := by omega
        have p2 : (0 : Int) ≤ (pn : Int) := by omega
        have q2 : (0 : Int) ≤ (qn : Int) := by omega
        have p3 : (pn : Int) < (it.length : Int) := by omega
        have q3 : (qn : Int) < (it.length : Int) := by omega
        obtain ⟨sp, hsp⟩ : ∃ x : Nat, (passTo E T k).1.getD pn 0 = x := ⟨_, rfl⟩
        obtain ⟨sq, hsq⟩ : ∃ x : Nat, (passTo E T k).1.getD qn 0 = x := ⟨_, rfl⟩
        have hbp := HBD.out k pn
        rw [hsp] at hbp
        have hw1 : IntKind.i64.wrap ((sp : Int) + 1) = (sp : Int) + 1 := IntWalk.i64_in _ (by omega)
        have e_p : wr.cell? ⟨g, pn, none⟩ = some (.int .i64 (sp : Int)) := by rw [hA.cellN p1, natD_at, hsp]
        have e_q : wr.cell? ⟨g, qn, none⟩ = some (.int .i64 (sq : Int)) := by rw [hA.cellN q1, natD_at, hsq]
        have hgw : g < wr.heap.size := hA.lt.2
        have hfz : wr.frozen? ⟨g, qn, none⟩ = false := hA.frozen qn
        have HPN := Lib.hid hpn
        have HQN := Lib.hid hqn
        clear f1 f2 f3 f4 hbp
        go_wp2_with fail
        refine (specFindItem_any _ _ _ it _ _ (hi.keep hb)).mono ?_
        rintro e v ⟨rfl, rfl⟩
        rw [hpn]
        go_wp2_with fail
        refine (specFindItem_any _ _ _ it _ _ (hi.keep hb)).mono ?_
        rintro e v ⟨rfl, rfl⟩
        rw [hqn]
        by_cases hle : sq ≤ sp
        · have hi1 : (sq : Int) < (sp : Int) + 1 := by omega
          have HS : Hid (passTo E T (k + 1) = ((passTo E T k).1.set qn (sp + 1), true)) := by
            show _ = _
            have := passTo_yes hEk.out (by rw [hsp, hsq]; exact hle)
            rw [hsp] at this; exact this
          clear hpn hqn hc0 hc1 hc2 hc3 hc4 hc5 hle hsp hsq
          go_wp2_with fail
          go_quiet (fail)
          have hq1 := hA.drewN nq
          have hq2 := below_drewN hb nq
          have hg1 : w.heap.size ≤ g := hgl
          go_wp2_with fail
          go_roundw
          case rel => exact ⟨k + 1, by omega, by go_num, by rw [HS.out], by rw [HS.out, ← natI_set]; exact hq1.set qn ((sp : Int) + 1), hq2.setCell (by exact hg1) _⟩
          case measure => simp [intOf]; omega
        · have hi1 : ¬ (sq : Int) < (sp : Int) + 1 := by omega
          have HS : Hid (passTo E T (k + 1) = passTo E T k) := passTo_no hEk.out (by rw [hsp, hsq]; exact hle)
          clear hpn hqn hc0 hc1 hc2 hc3 hc4 hc5 hle hsp hsq
          go_wp2_with fail
          go_quiet (fail)
          have hq1 := hA.drewN nq
          have hq2 := below_drewN hb nq
          go_wp2_with fail
          go_roundw
          case rel => exact ⟨k + 1, by omega, by go_num, by rw [HS.out], by rw [HS.out]; exact hq1, hq2⟩
          case measure => simp [intOf]; omega
      · obtain rfl : k = ls.length := by omega
        have HPO := HP.out
        rw [HPO] at hA
        rw [HPO]
        cases ht : turned E it.length r
        · obtain ⟨_, hs2⟩ := levI_stop HE.out (by omega) ht
          have HS := Lib.hid hs2
          clear hs2
          go_wp2_with fail
          go_ret
          exact levOne_mk HS.out hA.ownI hb
        · have HT2 : Hid (∀ s < r + 1, turned E it.length s = true) := fun s hs => by
            rcases Nat.lt_or_ge s r with h1 | h1
            · exact HT.out s h1
            · rw [show s = r by omega]; exact ht
          go_wp2_with fail
          go_roundw
          case rel => exact ⟨r + 1, by omega, by go_num, HT2.out, hA, hb⟩
          case measure => simp [intOf]; omega
set_option maxRecDepth 100000 in
set_option maxHeartbeats 4000000 in
theorem levels_any (A B : Option Addr) (n c m d : Nat) (it : List It) (ls : List Bl) (w : World) (hi : ItemsIn w A n it) (hl : BillLinesIn w B m ls) (h12 : it.length ≤ 12) (h24 : ls.length ≤ 24) (hf : ∀ k (hk : k < ls.length), 0 ≤ findIt it ls[k].1 ∧ 0 ≤ findIt it ls[k].2.1) :
    Calls Try.prog 69 #[.slice A n c, .slice B m d] w (LevPair w (edges it ls) it.length) := by
  have hn := hi.len
  obtain rfl := hi.1
  obtain rfl := hl.num
  have hE := edges_lt hf
  have hEL := edges_len it ls
  have HEA := Lib.hid (fun k hk p q hp hq => edges_at it ls (k := k) hk (p := p) (q := q) hp hq)
  have HF := Lib.hid hf
  clear hf
  generalize edges it ls = E at *
  have HE := Lib.hid hE
  clear hE
  go_enter Try.func69, Try.ntmps69
  go_wp2_with (at_make; refine wpList_make_nums rfl _ _ rfl w.heap.size it.length rfl rfl rfl rfl (by omega) (by omega) ?_; intro w5 hA hA2 hA3)
  have hb0 := hA2
  clear hA2
  have hA0 : NumRow w5 w.heap.size w.heap.size it.length it.length (natI (runTo E it.length 0)) := by
    simp only [runTo]; rw [natI_zero]; exact hA
  clear hA hA3
  generalize hG : w.heap.size = g at hA0
  replace hA0 : NumRow w5 w.heap.size g it.length it.length (natI (runTo E it.length 0)) := by rw [hG]; exact hA0
  have hgl : w.heap.size ≤ g := by omega
  go_loopw [7] (fun i wr => ∃ r : Nat, r ≤ it.length + 1 ∧ i = .int .i64 r ∧ Hid (∀ s < r, turned E it.length s = true) ∧ NumRow wr w.heap.size g it.length it.length (natI (runTo E it.length r)) ∧ Below w.heap.size w wr) (fun i _ => it.length + 2 - (intOf i).toNat)
  case atStart => exact ⟨0, by omega, rfl, fun s h => absurd h (by omega), hA0, hb0⟩
  case round =>
    clear hA0 hb0
    obtain ⟨r, hr, rfl, HT, hA, hb⟩ := hrel
    obtain ⟨T, hTT⟩ : ∃ T, runTo E it.length r = T := ⟨_, rfl⟩
    have HP : Hid (passTo E T ls.length = (runTo E it.length (r + 1), turned E it.length r)) := by
      show _ = _
      unfold turned
      simp only [runTo]
      rw [← hTT, hEL]
    have HBD : Hid (∀ k, ∀ i, (passTo E T k).1.getD i 0 ≤ (it.length + 1) * ls.length + k) := by
      intro k
      refine passTo_bd T _ (fun i => ?_) k
      rw [← hTT]
      refine Nat.le_trans (runTo_bd r i) ?_
      rw [hEL]
      exact Nat.mul_le_mul_right _ (by omega)
    have hmul : (it.length + 1) * ls.length ≤ 13 * 24 := Nat.mul_le_mul (by omega) h24
    rw [hTT] at hA
    have HTT := Lib.hid hTT
    clear hTT
    have hA1 : NumRow wr w.heap.size g it.length it.length (natI (passTo E T 0).1) := hA
    clear hA
    go_wp2_with fail
    go_loopw [8, 20] (fun ch i wr => ∃ k : Nat, k ≤ ls.length ∧ i = .int .i64 k ∧ ch = .bool (passTo E T k).2 ∧ NumRow wr w.heap.size g it.length it.length (natI (passTo E T k).1) ∧ Below w.heap.size w wr) (fun _ i _ => ls.length - (intOf i).toNat)
    case atStart => exact ⟨0, by omega, rfl, rfl, hA1, hb⟩
    case round =>
      clear hA1 hb
      obtain ⟨k, hk, rfl, rfl, hA, hb⟩ := hrel
      by_cases hlt : k < ls.length
      · obtain ⟨b, o, B2, m2, c2, rfl, hbl, hc0, hc1, hc2, hc3, hc4, hc5, _⟩ := bl_at (hl.keep hb) hlt
        obtain ⟨f1, f2⟩ := HF.out k hlt
        have f3 := findIt_bd it ls[k].1
        have f4 := findIt_bd it ls[k].2.1
        obtain ⟨pn, hpn⟩ : ∃ pn : Nat, findIt it ls[k].1 = (pn : Int) := ⟨(findIt it ls[k].1).toNat, by omega⟩
        obtain ⟨qn, hqn⟩ : ∃ qn : Nat, findIt it ls[k].2.1 = (qn : Int) := ⟨(findIt it ls[k].2.1).toNat, by omega⟩
        have hEk := Lib.hid (HEA.out k hlt pn qn hpn hqn)
        rw [hpn] at f3
        rw [hqn] at f4
        have p1 : pn < it.length := by omega
        have q1 : qn < it.length := by omega
        have p2 : (0 : Int) ≤ (pn : Int) := by omega
        have q2 : (0 : Int) ≤ (qn : Int) := by omega
        have p3 : (pn : Int) < (it.length : Int) := by omega
        have q3 : (qn : Int) < (it.length : Int) := by omega
        obtain ⟨sp, hsp⟩ : ∃ x : Nat, (passTo E T k).1.getD pn 0 = x := ⟨_, rfl⟩
        obtain ⟨sq, hsq⟩ : ∃ x : Nat, (passTo E T k).1.getD qn 0 = x := ⟨_, rfl⟩
        have hbp := HBD.out k pn
        rw [hsp] at hbp
        have hw1 : IntKind.i64.wrap ((sp : Int) + 1) = (sp : Int) + 1 := IntWalk.i64_in _ (by omega)
        have e_p : wr.cell? ⟨g, pn, none⟩ = some (.int .i64 (sp : Int)) := by rw [hA.cellN p1, natD_at, hsp]
        have e_q : wr.cell? ⟨g, qn, none⟩ = some (.int .i64 (sq : Int)) := by rw [hA.cellN q1, natD_at, hsq]
        have hgw : g < wr.heap.size := hA.lt.2
        have hfz : wr.frozen? ⟨g, qn, none⟩ = false := hA.frozen qn
        have HPN := Lib.hid hpn
        have HQN := Lib.hid hqn
        clear f1 f2 f3 f4 hbp
        have hs := below_alloc wr (.cells #[.string ls[k].1, .string ls[k].2.1, .int .i64 ls[k].2.2.1, .int .i64 ls[k].2.2.2.1, .int .i64 ls[k].2.2.2.2.1, .slice B2 m2 c2] 103)
        have hB := below_on hb hs
        have hAA := hA.keep hs
        have d0 : (wr.alloc (.cells #[.string ls[k].1, .string ls[k].2.1, .int .i64 ls[k].2.2.1, .int .i64 ls[k].2.2.2.1, .int .i64 ls[k].2.2.2.2.1, .slice B2 m2 c2] 103)).cell? ⟨wr.heap.size, 0, none⟩ = some (.string ls[k].1) := by simp [go_sem]
        have d1 : (wr.alloc (.cells #[.string ls[k].1, .string ls[k].2.1, .int .i64 ls[k].2.2.1, .int .i64 ls[k].2.2.2.1, .int .i64 ls[k].2.2.2.2.1, .slice B2 m2 c2] 103)).cell? ⟨wr.heap.size, 1, none⟩ = some (.string ls[k].2.1) := by simp [go_sem]
        have dl : wr.heap.size < (wr.alloc (.cells #[.string ls[k].1, .string ls[k].2.1, .int .i64 ls[k].2.2.1, .int .i64 ls[k].2.2.2.1, .int .i64 ls[k].2.2.2.2.1, .slice B2 m2 c2] 103)).heap.size := by simp
        clear e_p e_q hfz hgw
        go_wp2_with fail
        generalize wr.alloc (.cells #[.string ls[k].1, .string ls[k].2.1, .int .i64 ls[k].2.2.1, .int .i64 ls[k].2.2.2.1, .int .i64 ls[k].2.2.2.2.1, .slice B2 m2 c2] 103) = wq at *
        generalize wr.heap.size = N at *
        clear hc0 hc1 hc2 hc3 hc4 hc5 hs hb hbl
        go_region_held3 (fun w' => w'.cell? ⟨N, 0, none⟩ = some (.string ls[k].1) ∧ w'.cell? ⟨N, 1, none⟩ = some (.string ls[k].2.1) ∧ N < w'.heap.size ∧ NumRow w' w.heap.size g it.length it.length (natI (passTo E T k).1) ∧ Below w.heap.size w w')
          (first
            | exact ⟨d0, d1, dl, hAA.drew, hB.drew⟩
            | (go_split_ands; refine ⟨?_, ?_, ?_, ?_, ?_⟩ <;> with_reducible assumption)
            | (go_split_ands; exact ⟨(hb3.cell (by with_reducible assumption)).trans (by with_reducible assumption), (hb3.cell (by with_reducible assumption)).trans (by with_reducible assumption), Nat.lt_of_lt_of_le (by with_reducible assumption) hb3.size, NumRow.keep (by with_reducible assumption) hb3, below_on (by with_reducible assumption) hb3⟩))
          (first
            | ((with_reducible refine (implFindItem_any A it.length c it ls[k].1 _ (hi.keep ?_)).mono ?_); (go_split_ands; with_reducible assumption); rintro e w3 ⟨rfl, hb3⟩; rw [hpn])
            | ((with_reducible refine (implFindItem_any A it.length c it ls[k].2.1 _ (hi.keep ?_)).mono ?_); (go_split_ands; with_reducible assumption); rintro e w3 ⟨rfl, hb3⟩; rw [hqn]))
        all_goals
          go_split_ands
          have hA5 : NumRow w3 w.heap.size g it.length it.length (natI (passTo E T k).1) := by with_reducible assumption
          have hb5 : Below w.heap.size w w3 := by with_reducible assumption
          clear hA hAA
          have e_p : w3.cell? ⟨g, pn, none⟩ = some (.int .i64 (sp : Int)) := by rw [hA5.cellN p1, natD_at, hsp]
          have e_q : w3.cell? ⟨g, qn, none⟩ = some (.int .i64 (sq : Int)) := by rw [hA5.cellN q1, natD_at, hsq]
          have hfz : w3.frozen? ⟨g, qn, none⟩ = false := hA5.frozen qn
          by_cases hle : sq ≤ sp
          · have hi1 : (sq : Int) ≤ (sp : Int) := by omega
            have HS : Hid (passTo E T (k + 1) = ((passTo E T k).1.set qn (sp + 1), true)) := by
              show _ = _
              have := passTo_yes hEk.out (by rw [hsp, hsq]; exact hle)
              rw [hsp] at this; exact this
            clear hpn hqn hle hsp hsq
            go_wp2_with fail
            go_quiet (fail)
            have hq1 := hA5.drewN nq
            have hq2 := below_drewN hb5 nq
            have hg1 : w.heap.size ≤ g := hgl
            go_wp2_with fail
            go_roundw
            case rel => exact ⟨k + 1, by omega, by go_num, by rw [HS.out], by rw [HS.out, ← natI_set]; exact hq1.set qn ((sp : Int) + 1), hq2.setCell (by exact hg1) _⟩
            case measure => simp [intOf]; omega
          · have hi1 : ¬ (sq : Int) ≤ (sp : Int) := by omega
            have HS : Hid (passTo E T (k + 1) = passTo E T k) := passTo_no hEk.out (by rw [hsp, hsq]; exact hle)
            clear hpn hqn hle hsp hsq
            go_wp2_with fail
            go_quiet (fail)
            have hq1 := hA5.drewN nq
            have hq2 := below_drewN hb5 nq
            go_wp2_with fail
            go_roundw
            case rel => exact ⟨k + 1, by omega, by go_num, by rw [HS.out], by rw [HS.out]; exact hq1, hq2⟩
            case measure => simp [intOf]; omega
      · obtain rfl : k = ls.length := by omega
        have HPO := HP.out
        rw [HPO] at hA
        rw [HPO]
        cases ht : turned E it.length r
        · obtain ⟨hs1, hs2⟩ := levI_stop HE.out (by omega) ht
          have HS := Lib.hid hs2
          have HS1 := Lib.hid hs1
          clear hs2 hs1
          go_wp2_with fail
          go_ret2
          exact levPair_mk HS1.out HS.out hA.ownI hb
        · have HT2 : Hid (∀ s < r + 1, turned E it.length s = true) := fun s hs => by
            rcases Nat.lt_or_ge s r with h1 | h1
            · exact HT.out s h1
            · rw [show s = r by omega]; exact ht
          by_cases hrn : r ≤ it.length
          · go_wp2_with fail
            go_roundw
            case rel => exact ⟨r + 1, by omega, by go_num, HT2.out, hA, hb⟩
            case measure => simp [intOf]; omega
          · have HN : Hid (turned E it.length it.length = true) := HT2.out _ (by omega)
            have HS : Hid (levI E it.length = []) := levI_none HN.out
            have hi5 : (it.length : Int) < (r : Int) := by omega
            go_wp2_with fail
            go_ret2
            exact levPair_mk HN.out HS.out (ownI_nil _ _) hb
end Go.Proofs.Ytpbibkjcjgggdaa
