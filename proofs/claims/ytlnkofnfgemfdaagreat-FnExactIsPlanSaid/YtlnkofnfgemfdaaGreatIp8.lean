/- Part 8 of the texts of this claim: The walks of l9Levels and levels; The walks of IsBills. -/
import Derived.Test.YtlnkofnfgemfdaaGreatIp7
/- The walks of l9Levels and levels. -/
namespace Go.Proofs.YtlnkofnfgemfdaaGreat
open Go.RowKit
def LevPair (w : World) (E : List (Nat × Nat)) (n : Nat) (e : Ending) (w' : World) : Prop := ∃ A' k c', e = .returned (.tuple #[.slice A' k c', .bool (!turned E n n)]) ∧ OwnInts w' w.heap.size A' k c' (levI E n) ∧ Below w.heap.size w w'
def LevOne (w : World) (E : List (Nat × Nat)) (n : Nat) (e : Ending) (w' : World) : Prop := ∃ A' k c', e = .returned (.slice A' k c') ∧ OwnInts w' w.heap.size A' k c' (levI E n) ∧ Below w.heap.size w w'
theorem levPair_mk {w w' : World} {E : List (Nat × Nat)} {n : Nat} {A' : Option Addr} {k c' : Nat} {b : Bool} {x : List Int} (hb : turned E n n = !b) (hx : levI E n = x) (h : OwnInts w' w.heap.size A' k c' x) (hB : Below w.heap.size w w') : LevPair w E n (.returned (.tuple #[.slice A' k c', .bool b])) w' := by
  subst hx
  exact ⟨A', k, c', by rw [hb, Bool.not_not], h, hB⟩
theorem levOne_mk {w w' : World} {E : List (Nat × Nat)} {n : Nat} {A' : Option Addr} {k c' : Nat} {x : List Int} (hx : levI E n = x) (h : OwnInts w' w.heap.size A' k c' x) (hB : Below w.heap.size w w') : LevOne w E n (.returned (.slice A' k c')) w' := by
  subst hx
  exact ⟨A', k, c', rfl, h, hB⟩
set_option maxRecDepth 100000 in
set_option maxHeartbeats 4000000 in
theorem l9Levels_any (A B : Option Addr) (n c m d : Nat) (it : List It) (ls : List Bl) (w : World) (hi : ItemsIn w A n it) (hl : BillLinesIn w B m ls) (h12 : it.length ≤ 12) (h24 : ls.length ≤ 24) (hf : ∀ k (hk : k < ls.length), 0 ≤ findIt it ls[k].1 ∧ 0 ≤ findIt it ls[k].2.1) :
    Calls Tryz.prog 144 #[.slice A n c, .slice B m d] w (LevOne w (edges it ls) it.length) := by
  have hn := hi.len
  obtain rfl := hi.1
  obtain rfl := hl.num
  have hE := edges_lt hf
  have hEL := edges_len it ls
  have HEA := Lib.hid (fun k hk p q hp hq => edges_at it ls (k := k) hk (p := p) (q := q) hp hq)
  have HF := Lib.hid hf
  clear hf
  generalize edges it ls = E at *
  have HE := Lib.hid hE
  clear hE
  go_enter Tryz.func144, Tryz.ntmps144
  go_wp2_with (at_make; refine wpList_make_nums rfl _ _ rfl w.heap.size it.length rfl rfl rfl rfl (by omega) (by omega) ?_; intro w5 hA hA2 hA3)
  have hb0 := hA2
  clear hA2
  have hA0 : NumRow w5 w.heap.size w.heap.size it.length it.length (natI (runTo E it.length 0)) := by
    simp only [runTo]; rw [natI_zero]; exact hA
  clear hA hA3
  generalize hG : w.heap.size = g at hA0
  replace hA0 : NumRow w5 w.heap.size g it.length it.length (natI (runTo E it.length 0)) := by rw [hG]; exact hA0
  have hgl : w.heap.size ≤ g := by omega
  go_loopw [6] (fun i wr => ∃ r : Nat, r ≤ it.length + 1 ∧ i = .int .i64 r ∧ Hid (∀ s < r, turned E it.length s = true) ∧ NumRow wr w.heap.size g it.length it.length (natI (runTo E it.length r)) ∧ Below w.heap.size w wr) (fun i _ => it.length + 2 - (intOf i).toNat)
  case atStart => exact ⟨0, by omega, rfl, fun s h => absurd h (by omega), hA0, hb0⟩
  case round =>
    clear hA0 hb0
    obtain ⟨r, hr, rfl, HT, hA, hb⟩ := hrel
    by_cases hrn : r ≤ it.length
    case neg =>
      have HN : Hid (levI E it.length = []) := levI_none (HT.out it.length (by omega))
      go_wp2_with fail
      go_ret
      exact levOne_mk HN.out (numRow_empty (H := wr.heap.size) rfl hb.size).ownI (hb.alloc hb.size _)
    obtain ⟨T, hTT⟩ : ∃ T, runTo E it.length r = T := ⟨_, rfl⟩
    have HP : Hid (passTo E T ls.length = (runTo E it.length (r + 1), turned E it.length r)) := by
      show _ = _
      unfold turned
      simp only [runTo]
      rw [← hTT, hEL]
    have HBD : Hid (∀ k, ∀ i, (passTo E T k).1.getD i 0 ≤ (it.length + 1) * ls.length + k) := by
      intro k
      refine passTo_bd T _ (fun i => ?_) k
      rw [← hTT]
      refine Nat.le_trans (runTo_bd r i) ?_
      rw [hEL]
      exact Nat.mul_le_mul_right _ (by omega)
    have hmul : (it.length + 1) * ls.length ≤ 13 * 24 := Nat.mul_le_mul (by omega) h24
    rw [hTT] at hA
    have HTT := Lib.hid hTT
    clear hTT
    have hA1 : NumRow wr w.heap.size g it.length it.length (natI (passTo E T 0).1) := hA
    clear hA
    go_wp2_with fail
    go_loopw [7, 8] (fun ch i wr => ∃ k : Nat, k ≤ ls.length ∧ i = .int .i64 k ∧ ch = .bool (passTo E T k).2 ∧ NumRow wr w.heap.size g it.length it.length (natI (passTo E T k).1) ∧ Below w.heap.size w wr) (fun _ i _ => ls.length - (intOf i).toNat)
    case atStart => exact ⟨0, by omega, rfl, rfl, hA1, hb⟩
    case round =>
      clear hA1 hb
      obtain ⟨k, hk, rfl, rfl, hA, hb⟩ := hrel
      by_cases hlt : k < ls.length
      · obtain ⟨b, o, B2, m2, c2, rfl, hbl, hc0, hc1, hc2, hc3, hc4, hc5, _⟩ := bl_at (hl.keep hb) hlt
        obtain ⟨f1, f2⟩ := HF.out k hlt
        have f3 := findIt_bd it ls[k].1
        have f4 := findIt_bd it ls[k].2.1
        obtain ⟨pn, hpn⟩ : ∃ pn : Nat, findIt it ls[k].1 = (pn : Int) := ⟨(findIt it ls[k].1).toNat, by omega⟩
        obtain ⟨qn, hqn⟩ : ∃ qn : Nat, findIt it ls[k].2.1 = (qn : Int) := ⟨(findIt it ls[k].2.1).toNat, by omega⟩
        have hEk := Lib.hid (HEA.out k hlt pn qn hpn hqn)
        rw [hpn] at f3
        rw [hqn] at f4
        have p1 : pn < it.length := by omega
        have q1 : qn < it.length := by omega
        have p2 : (0 : Int) ≤ (pn : Int) := by omega
        have q2 : (0 : Int) ≤ (qn : Int) := by omega
        have p3 : (pn : Int) < (it.length : Int) := by omega
        have q3 : (qn : Int) < (it.length : Int) := by omega
        obtain ⟨sp, hsp⟩ : ∃ x : Nat, (passTo E T k).1.getD pn 0 = x := ⟨_, rfl⟩
        obtain ⟨sq, hsq⟩ : ∃ x : Nat, (passTo E T k).1.getD qn 0 = x := ⟨_, rfl⟩
        have hbp := HBD.out k pn
        rw [hsp] at hbp
        have hw1 : IntKind.i64.wrap ((sp : Int) + 1) = (sp : Int) + 1 := IntWalk.i64_in _ (by omega)
        have e_p : wr.cell? ⟨g, pn, none⟩ = some (.int .i64 (sp : Int)) := by rw [hA.cellN p1, natD_at, hsp]
        have e_q : wr.cell? ⟨g, qn, none⟩ = some (.int .i64 (sq : Int)) := by rw [hA.cellN q1, natD_at, hsq]
        have hgw : g < wr.heap.size := hA.lt.2
        have hfz : wr.frozen? ⟨g, qn, none⟩ = false := hA.frozen qn
        have HPN := Lib.hid hpn
        have HQN := Lib.hid hqn
        clear f1 f2 f3 f4 hbp
        go_wp2_with fail
        refine (specFindItem_any _ _ _ it _ _ (hi.keep hb)).mono ?_
        rintro e v ⟨rfl, rfl⟩
        rw [hpn]
        go_wp2_with fail
        refine (specFindItem_any _ _ _ it _ _ (hi.keep hb)).mono ?_
        rintro e v ⟨rfl, rfl⟩
        rw [hqn]
        by_cases hle : sq ≤ sp
        · have hi1 : (sq : Int) < (sp : Int) + 1 := by omega
          have HS : Hid (passTo E T (k + 1) = ((passTo E T k).1.set qn (sp + 1), true)) := by
            show _ = _
            have := passTo_yes hEk.out (by rw [hsp, hsq]; exact hle)
            rw [hsp] at this; exact this
          clear hpn hqn hc0 hc1 hc2 hc3 hc4 hc5 hle hsp hsq
          go_wp2_with fail
          go_quiet (fail)
          have hq1 := hA.drewN nq
          have hq2 := below_drewN hb nq
          have hg1 : w.heap.size ≤ g := hgl
          go_wp2_with fail
          go_roundw
          case rel => exact ⟨k + 1, by omega, by go_num, by rw [HS.out], by rw [HS.out, ← natI_set]; exact hq1.set qn ((sp : Int) + 1), hq2.setCell (by exact hg1) _⟩
          case measure => simp [intOf]; omega
        · have hi1 : ¬ (sq : Int) < (sp : Int) + 1 := by omega
          have HS : Hid (passTo E T (k + 1) = passTo E T k) := passTo_no hEk.out (by rw [hsp, hsq]; exact hle)
          clear hpn hqn hc0 hc1 hc2 hc3 hc4 hc5 hle hsp hsq
          go_wp2_with fail
          go_quiet (fail)
          have hq1 := hA.drewN nq
          have hq2 := below_drewN hb nq
          go_wp2_with fail
          go_roundw
          case rel => exact ⟨k + 1, by omega, by go_num, by rw [HS.out], by rw [HS.out]; exact hq1, hq2⟩
          case measure => simp [intOf]; omega
      · obtain rfl : k = ls.length := by omega
        have HPO := HP.out
        rw [HPO] at hA
        rw [HPO]
        cases ht : turned E it.length r
        · obtain ⟨_, hs2⟩ := levI_stop HE.out (by omega) ht
          have HS := Lib.hid hs2
          clear hs2
          go_wp2_with fail
          go_ret
          exact levOne_mk HS.out hA.ownI hb
        · have HT2 : Hid (∀ s < r + 1, turned E it.length s = true) := fun s hs => by
            rcases Nat.lt_or_ge s r with h1 | h1
            · exact HT.out s h1
            · rw [show s = r by omega]; exact ht
          go_wp2_with fail
          go_roundw
          case rel => exact ⟨r + 1, by omega, by go_num, HT2.out, hA, hb⟩
          case measure => simp [intOf]; omega
set_option maxRecDepth 100000 in
set_option maxHeartbeats 4000000 in
theorem levels_any (A B : Option Addr) (n c m d : Nat) (it : List It) (ls : List Bl) (w : World) (hi : ItemsIn w A n it) (hl : BillLinesIn w B m ls) (h12 : it.length ≤ 12) (h24 : ls.length ≤ 24) (hf : ∀ k (hk : k < ls.length), 0 ≤ findIt it ls[k].1 ∧ 0 ≤ findIt it ls[k].2.1) :
    Calls Tryz.prog 149 #[.slice A n c, .slice B m d] w (LevPair w (edges it ls) it.length) := by
  have hn := hi.len
  obtain rfl := hi.1
  obtain rfl := hl.num
  have hE := edges_lt hf
  have hEL := edges_len it ls
  have HEA := Lib.hid (fun k hk p q hp hq => edges_at it ls (k := k) hk (p := p) (q := q) hp hq)
  have HF := Lib.hid hf
  clear hf
  generalize edges it ls = E at *
  have HE := Lib.hid hE
  clear hE
  go_enter Tryz.func149, Tryz.ntmps149
  go_wp2_with (at_make; refine wpList_make_nums rfl _ _ rfl w.heap.size it.length rfl rfl rfl rfl (by omega) (by omega) ?_; intro w5 hA hA2 hA3)
  have hb0 := hA2
  clear hA2
  have hA0 : NumRow w5 w.heap.size w.heap.size it.length it.length (natI (runTo E it.length 0)) := by
    simp only [runTo]; rw [natI_zero]; exact hA
  clear hA hA3
  generalize hG : w.heap.size = g at hA0
  replace hA0 : NumRow w5 w.heap.size g it.length it.length (natI (runTo E it.length 0)) := by rw [hG]; exact hA0
  have hgl : w.heap.size ≤ g := by omega
  go_loopw [7] (fun i wr => ∃ r : Nat, r ≤ it.length + 1 ∧ i = .int .i64 r ∧ Hid (∀ s < r, turned E it.length s = true) ∧ NumRow wr w.heap.size g it.length it.length (natI (runTo E it.length r)) ∧ Below w.heap.size w wr) (fun i _ => it.length + 2 - (intOf i).toNat)
  case atStart => exact ⟨0, by omega, rfl, fun s h => absurd h (by omega), hA0, hb0⟩
  case round =>
    clear hA0 hb0
    obtain ⟨r, hr, rfl, HT, hA, hb⟩ := hrel
    obtain ⟨T, hTT⟩ : ∃ T, runTo E it.length r = T := ⟨_, rfl⟩
    have HP : Hid (passTo E T ls.length = (runTo E it.length (r + 1), turned E it.length r)) := by
      show _ = _
      unfold turned
      simp only [runTo]
      rw [← hTT, hEL]
    have HBD : Hid (∀ k, ∀ i, (passTo E T k).1.getD i 0 ≤ (it.length + 1) * ls.length + k) := by
      intro k
      refine passTo_bd T _ (fun i => ?_) k
      rw [← hTT]
      refine Nat.le_trans (runTo_bd r i) ?_
      rw [hEL]
      exact Nat.mul_le_mul_right _ (by omega)
    have hmul : (it.length + 1) * ls.length ≤ 13 * 24 := Nat.mul_le_mul (by omega) h24
    rw [hTT] at hA
    have HTT := Lib.hid hTT
    clear hTT
    have hA1 : NumRow wr w.heap.size g it.length it.length (natI (passTo E T 0).1) := hA
    clear hA
    go_wp2_with fail
    go_loopw [8, 20] (fun ch i wr => ∃ k : Nat, k ≤ ls.length ∧ i = .int .i64 k ∧ ch = .bool (passTo E T k).2 ∧ NumRow wr w.heap.size g it.length it.length (natI (passTo E T k).1) ∧ Below w.heap.size w wr) (fun _ i _ => ls.length - (intOf i).toNat)
    case atStart => exact ⟨0, by omega, rfl, rfl, hA1, hb⟩
    case round =>
      clear hA1 hb
      obtain ⟨k, hk, rfl, rfl, hA, hb⟩ := hrel
      by_cases hlt : k < ls.length
      · obtain ⟨b, o, B2, m2, c2, rfl, hbl, hc0, hc1, hc2, hc3, hc4, hc5, _⟩ := bl_at (hl.keep hb) hlt
        obtain ⟨f1, f2⟩ := HF.out k hlt
        have f3 := findIt_bd it ls[k].1
        have f4 := findIt_bd it ls[k].2.1
        obtain ⟨pn, hpn⟩ : ∃ pn : Nat, findIt it ls[k].1 = (pn : Int) := ⟨(findIt it ls[k].1).toNat, by omega⟩
        obtain ⟨qn, hqn⟩ : ∃ qn : Nat, findIt it ls[k].2.1 = (qn : Int) := ⟨(findIt it ls[k].2.1).toNat, by omega⟩
        have hEk := Lib.hid (HEA.out k hlt pn qn hpn hqn)
        rw [hpn] at f3
        rw [hqn] at f4
        have p1 : pn < it.length := by omega
        have q1 : qn < it.length := by omega
        have p2 : (0 : Int) ≤ (pn : Int) := by omega
        have q2 : (0 : Int) ≤ (qn : Int) := by omega
        have p3 : (pn : Int) < (it.length : Int) := by omega
        have q3 : (qn : Int) < (it.length : Int) := by omega
        obtain ⟨sp, hsp⟩ : ∃ x : Nat, (passTo E T k).1.getD pn 0 = x := ⟨_, rfl⟩
        obtain ⟨sq, hsq⟩ : ∃ x : Nat, (passTo E T k).1.getD qn 0 = x := ⟨_, rfl⟩
        have hbp := HBD.out k pn
        rw [hsp] at hbp
        have hw1 : IntKind.i64.wrap ((sp : Int) + 1) = (sp : Int) + 1 := IntWalk.i64_in _ (by omega)
        have e_p : wr.cell? ⟨g, pn, none⟩ = some (.int .i64 (sp : Int)) := by rw [hA.cellN p1, natD_at, hsp]
        have e_q : wr.cell? ⟨g, qn, none⟩ = some (.int .i64 (sq : Int)) := by rw [hA.cellN q1, natD_at, hsq]
        have hgw : g < wr.heap.size := hA.lt.2
        have hfz : wr.frozen? ⟨g, qn, none⟩ = false := hA.frozen qn
        have HPN := Lib.hid hpn
        have HQN := Lib.hid hqn
        clear f1 f2 f3 f4 hbp
        have hs := below_alloc wr (.cells #[.string ls[k].1, .string ls[k].2.1, .int .i64 ls[k].2.2.1, .int .i64 ls[k].2.2.2.1, .int .i64 ls[k].2.2.2.2.1, .slice B2 m2 c2] 162)
        have hB := below_on hb hs
        have hAA := hA.keep hs
        have d0 : (wr.alloc (.cells #[.string ls[k].1, .string ls[k].2.1, .int .i64 ls[k].2.2.1, .int .i64 ls[k].2.2.2.1, .int .i64 ls[k].2.2.2.2.1, .slice B2 m2 c2] 162)).cell? ⟨wr.heap.size, 0, none⟩ = some (.string ls[k].1) := by simp [go_sem]
        have d1 : (wr.alloc (.cells #[.string ls[k].1, .string ls[k].2.1, .int .i64 ls[k].2.2.1, .int .i64 ls[k].2.2.2.1, .int .i64 ls[k].2.2.2.2.1, .slice B2 m2 c2] 162)).cell? ⟨wr.heap.size, 1, none⟩ = some (.string ls[k].2.1) := by simp [go_sem]
        have dl : wr.heap.size < (wr.alloc (.cells #[.string ls[k].1, .string ls[k].2.1, .int .i64 ls[k].2.2.1, .int .i64 ls[k].2.2.2.1, .int .i64 ls[k].2.2.2.2.1, .slice B2 m2 c2] 162)).heap.size := by simp
        clear e_p e_q hfz hgw
        go_wp2_with fail
        generalize wr.alloc (.cells #[.string ls[k].1, .string ls[k].2.1, .int .i64 ls[k].2.2.1, .int .i64 ls[k].2.2.2.1, .int .i64 ls[k].2.2.2.2.1, .slice B2 m2 c2] 162) = wq at *
        generalize wr.heap.size = N at *
        clear hc0 hc1 hc2 hc3 hc4 hc5 hs hb hbl
        go_region_held3 (fun w' => w'.cell? ⟨N, 0, none⟩ = some (.string ls[k].1) ∧ w'.cell? ⟨N, 1, none⟩ = some (.string ls[k].2.1) ∧ N < w'.heap.size ∧ NumRow w' w.heap.size g it.length it.length (natI (passTo E T k).1) ∧ Below w.heap.size w w')
          (first
            | exact ⟨d0, d1, dl, hAA.drew, hB.drew⟩
            | (go_split_ands; refine ⟨?_, ?_, ?_, ?_, ?_⟩ <;> with_reducible assumption)
            | (go_split_ands; exact ⟨(hb3.cell (by with_reducible assumption)).trans (by with_reducible assumption), (hb3.cell (by with_reducible assumption)).trans (by with_reducible assumption), Nat.lt_of_lt_of_le (by with_reducible assumption) hb3.size, NumRow.keep (by with_reducible assumption) hb3, below_on (by with_reducible assumption) hb3⟩))
          (first
            | ((with_reducible refine (implFindItem_any A it.length c it ls[k].1 _ (hi.keep ?_)).mono ?_); (go_split_ands; with_reducible assumption); rintro e w3 ⟨rfl, hb3⟩; rw [hpn])
            | ((with_reducible refine (implFindItem_any A it.length c it ls[k].2.1 _ (hi.keep ?_)).mono ?_); (go_split_ands; with_reducible assumption); rintro e w3 ⟨rfl, hb3⟩; rw [hqn]))
        all_goals
          go_split_ands
          have hA5 : NumRow w3 w.heap.size g it.length it.length (natI (passTo E T k).1) := by with_reducible assumption
          have hb5 : Below w.heap.size w w3 := by with_reducible assumption
          clear hA hAA
          have e_p : w3.cell? ⟨g, pn, none⟩ = some (.int .i64 (sp : Int)) := by rw [hA5.cellN p1, natD_at, hsp]
          have e_q : w3.cell? ⟨g, qn, none⟩ = some (.int .i64 (sq : Int)) := by rw [hA5.cellN q1, natD_at, hsq]
          have hfz : w3.frozen? ⟨g, qn, none⟩ = false := hA5.frozen qn
          by_cases hle : sq ≤ sp
          · have hi1 : (sq : Int) ≤ (sp : Int) := by omega
            have HS : Hid (passTo E T (k + 1) = ((passTo E T k).1.set qn (sp + 1), true)) := by
              show _ = _
              have := passTo_yes hEk.out (by rw [hsp, hsq]; exact hle)
              rw [hsp] at this; exact this
            clear hpn hqn hle hsp hsq
            go_wp2_with fail
            go_quiet (fail)
            have hq1 := hA5.drewN nq
            have hq2 := below_drewN hb5 nq
            have hg1 : w.heap.size ≤ g := hgl
            go_wp2_with fail
            go_roundw
            case rel => exact ⟨k + 1, by omega, by go_num, by rw [HS.out], by rw [HS.out, ← natI_set]; exact hq1.set qn ((sp : Int) + 1), hq2.setCell (by exact hg1) _⟩
            case measure => simp [intOf]; omega
          · have hi1 : ¬ (sq : Int) ≤ (sp : Int) := by omega
            have HS : Hid (passTo E T (k + 1) = passTo E T k) := passTo_no hEk.out (by rw [hsp, hsq]; exact hle)
            clear hpn hqn hle hsp hsq
            go_wp2_with fail
            go_quiet (fail)
            have hq1 := hA5.drewN nq
            have hq2 := below_drewN hb5 nq
            go_wp2_with fail
            go_roundw
            case rel => exact ⟨k + 1, by omega, by go_num, by rw [HS.out], by rw [HS.out]; exact hq1, hq2⟩
            case measure => simp [intOf]; omega
      · obtain rfl : k = ls.length := by omega
        have HPO := HP.out
        rw [HPO] at hA
        rw [HPO]
        cases ht : turned E it.length r
        · obtain ⟨hs1, hs2⟩ := levI_stop HE.out (by omega) ht
          have HS := Lib.hid hs2
          have HS1 := Lib.hid hs1
          clear hs2 hs1
          go_wp2_with fail
          go_ret2
          exact levPair_mk HS1.out HS.out hA.ownI hb
        · have HT2 : Hid (∀ s < r + 1, turned E it.length s = true) := fun s hs => by
            rcases Nat.lt_or_ge s r with h1 | h1
            · exact HT.out s h1
            · rw [show s = r by omega]; exact ht
          by_cases hrn : r ≤ it.length
          · go_wp2_with fail
            go_roundw
            case rel => exact ⟨r + 1, by omega, by go_num, HT2.out, hA, hb⟩
            case measure => simp [intOf]; omega
          · have HN : Hid (turned E it.length it.length = true) := HT2.out _ (by omega)
            have HS : Hid (levI E it.length = []) := levI_none HN.out
            have hi5 : (it.length : Int) < (r : Int) := by omega
            go_wp2_with fail
            go_ret2
            exact levPair_mk HN.out HS.out (ownI_nil _ _) hb
end Go.Proofs.YtlnkofnfgemfdaaGreat
/- The walks of IsBills. -/
namespace Go.Proofs.YtlnkofnfgemfdaaGreat
open Go.RowKit
def okLine (it : List It) (x : Bl) : Bool :=
  decide (0 ≤ findIt it x.1) && (decide (0 ≤ findIt it x.2.1) && ((!((it.getD (findIt it x.1).toNat itNone).2.2.1 == 0)) && (inB x.2.2.1 1 1000 && (inB x.2.2.2.1 0 999 && (inB x.2.2.2.2.1 x.2.2.2.1 999 && isCond x.2.2.2.2.2)))))
def isBills (it : List It) (ls : List Bl) : Bool := (isCat it && decide ((ls.length : Int) ≤ 24)) && (ls.all (okLine it) && !turned (edges it ls) it.length it.length)
theorem isBills_no {it : List It} {ls : List Bl} (h : (isCat it && decide ((ls.length : Int) ≤ 24)) = false) : isBills it ls = false := by unfold isBills; rw [h]; rfl
theorem isBills_bad {it : List It} {ls : List Bl} {k : Nat} (hk : k < ls.length) (h : okLine it ls[k] = false) : isBills it ls = false := by
  unfold isBills; rw [all_false ls _ k hk h]; simp
theorem isBills_end {it : List It} {ls : List Bl} (h1 : isCat it = true) (h2 : (ls.length : Int) ≤ 24) (h3 : (ls.take ls.length).all (okLine it) = true) : isBills it ls = !turned (edges it ls) it.length it.length := by
  rw [List.take_length] at h3
  unfold isBills; rw [h1, decide_eq_true h2, h3]; rfl
theorem isBills_parts {it : List It} {ls : List Bl} (h : isBills it ls = true) : isCat it = true ∧ ls.length ≤ 24 ∧ (∀ k (hk : k < ls.length), okLine it ls[k] = true) ∧ turned (edges it ls) it.length it.length = false := by
  simp only [isBills, Bool.and_eq_true, decide_eq_true_eq, Bool.not_eq_true', List.all_eq_true] at h
  exact ⟨h.1.1, by omega, fun k hk => h.2.1 _ (List.getElem_mem hk), h.2.2⟩
theorem okLine_parts {it : List It} {x : Bl} (h : okLine it x = true) : 0 ≤ findIt it x.1 ∧ 0 ≤ findIt it x.2.1 ∧ (1 ≤ x.2.2.1 ∧ x.2.2.1 ≤ 1000) ∧ (0 ≤ x.2.2.2.1 ∧ x.2.2.2.1 ≤ 999) ∧ (x.2.2.2.1 ≤ x.2.2.2.2.1 ∧ x.2.2.2.2.1 ≤ 999) ∧ isCond x.2.2.2.2.2 = true := by
  simp only [okLine, Bool.and_eq_true, inB_iff, decide_eq_true_eq] at h
  obtain ⟨h1, h2, _, h3, h4, h5, h6⟩ := h
  exact ⟨h1, h2, h3, h4, h5, h6⟩
theorem okLine_f {it : List It} {ls : List Bl} (h : (ls.take ls.length).all (okLine it) = true) : ∀ k (hk : k < ls.length), 0 ≤ findIt it ls[k].1 ∧ 0 ≤ findIt it ls[k].2.1 := by
  rw [List.take_length, List.all_eq_true] at h
  intro k hk
  have := okLine_parts (h _ (List.getElem_mem hk))
  exact ⟨this.1, this.2.1⟩
theorem okLine_eq {it : List It} {x : Bl} {p q : Nat} {b1 b2 b3 b4 b5 : Bool} (hp : findIt it x.1 = (p : Int)) (hq : findIt it x.2.1 = (q : Int)) (hp1 : p < it.length) (h1 : (it[p].2.2.1 == 0) = b1) (h2 : inB x.2.2.1 1 1000 = b2) (h3 : inB x.2.2.2.1 0 999 = b3) (h4 : inB x.2.2.2.2.1 x.2.2.2.1 999 = b4) (h5 : isCond x.2.2.2.2.2 = b5) :
    okLine it x = (!b1 && (b2 && (b3 && (b4 && b5)))) := by
  unfold okLine
  rw [hp, hq, h2, h3, h4, h5, decide_eq_true (by omega), decide_eq_true (by omega), Int.toNat_natCast, it_getD _ _ hp1, h1]
  rfl
set_option maxRecDepth 100000 in
set_option maxHeartbeats 4000000 in
theorem specIsBills_any (A B : Option Addr) (n c m d : Nat) (it : List It) (ls : List Bl) (w : World) (hi : ItemsIn w A n it) (hl : BillLinesIn w B m ls) (hoki : ∀ x ∈ it, okIt x) (hokl : ∀ x ∈ ls, okBl x) :
    Calls Tryz.prog 99 #[.slice A n c, .slice B m d] w fun e w' => e = .returned (.bool (isBills it ls)) ∧ Below w.heap.size w w' := by
  have hn := hi.len
  have hm := hl.len
  obtain rfl := hi.1
  obtain rfl := hl.num
  have HO := Lib.hid hoki
  have HOL := Lib.hid hokl
  clear hoki hokl
  cases g1 : isCat it
  · have HF : Hid (isBills it ls = false) := isBills_no (by rw [g1]; rfl)
    go_enter Tryz.func99, Tryz.ntmps99
    go_wp2_with fail
    refine (specIsCatalog_any _ _ _ it _ hi HO.out).mono ?_
    rintro e w1 ⟨rfl, hb⟩
    rw [g1]
    go_wp2_with fail
    go_ret
    exact ⟨ret_bool HF.out.symm, hb⟩
  by_cases h24 : (ls.length : Int) ≤ 24
  case neg =>
    have HF : Hid (isBills it ls = false) := isBills_no (by rw [decide_eq_false h24]; simp)
    go_enter Tryz.func99, Tryz.ntmps99
    go_wp2_with fail
    refine (specIsCatalog_any _ _ _ it _ hi HO.out).mono ?_
    rintro e w1 ⟨rfl, hb⟩
    rw [g1]
    go_wp2_with fail
    go_ret
    exact ⟨ret_bool HF.out.symm, hb⟩
  go_enter Tryz.func99, Tryz.ntmps99
  go_wp2_with fail
  refine (specIsCatalog_any _ _ _ it _ hi HO.out).mono ?_
  rintro e w1 ⟨rfl, hb⟩
  rw [g1]
  go_wp2_with fail
  go_loopw [5] (fun i wr => ∃ k : Nat, k ≤ ls.length ∧ i = .int .i64 k ∧ Hid ((ls.take k).all (okLine it) = true) ∧ Below w.heap.size w wr) (fun i _ => ls.length - (intOf i).toNat)
  case atStart => exact ⟨0, by omega, rfl, rfl, hb⟩
  case round =>
    clear hb
    obtain ⟨k, hk, rfl, HI, hb⟩ := hrel
    by_cases hlt : k < ls.length
    · obtain ⟨b, o, B2, m2, c2, rfl, hbl, hc0, hc1, hc2, hc3, hc4, hc5, hcd⟩ := bl_at (hl.keep hb) hlt
      have hokn := HOL.out _ (List.getElem_mem hlt)
      have HKN : Hid (∀ y ∈ ls[k].2.2.2.2.2, okCn y) := by unfold okBl at hokn; exact hokn.2.2
      clear hokn
      obtain ⟨f3, f3b⟩ := findIt_bd it ls[k].1
      obtain ⟨f4, f4b⟩ := findIt_bd it ls[k].2.1
      have hs := below_alloc wr (.cells #[.string ls[k].1, .string ls[k].2.1, .int .i64 ls[k].2.2.1, .int .i64 ls[k].2.2.2.1, .int .i64 ls[k].2.2.2.2.1, .slice B2 m2 c2] 162)
      have hB := below_on hb hs
      have hcd2 := hcd.keep hs
      have d0 : (wr.alloc (.cells #[.string ls[k].1, .string ls[k].2.1, .int .i64 ls[k].2.2.1, .int .i64 ls[k].2.2.2.1, .int .i64 ls[k].2.2.2.2.1, .slice B2 m2 c2] 162)).cell? ⟨wr.heap.size, 0, none⟩ = some (.string ls[k].1) := by simp [go_sem]
      have d1 : (wr.alloc (.cells #[.string ls[k].1, .string ls[k].2.1, .int .i64 ls[k].2.2.1, .int .i64 ls[k].2.2.2.1, .int .i64 ls[k].2.2.2.2.1, .slice B2 m2 c2] 162)).cell? ⟨wr.heap.size, 1, none⟩ = some (.string ls[k].2.1) := by simp [go_sem]
      have d2 : (wr.alloc (.cells #[.string ls[k].1, .string ls[k].2.1, .int .i64 ls[k].2.2.1, .int .i64 ls[k].2.2.2.1, .int .i64 ls[k].2.2.2.2.1, .slice B2 m2 c2] 162)).cell? ⟨wr.heap.size, 2, none⟩ = some (.int .i64 ls[k].2.2.1) := by simp [go_sem]
      have d3 : (wr.alloc (.cells #[.string ls[k].1, .string ls[k].2.1, .int .i64 ls[k].2.2.1, .int .i64 ls[k].2.2.2.1, .int .i64 ls[k].2.2.2.2.1, .slice B2 m2 c2] 162)).cell? ⟨wr.heap.size, 3, none⟩ = some (.int .i64 ls[k].2.2.2.1) := by simp [go_sem]
      have d4 : (wr.alloc (.cells #[.string ls[k].1, .string ls[k].2.1, .int .i64 ls[k].2.2.1, .int .i64 ls[k].2.2.2.1, .int .i64 ls[k].2.2.2.2.1, .slice B2 m2 c2] 162)).cell? ⟨wr.heap.size, 4, none⟩ = some (.int .i64 ls[k].2.2.2.2.1) := by simp [go_sem]
      have d5 : (wr.alloc (.cells #[.string ls[k].1, .string ls[k].2.1, .int .i64 ls[k].2.2.1, .int .i64 ls[k].2.2.2.1, .int .i64 ls[k].2.2.2.2.1, .slice B2 m2 c2] 162)).cell? ⟨wr.heap.size, 5, none⟩ = some (.slice B2 m2 c2) := by simp [go_sem]
      have dl : wr.heap.size < (wr.alloc (.cells #[.string ls[k].1, .string ls[k].2.1, .int .i64 ls[k].2.2.1, .int .i64 ls[k].2.2.2.1, .int .i64 ls[k].2.2.2.2.1, .slice B2 m2 c2] 162)).heap.size := by simp
      go_wp2_with fail
      generalize wr.alloc (.cells #[.string ls[k].1, .string ls[k].2.1, .int .i64 ls[k].2.2.1, .int .i64 ls[k].2.2.2.1, .int .i64 ls[k].2.2.2.2.1, .slice B2 m2 c2] 162) = wq at *
      generalize wr.heap.size = N at *
      clear hc0 hc1 hc2 hc3 hc4 hc5 hs hb hbl hcd
      refine (specFindItem_any _ _ _ it _ _ (hi.keep hB)).mono ?_
      rintro e v ⟨rfl, rfl⟩
      go_wp2_with fail
      refine (specFindItem_any _ _ _ it _ _ (hi.keep hB)).mono ?_
      rintro e v ⟨rfl, rfl⟩
      by_cases f1 : 0 ≤ findIt it ls[k].1
      case neg =>
        have HF : Hid (isBills it ls = false) := isBills_bad hlt (by unfold okLine; rw [decide_eq_false f1]; rfl)
        have f5 : findIt it ls[k].1 < 0 := by omega
        clear f3 f4 f3b f4b f1
        go_wp2_with (go_at_call 101; refine (l1In_any _ _ _ _).mono ?_; rintro e w' ⟨rfl, rfl⟩)
        go_ret
        exact ⟨ret_bool HF.out.symm, hB⟩
      by_cases f2 : 0 ≤ findIt it ls[k].2.1
      case neg =>
        have HF : Hid (isBills it ls = false) := isBills_bad hlt (by unfold okLine; rw [decide_eq_true f1, decide_eq_false f2]; rfl)
        have f5 : findIt it ls[k].2.1 < 0 := by omega
        clear f3 f4 f3b f4b f2
        go_wp2_with (go_at_call 101; refine (l1In_any _ _ _ _).mono ?_; rintro e w' ⟨rfl, rfl⟩)
        go_ret
        exact ⟨ret_bool HF.out.symm, hB⟩
      obtain ⟨pn, hpn⟩ : ∃ pn : Nat, findIt it ls[k].1 = (pn : Int) := ⟨(findIt it ls[k].1).toNat, by omega⟩
      obtain ⟨qn, hqn⟩ : ∃ qn : Nat, findIt it ls[k].2.1 = (qn : Int) := ⟨(findIt it ls[k].2.1).toNat, by omega⟩
      have p1 : pn < it.length := by omega
      have p2 : (pn : Int) < (it.length : Int) := by omega
      obtain ⟨bi, oi, rfl, _, _, _, hk2, _⟩ := item_at (hi.keep hB) p1
      rw [hpn, hqn]
      have HPN := Lib.hid hpn
      have HQN := Lib.hid hqn
      clear f1 f2 f3 f4 f3b f4b hpn hqn
      cases q0 : (it[pn].2.2.1 == 0)
      case true =>
        have HF : Hid (isBills it ls = false) := isBills_bad hlt ((okLine_eq HPN.out HQN.out p1 q0 rfl rfl rfl rfl).trans (by simp))
        go_wp2_with (go_at_call 101; refine (l1In_any _ _ _ _).mono ?_; rintro e w' ⟨rfl, rfl⟩)
        go_ret
        exact ⟨ret_bool HF.out.symm, hB⟩
      cases q1 : inB ls[k].2.2.1 1 1000
      · have HF : Hid (isBills it ls = false) := isBills_bad hlt ((okLine_eq HPN.out HQN.out p1 q0 q1 rfl rfl rfl).trans (by simp))
        go_wp2_with (go_at_call 101; refine (l1In_any _ _ _ _).mono ?_; rintro e w' ⟨rfl, rfl⟩)
        go_ret
        exact ⟨ret_bool HF.out.symm, hB⟩
      cases q2 : inB ls[k].2.2.2.1 0 999
      · have HF : Hid (isBills it ls = false) := isBills_bad hlt ((okLine_eq HPN.out HQN.out p1 q0 q1 q2 rfl rfl).trans (by simp))
        go_wp2_with (go_at_call 101; refine (l1In_any _ _ _ _).mono ?_; rintro e w' ⟨rfl, rfl⟩)
        go_ret
        exact ⟨ret_bool HF.out.symm, hB⟩
      cases q3 : inB ls[k].2.2.2.2.1 ls[k].2.2.2.1 999
      · have HF : Hid (isBills it ls = false) := isBills_bad hlt ((okLine_eq HPN.out HQN.out p1 q0 q1 q2 q3 rfl).trans (by simp))
        go_wp2_with (go_at_call 101; refine (l1In_any _ _ _ _).mono ?_; rintro e w' ⟨rfl, rfl⟩)
        go_ret
        exact ⟨ret_bool HF.out.symm, hB⟩
      cases q4 : isCond ls[k].2.2.2.2.2
      · have HF : Hid (isBills it ls = false) := isBills_bad hlt ((okLine_eq HPN.out HQN.out p1 q0 q1 q2 q3 q4).trans (by simp))
        go_wp2_with (go_at_call 101; refine (l1In_any _ _ _ _).mono ?_; rintro e w' ⟨rfl, rfl⟩)
        refine (specIsCond_any _ _ _ ls[k].2.2.2.2.2 _ hcd2 HKN.out).mono ?_
        rintro e w6 ⟨rfl, hb6⟩
        rw [q4]
        go_wp2_with fail
        go_ret
        exact ⟨ret_bool HF.out.symm, below_on hB hb6⟩
      have HF : Hid ((ls.take (k + 1)).all (okLine it) = true) := by
        show _ = _
        rw [all_take ls _ k hlt, HI.out, okLine_eq HPN.out HQN.out p1 q0 q1 q2 q3 q4]; rfl
      go_wp2_with (go_at_call 101; refine (l1In_any _ _ _ _).mono ?_; rintro e w' ⟨rfl, rfl⟩)
      refine (specIsCond_any _ _ _ ls[k].2.2.2.2.2 _ hcd2 HKN.out).mono ?_
      rintro e w6 ⟨rfl, hb6⟩
      rw [q4]
      go_wp2_with fail
      go_roundw
      case rel => exact ⟨k + 1, by omega, by go_num, HF.out, below_on hB hb6⟩
      case measure => simp [intOf]; omega
    · obtain rfl : k = ls.length := by omega
      have HE := Lib.hid (isBills_end g1 h24 HI.out)
      have HLN := Lib.hid (levI_len (E := edges it ls) (n := it.length))
      have HLT := Lib.hid (edges_lt (okLine_f HI.out))
      go_wp2_with fail
      refine (l9Levels_any _ _ _ _ _ _ it ls _ (hi.keep hb) (hl.keep hb) (isCat_len g1) (by omega) (okLine_f HI.out)).mono ?_
      rintro e w6 ⟨A', k6, c', rfl, hown, hb6⟩
      have h6 := hown.1
      rw [HLN.out] at h6
      cases ht : turned (edges it ls) it.length it.length
      · rw [ht] at h6
        obtain rfl : k6 = it.length := h6
        have HT : Hid (isBills it ls = true) := by show _ = _; rw [HE.out, ht]; rfl
        clear hown
        go_wp2_with fail
        go_ret
        exact ⟨ret_bool HT.out.symm, below_on hb hb6⟩
      · rw [ht] at h6
        obtain rfl : k6 = 0 := h6
        have hpos := turned_pos HLT.out ht
        have HT : Hid (isBills it ls = false) := by show _ = _; rw [HE.out, ht]; rfl
        have hq : ((0 : Int) == (it.length : Int)) = false := by rw [beq_eq_false_iff_ne]; omega
        clear hown hpos
        go_wp2_with fail
        go_ret
        exact ⟨ret_bool HT.out.symm, below_on hb hb6⟩
set_option maxRecDepth 100000 in
set_option maxHeartbeats 4000000 in
theorem implIsBills_any (A B : Option Addr) (n c m d : Nat) (it : List It) (ls : List Bl) (w : World) (hi : ItemsIn w A n it) (hl : BillLinesIn w B m ls) (hoki : ∀ x ∈ it, okIt x) (hokl : ∀ x ∈ ls, okBl x) :
    Calls Tryz.prog 115 #[.slice A n c, .slice B m d] w fun e w' => e = .returned (.bool (isBills it ls)) ∧ Below w.heap.size w w' := by
  have hn := hi.len
  have hm := hl.len
  obtain rfl := hi.1
  obtain rfl := hl.num
  have HO := Lib.hid hoki
  have HOL := Lib.hid hokl
  clear hoki hokl
  cases g1 : isCat it
  · have HF : Hid (isBills it ls = false) := isBills_no (by rw [g1]; rfl)
    go_enter Tryz.func115, Tryz.ntmps115
    go_wp2_with fail
    refine (implIsCatalog_any _ _ _ it _ hi HO.out).mono ?_
    rintro e w1 ⟨rfl, hb⟩
    rw [g1]
    go_wp2_with fail
    go_ret
    exact ⟨ret_bool HF.out.symm, hb⟩
  by_cases h24 : (ls.length : Int) ≤ 24
  case neg =>
    have HF : Hid (isBills it ls = false) := isBills_no (by rw [decide_eq_false h24]; simp)
    go_enter Tryz.func115, Tryz.ntmps115
    go_wp2_with fail
    refine (implIsCatalog_any _ _ _ it _ hi HO.out).mono ?_
    rintro e w1 ⟨rfl, hb⟩
    rw [g1]
    go_wp2_with fail
    go_ret
    exact ⟨ret_bool HF.out.symm, hb⟩
  go_enter Tryz.func115, Tryz.ntmps115
  go_wp2_with fail
  refine (implIsCatalog_any _ _ _ it _ hi HO.out).mono ?_
  rintro e w1 ⟨rfl, hb⟩
  rw [g1]
  go_wp2_with fail
  go_loopw [21] (fun i wr => ∃ k : Nat, k ≤ ls.length ∧ i = .int .i64 k ∧ Hid ((ls.take k).all (okLine it) = true) ∧ Below w.heap.size w wr) (fun i _ => ls.length - (intOf i).toNat)
  case atStart => exact ⟨0, by omega, rfl, rfl, hb⟩
  case round =>
    clear hb
    obtain ⟨k, hk, rfl, HI, hb⟩ := hrel
    by_cases hlt : k < ls.length
    · obtain ⟨b, o, B2, m2, c2, rfl, hbl, hc0, hc1, hc2, hc3, hc4, hc5, hcd⟩ := bl_at (hl.keep hb) hlt
      have hokn := HOL.out _ (List.getElem_mem hlt)
      have HKN : Hid (∀ y ∈ ls[k].2.2.2.2.2, okCn y) := by unfold okBl at hokn; exact hokn.2.2
      clear hokn
      obtain ⟨f3, f3b⟩ := findIt_bd it ls[k].1
      obtain ⟨f4, f4b⟩ := findIt_bd it ls[k].2.1
      have hs := below_alloc wr (.cells #[.string ls[k].1, .string ls[k].2.1, .int .i64 ls[k].2.2.1, .int .i64 ls[k].2.2.2.1, .int .i64 ls[k].2.2.2.2.1, .slice B2 m2 c2] 162)
      have hB := below_on hb hs
      have hcd2 := hcd.keep hs
      have d0 : (wr.alloc (.cells #[.string ls[k].1, .string ls[k].2.1, .int .i64 ls[k].2.2.1, .int .i64 ls[k].2.2.2.1, .int .i64 ls[k].2.2.2.2.1, .slice B2 m2 c2] 162)).cell? ⟨wr.heap.size, 0, none⟩ = some (.string ls[k].1) := by simp [go_sem]
      have d1 : (wr.alloc (.cells #[.string ls[k].1, .string ls[k].2.1, .int .i64 ls[k].2.2.1, .int .i64 ls[k].2.2.2.1, .int .i64 ls[k].2.2.2.2.1, .slice B2 m2 c2] 162)).cell? ⟨wr.heap.size, 1, none⟩ = some (.string ls[k].2.1) := by simp [go_sem]
      have d2 : (wr.alloc (.cells #[.string ls[k].1, .string ls[k].2.1, .int .i64 ls[k].2.2.1, .int .i64 ls[k].2.2.2.1, .int .i64 ls[k].2.2.2.2.1, .slice B2 m2 c2] 162)).cell? ⟨wr.heap.size, 2, none⟩ = some (.int .i64 ls[k].2.2.1) := by simp [go_sem]
      have d3 : (wr.alloc (.cells #[.string ls[k].1, .string ls[k].2.1, .int .i64 ls[k].2.2.1, .int .i64 ls[k].2.2.2.1, .int .i64 ls[k].2.2.2.2.1, .slice B2 m2 c2] 162)).cell? ⟨wr.heap.size, 3, none⟩ = some (.int .i64 ls[k].2.2.2.1) := by simp [go_sem]
      have d4 : (wr.alloc (.cells #[.string ls[k].1, .string ls[k].2.1, .int .i64 ls[k].2.2.1, .int .i64 ls[k].2.2.2.1, .int .i64 ls[k].2.2.2.2.1, .slice B2 m2 c2] 162)).cell? ⟨wr.heap.size, 4, none⟩ = some (.int .i64 ls[k].2.2.2.2.1) := by simp [go_sem]
      have d5 : (wr.alloc (.cells #[.string ls[k].1, .string ls[k].2.1, .int .i64 ls[k].2.2.1, .int .i64 ls[k].2.2.2.1, .int .i64 ls[k].2.2.2.2.1, .slice B2 m2 c2] 162)).cell? ⟨wr.heap.size, 5, none⟩ = some (.slice B2 m2 c2) := by simp [go_sem]
      have dl : wr.heap.size < (wr.alloc (.cells #[.string ls[k].1, .string ls[k].2.1, .int .i64 ls[k].2.2.1, .int .i64 ls[k].2.2.2.1, .int .i64 ls[k].2.2.2.2.1, .slice B2 m2 c2] 162)).heap.size := by simp
      go_wp2_with fail
      generalize wr.alloc (.cells #[.string ls[k].1, .string ls[k].2.1, .int .i64 ls[k].2.2.1, .int .i64 ls[k].2.2.2.1, .int .i64 ls[k].2.2.2.2.1, .slice B2 m2 c2] 162) = wq at *
      generalize wr.heap.size = N at *
      clear hc0 hc1 hc2 hc3 hc4 hc5 hs hb hbl hcd
      go_region_held3 (fun w' => w'.cell? ⟨N, 0, none⟩ = some (.string ls[k].1) ∧ w'.cell? ⟨N, 1, none⟩ = some (.string ls[k].2.1) ∧ w'.cell? ⟨N, 2, none⟩ = some (.int .i64 ls[k].2.2.1) ∧ w'.cell? ⟨N, 3, none⟩ = some (.int .i64 ls[k].2.2.2.1) ∧ w'.cell? ⟨N, 4, none⟩ = some (.int .i64 ls[k].2.2.2.2.1) ∧ w'.cell? ⟨N, 5, none⟩ = some (.slice B2 m2 c2) ∧ N < w'.heap.size ∧ CondsIn w' B2 m2 ls[k].2.2.2.2.2 ∧ Below w.heap.size w w')
        (first
          | exact ⟨d0, d1, d2, d3, d4, d5, dl, hcd2.keep (Below.refl _ _).drew, hB.drew⟩
          | (go_split_ands; refine ⟨?_, ?_, ?_, ?_, ?_, ?_, ?_, ?_, ?_⟩ <;> with_reducible assumption)
          | (go_split_ands; exact ⟨(hb3.cell (by with_reducible assumption)).trans (by with_reducible assumption), (hb3.cell (by with_reducible assumption)).trans (by with_reducible assumption), (hb3.cell (by with_reducible assumption)).trans (by with_reducible assumption), (hb3.cell (by with_reducible assumption)).trans (by with_reducible assumption), (hb3.cell (by with_reducible assumption)).trans (by with_reducible assumption), (hb3.cell (by with_reducible assumption)).trans (by with_reducible assumption), Nat.lt_of_lt_of_le (by with_reducible assumption) hb3.size, RowsIn.keep (by with_reducible assumption) hb3, below_on (by with_reducible assumption) hb3⟩))
        (first
          | ((with_reducible refine (implFindItem_any A it.length c it ls[k].1 _ (hi.keep ?_)).mono ?_); (go_split_ands; with_reducible assumption); rintro e w3 ⟨rfl, hb3⟩)
          | ((with_reducible refine (implFindItem_any A it.length c it ls[k].2.1 _ (hi.keep ?_)).mono ?_); (go_split_ands; with_reducible assumption); rintro e w3 ⟨rfl, hb3⟩))
      all_goals
        go_split_ands
        have hB3 : Below w.heap.size w w3 := by with_reducible assumption
        have hcd3 : CondsIn w3 B2 m2 ls[k].2.2.2.2.2 := by with_reducible assumption
        clear hB hcd2 d0 d1 d2 d3 d4 d5 dl
        by_cases f1 : 0 ≤ findIt it ls[k].1
        case neg =>
          have HF : Hid (isBills it ls = false) := isBills_bad hlt (by unfold okLine; rw [decide_eq_false f1]; rfl)
          have f5 : findIt it ls[k].1 < 0 := by omega
          clear f3 f4 f3b f4b f1
          go_wp2_with (go_at_call 117; refine (in_any _ _ _ _).mono ?_; rintro e w' ⟨rfl, rfl⟩)
          go_ret
          exact ⟨ret_bool HF.out.symm, hB3⟩
        by_cases f2 : 0 ≤ findIt it ls[k].2.1
        case neg =>
          have HF : Hid (isBills it ls = false) := isBills_bad hlt (by unfold okLine; rw [decide_eq_true f1, decide_eq_false f2]; rfl)
          have f5 : findIt it ls[k].2.1 < 0 := by omega
          clear f3 f4 f3b f4b f2
          go_wp2_with (go_at_call 117; refine (in_any _ _ _ _).mono ?_; rintro e w' ⟨rfl, rfl⟩)
          go_ret
          exact ⟨ret_bool HF.out.symm, hB3⟩
        obtain ⟨pn, hpn⟩ : ∃ pn : Nat, findIt it ls[k].1 = (pn : Int) := ⟨(findIt it ls[k].1).toNat, by omega⟩
        obtain ⟨qn, hqn⟩ : ∃ qn : Nat, findIt it ls[k].2.1 = (qn : Int) := ⟨(findIt it ls[k].2.1).toNat, by omega⟩
        have p1 : pn < it.length := by omega
        have p2 : (pn : Int) < (it.length : Int) := by omega
        obtain ⟨bi, oi, rfl, _, _, _, hk2, _⟩ := item_at (hi.keep hB3) p1
        rw [hpn, hqn]
        have HPN := Lib.hid hpn
        have HQN := Lib.hid hqn
        clear f1 f2 f3 f4 f3b f4b hpn hqn
        cases q0 : (it[pn].2.2.1 == 0)
        case true =>
          have HF : Hid (isBills it ls = false) := isBills_bad hlt ((okLine_eq HPN.out HQN.out p1 q0 rfl rfl rfl rfl).trans (by simp))
          go_wp2_with (go_at_call 117; refine (in_any _ _ _ _).mono ?_; rintro e w' ⟨rfl, rfl⟩)
          go_ret
          exact ⟨ret_bool HF.out.symm, hB3⟩
        cases q1 : inB ls[k].2.2.1 1 1000
        · have HF : Hid (isBills it ls = false) := isBills_bad hlt ((okLine_eq HPN.out HQN.out p1 q0 q1 rfl rfl rfl).trans (by simp))
          go_wp2_with (go_at_call 117; refine (in_any _ _ _ _).mono ?_; rintro e w' ⟨rfl, rfl⟩)
          go_ret
          exact ⟨ret_bool HF.out.symm, hB3⟩
        cases q2 : inB ls[k].2.2.2.1 0 999
        · have HF : Hid (isBills it ls = false) := isBills_bad hlt ((okLine_eq HPN.out HQN.out p1 q0 q1 q2 rfl rfl).trans (by simp))
          go_wp2_with (go_at_call 117; refine (in_any _ _ _ _).mono ?_; rintro e w' ⟨rfl, rfl⟩)
          go_ret
          exact ⟨ret_bool HF.out.symm, hB3⟩
        cases q3 : inB ls[k].2.2.2.2.1 ls[k].2.2.2.1 999
        · have HF : Hid (isBills it ls = false) := isBills_bad hlt ((okLine_eq HPN.out HQN.out p1 q0 q1 q2 q3 rfl).trans (by simp))
          go_wp2_with (go_at_call 117; refine (in_any _ _ _ _).mono ?_; rintro e w' ⟨rfl, rfl⟩)
          go_ret
          exact ⟨ret_bool HF.out.symm, hB3⟩
        cases q4 : isCond ls[k].2.2.2.2.2
        · have HF : Hid (isBills it ls = false) := isBills_bad hlt ((okLine_eq HPN.out HQN.out p1 q0 q1 q2 q3 q4).trans (by simp))
          go_wp2_with (go_at_call 117; refine (in_any _ _ _ _).mono ?_; rintro e w' ⟨rfl, rfl⟩)
          refine (implIsCond_any _ _ _ ls[k].2.2.2.2.2 _ hcd3 HKN.out).mono ?_
          rintro e w6 ⟨rfl, hb6⟩
          rw [q4]
          go_wp2_with fail
          go_ret
          exact ⟨ret_bool HF.out.symm, below_on hB3 hb6⟩
        have HF : Hid ((ls.take (k + 1)).all (okLine it) = true) := by
          show _ = _
          rw [all_take ls _ k hlt, HI.out, okLine_eq HPN.out HQN.out p1 q0 q1 q2 q3 q4]; rfl
        go_wp2_with (go_at_call 117; refine (in_any _ _ _ _).mono ?_; rintro e w' ⟨rfl, rfl⟩)
        refine (implIsCond_any _ _ _ ls[k].2.2.2.2.2 _ hcd3 HKN.out).mono ?_
        rintro e w6 ⟨rfl, hb6⟩
        rw [q4]
        go_wp2_with fail
        go_roundw
        case rel => exact ⟨k + 1, by omega, by go_num, HF.out, below_on hB3 hb6⟩
        case measure => simp [intOf]; omega
    · obtain rfl : k = ls.length := by omega
      have HE := Lib.hid (isBills_end g1 h24 HI.out)
      have HLN := Lib.hid (levI_len (E := edges it ls) (n := it.length))
      have HLT := Lib.hid (edges_lt (okLine_f HI.out))
      go_wp2_with fail
      refine (levels_any _ _ _ _ _ _ it ls _ (hi.keep hb) (hl.keep hb) (isCat_len g1) (by omega) (okLine_f HI.out)).mono ?_
      rintro e w6 ⟨A', k6, c', rfl, _, hb6⟩
      go_wp2_with fail
      go_ret
      exact ⟨ret_bool HE.out.symm, below_on hb hb6⟩
end Go.Proofs.YtlnkofnfgemfdaaGreat
