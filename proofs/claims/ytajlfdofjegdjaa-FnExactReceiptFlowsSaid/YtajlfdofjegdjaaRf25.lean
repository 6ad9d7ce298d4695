/- Part 25 of the texts of this claim: The walks of the two ways to add a flow. -/
import Derived.Test.YtajlfdofjegdjaaRf24
import Derived.Test.YtajlfdofjegdjaaRf9
/- The walks of the two ways to add a flow. -/
namespace Go.Proofs.Ytajlfdofjegdjaa
open Go.RowKit
theorem flOne : ∀ (a : Fl), ∀ u ∈ flF.enc a, u.oneCell' = true := by
  intro a u hu
  simp [flF] at hu
  rcases hu with rfl | rfl <;> rfl
/-- The ending of a call that hands back a row of flows. -/
def OneRow (w : World) (val : List Fl) (e : Ending) (w' : World) : Prop :=
  ∃ A c, e = .returned (.slice A val.length c) ∧ OwnRows flF 70 w' w.heap.size A val.length c val ∧ Below w.heap.size w w'
theorem oneRow_mk {w w' : World} {val : List Fl} {v : Value} (h : RowVal flF 70 w' w.heap.size v val) (hb : Below w.heap.size w w') : OneRow w val (.returned v) w' := by
  obtain ⟨A, c, rfl, ho⟩ := h.form
  exact ⟨A, c, rfl, ho, hb⟩
set_option maxRecDepth 100000 in
set_option maxHeartbeats 4000000 in
theorem addFlow_any (A : Option Addr) (n c : Nat) (l : List Fl) (d q : Int) (w : World) (ha : FlowsIn w A n l) (hq : -1000000000000 ≤ q ∧ q ≤ 1000000000000) (hl : ∀ f ∈ l, -1000000000000 ≤ f.2 ∧ f.2 ≤ 1000000000000) (hn : l.length ≤ 1048576) :
    Calls Try.prog 80 #[.slice A n c, .agg #[.int .i64 d, .int .i64 q]] w (OneRow w (addI l d q)) := by
  obtain rfl := ha.1
  obtain ⟨q1, q2⟩ := hq
  have HL := Lib.hid hl
  clear hl
  go_enter Try.func80, Try.ntmps80
  go_wp2
  have hx1 : ((w.alloc (.cells #[.int .i64 d, .int .i64 q] 70)).alloc (.cells #[] 70)).cell? ⟨w.heap.size, 0, none⟩ = some (.int .i64 d) := by simp [go_sem]
  have hx2 : ((w.alloc (.cells #[.int .i64 d, .int .i64 q] 70)).alloc (.cells #[] 70)).cell? ⟨w.heap.size, 1, none⟩ = some (.int .i64 q) := by simp [go_sem]
  have hb0 : Below w.heap.size w ((w.alloc (.cells #[.int .i64 d, .int .i64 q] 70)).alloc (.cells #[] 70)) := (below_alloc _ _).alloc (by simp) _
  have hv0 : RowVal flF 70 ((w.alloc (.cells #[.int .i64 d, .int .i64 q] 70)).alloc (.cells #[] 70)) (w.heap.size + 1) (.slice (some ⟨w.heap.size + 1, 0, none⟩) 0 0) [] := empty_row (by simp) (by simp)
  have hz0 : w.heap.size + 1 < ((w.alloc (.cells #[.int .i64 d, .int .i64 q] 70)).alloc (.cells #[] 70)).heap.size := by simp
  go_loopw [5, 6, 12] (fun v f i wr => ∃ k : Nat, k ≤ l.length ∧ i = .int .i64 k ∧ f = .bool (addTo l d q k).2 ∧ RowVal flF 70 wr (w.heap.size + 1) v (addTo l d q k).1 ∧ Below w.heap.size w wr ∧ w.heap.size + 1 < wr.heap.size ∧
    wr.cell? ⟨w.heap.size, 0, none⟩ = some (.int .i64 d) ∧ wr.cell? ⟨w.heap.size, 1, none⟩ = some (.int .i64 q)) (fun _ _ i _ => l.length - (intOf i).toNat)
  case atStart => exact ⟨0, by omega, rfl, rfl, hv0, hb0, hz0, hx1, hx2⟩
  case round =>
    clear hv0 hb0 hx1 hx2 hz0
    obtain ⟨k, hk, rfl, rfl, hrow, HR, hz, hx1, hx2⟩ := hrel
    by_cases hlt : k < l.length
    · have HS := Lib.hid (addTo_succ l d q k hlt)
      have hcl := addTo_len l d q k hk
      generalize hst : addTo l d q k = st at *
      obtain ⟨out, put⟩ := st
      dsimp only at hrow hcl ⊢
      have HST := Lib.hid hst
      clear hst
      obtain ⟨m1, m2⟩ := HL.out _ (List.getElem_mem hlt)
      obtain ⟨b, o, rfl, _, hc1, hc2⟩ := flow_at (ha.keep HR) hlt
      have hout : out.length ≤ 2097152 := by omega
      by_cases h1 : d = l[k].1
      · have HE := Lib.hid (show addStep d q (out, put) l[k] = (out ++ [(l[k].1, l[k].2 + q)], true) by unfold addStep; rw [if_pos h1]; simp only; rw [if_neg (by simp; omega)])
        have e1 : (d == l[k].1) = true := by rw [beq_iff_eq]; exact h1
        have e2 : d ≤ l[k].1 := by omega
        have e3 : l[k].1 ≤ d := by omega
        clear h1
        have hw3 := World.cell?_alloc_lt wr (.cells #[.int .i64 l[k].1, .int .i64 l[k].2] 70) ⟨w.heap.size, 0, none⟩ (by show w.heap.size < _; omega)
        rw [hx1] at hw3
        have hw4 := World.cell?_alloc_lt wr (.cells #[.int .i64 l[k].1, .int .i64 l[k].2] 70) ⟨w.heap.size, 1, none⟩ (by show w.heap.size < _; omega)
        rw [hx2] at hw4
        cases put
        all_goals
          have hw1 := World.cell?_alloc_lt wr (.cells #[.int .i64 l[k].1, .int .i64 (l[k].2 + q)] 70) ⟨w.heap.size, 0, none⟩ (by show w.heap.size < _; omega)
          rw [hx1] at hw1
          have hw2 := World.cell?_alloc_lt wr (.cells #[.int .i64 l[k].1, .int .i64 (l[k].2 + q)] 70) ⟨w.heap.size, 1, none⟩ (by show w.heap.size < _; omega)
          rw [hx2] at hw2
          go_wp2_with (at_builtin; refine wpList_append_one flowElem rfl (.tmp 40) (.tmp 42) rfl rfl (l := out) (RowVal.alloc hrow _) (by omega) (l[k].1, l[k].2 + q) #[.int .i64 l[k].1, .int .i64 (l[k].2 + q)] rfl (by simp [Value.oneCell']) (wr.heap.size + 1) _ (by simp) rfl (by simp; omega) ?_; intro v' w2 hrow2 hbl hgr)
          have hB2 := hbl (w.heap.size + 1) (Nat.le_refl _) (by simp; omega)
          have hz2 : w.heap.size + 1 < w2.heap.size := by have := hB2.size; simp at this; omega
          have hx3 := (hB2.cell (p := ⟨w.heap.size, 0, none⟩) (by show w.heap.size < _; omega)).trans hw1
          have hx4 := (hB2.cell (p := ⟨w.heap.size, 1, none⟩) (by show w.heap.size < _; omega)).trans hw2
          go_roundw
          case rel => exact ⟨k + 1, by omega, by go_num, by rw [HS.out, HE.out], by rw [HS.out, HE.out]; exact hrow2, (HR.alloc (by omega) _).trans (hB2.mono (by omega)), hz2, hx3, hx4⟩
          case measure => simp [intOf]; omega
      have e1 : (d == l[k].1) = false := by rw [beq_eq_false_iff_ne]; exact h1
      have H1 := Lib.hid h1
      clear h1
      cases put
      · by_cases h2 : d < l[k].1
        · have HE := Lib.hid (show addStep d q (out, false) l[k] = (out ++ [(d, q)] ++ [l[k]], true) by unfold addStep; rw [if_neg H1.out]; simp [h2])
          have hw1 := World.cell?_alloc_lt wr (.cells #[.int .i64 l[k].1, .int .i64 l[k].2] 70) ⟨w.heap.size, 0, none⟩ (by show w.heap.size < _; omega)
          rw [hx1] at hw1
          have hw2 := World.cell?_alloc_lt wr (.cells #[.int .i64 l[k].1, .int .i64 l[k].2] 70) ⟨w.heap.size, 1, none⟩ (by show w.heap.size < _; omega)
          rw [hx2] at hw2
          have hrowne := row_ne hrow (Nat.le_refl _)
          have hrow1 : RowVal flF 70 (wr.alloc (.cells #[.int .i64 l[k].1, .int .i64 l[k].2] 70)) (w.heap.size + 1) u5 out := RowVal.alloc hrow _
          have hxx : ∀ p : Nat, p < 2 → (wr.alloc (.cells #[.int .i64 l[k].1, .int .i64 l[k].2] 70)).cell? ⟨wr.heap.size, p, none⟩ = some (if p = 0 then .int .i64 l[k].1 else .int .i64 l[k].2) := by
            intro p hp
            match p, hp with
            | 0, _ => simp [go_sem]
            | 1, _ => simp [go_sem]
          have HXX := Lib.hid hxx
          clear hxx
          go_wp2_with (first | (at_builtin; refine wpList_append_far flowElem rfl (.tmp 25) (.tmp 27) rfl rfl (l := out) hrow1 (by omega) (d, q) #[.int .i64 d, .int .i64 q] rfl (by simp [Value.oneCell']) (wr.heap.size + 1) _ (by simp) rfl (by simp; omega) ?_; intro v2 w2 hrow2 hbl hgr hfar; have hB2 := hbl (w.heap.size + 1) (Nat.le_refl _) (by simp; omega); have hz2 : w.heap.size + 1 < w2.heap.size := (by have := hB2.size; simp at this; omega); have hx3 := (hB2.cell (p := ⟨w.heap.size, 0, none⟩) (by show w.heap.size < _; omega)).trans hw1; have hx4 := (hB2.cell (p := ⟨w.heap.size, 1, none⟩) (by show w.heap.size < _; omega)).trans hw2; have hy1 := (hfar ⟨wr.heap.size, 0, none⟩ (by simp) hrowne).trans (HXX.out 0 (by omega)); have hy2 := (hfar ⟨wr.heap.size, 1, none⟩ (by simp) hrowne).trans (HXX.out 1 (by omega)); simp only [if_true] at hy1; simp only [show ¬ ((1 : Nat) = 0) from by omega, if_false] at hy2; clear hfar hbl hw1 hw2) | (at_builtin; refine wpList_append_one flowElem rfl (.tmp 40) (.tmp 42) rfl rfl (l := out ++ [(d, q)]) hrow2 (by simp; omega) l[k] #[.int .i64 l[k].1, .int .i64 l[k].2] rfl (by simp [Value.oneCell']) w2.heap.size _ rfl rfl (by omega) ?_; intro v3 w3 hrow3 hbl3 hgr3))
          have hB3 := hbl3 (w.heap.size + 1) (Nat.le_refl _) (by omega)
          have hz3 : w.heap.size + 1 < w3.heap.size := by have := hB3.size; omega
          have hx5 := (hB3.cell (p := ⟨w.heap.size, 0, none⟩) (by show w.heap.size < _; omega)).trans hx3
          have hx6 := (hB3.cell (p := ⟨w.heap.size, 1, none⟩) (by show w.heap.size < _; omega)).trans hx4
          go_roundw
          case rel => exact ⟨k + 1, by omega, by go_num, by rw [HS.out, HE.out], by rw [HS.out, HE.out]; exact hrow3, ((HR.alloc (by omega) _).trans (hB2.mono (by omega))).trans (hB3.mono (by omega)), hz3, hx5, hx6⟩
          case measure => simp [intOf]; omega
        · have HE := Lib.hid (show addStep d q (out, false) l[k] = (out ++ [l[k]], false) by unfold addStep; rw [if_neg H1.out]; simp [h2])
          have hw1 := World.cell?_alloc_lt wr (.cells #[.int .i64 l[k].1, .int .i64 l[k].2] 70) ⟨w.heap.size, 0, none⟩ (by show w.heap.size < _; omega)
          rw [hx1] at hw1
          have hw2 := World.cell?_alloc_lt wr (.cells #[.int .i64 l[k].1, .int .i64 l[k].2] 70) ⟨w.heap.size, 1, none⟩ (by show w.heap.size < _; omega)
          rw [hx2] at hw2
          go_wp2_with (at_builtin; refine wpList_append_one flowElem rfl (.tmp 40) (.tmp 42) rfl rfl (l := out) (RowVal.alloc hrow _) (by omega) l[k] #[.int .i64 l[k].1, .int .i64 l[k].2] rfl (by simp [Value.oneCell']) (wr.heap.size + 1) _ (by simp) rfl (by simp; omega) ?_; intro v' w2 hrow2 hbl hgr)
          have hB2 := hbl (w.heap.size + 1) (Nat.le_refl _) (by simp; omega)
          have hz2 : w.heap.size + 1 < w2.heap.size := by have := hB2.size; simp at this; omega
          have hx3 := (hB2.cell (p := ⟨w.heap.size, 0, none⟩) (by show w.heap.size < _; omega)).trans hw1
          have hx4 := (hB2.cell (p := ⟨w.heap.size, 1, none⟩) (by show w.heap.size < _; omega)).trans hw2
          go_roundw
          case rel => exact ⟨k + 1, by omega, by go_num, by rw [HS.out, HE.out], by rw [HS.out, HE.out]; exact hrow2, (HR.alloc (by omega) _).trans (hB2.mono (by omega)), hz2, hx3, hx4⟩
          case measure => simp [intOf]; omega
      · have HE := Lib.hid (show addStep d q (out, true) l[k] = (out ++ [l[k]], true) by unfold addStep; rw [if_neg H1.out]; simp)
        · have hw1 := World.cell?_alloc_lt wr (.cells #[.int .i64 l[k].1, .int .i64 l[k].2] 70) ⟨w.heap.size, 0, none⟩ (by show w.heap.size < _; omega)
          rw [hx1] at hw1
          have hw2 := World.cell?_alloc_lt wr (.cells #[.int .i64 l[k].1, .int .i64 l[k].2] 70) ⟨w.heap.size, 1, none⟩ (by show w.heap.size < _; omega)
          rw [hx2] at hw2
          go_wp2_with (at_builtin; refine wpList_append_one flowElem rfl (.tmp 40) (.tmp 42) rfl rfl (l := out) (RowVal.alloc hrow _) (by omega) l[k] #[.int .i64 l[k].1, .int .i64 l[k].2] rfl (by simp [Value.oneCell']) (wr.heap.size + 1) _ (by simp) rfl (by simp; omega) ?_; intro v' w2 hrow2 hbl hgr)
          have hB2 := hbl (w.heap.size + 1) (Nat.le_refl _) (by simp; omega)
          have hz2 : w.heap.size + 1 < w2.heap.size := by have := hB2.size; simp at this; omega
          have hx3 := (hB2.cell (p := ⟨w.heap.size, 0, none⟩) (by show w.heap.size < _; omega)).trans hw1
          have hx4 := (hB2.cell (p := ⟨w.heap.size, 1, none⟩) (by show w.heap.size < _; omega)).trans hw2
          go_roundw
          case rel => exact ⟨k + 1, by omega, by go_num, by rw [HS.out, HE.out], by rw [HS.out, HE.out]; exact hrow2, (HR.alloc (by omega) _).trans (hB2.mono (by omega)), hz2, hx3, hx4⟩
          case measure => simp [intOf]; omega
    · obtain rfl : k = l.length := by omega
      have hcl := addTo_len l d q l.length (Nat.le_refl _)
      cases hfd : (addTo l d q l.length).2
      · go_wp2_with (at_builtin; refine wpList_append_one flowElem rfl (.tmp 47) (.tmp 49) rfl rfl (l := (addTo l d q l.length).1) hrow (by omega) (d, q) #[.int .i64 d, .int .i64 q] rfl (by simp [Value.oneCell']) wr.heap.size _ rfl rfl (by omega) ?_; intro v' w2 hrow2 hbl hgr)
        go_ret
        refine oneRow_mk ?_ (HR.trans (hbl _ (by omega) (by omega)))
        unfold addI
        rw [hfd]
        exact own_lower hrow2 (by omega)
      · go_wp2
        go_ret
        refine oneRow_mk ?_ HR
        unfold addI
        rw [hfd]
        exact own_lower hrow (by omega)
end Go.Proofs.Ytajlfdofjegdjaa
