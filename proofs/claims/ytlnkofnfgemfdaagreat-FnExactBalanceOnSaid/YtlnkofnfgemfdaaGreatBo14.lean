/- Part 14 of the texts of this claim: The walks of the two ways to add a flow; The walk of the reference's way to add a flow; The walks of MergeFlows; The walks of DemandFlows. -/
import Derived.Test.YtlnkofnfgemfdaaGreatBo13
import Derived.Test.YtlnkofnfgemfdaaGreatBo8
import Derived.StillTailTactics
import Derived.Test.YtlnkofnfgemfdaaGreatBo12
/- The walks of the two ways to add a flow. -/
namespace Go.Proofs.YtlnkofnfgemfdaaGreat
open Go.RowKit
theorem flOne : ∀ (a : Fl), ∀ u ∈ flF.enc a, u.oneCell' = true := by
  intro a u hu
  simp [flF] at hu
  rcases hu with rfl | rfl <;> rfl
/-- The ending of a call that hands back a row of flows. -/
def OneRow (w : World) (val : List Fl) (e : Ending) (w' : World) : Prop :=
  ∃ A c, e = .returned (.slice A val.length c) ∧ OwnRows flF 90 w' w.heap.size A val.length c val ∧ Below w.heap.size w w'
theorem oneRow_mk {w w' : World} {val : List Fl} {v : Value} (h : RowVal flF 90 w' w.heap.size v val) (hb : Below w.heap.size w w') : OneRow w val (.returned v) w' := by
  obtain ⟨A, c, rfl, ho⟩ := h.form
  exact ⟨A, c, rfl, ho, hb⟩
set_option maxRecDepth 100000 in
set_option maxHeartbeats 4000000 in
theorem addFlow_any (A : Option Addr) (n c : Nat) (l : List Fl) (d q : Int) (w : World) (ha : FlowsIn w A n l) (hq : -1000000000000 ≤ q ∧ q ≤ 1000000000000) (hl : ∀ f ∈ l, -1000000000000 ≤ f.2 ∧ f.2 ≤ 1000000000000) (hn : l.length ≤ 1048576) :
    Calls Tryz.prog 119 #[.slice A n c, .agg #[.int .i64 d, .int .i64 q]] w (OneRow w (addI l d q)) := by
  obtain rfl := ha.1
  obtain ⟨q1, q2⟩ := hq
  have HL := Lib.hid hl
  clear hl
  go_enter Tryz.func119, Tryz.ntmps119
  go_wp2
  have hx1 : ((w.alloc (.cells #[.int .i64 d, .int .i64 q] 90)).alloc (.cells #[] 90)).cell? ⟨w.heap.size, 0, none⟩ = some (.int .i64 d) := by simp [go_sem]
  have hx2 : ((w.alloc (.cells #[.int .i64 d, .int .i64 q] 90)).alloc (.cells #[] 90)).cell? ⟨w.heap.size, 1, none⟩ = some (.int .i64 q) := by simp [go_sem]
  have hb0 : Below w.heap.size w ((w.alloc (.cells #[.int .i64 d, .int .i64 q] 90)).alloc (.cells #[] 90)) := (below_alloc _ _).alloc (by simp) _
  have hv0 : RowVal flF 90 ((w.alloc (.cells #[.int .i64 d, .int .i64 q] 90)).alloc (.cells #[] 90)) (w.heap.size + 1) (.slice (some ⟨w.heap.size + 1, 0, none⟩) 0 0) [] := empty_row (by simp) (by simp)
  have hz0 : w.heap.size + 1 < ((w.alloc (.cells #[.int .i64 d, .int .i64 q] 90)).alloc (.cells #[] 90)).heap.size := by simp
  go_loopw [5, 6, 12] (fun v f i wr => ∃ k : Nat, k ≤ l.length ∧ i = .int .i64 k ∧ f = .bool (addTo l d q k).2 ∧ RowVal flF 90 wr (w.heap.size + 1) v (addTo l d q k).1 ∧ Below w.heap.size w wr ∧ w.heap.size + 1 < wr.heap.size ∧
    wr.cell? ⟨w.heap.size, 0, none⟩ = some (.int .i64 d) ∧ wr.cell? ⟨w.heap.size, 1, none⟩ = some (.int .i64 q)) (fun _ _ i _ => l.length - (intOf i).toNat)
  case atStart => exact ⟨0, by omega, rfl, rfl, hv0, hb0, hz0, hx1, hx2⟩
  case round =>
    clear hv0 hb0 hx1 hx2 hz0
    obtain ⟨k, hk, rfl, rfl, hrow, HR, hz, hx1, hx2⟩ := hrel
    by_cases hlt : k < l.length
    · have HS := Lib.hid (addTo_succ l d q k hlt)
      have hcl := addTo_len l d q k hk
      generalize hst : addTo l d q k = st at *
      obtain ⟨out, put⟩ := st
      dsimp only at hrow hcl ⊢
      have HST := Lib.hid hst
      clear hst
      obtain ⟨m1, m2⟩ := HL.out _ (List.getElem_mem hlt)
      obtain ⟨b, o, rfl, _, hc1, hc2⟩ := flow_at (ha.keep HR) hlt
      have hout : out.length ≤ 2097152 := by omega
      by_cases h1 : d = l[k].1
      · have HE := Lib.hid (show addStep d q (out, put) l[k] = (out ++ [(l[k].1, l[k].2 + q)], true) by unfold addStep; rw [if_pos h1]; simp only; rw [if_neg (by simp; omega)])
        have e1 : (d == l[k].1) = true := by rw [beq_iff_eq]; exact h1
        have e2 : d ≤ l[k].1 := by omega
        have e3 : l[k].1 ≤ d := by omega
        clear h1
        have hw3 := World.cell?_alloc_lt wr (.cells #[.int .i64 l[k].1, .int .i64 l[k].2] 90) ⟨w.heap.size, 0, none⟩ (by show w.heap.size < _; omega)
        rw [hx1] at hw3
        have hw4 := World.cell?_alloc_lt wr (.cells #[.int .i64 l[k].1, .int .i64 l[k].2] 90) ⟨w.heap.size, 1, none⟩ (by show w.heap.size < _; omega)
        rw [hx2] at hw4
        cases put
        all_goals
          have hw1 := World.cell?_alloc_lt wr (.cells #[.int .i64 l[k].1, .int .i64 (l[k].2 + q)] 90) ⟨w.heap.size, 0, none⟩ (by show w.heap.size < _; omega)
          rw [hx1] at hw1
          have hw2 := World.cell?_alloc_lt wr (.cells #[.int .i64 l[k].1, .int .i64 (l[k].2 + q)] 90) ⟨w.heap.size, 1, none⟩ (by show w.heap.size < _; omega)
          rw [hx2] at hw2
          go_wp2_with (at_builtin; refine wpList_append_one flowElem rfl (.tmp 40) (.tmp 42) rfl rfl (l := out) (RowVal.alloc hrow _) (by omega) (l[k].1, l[k].2 + q) #[.int .i64 l[k].1, .int .i64 (l[k].2 + q)] rfl (by simp [Value.oneCell']) (wr.heap.size + 1) _ (by simp) rfl (by simp; omega) ?_; intro v' w2 hrow2 hbl hgr)
          have hB2 := hbl (w.heap.size + 1) (Nat.le_refl _) (by simp; omega)
          have hz2 : w.heap.size + 1 < w2.heap.size := by have := hB2.size; simp at this; omega
          have hx3 := (hB2.cell (p := ⟨w.heap.size, 0, none⟩) (by show w.heap.size < _; omega)).trans hw1
          have hx4 := (hB2.cell (p := ⟨w.heap.size, 1, none⟩) (by show w.heap.size < _; omega)).trans hw2
          go_roundw
          case rel => exact ⟨k + 1, by omega, by go_num, by rw [HS.out, HE.out], by rw [HS.out, HE.out]; exact hrow2, (HR.alloc (by omega) _).trans (hB2.mono (by omega)), hz2, hx3, hx4⟩
          case measure => simp [intOf]; omega
      have e1 : (d == l[k].1) = false := by rw [beq_eq_false_iff_ne]; exact h1
      have H1 := Lib.hid h1
      clear h1
      cases put
      · by_cases h2 : d < l[k].1
        · have HE := Lib.hid (show addStep d q (out, false) l[k] = (out ++ [(d, q)] ++ [l[k]], true) by unfold addStep; rw [if_neg H1.out]; simp [h2])
          have hw1 := World.cell?_alloc_lt wr (.cells #[.int .i64 l[k].1, .int .i64 l[k].2] 90) ⟨w.heap.size, 0, none⟩ (by show w.heap.size < _; omega)
          rw [hx1] at hw1
          have hw2 := World.cell?_alloc_lt wr (.cells #[.int .i64 l[k].1, .int .i64 l[k].2] 90) ⟨w.heap.size, 1, none⟩ (by show w.heap.size < _; omega)
          rw [hx2] at hw2
          have hrowne := row_ne hrow (Nat.le_refl _)
          have hrow1 : RowVal flF 90 (wr.alloc (.cells #[.int .i64 l[k].1, .int .i64 l[k].2] 90)) (w.heap.size + 1) u5 out := RowVal.alloc hrow _
          have hxx : ∀ p : Nat, p < 2 → (wr.alloc (.cells #[.int .i64 l[k].1, .int .i64 l[k].2] 90)).cell? ⟨wr.heap.size, p, none⟩ = some (if p = 0 then .int .i64 l[k].1 else .int .i64 l[k].2) := by
            intro p hp
            match p, hp with
            | 0, _ => simp [go_sem]
            | 1, _ => simp [go_sem]
          have HXX := Lib.hid hxx
          clear hxx
          go_wp2_with (first | (at_builtin; refine wpList_append_far flowElem rfl (.tmp 25) (.tmp 27) rfl rfl (l := out) hrow1 (by omega) (d, q) #[.int .i64 d, .int .i64 q] rfl (by simp [Value.oneCell']) (wr.heap.size + 1) _ (by simp) rfl (by simp; omega) ?_; intro v2 w2 hrow2 hbl hgr hfar; have hB2 := hbl (w.heap.size + 1) (Nat.le_refl _) (by simp; omega); have hz2 : w.heap.size + 1 < w2.heap.size := (by have := hB2.size; simp at this; omega); have hx3 := (hB2.cell (p := ⟨w.heap.size, 0, none⟩) (by show w.heap.size < _; omega)).trans hw1; have hx4 := (hB2.cell (p := ⟨w.heap.size, 1, none⟩) (by show w.heap.size < _; omega)).trans hw2; have hy1 := (hfar ⟨wr.heap.size, 0, none⟩ (by simp) hrowne).trans (HXX.out 0 (by omega)); have hy2 := (hfar ⟨wr.heap.size, 1, none⟩ (by simp) hrowne).trans (HXX.out 1 (by omega)); simp only [if_true] at hy1; simp only [show ¬ ((1 : Nat) = 0) from by omega, if_false] at hy2; clear hfar hbl hw1 hw2) | (at_builtin; refine wpList_append_one flowElem rfl (.tmp 40) (.tmp 42) rfl rfl (l := out ++ [(d, q)]) hrow2 (by simp; omega) l[k] #[.int .i64 l[k].1, .int .i64 l[k].2] rfl (by simp [Value.oneCell']) w2.heap.size _ rfl rfl (by omega) ?_; intro v3 w3 hrow3 hbl3 hgr3))
          have hB3 := hbl3 (w.heap.size + 1) (Nat.le_refl _) (by omega)
          have hz3 : w.heap.size + 1 < w3.heap.size := by have := hB3.size; omega
          have hx5 := (hB3.cell (p := ⟨w.heap.size, 0, none⟩) (by show w.heap.size < _; omega)).trans hx3
          have hx6 := (hB3.cell (p := ⟨w.heap.size, 1, none⟩) (by show w.heap.size < _; omega)).trans hx4
          go_roundw
          case rel => exact ⟨k + 1, by omega, by go_num, by rw [HS.out, HE.out], by rw [HS.out, HE.out]; exact hrow3, ((HR.alloc (by omega) _).trans (hB2.mono (by omega))).trans (hB3.mono (by omega)), hz3, hx5, hx6⟩
          case measure => simp [intOf]; omega
        · have HE := Lib.hid (show addStep d q (out, false) l[k] = (out ++ [l[k]], false) by unfold addStep; rw [if_neg H1.out]; simp [h2])
          have hw1 := World.cell?_alloc_lt wr (.cells #[.int .i64 l[k].1, .int .i64 l[k].2] 90) ⟨w.heap.size, 0, none⟩ (by show w.heap.size < _; omega)
          rw [hx1] at hw1
          have hw2 := World.cell?_alloc_lt wr (.cells #[.int .i64 l[k].1, .int .i64 l[k].2] 90) ⟨w.heap.size, 1, none⟩ (by show w.heap.size < _; omega)
          rw [hx2] at hw2
          go_wp2_with (at_builtin; refine wpList_append_one flowElem rfl (.tmp 40) (.tmp 42) rfl rfl (l := out) (RowVal.alloc hrow _) (by omega) l[k] #[.int .i64 l[k].1, .int .i64 l[k].2] rfl (by simp [Value.oneCell']) (wr.heap.size + 1) _ (by simp) rfl (by simp; omega) ?_; intro v' w2 hrow2 hbl hgr)
          have hB2 := hbl (w.heap.size + 1) (Nat.le_refl _) (by simp; omega)
          have hz2 : w.heap.size + 1 < w2.heap.size := by have := hB2.size; simp at this; omega
          have hx3 := (hB2.cell (p := ⟨w.heap.size, 0, none⟩) (by show w.heap.size < _; omega)).trans hw1
          have hx4 := (hB2.cell (p := ⟨w.heap.size, 1, none⟩) (by show w.heap.size < _; omega)).trans hw2
          go_roundw
          case rel => exact ⟨k + 1, by omega, by go_num, by rw [HS.out, HE.out], by rw [HS.out, HE.out]; exact hrow2, (HR.alloc (by omega) _).trans (hB2.mono (by omega)), hz2, hx3, hx4⟩
          case measure => simp [intOf]; omega
      · have HE := Lib.hid (show addStep d q (out, true) l[k] = (out ++ [l[k]], true) by unfold addStep; rw [if_neg H1.out]; simp)
        · have hw1 := World.cell?_alloc_lt wr (.cells #[.int .i64 l[k].1, .int .i64 l[k].2] 90) ⟨w.heap.size, 0, none⟩ (by show w.heap.size < _; omega)
          rw [hx1] at hw1
          have hw2 := World.cell?_alloc_lt wr (.cells #[.int .i64 l[k].1, .int .i64 l[k].2] 90) ⟨w.heap.size, 1, none⟩ (by show w.heap.size < _; omega)
          rw [hx2] at hw2
          go_wp2_with (at_builtin; refine wpList_append_one flowElem rfl (.tmp 40) (.tmp 42) rfl rfl (l := out) (RowVal.alloc hrow _) (by omega) l[k] #[.int .i64 l[k].1, .int .i64 l[k].2] rfl (by simp [Value.oneCell']) (wr.heap.size + 1) _ (by simp) rfl (by simp; omega) ?_; intro v' w2 hrow2 hbl hgr)
          have hB2 := hbl (w.heap.size + 1) (Nat.le_refl _) (by simp; omega)
          have hz2 : w.heap.size + 1 < w2.heap.size := by have := hB2.size; simp at this; omega
          have hx3 := (hB2.cell (p := ⟨w.heap.size, 0, none⟩) (by show w.heap.size < _; omega)).trans hw1
          have hx4 := (hB2.cell (p := ⟨w.heap.size, 1, none⟩) (by show w.heap.size < _; omega)).trans hw2
          go_roundw
          case rel => exact ⟨k + 1, by omega, by go_num, by rw [HS.out, HE.out], by rw [HS.out, HE.out]; exact hrow2, (HR.alloc (by omega) _).trans (hB2.mono (by omega)), hz2, hx3, hx4⟩
          case measure => simp [intOf]; omega
    · obtain rfl : k = l.length := by omega
      have hcl := addTo_len l d q l.length (Nat.le_refl _)
      cases hfd : (addTo l d q l.length).2
      · go_wp2_with (at_builtin; refine wpList_append_one flowElem rfl (.tmp 47) (.tmp 49) rfl rfl (l := (addTo l d q l.length).1) hrow (by omega) (d, q) #[.int .i64 d, .int .i64 q] rfl (by simp [Value.oneCell']) wr.heap.size _ rfl rfl (by omega) ?_; intro v' w2 hrow2 hbl hgr)
        go_ret
        refine oneRow_mk ?_ (HR.trans (hbl _ (by omega) (by omega)))
        unfold addI
        rw [hfd]
        exact own_lower hrow2 (by omega)
      · go_wp2
        go_ret
        refine oneRow_mk ?_ HR
        unfold addI
        rw [hfd]
        exact own_lower hrow (by omega)
end Go.Proofs.YtlnkofnfgemfdaaGreat
/- The walk of the reference's way to add a flow. -/
namespace Go.Proofs.YtlnkofnfgemfdaaGreat
open Go.RowKit
theorem size_alloc1 (w : World) (o : Obj) : (w.alloc o).heap.size = w.heap.size + 1 := by simp
theorem le_alloc1 {w : World} {B : Nat} (h : B ≤ w.heap.size) (o : Obj) : B ≤ (w.alloc o).heap.size := by simp; omega
theorem below_two {w w2 : World} (h : Below w.heap.size w w2) (o p : Obj) : Below w.heap.size w ((w2.alloc o).alloc p) := (h.alloc h.size _).alloc (by simp; have := h.size; omega) _
theorem len_take {l : List Fl} (k : Nat) (h : l.length ≤ 1048576) : (l.take k).length ≤ 16777216 := by simp; omega
theorem len_take1 {l : List Fl} (k : Nat) (x : Fl) (h : l.length ≤ 1048576) : (l.take k ++ [x]).length ≤ 16777216 := by simp; omega
theorem len_1 {l : List Fl} (x : Fl) (h : l.length ≤ 1048576) : (l ++ [x]).length ≤ 16777216 := by simp; omega
theorem new_row (w : World) {H : Nat} (hH : w.heap.size = H) (d q : Int) : RowsIn flF (w.alloc (.cells #[.int .i64 d, .int .i64 q] 90)) (some ⟨H, 0, none⟩) 1 [(d, q)] := by
  refine ⟨rfl, rfl, by omega, fun _ => ⟨H, 0, rfl, by simp; omega, fun j u hu => ?_⟩⟩
  have := news_at hH #[.int .i64 d, .int .i64 q] 90 j u hu
  rwa [Addr.add_lit] at this
theorem flF_set (l : List Fl) (k : Nat) (x : Int) (hk : k < l.length) : (l.flatMap flF.enc).set (k * 2 + 1) (.int .i64 x) = (l.set k (l[k].1, x)).flatMap flF.enc := by
  induction l generalizing k with
  | nil => simp at hk
  | cons f t ih =>
    cases k with
    | zero => simp [flF]
    | succ k =>
      have h := ih k (by simpa using hk)
      simp only [List.flatMap_cons, List.set_cons_succ, List.getElem_cons_succ]
      rw [← h, List.set_append_right _ _ (by simp [flF]; omega)]
      congr 2
      simp [flF]
      omega
theorem own_some {w : World} {lo n c : Nat} {A : Option Addr} {l : List Fl} (h : OwnRows flF 90 w lo A n c l) (hn : 0 < n) : ∃ g, A = some ⟨g, 0, none⟩ := by
  rcases h.2.2 with ⟨hv, h0⟩ | ⟨g, cap, cur, hv, _⟩
  · omega
  · exact ⟨g, by injection hv⟩
set_option maxRecDepth 100000 in
set_option maxHeartbeats 4000000 in
theorem l14Add_any (A : Option Addr) (n c : Nat) (l : List Fl) (d q : Int) (w : World) (ha : FlowsIn w A n l) (hnc : n ≤ c) (_hc : c ≤ 9223372036854775807) (hq : -1000000000000 ≤ q ∧ q ≤ 1000000000000) (hl : ∀ f ∈ l, -1000000000000 ≤ f.2 ∧ f.2 ≤ 1000000000000) (hn : l.length ≤ 1048576) :
    Calls Tryz.prog 103 #[.slice A n c, .int .i64 d, .int .i64 q] w (OneRow w (addS l d q)) := by
  obtain rfl := ha.1
  obtain ⟨q1, q2⟩ := hq
  have HL := Lib.hid hl
  clear hl
  go_enter Tryz.func103, Tryz.ntmps103
  go_wp2
  go_loop [7] (fun i => ∃ k : Nat, k ≤ l.length ∧ i = .int .i64 k ∧ Hid (∀ j (hj : j < l.length), j < k → l[j].1 < d)) (fun i => l.length - (intOf i).toNat)
  case atStart => exact ⟨0, by omega, rfl, fun j _ h => absurd h (by omega)⟩
  case round =>
    obtain ⟨k, hk, rfl, HI⟩ := hrel
    by_cases hlt : k < l.length
    · obtain ⟨b, o, rfl, hb, hc1, hc2⟩ := flow_at ha hlt
      by_cases h1 : l[k].1 < d
      · go_wp2
        go_round
        case rel =>
          refine ⟨k + 1, by omega, by go_num, ?_⟩
          intro j hj hjk
          rcases Nat.lt_or_ge j k with h3 | h3
          · exact HI.out j hj h3
          · obtain rfl : j = k := by omega
            exact h1
        case measure => simp [intOf]; omega
      by_cases h2 : l[k].1 = d
      · have e1 : (l[k].1 == d) = true := by rw [beq_iff_eq]; exact h2
        have H2 := Lib.hid h2
        clear h2
        have hfm : (l.flatMap flF.enc)[k * 2 + 1]? = some (.int .i64 l[k].2) := flatMap_at flF.enc 2 flF.len l k 1 hlt (by omega)
        have HF := Lib.hid hfm
        clear hfm
        obtain ⟨m1, m2⟩ := HL.out _ (List.getElem_mem hlt)
        go_wp2_with (at_builtin; refine wpList_append_copy flowElem flOne rfl (.tmp 24) (.tmp 25) rfl rfl (empty_row rfl (Nat.le_refl _)) rfl (ha.keep (below_alloc _ _)) (by simp) ?_; intro A2 c2 w2 ho2 hbl; have hB : Below w.heap.size w w2 := (below_alloc w (.cells #[] 90)).trans (hbl _ (Nat.le_refl _) (by simp)); clear hbl; obtain ⟨g, rfl⟩ := own_some ho2 (by omega); have hd1 := (hB.cell (p := ⟨b, o + k * 2, none⟩) hb).trans hc1; have hd2 := (ho2.2.cellAt (k * 2 + 1) (by show k * 2 + 1 < l.length * 2; omega)).trans HF.out; have hd3 := ho2.2.frozenAt (k * 2 + 1))
        have s1 := (ho2.2.stored (k * 2 + 1) (.int .i64 (l[k].2 + q))).1
        rw [flF_set l k _ hlt] at s1
        have S1 := Lib.hid s1
        have hsz := hB.size
        go_wp2
        go_ret
        refine oneRow_mk ?_ (hB.setCell (by exact (own_lt ho2.2 _ rfl).1) _)
        rw [addS_eq l d q k hlt HI.out H2.out]
        show World.ownsRow _ _ _ _ _ (l.set k (l[k].1, l[k].2 + q)).length _
        rw [List.length_set]
        exact S1.out
      · have e1 : (l[k].1 == d) = false := by rw [beq_eq_false_iff_ne]; exact h2
        have H2 := Lib.hid h2
        clear h2
        have hkc : k ≤ c := by omega
        go_wp2_with (at_builtin; refine wpList_append_copy flowElem flOne rfl (.tmp 24) (.tmp 25) rfl rfl (empty_row rfl (Nat.le_refl _)) rfl (ha.keep (below_alloc _ _)) (by simp) ?_; intro A2 c2 w2 ho2 hbl; have hB : Below w.heap.size w w2 := (below_alloc w (.cells #[] 90)).trans (hbl _ (Nat.le_refl _) (by simp)); clear hbl; have hd1 := (hB.cell (p := ⟨b, o + k * 2, none⟩) hb).trans hc1; have hr2 := ha.keep hB)
        have hsz := hB.size
        have HT : Hid (∀ W, Below w.heap.size w W → RowsIn flF W (some ⟨b, o, none⟩) k (l.take k)) := fun W hW => (ha.keep hW).take (by omega)
        have HD : Hid (∀ W, Below w.heap.size w W → RowsIn flF W (some ⟨b, o + k * 2, none⟩) (l.length - k) (l.drop k)) := fun W hW => by
          have := (ha.keep hW).drop (k := k) (cap := c) (by omega) hnc
          rw [if_neg (by omega)] at this
          simp only [Option.map_some, Addr.add_lit] at this
          exact this
        have hck : ¬ c = k := by omega
        go_region_law (first | (refine step_append_rows flowElem flOne rfl (.tmp 52) (.tmp 55) rfl ((w2.alloc (.cells #[] 90)).drew) (lo := w.heap.size) (v := .slice (some ⟨w2.heap.size, 0, none⟩) 0 0) (l := []) rfl (RowVal.drew (empty_row (F := flF) (e := 90) (H := w2.heap.size) rfl hB.size)) (Nat.zero_le _) rfl (HT.out _ ((hB.alloc hB.size _).drew)) ((hB.alloc hB.size _).drew).size ?_; intro v3 w3 hrow3 hg3; rw [List.nil_append] at hrow3; have hB3 : Below w.heap.size w w3 := ((hB.alloc hB.size _).drew).trans (RowVal.below (RowVal.drew (empty_row (F := flF) (e := 90) (H := w2.heap.size) rfl hB.size)) hg3 (Nat.le_refl _) ((hB.alloc hB.size _).drew).size); have hlen3 := len_take k hn; have hle3 := le_alloc1 hB3.size (.cells #[.int .i64 d, .int .i64 q] 90); clear hg3) | (refine step_append_rows flowElem flOne rfl (.tmp 52) (.tmp 55) rfl (((w2.alloc (.cells #[] 90)).alloc (.cells #[.int .i64 d, .int .i64 q] 90)).drew) (lo := w.heap.size) (v := .slice (some ⟨w2.heap.size, 0, none⟩) 0 0) (l := []) rfl (RowVal.drew (RowVal.alloc (empty_row (F := flF) (e := 90) (H := w2.heap.size) rfl hB.size) _)) (Nat.zero_le _) rfl (HT.out _ ((below_two hB _ _).drew)) ((below_two hB _ _).drew).size ?_; intro v3 w3 hrow3 hg3; rw [List.nil_append] at hrow3; have hB3 : Below w.heap.size w w3 := ((below_two hB _ _).drew).trans (RowVal.below (RowVal.drew (RowVal.alloc (empty_row (F := flF) (e := 90) (H := w2.heap.size) rfl hB.size) _)) hg3 (Nat.le_refl _) ((below_two hB _ _).drew).size); have hX3 := RowsIn.far (RowsIn.drew (new_row _ (H := w2.heap.size + 1) (size_alloc1 _ _) d q)) hg3 (by simp [Value.ownBlock]); have hlen3 := len_take k hn; have hle3 := le_alloc1 hB3.size (.cells #[.int .i64 d, .int .i64 q] 90); clear hg3) | (refine step_append_rows flowElem flOne rfl (.tmp 52) (.tmp 55) rfl (((w2.alloc (.cells #[.int .i64 d, .int .i64 q] 90)).alloc (.cells #[] 90)).drew) (lo := w.heap.size) (v := .slice (some ⟨w2.heap.size + 1, 0, none⟩) 0 0) (l := []) rfl (RowVal.drew (empty_row (F := flF) (e := 90) (H := w2.heap.size + 1) (size_alloc1 _ _) (le_alloc1 hB.size _))) (Nat.zero_le _) rfl (HT.out _ ((below_two hB _ _).drew)) ((below_two hB _ _).drew).size ?_; intro v3 w3 hrow3 hg3; rw [List.nil_append] at hrow3; have hB3 : Below w.heap.size w w3 := ((below_two hB _ _).drew).trans (RowVal.below (RowVal.drew (empty_row (F := flF) (e := 90) (H := w2.heap.size + 1) (size_alloc1 _ _) (le_alloc1 hB.size _))) hg3 (Nat.le_refl _) ((below_two hB _ _).drew).size); have hX3 := RowsIn.far (RowsIn.drew ((new_row w2 rfl d q).keep (below_alloc _ _))) hg3 (by simp [Value.ownBlock]); have hlen3 := len_take k hn; have hle3 := le_alloc1 hB3.size (.cells #[.int .i64 d, .int .i64 q] 90); clear hg3) | (refine step_append_rows flowElem flOne rfl (.tmp 56) (.tmp 60) rfl (w3.alloc (.cells #[.int .i64 d, .int .i64 q] 90)) (lo := w.heap.size) rfl (RowVal.alloc hrow3 _) hlen3 rfl (new_row w3 rfl d q) hle3 ?_; intro v4 w4 hrow4 hg4; have hB4 : Below w.heap.size w w4 := (hB3.alloc hB3.size _).trans (RowVal.below (RowVal.alloc hrow3 _) hg4 (Nat.le_refl _) hle3); have hlen4 := len_take1 k (d, q) hn; clear hg4) | (refine step_append_rows flowElem flOne rfl (.tmp 56) (.tmp 60) rfl w3 (lo := w.heap.size) rfl hrow3 hlen3 rfl hX3 hB3.size ?_; intro v4 w4 hrow4 hg4; have hB4 : Below w.heap.size w w4 := hB3.trans (RowVal.below hrow3 hg4 (Nat.le_refl _) hB3.size); have hlen4 := len_take1 k (d, q) hn; clear hg4) | (refine step_append_rows flowElem flOne rfl (.tmp 61) (.tmp 64) rfl w4 (lo := w.heap.size) rfl hrow4 hlen4 rfl (HD.out _ hB4) hB4.size ?_; intro v5 w5 hrow5 hg5; have hB5 : Below w.heap.size w w5 := hB4.trans (RowVal.below hrow4 hg5 (Nat.le_refl _) hB4.size); clear hg5))
        all_goals
          have hsz5 := hB5.size
          go_wp2
          go_ret
          refine oneRow_mk ?_ hB5
          rw [addS_gt l d q k hlt HI.out (by have := H2.out; omega)]
          exact hrow5
    · obtain rfl : k = l.length := by omega
      go_wp2_with (at_builtin; refine wpList_append_copy flowElem flOne rfl (.tmp 24) (.tmp 25) rfl rfl (empty_row rfl (Nat.le_refl _)) rfl (ha.keep (below_alloc _ _)) (by simp) ?_; intro A2 c2 w2 ho2 hbl; have hB : Below w.heap.size w w2 := (below_alloc w (.cells #[] 90)).trans (hbl _ (Nat.le_refl _) (by simp)); clear hbl)
      have hsz := hB.size
      have HT : Hid (∀ W, Below w.heap.size w W → RowsIn flF W A l.length l) := fun W hW => ha.keep hW
      have HD : Hid (∀ W, Below w.heap.size w W → ∀ X, RowsIn flF W X 0 []) := fun W _ X => RowsIn.nil_ W X
      go_region_law (first | (refine step_append_rows flowElem flOne rfl (.tmp 52) (.tmp 55) rfl ((w2.alloc (.cells #[] 90)).drew) (lo := w.heap.size) (v := .slice (some ⟨w2.heap.size, 0, none⟩) 0 0) (l := []) rfl (RowVal.drew (empty_row (F := flF) (e := 90) (H := w2.heap.size) rfl hB.size)) (Nat.zero_le _) rfl (HT.out _ ((hB.alloc hB.size _).drew)) ((hB.alloc hB.size _).drew).size ?_; intro v3 w3 hrow3 hg3; rw [List.nil_append] at hrow3; have hB3 : Below w.heap.size w w3 := ((hB.alloc hB.size _).drew).trans (RowVal.below (RowVal.drew (empty_row (F := flF) (e := 90) (H := w2.heap.size) rfl hB.size)) hg3 (Nat.le_refl _) ((hB.alloc hB.size _).drew).size); have hlen3 := (Nat.le_trans hn (by decide) : l.length ≤ 16777216); have hle3 := le_alloc1 hB3.size (.cells #[.int .i64 d, .int .i64 q] 90); clear hg3) | (refine step_append_rows flowElem flOne rfl (.tmp 52) (.tmp 55) rfl (((w2.alloc (.cells #[] 90)).alloc (.cells #[.int .i64 d, .int .i64 q] 90)).drew) (lo := w.heap.size) (v := .slice (some ⟨w2.heap.size, 0, none⟩) 0 0) (l := []) rfl (RowVal.drew (RowVal.alloc (empty_row (F := flF) (e := 90) (H := w2.heap.size) rfl hB.size) _)) (Nat.zero_le _) rfl (HT.out _ ((below_two hB _ _).drew)) ((below_two hB _ _).drew).size ?_; intro v3 w3 hrow3 hg3; rw [List.nil_append] at hrow3; have hB3 : Below w.heap.size w w3 := ((below_two hB _ _).drew).trans (RowVal.below (RowVal.drew (RowVal.alloc (empty_row (F := flF) (e := 90) (H := w2.heap.size) rfl hB.size) _)) hg3 (Nat.le_refl _) ((below_two hB _ _).drew).size); have hX3 := RowsIn.far (RowsIn.drew (new_row _ (H := w2.heap.size + 1) (size_alloc1 _ _) d q)) hg3 (by simp [Value.ownBlock]); have hlen3 := (Nat.le_trans hn (by decide) : l.length ≤ 16777216); have hle3 := le_alloc1 hB3.size (.cells #[.int .i64 d, .int .i64 q] 90); clear hg3) | (refine step_append_rows flowElem flOne rfl (.tmp 52) (.tmp 55) rfl (((w2.alloc (.cells #[.int .i64 d, .int .i64 q] 90)).alloc (.cells #[] 90)).drew) (lo := w.heap.size) (v := .slice (some ⟨w2.heap.size + 1, 0, none⟩) 0 0) (l := []) rfl (RowVal.drew (empty_row (F := flF) (e := 90) (H := w2.heap.size + 1) (size_alloc1 _ _) (le_alloc1 hB.size _))) (Nat.zero_le _) rfl (HT.out _ ((below_two hB _ _).drew)) ((below_two hB _ _).drew).size ?_; intro v3 w3 hrow3 hg3; rw [List.nil_append] at hrow3; have hB3 : Below w.heap.size w w3 := ((below_two hB _ _).drew).trans (RowVal.below (RowVal.drew (empty_row (F := flF) (e := 90) (H := w2.heap.size + 1) (size_alloc1 _ _) (le_alloc1 hB.size _))) hg3 (Nat.le_refl _) ((below_two hB _ _).drew).size); have hX3 := RowsIn.far (RowsIn.drew ((new_row w2 rfl d q).keep (below_alloc _ _))) hg3 (by simp [Value.ownBlock]); have hlen3 := (Nat.le_trans hn (by decide) : l.length ≤ 16777216); have hle3 := le_alloc1 hB3.size (.cells #[.int .i64 d, .int .i64 q] 90); clear hg3) | (refine step_append_rows flowElem flOne rfl (.tmp 56) (.tmp 60) rfl (w3.alloc (.cells #[.int .i64 d, .int .i64 q] 90)) (lo := w.heap.size) rfl (RowVal.alloc hrow3 _) hlen3 rfl (new_row w3 rfl d q) hle3 ?_; intro v4 w4 hrow4 hg4; have hB4 : Below w.heap.size w w4 := (hB3.alloc hB3.size _).trans (RowVal.below (RowVal.alloc hrow3 _) hg4 (Nat.le_refl _) hle3); have hlen4 := len_1 (d, q) hn; clear hg4) | (refine step_append_rows flowElem flOne rfl (.tmp 56) (.tmp 60) rfl w3 (lo := w.heap.size) rfl hrow3 hlen3 rfl hX3 hB3.size ?_; intro v4 w4 hrow4 hg4; have hB4 : Below w.heap.size w w4 := hB3.trans (RowVal.below hrow3 hg4 (Nat.le_refl _) hB3.size); have hlen4 := len_1 (d, q) hn; clear hg4) | (refine step_append_rows flowElem flOne rfl (.tmp 61) (.tmp 64) rfl w4 (lo := w.heap.size) rfl hrow4 hlen4 rfl (HD.out _ hB4 _) hB4.size ?_; intro v5 w5 hrow5 hg5; have hB5 : Below w.heap.size w w5 := hB4.trans (RowVal.below hrow4 hg5 (Nat.le_refl _) hB4.size); clear hg5))
      all_goals
        have hsz5 := hB5.size
        rw [List.append_nil] at hrow5
        go_wp2
        all_goals
          go_ret
          refine oneRow_mk ?_ hB5
          rw [addS_end l d q HI.out]
          exact hrow5
end Go.Proofs.YtlnkofnfgemfdaaGreat
/- The walks of MergeFlows. -/
namespace Go.Proofs.YtlnkofnfgemfdaaGreat
open Go.RowKit
def mergeTo (a b : List Fl) (k : Nat) : List Fl := (b.take k).foldl (fun o f => addS o f.1 f.2) a
theorem mergeTo_succ (a b : List Fl) (k : Nat) (h : k < b.length) : mergeTo a b (k + 1) = addS (mergeTo a b k) b[k].1 b[k].2 := by
  unfold mergeTo
  rw [List.take_succ_eq_append_getElem h, List.foldl_append]; rfl
theorem mergeTo_parts (a b : List Fl) (ha : areFlows a = true) (hb : areFlows b = true) (k : Nat) (hk : k ≤ b.length) :
    ascends (mergeTo a b k) ∧ (mergeTo a b k).length ≤ 40 + k ∧ ∀ f ∈ mergeTo a b k, 0 ≤ f.2 ∧ f.2 ≤ 1000000000 + 1000000000 * k := by
  induction k with
  | zero =>
    refine ⟨areFlows_ascends ha, (areFlows_parts ha).2, fun f hf => ?_⟩
    have := (areFlows_mem ha f hf).2
    simp; omega
  | succ k ih =>
    obtain ⟨h1, h2, h3⟩ := ih (by omega)
    have hm := (areFlows_mem hb b[k] (List.getElem_mem (by omega))).2
    rw [mergeTo_succ a b k (by omega)]
    refine ⟨addS_ascends _ _ _ h1, by have := addS_len (mergeTo a b k) b[k].1 b[k].2; omega, fun f hf => ?_⟩
    have := addS_bd (mergeTo a b k) b[k].1 b[k].2 0 (1000000000 + 1000000000 * k) 0 1000000000 h3 (by omega) (by omega) (by omega) (by omega) (by omega) f hf
    simp; omega
def mergeFlows (a b : List Fl) : List Fl × Bool := if (areFlows a && areFlows b) && areFlows (mergeTo a b b.length) then (mergeTo a b b.length, true) else ([], false)
theorem mergeFlows_no {a b : List Fl} (h : ((areFlows a && areFlows b) && areFlows (mergeTo a b b.length)) = false) : mergeFlows a b = ([], false) := by unfold mergeFlows; rw [h]; rfl
theorem mergeFlows_yes {a b : List Fl} (h : ((areFlows a && areFlows b) && areFlows (mergeTo a b b.length)) = true) : mergeFlows a b = (mergeTo a b b.length, true) := by unfold mergeFlows; rw [h]; rfl
theorem mergeFlows_flows (a b : List Fl) : areFlows (mergeFlows a b).1 = true := by
  unfold mergeFlows
  split
  · rename_i h
    simp only [Bool.and_eq_true] at h
    exact h.2
  · rfl
theorem mergeFlows_len (a b : List Fl) : (mergeFlows a b).1.length ≤ 16777216 := by
  have := (areFlows_parts (mergeFlows_flows a b)).2
  omega
theorem own_cap {w : World} {lo n c : Nat} {A : Option Addr} {l : List Fl} (h : OwnRows flF 90 w lo A n c l) : n ≤ c ∧ c ≤ maxLen := by
  rcases h.2.2 with ⟨hv, h0⟩ | ⟨g, cap, cur, hv, _, _, h1, h2, _⟩
  · injection hv with _ h1 h2; unfold maxLen; omega
  · injection hv with _ h3 h4; subst h4; exact ⟨h1, h2⟩
end Go.Proofs.YtlnkofnfgemfdaaGreat
/- The walks of DemandFlows. -/
namespace Go.Proofs.YtlnkofnfgemfdaaGreat
open Go.RowKit
def demStep (item : ByteArray) (o : List Fl) (d : Dm) : List Fl := if d.2.1.toList == item.toList then addS o d.2.2.2.1 d.2.2.1 else o
def demTo (l : List Dm) (item : ByteArray) (k : Nat) : List Fl := (l.take k).foldl (demStep item) []
theorem demTo_succ (l : List Dm) (item : ByteArray) (k : Nat) (h : k < l.length) : demTo l item (k + 1) = demStep item (demTo l item k) l[k] := foldl_take _ _ _ _ h
theorem areDemands_mem {l : List Dm} (h : areDemands l = true) {k : Nat} (hk : k < l.length) : 1 ≤ l[k].2.2.1 ∧ l[k].2.2.1 ≤ 100000 ∧ 0 ≤ l[k].2.2.2.1 ∧ l[k].2.2.2.1 ≤ 999 := by
  simp only [areDemands, Bool.and_eq_true, List.all_eq_true, List.mem_range] at h
  have := h.1 k hk
  simp only [okDem, dm_getD l k hk, Bool.and_eq_true, inB_iff] at this
  omega
theorem areDemands_len {l : List Dm} (h : areDemands l = true) : l.length ≤ 16 := by
  simp only [areDemands, Bool.and_eq_true, decide_eq_true_eq] at h
  omega
theorem demTo_parts (l : List Dm) (item : ByteArray) (h : areDemands l = true) (k : Nat) (hk : k ≤ l.length) : ascends (demTo l item k) ∧ (demTo l item k).length ≤ k ∧ ∀ f ∈ demTo l item k, 0 ≤ f.2 ∧ f.2 ≤ 100000 * k := by
  induction k with
  | zero => exact ⟨fun i j hj => by simp [demTo] at hj, by simp [demTo], fun f hf => by simp [demTo] at hf⟩
  | succ k ih =>
    obtain ⟨h1, h2, h3⟩ := ih (by omega)
    have hm := areDemands_mem h (show k < l.length by omega)
    rw [demTo_succ l item k (by omega)]
    unfold demStep
    split
    · refine ⟨addS_ascends _ _ _ h1, by have := addS_len (demTo l item k) l[k].2.2.2.1 l[k].2.2.1; omega, fun f hf => ?_⟩
      have := addS_bd (demTo l item k) l[k].2.2.2.1 l[k].2.2.1 0 (100000 * k) 0 100000 h3 (by omega) (by omega) (by omega) (by omega) (by omega) f hf
      omega
    · exact ⟨h1, by omega, fun f hf => by have := h3 f hf; omega⟩
def demandFlows (l : List Dm) (item : ByteArray) : List Fl := if areDemands l then demTo l item l.length else []
theorem demandFlows_no {l : List Dm} {item : ByteArray} (h : areDemands l = false) : demandFlows l item = [] := by unfold demandFlows; rw [h]; rfl
theorem demandFlows_yes {l : List Dm} {item : ByteArray} (h : areDemands l = true) : demandFlows l item = demTo l item l.length := by unfold demandFlows; rw [if_pos h]
theorem demandFlows_len (l : List Dm) (item : ByteArray) : (demandFlows l item).length ≤ 16777216 := by
  cases h : areDemands l
  · rw [demandFlows_no h]; simp
  · rw [demandFlows_yes h]
    have := (demTo_parts l item h l.length (Nat.le_refl _)).2.1
    have := areDemands_len h
    omega
end Go.Proofs.YtlnkofnfgemfdaaGreat
