/- Part 14 of the texts of this claim: The walks of l6Has and l6Eval; The walks of l9On and Holds. -/
import Derived.Test.YtlkolehdikfddaaTr7
import Derived.Test.YtlkolehdikfddaaTr13
import Derived.Test.YtlkolehdikfddaaTr11
/- The walks of l6Has and l6Eval. -/
namespace Go.Proofs.Ytlkolehdikfddaa
open Go.RowKit
set_option maxRecDepth 100000 in
theorem specHas_any (A : Option Addr) (n c : Nat) (ch : List Pk) (o v : ByteArray) (w : World) (hl : PicksIn w A n ch) :
    Calls Try.prog 95 #[.slice A n c, .string o, .string v] w fun e w' => e = .returned (.bool (hasPk ch o v)) ∧ w = w' := by
  have hn := hl.len
  obtain rfl := hl.1
  go_enter Try.func95, Try.ntmps95
  go_wp2
  go_loop [7] (fun i => ∃ k : Nat, k ≤ ch.length ∧ i = .int .i64 k ∧ Hid ((ch.take k).any (fun p => (p.1.toList == o.toList) && (p.2.toList == v.toList)) = false)) (fun i => ch.length - (intOf i).toNat)
  case atStart => exact ⟨0, by omega, rfl, rfl⟩
  case round =>
    obtain ⟨k, hk, rfl, HI⟩ := hrel
    by_cases hlt : k < ch.length
    · obtain ⟨b, o1, rfl, hbl, hc0, hc1⟩ := pick_at hl hlt
      cases h1 : (ch[k].1.toList == o.toList)
      · have HX : Hid ((ch.take (k + 1)).any (fun p => (p.1.toList == o.toList) && (p.2.toList == v.toList)) = false) := by show _ = _; rw [any_take _ _ _ hlt, HI.out, h1]; rfl
        go_wp2
        go_round
        case rel => exact ⟨k + 1, by omega, by go_num, HX.out⟩
        case measure => simp [intOf]; omega
      cases h2 : (ch[k].2.toList == v.toList)
      · have HX : Hid ((ch.take (k + 1)).any (fun p => (p.1.toList == o.toList) && (p.2.toList == v.toList)) = false) := by show _ = _; rw [any_take _ _ _ hlt, HI.out, h2]; simp
        go_wp2
        go_round
        case rel => exact ⟨k + 1, by omega, by go_num, HX.out⟩
        case measure => simp [intOf]; omega
      · have HF := Lib.hid (has_hit hlt (by rw [h1, h2]; rfl))
        go_wp2
        go_ret
        exact ⟨ret_bool HF.out.symm, rfl⟩
    · obtain rfl : k = ch.length := by omega
      have HF := Lib.hid (has_miss HI.out)
      go_wp2
      go_ret
      exact ⟨ret_bool HF.out.symm, rfl⟩
set_option maxRecDepth 100000 in
set_option maxHeartbeats 4000000 in
theorem specEval_any (A B : Option Addr) (n c m d : Nat) (l : List Cn) (ch : List Pk) (w : World) (hl : CondsIn w A n l) (hp : PicksIn w B m ch) (hi : isCond l = true) :
    Calls Try.prog 85 #[.slice A n c, .slice B m d] w fun e w' => e = .returned (.bool (condVal l ch)) ∧ Below w.heap.size w w' := by
  have hn := hl.len
  have hm := hp.len
  obtain rfl := hl.1
  obtain rfl := hp.1
  have h30 := (isCond_parts hi).1
  have HK := Lib.hid (ev_kinds hi ch)
  have HEND := Lib.hid (ev_end hi ch)
  have HS := Lib.hid (evTo_succ l ch)
  clear hi
  go_enter Try.func85, Try.ntmps85
  go_wp2_with fail
  have hr : BRow (w.alloc (.cells #[] 4)) w.heap.size w.heap.size 0 0 [] := bRow_empty rfl (Nat.le_refl _)
  have hb := below_alloc w (.cells #[] 4)
  generalize (w.alloc (.cells #[] 4)) = V at *
  go_loopw [5, 6] (fun s i wr => ∃ k g q : Nat, k ≤ l.length ∧ i = .int .i64 k ∧ s = .slice (some ⟨g, 0, none⟩) (evTo l ch k).length q ∧ BRow wr w.heap.size g (evTo l ch k).length q (evTo l ch k) ∧ Below w.heap.size w wr) (fun _ i _ => l.length - (intOf i).toNat)
  case atStart => exact ⟨0, w.heap.size, 0, by omega, rfl, rfl, hr, hb⟩
  case round =>
    clear hr hb
    obtain ⟨k, g, q, hk, rfl, rfl, hr, hb⟩ := hrel
    by_cases hlt : k < l.length
    · obtain ⟨b, o, rfl, hbl, hc0, hc1, hc2⟩ := cond_at (hl.keep hb) hlt
      obtain ⟨hst, hkind⟩ := HK.out k hlt
      have HE := Lib.hid (HS.out k hlt)
      generalize evTo l ch k = st at *
      have hsz := hb.size
      have hl1 : st.length ≤ 16777216 := by omega
      rcases hkind with e0 | e1 | ⟨e2, hz⟩ | ⟨e3, hz⟩ | ⟨e4, hz⟩
      · have HX := Lib.hid (HE.out.trans (evNext_0 ch st l[k] e0))
        rw [e0] at hc0
        clear e0 HE
        go_wp2_with (at_builtin; refine wpList_append_bool rfl _ _ rfl rfl hr hl1 true wr.heap.size _ rfl rfl hsz ?_; intro g' c' w2 hr2 hbl2 hgr2)
        go_roundw
        case rel => exact ⟨k + 1, g', c', by omega, by go_num, by rw [HX.out]; simp, by rw [HX.out]; simpa using hr2, hb.trans (hbl2 _ (Nat.le_refl _) hsz)⟩
        case measure => simp [intOf]; omega
      · have HX := Lib.hid (HE.out.trans (evNext_1 ch st l[k] e1))
        rw [e1] at hc0
        clear e1 HE
        have hh := specHas_any _ _ d ch l[k].2.1 l[k].2.2 wr.drew (hp.keep hb.drew)
        generalize hasPk ch l[k].2.1 l[k].2.2 = y at *
        have hv5 : RowVal boolF 4 ((wr.alloc (.cells #[.bool y] 4)).drew) w.heap.size (.slice (some ⟨g, 0, none⟩) st.length q) st := RowVal.drew (RowVal.alloc hr.own _)
        have hsrc : RowsIn boolF ((wr.alloc (.cells #[.bool y] 4)).drew) (some ⟨wr.heap.size, 0, none⟩) 1 [y] := RowsIn.drew (lit_rowB rfl _ _ rfl)
        have hsz6 : w.heap.size ≤ ((wr.alloc (.cells #[.bool y] 4)).drew).heap.size := by simp; omega
        go_wp2_with fail
        go_region_law (first | (go_simp; go_at_call 95; refine hh.mono ?_; rintro e w' ⟨rfl, rfl⟩) | (refine step_append_rows boolElem boolOne rfl (.tmp 49) (.tmp 62) rfl ((wr.alloc (.cells #[.bool y] 4)).drew) (lo := w.heap.size) rfl hv5 hl1 rfl hsrc hsz6 ?_; intro v9 w9 hr9 hg9; obtain ⟨b9, c9, rfl⟩ := hr9.some_v (n := st.length) (by simp)))
        all_goals
          have hB9 : Below w.heap.size wr w9 := (((below_alloc wr (.cells #[.bool y] 4)).drew).mono hsz).trans (RowVal.below hv5 hg9 (Nat.le_refl _) hsz6)
          go_wp2_with fail
          go_roundw
          case rel => exact ⟨k + 1, b9, c9, by omega, by go_num, by rw [HX.out]; simp, by rw [HX.out]; have h7 := BRow.of_val (n := st.length + 1) hr9 (by simp); rw [List.length_append]; exact h7, hb.trans hB9⟩
          case measure => simp [intOf]; omega
      · have HX := Lib.hid (HE.out.trans (evNext_2 ch st l[k] e2))
        rw [e2] at hc0
        clear e2 HE
        have j1 : IntKind.i64.wrap ((st.length : Int) - 1) = (st.length : Int) - 1 := IntWalk.i64_in _ (by omega)
        have j2 : (0 : Int) ≤ (st.length : Int) - 1 := by omega
        have j3 : (1 : Int) ≤ (st.length : Int) := by omega
        have j4 : st.length - 1 < st.length := by omega
        have j5 : (st.length : Int) - 1 < (st.length : Int) := by omega
        have cy := hr.cell j4
        have fy := hr.frozen (st.length - 1)
        generalize st.getD (st.length - 1) false = y at *
        have hr2 := hr.set (st.length - 1) (!y)
        have hbs := hb.setCell (p := ⟨g, st.length - 1, none⟩) (by exact hr.lt.1) (.bool (!y))
        go_wp2_with fail
        go_roundw
        case rel => exact ⟨k + 1, g, q, by omega, by go_num, by rw [HX.out, List.length_set], by rw [HX.out, List.length_set]; exact hr2, hbs⟩
        case measure => simp [intOf]; omega
      · have HX := Lib.hid (HE.out.trans (evNext_3 ch st l[k] e3))
        rw [e3] at hc0
        clear e3 HE
        have j1 : IntKind.i64.wrap ((st.length : Int) - 1) = (st.length : Int) - 1 := IntWalk.i64_in _ (by omega)
        have j2 : (0 : Int) ≤ (st.length : Int) - 1 := by omega
        have j4 : st.length - 1 < st.length := by omega
        have j5 : (st.length : Int) - 1 < (st.length : Int) := by omega
        have i1 : IntKind.i64.wrap ((st.length : Int) - 2) = (st.length : Int) - 2 := IntWalk.i64_in _ (by omega)
        have i2 : (0 : Int) ≤ (st.length : Int) - 2 := by omega
        have i4 : st.length - 2 < st.length := by omega
        have i5 : (st.length : Int) - 2 < (st.length : Int) := by omega
        have cy := hr.cell j4
        have cx := hr.cell i4
        have fx := hr.frozen (st.length - 2)
        have hqc := hr.cap
        have HTW := Lib.hid (fun y => set_two st y hz)
        generalize st.getD (st.length - 1) false = y1 at *
        generalize st.getD (st.length - 2) false = y2 at *
        have HR2 : Hid (BRow (wr.setCell ⟨g, st.length - 2, none⟩ (.bool (y2 && y1))) w.heap.size g (st.length - 1) q (evTo l ch (k + 1)) ∧ (evTo l ch (k + 1)).length = st.length - 1) := by
          show _ ∧ _
          rw [HX.out, ← HTW.out]
          exact ⟨(hr.set _ _).take _ (by omega), by simp⟩
        have hbs := hb.setCell (p := ⟨g, st.length - 2, none⟩) (by exact hr.lt.1) (.bool (y2 && y1))
        cases y2
        all_goals
          go_wp2_with fail
          go_roundw
          case rel => exact ⟨k + 1, g, q, by omega, by go_num, by rw [HR2.out.2], by rw [HR2.out.2]; exact HR2.out.1, hbs⟩
          case measure => simp [intOf]; omega
      · have HX := Lib.hid (HE.out.trans (evNext_4 ch st l[k] e4))
        rw [e4] at hc0
        clear e4 HE
        have j1 : IntKind.i64.wrap ((st.length : Int) - 1) = (st.length : Int) - 1 := IntWalk.i64_in _ (by omega)
        have j2 : (0 : Int) ≤ (st.length : Int) - 1 := by omega
        have j4 : st.length - 1 < st.length := by omega
        have j5 : (st.length : Int) - 1 < (st.length : Int) := by omega
        have i1 : IntKind.i64.wrap ((st.length : Int) - 2) = (st.length : Int) - 2 := IntWalk.i64_in _ (by omega)
        have i2 : (0 : Int) ≤ (st.length : Int) - 2 := by omega
        have i4 : st.length - 2 < st.length := by omega
        have i5 : (st.length : Int) - 2 < (st.length : Int) := by omega
        have cy := hr.cell j4
        have cx := hr.cell i4
        have fx := hr.frozen (st.length - 2)
        have hqc := hr.cap
        have HTW := Lib.hid (fun y => set_two st y hz)
        generalize st.getD (st.length - 1) false = y1 at *
        generalize st.getD (st.length - 2) false = y2 at *
        have HR2 : Hid (BRow (wr.setCell ⟨g, st.length - 2, none⟩ (.bool (y2 || y1))) w.heap.size g (st.length - 1) q (evTo l ch (k + 1)) ∧ (evTo l ch (k + 1)).length = st.length - 1) := by
          show _ ∧ _
          rw [HX.out, ← HTW.out]
          exact ⟨(hr.set _ _).take _ (by omega), by simp⟩
        have hbs := hb.setCell (p := ⟨g, st.length - 2, none⟩) (by exact hr.lt.1) (.bool (y2 || y1))
        cases y2
        all_goals
          go_wp2_with fail
          go_roundw
          case rel => exact ⟨k + 1, g, q, by omega, by go_num, by rw [HR2.out.2], by rw [HR2.out.2]; exact HR2.out.1, hbs⟩
          case measure => simp [intOf]; omega
    · obtain rfl : k = l.length := by omega
      have h1 := HEND.out
      have HV : Hid ((evTo l ch l.length).getD 0 false = condVal l ch) := rfl
      generalize evTo l ch l.length = st at *
      have c0 := hr.cell (j := 0) (by omega)
      rw [HV.out] at c0
      rw [h1]
      go_wp2_with fail
      go_ret
      exact ⟨rfl, hb⟩
end Go.Proofs.Ytlkolehdikfddaa
/- The walks of l9On and Holds. -/
namespace Go.Proofs.Ytlkolehdikfddaa
open Go.RowKit
set_option maxRecDepth 100000 in
set_option maxHeartbeats 4000000 in
theorem specOn_any (x : Bl) (B C : Option Addr) (m c m2 c2 : Nat) (day : Int) (ch : List Pk) (w : World) (hl : CondsIn w B m x.2.2.2.2.2) (hp : PicksIn w C m2 ch) (hi : isCond x.2.2.2.2.2 = true) :
    Calls Try.prog 66 #[.agg #[.string x.1, .string x.2.1, .int .i64 x.2.2.1, .int .i64 x.2.2.2.1, .int .i64 x.2.2.2.2.1, .slice B m c], .int .i64 day, .slice C m2 c2] w fun e w' => e = .returned (.bool (lineOn ch day x)) ∧ Below w.heap.size w w' := by
  have hb := below_alloc w (.cells #[.string x.1, .string x.2.1, .int .i64 x.2.2.1, .int .i64 x.2.2.2.1, .int .i64 x.2.2.2.2.1, .slice B m c] 90)
  by_cases h1 : x.2.2.2.1 ≤ day
  case neg =>
    have HF : Hid (lineOn ch day x = false) := by show _ = _; unfold lineOn; rw [decide_eq_false h1]; rfl
    go_enter Try.func66, Try.ntmps66
    go_wp2_with fail
    go_ret
    exact ⟨ret_bool HF.out.symm, hb⟩
  by_cases h2 : day ≤ x.2.2.2.2.1
  case neg =>
    have HF : Hid (lineOn ch day x = false) := by show _ = _; unfold lineOn; rw [decide_eq_false h2]; simp
    go_enter Try.func66, Try.ntmps66
    go_wp2_with fail
    go_ret
    exact ⟨ret_bool HF.out.symm, hb⟩
  have HF : Hid (lineOn ch day x = condVal x.2.2.2.2.2 ch) := by show _ = _; unfold lineOn; rw [decide_eq_true h1, decide_eq_true h2]; rfl
  have hh := specEval_any B C m c m2 c2 x.2.2.2.2.2 ch _ (hl.keep hb) (hp.keep hb) hi
  go_enter Try.func66, Try.ntmps66
  go_wp2_with fail
  refine hh.mono ?_
  rintro e w1 ⟨rfl, hs⟩
  go_wp2_with fail
  go_ret
  exact ⟨ret_bool HF.out.symm, below_on hb hs⟩
set_option maxRecDepth 100000 in
set_option maxHeartbeats 8000000 in
theorem implHolds_any (A B : Option Addr) (n c m d : Nat) (l : List Cn) (ch : List Pk) (w : World) (hl : CondsIn w A n l) (hp : PicksIn w B m ch) (hok : ∀ x ∈ l, okCn x) (hi : isCond l = true) :
    Calls Try.prog 49 #[.slice A n c, .slice B m d] w fun e w' => e = .returned (.bool (condVal l ch)) ∧ Below w.heap.size w w' := by
  have hn := hl.len
  have hm := hp.len
  obtain rfl := hl.1
  obtain rfl := hp.1
  have h30 := (isCond_parts hi).1
  have HK := Lib.hid (ev_kinds hi ch)
  have HEND := Lib.hid (ev_end hi ch)
  have HS := Lib.hid (evTo_succ l ch)
  have HOK := Lib.hid hok
  have HI := Lib.hid hi
  clear hi hok
  go_enter Try.func49, Try.ntmps49
  go_wp2_with fail
  refine (implIsCond_any _ _ _ l _ hl HOK.out).mono ?_
  rintro e w0 ⟨rfl, hs0⟩
  rw [HI.out]
  go_wp2_with fail
  have hr : BRow (w0.alloc (.cells #[] 4)) w.heap.size w0.heap.size 0 0 [] := bRow_empty rfl hs0.size
  have hb := hs0.alloc hs0.size (.cells #[] 4)
  generalize hW0 : w0.heap.size = g0 at *
  generalize (w0.alloc (.cells #[] 4)) = V at *
  clear hs0 hW0
  go_loopw [5, 18] (fun s i wr => ∃ k g q : Nat, k ≤ l.length ∧ i = .int .i64 k ∧ s = .slice (some ⟨g, 0, none⟩) (evTo l ch k).length q ∧ BRow wr w.heap.size g (evTo l ch k).length q (evTo l ch k) ∧ Below w.heap.size w wr) (fun _ i _ => l.length - (intOf i).toNat)
  case atStart => exact ⟨0, g0, 0, by omega, rfl, rfl, hr, hb⟩
  case round =>
    clear hr hb
    obtain ⟨k, g, q, hk, rfl, rfl, hr, hb⟩ := hrel
    by_cases hlt : k < l.length
    · obtain ⟨b, o, rfl, hbl, hc0, hc1, hc2⟩ := cond_at (hl.keep hb) hlt
      obtain ⟨hst, hkind⟩ := HK.out k hlt
      have HE := Lib.hid (HS.out k hlt)
      generalize evTo l ch k = st at *
      have hsz := hb.size
      have hl1 : st.length ≤ 16777216 := by omega
      have hx := below_alloc wr (.cells #[.int .i64 l[k].1, .string l[k].2.1, .string l[k].2.2] 114)
      have hB := below_on hb hx
      have hr1 := hr.keep hx
      have hsz1 := hB.size
      have hz1 : (wr.alloc (.cells #[.int .i64 l[k].1, .string l[k].2.1, .string l[k].2.2] 114)).heap.size = wr.heap.size + 1 := by simp
      rcases hkind with e0 | e1 | ⟨e2, hz⟩ | ⟨e3, hz⟩ | ⟨e4, hz⟩
      · have HX := Lib.hid (HE.out.trans (evNext_0 ch st l[k] e0))
        rw [e0] at hc0 hx hB hr1 hsz1 hz1
        clear e0 HE
        go_wp2_with (at_builtin; refine wpList_append_bool rfl _ _ rfl rfl hr1 hl1 true (wr.heap.size + 1) _ (by simp) rfl hsz1 ?_; intro g' c' w2 hr2 hbl2 hgr2)
        go_roundw
        case rel => exact ⟨k + 1, g', c', by omega, by go_num, by rw [HX.out]; simp, by rw [HX.out]; simpa using hr2, hB.trans (hbl2 _ (Nat.le_refl _) hsz1)⟩
        case measure => simp [intOf]; omega
      · have HX := Lib.hid (HE.out.trans (evNext_1 ch st l[k] e1))
        rw [e1] at hc0 hx hB hr1 hsz1 hz1
        clear e1 HE
        have BX : BoxOf (wr.alloc (.cells #[.int .i64 1, .string l[k].2.1, .string l[k].2.2] 114)) wr.heap.size [.int .i64 1, .string l[k].2.1, .string l[k].2.2] := boxOf_alloc wr #[.int .i64 1, .string l[k].2.1, .string l[k].2.2] 114
        go_wp2_with fail
        generalize (wr.alloc (.cells #[.int .i64 1, .string l[k].2.1, .string l[k].2.2] 114)) = V1 at *
        generalize wr.heap.size = N at *
        clear hr hb hx
        go_loopw [9, 35] (fun s i wr => ∃ j : Nat, j ≤ ch.length ∧ i = .int .i64 j ∧ s = .bool ((ch.take j).any (fun p => (p.1.toList == l[k].2.1.toList) && (p.2.toList == l[k].2.2.toList))) ∧ BRow wr w.heap.size g st.length q st ∧ BoxOf wr N [.int .i64 1, .string l[k].2.1, .string l[k].2.2] ∧ Below w.heap.size w wr) (fun _ i _ => ch.length - (intOf i).toNat)
        case atStart => exact ⟨0, by omega, rfl, rfl, hr1, BX, hB⟩
        case round =>
          clear hr1 BX hB
          obtain ⟨j, hj, rfl, rfl, hr1, BX, hB⟩ := hrel
          by_cases hjl : j < ch.length
          · obtain ⟨b2, o2, rfl, hbl2, hp0, hp1⟩ := pick_at (hp.keep hB) hjl
            have HT := Lib.hid (any_take ch (fun p => (p.1.toList == l[k].2.1.toList) && (p.2.toList == l[k].2.2.toList)) j hjl)
            have hy := below_alloc wr (.cells #[.string ch[j].1, .string ch[j].2] 118)
            have x0 := (BX.keep hy).2 0 _ rfl
            have x1 := (BX.keep hy).2 1 _ rfl
            have x2 := (BX.keep hy).2 2 _ rfl
            generalize ((ch.take j).any (fun p => (p.1.toList == l[k].2.1.toList) && (p.2.toList == l[k].2.2.toList))) = y at *
            cases y
            · cases h1 : (ch[j].1.toList == l[k].2.1.toList)
              · go_wp2_with fail
                go_roundw
                case rel => exact ⟨j + 1, by omega, by go_num, by rw [HT.out, h1]; rfl, hr1.keep hy, BX.keep hy, below_on hB hy⟩
                case measure => simp [intOf]; omega
              · cases h2 : (ch[j].2.toList == l[k].2.2.toList)
                all_goals
                  go_wp2_with fail
                  go_roundw
                  case rel => exact ⟨j + 1, by omega, by go_num, by rw [HT.out, h1, h2]; rfl, hr1.keep hy, BX.keep hy, below_on hB hy⟩
                  case measure => simp [intOf]; omega
            · go_wp2_with fail
              go_roundw
              case rel => exact ⟨j + 1, by omega, by go_num, by rw [HT.out]; rfl, hr1.keep hy, BX.keep hy, below_on hB hy⟩
              case measure => simp [intOf]; omega
          · obtain rfl : j = ch.length := by omega
            have HY : Hid ((ch.take ch.length).any (fun p => (p.1.toList == l[k].2.1.toList) && (p.2.toList == l[k].2.2.toList)) = hasPk ch l[k].2.1 l[k].2.2) := by show _ = _; rw [List.take_length]; rfl
            rw [HY.out]
            generalize hasPk ch l[k].2.1 l[k].2.2 = y at *
            have hsz2 := hB.size
            go_wp2_with (at_builtin; refine wpList_append_bool rfl _ _ rfl rfl hr1 hl1 y (wr.heap.size) _ rfl rfl hsz2 ?_; intro g' c' w2 hr2 hbl2 hgr2)
            go_roundw
            case rel => exact ⟨k + 1, g', c', by omega, by go_num, by rw [HX.out]; simp, by rw [HX.out]; simpa using hr2, hB.trans (hbl2 _ (Nat.le_refl _) hsz2)⟩
            case measure => simp [intOf]; omega
      · have HX := Lib.hid (HE.out.trans (evNext_2 ch st l[k] e2))
        rw [e2] at hc0 hx hB hr1 hsz1 hz1
        clear e2 HE
        have j1 : IntKind.i64.wrap ((st.length : Int) - 1) = (st.length : Int) - 1 := IntWalk.i64_in _ (by omega)
        have j2 : (0 : Int) ≤ (st.length : Int) - 1 := by omega
        have j3 : (1 : Int) ≤ (st.length : Int) := by omega
        have j4 : st.length - 1 < st.length := by omega
        have j5 : (st.length : Int) - 1 < (st.length : Int) := by omega
        have cy := hr1.cell j4
        have fy := hr1.frozen (st.length - 1)
        generalize st.getD (st.length - 1) false = y at *
        have hr2 := hr1.set (st.length - 1) (!y)
        have hbs := hB.setCell (p := ⟨g, st.length - 1, none⟩) (by exact hr1.lt.1) (.bool (!y))
        go_wp2_with fail
        go_roundw
        case rel => exact ⟨k + 1, g, q, by omega, by go_num, by rw [HX.out, List.length_set], by rw [HX.out, List.length_set]; exact hr2, hbs⟩
        case measure => simp [intOf]; omega
      · have HX := Lib.hid (HE.out.trans (evNext_3 ch st l[k] e3))
        rw [e3] at hc0 hx hB hr1 hsz1 hz1
        clear e3 HE
        have j1 : IntKind.i64.wrap ((st.length : Int) - 1) = (st.length : Int) - 1 := IntWalk.i64_in _ (by omega)
        have j2 : (0 : Int) ≤ (st.length : Int) - 1 := by omega
        have j4 : st.length - 1 < st.length := by omega
        have j5 : (st.length : Int) - 1 < (st.length : Int) := by omega
        have i1 : IntKind.i64.wrap ((st.length : Int) - 2) = (st.length : Int) - 2 := IntWalk.i64_in _ (by omega)
        have i2 : (0 : Int) ≤ (st.length : Int) - 2 := by omega
        have i4 : st.length - 2 < st.length := by omega
        have i5 : (st.length : Int) - 2 < (st.length : Int) := by omega
        have cy := hr1.cell j4
        have cx := hr1.cell i4
        have hqc := hr1.cap
        have j3 : (1 : Int) ≤ (st.length : Int) := by omega
        have i6 : (2 : Int) ≤ (st.length : Int) := by omega
        have i7 : (st.length : Int) - 2 ≤ (q : Int) := by omega
        have i8 : ((st.length : Int) - 2).toNat = st.length - 2 := by omega
        have hle : (st.take (st.length - 2)).length = st.length - 2 := by rw [List.length_take]; omega
        generalize st.getD (st.length - 1) false = y1 at *
        generalize st.getD (st.length - 2) false = y2 at *
        have hz0 := hsz1
        go_wp2_with fail
        generalize (wr.alloc (.cells #[.int .i64 3, .string l[k].2.1, .string l[k].2.2] 114)) = V1 at *
        cases y2
        · have HYY : Hid (evTo l ch (k + 1) = st.take (st.length - 2) ++ [false]) := by show _ = _; rw [HX.out]; rfl
          have hr6 : BRow (V1.alloc (.cells #[.bool false] 4)) w.heap.size g st.length q st := hr1.keep (below_alloc _ _)
          have r1 : ((V1.alloc (.cells #[.bool false] 4)).drew).cell? ⟨wr.heap.size + 1, 0, none⟩ = some (.bool false) := by rw [← hz1]; simp [go_sem]
          have r2 := hr6.drew.frozen (st.length - 2)
          have r3 := hr6.drew.cell i4
          have r5 : st.length - 2 + 1 ≤ q := by omega
          have hr7 := (hr6.set (st.length - 2) false).take (st.length - 1) (by omega)
          rw [set_two st _ hz] at hr7
          have hr8 := hr7.drew
          have hB8 := ((hB.alloc hz0 (.cells #[.bool false] 4)).setCell (p := ⟨g, st.length - 2, none⟩) (by exact hr1.lt.1) (.bool false)).drew
          have e9 : st.length - 1 = st.length - 2 + 1 := by omega
          rw [e9] at hr8
          clear hr6 hr7
          go_region
          all_goals
            go_wp2_with fail
            go_roundw
            case rel => exact ⟨k + 1, g, q, by omega, by go_num, by rw [HYY.out, List.length_append, hle]; rfl, by rw [HYY.out, List.length_append, hle]; exact hr8, hB8⟩
            case measure => simp [intOf]; omega
        · have HYY : Hid (evTo l ch (k + 1) = st.take (st.length - 2) ++ [y1]) := by show _ = _; rw [HX.out]; rfl
          have hv5 : RowVal boolF 4 ((V1.alloc (.cells #[.bool y1] 4)).drew) w.heap.size (.slice (some ⟨g, 0, none⟩) (st.length - 2) q) (st.take (st.length - 2)) := RowVal.drew (RowVal.alloc (BRow.own (hr1.take (st.length - 2) (by omega))) _)
          have hsrc : RowsIn boolF ((V1.alloc (.cells #[.bool y1] 4)).drew) (some ⟨wr.heap.size + 1, 0, none⟩) 1 [y1] := RowsIn.drew (lit_rowB hz1 _ _ rfl)
          have hsz6 : w.heap.size ≤ ((V1.alloc (.cells #[.bool y1] 4)).drew).heap.size := by simp; omega
          go_region_law (refine step_append_rows boolElem boolOne rfl (.tmp 76) (.tmp 89) rfl ((V1.alloc (.cells #[.bool y1] 4)).drew) (lo := w.heap.size) rfl hv5 (by omega) rfl hsrc hsz6 ?_; intro v9 w9 hr9 hg9; obtain ⟨b9, c9, rfl⟩ := hr9.some_v (n := st.length - 2) (by rw [List.length_append, hle]; rfl))
          all_goals
            have hB9 : Below w.heap.size V1 w9 := (((below_alloc V1 (.cells #[.bool y1] 4)).drew).mono hz0).trans (RowVal.below hv5 hg9 (Nat.le_refl _) hsz6)
            have hr8 := BRow.of_val (n := st.length - 2 + 1) hr9 (by rw [List.length_append, hle]; rfl)
            go_wp2_with fail
            go_roundw
            case rel => exact ⟨k + 1, b9, c9, by omega, by go_num, by rw [HYY.out, List.length_append, hle]; rfl, by rw [HYY.out, List.length_append, hle]; exact hr8, hB.trans hB9⟩
            case measure => simp [intOf]; omega
      · have HX := Lib.hid (HE.out.trans (evNext_4 ch st l[k] e4))
        rw [e4] at hc0 hx hB hr1 hsz1 hz1
        clear e4 HE
        have j1 : IntKind.i64.wrap ((st.length : Int) - 1) = (st.length : Int) - 1 := IntWalk.i64_in _ (by omega)
        have j2 : (0 : Int) ≤ (st.length : Int) - 1 := by omega
        have j4 : st.length - 1 < st.length := by omega
        have j5 : (st.length : Int) - 1 < (st.length : Int) := by omega
        have i1 : IntKind.i64.wrap ((st.length : Int) - 2) = (st.length : Int) - 2 := IntWalk.i64_in _ (by omega)
        have i2 : (0 : Int) ≤ (st.length : Int) - 2 := by omega
        have i4 : st.length - 2 < st.length := by omega
        have i5 : (st.length : Int) - 2 < (st.length : Int) := by omega
        have cy := hr1.cell j4
        have cx := hr1.cell i4
        have hqc := hr1.cap
        have j3 : (1 : Int) ≤ (st.length : Int) := by omega
        have i6 : (2 : Int) ≤ (st.length : Int) := by omega
        have i7 : (st.length : Int) - 2 ≤ (q : Int) := by omega
        have i8 : ((st.length : Int) - 2).toNat = st.length - 2 := by omega
        have hle : (st.take (st.length - 2)).length = st.length - 2 := by rw [List.length_take]; omega
        generalize st.getD (st.length - 1) false = y1 at *
        generalize st.getD (st.length - 2) false = y2 at *
        have hz0 := hsz1
        go_wp2_with fail
        generalize (wr.alloc (.cells #[.int .i64 4, .string l[k].2.1, .string l[k].2.2] 114)) = V1 at *
        cases y2
        · have HYY : Hid (evTo l ch (k + 1) = st.take (st.length - 2) ++ [y1]) := by show _ = _; rw [HX.out]; rfl
          have hv5 : RowVal boolF 4 ((V1.alloc (.cells #[.bool y1] 4)).drew) w.heap.size (.slice (some ⟨g, 0, none⟩) (st.length - 2) q) (st.take (st.length - 2)) := RowVal.drew (RowVal.alloc (BRow.own (hr1.take (st.length - 2) (by omega))) _)
          have hsrc : RowsIn boolF ((V1.alloc (.cells #[.bool y1] 4)).drew) (some ⟨wr.heap.size + 1, 0, none⟩) 1 [y1] := RowsIn.drew (lit_rowB hz1 _ _ rfl)
          have hsz6 : w.heap.size ≤ ((V1.alloc (.cells #[.bool y1] 4)).drew).heap.size := by simp; omega
          go_region_law (refine step_append_rows boolElem boolOne rfl (.tmp 96) (.tmp 109) rfl ((V1.alloc (.cells #[.bool y1] 4)).drew) (lo := w.heap.size) rfl hv5 (by omega) rfl hsrc hsz6 ?_; intro v9 w9 hr9 hg9; obtain ⟨b9, c9, rfl⟩ := hr9.some_v (n := st.length - 2) (by rw [List.length_append, hle]; rfl))
          all_goals
            have hB9 : Below w.heap.size V1 w9 := (((below_alloc V1 (.cells #[.bool y1] 4)).drew).mono hz0).trans (RowVal.below hv5 hg9 (Nat.le_refl _) hsz6)
            have hr8 := BRow.of_val (n := st.length - 2 + 1) hr9 (by rw [List.length_append, hle]; rfl)
            go_wp2_with fail
            go_roundw
            case rel => exact ⟨k + 1, b9, c9, by omega, by go_num, by rw [HYY.out, List.length_append, hle]; rfl, by rw [HYY.out, List.length_append, hle]; exact hr8, hB.trans hB9⟩
            case measure => simp [intOf]; omega
        · have HYY : Hid (evTo l ch (k + 1) = st.take (st.length - 2) ++ [true]) := by show _ = _; rw [HX.out]; rfl
          have hr6 : BRow (V1.alloc (.cells #[.bool true] 4)) w.heap.size g st.length q st := hr1.keep (below_alloc _ _)
          have r1 : ((V1.alloc (.cells #[.bool true] 4)).drew).cell? ⟨wr.heap.size + 1, 0, none⟩ = some (.bool true) := by rw [← hz1]; simp [go_sem]
          have r2 := hr6.drew.frozen (st.length - 2)
          have r3 := hr6.drew.cell i4
          have r5 : st.length - 2 + 1 ≤ q := by omega
          have hr7 := (hr6.set (st.length - 2) true).take (st.length - 1) (by omega)
          rw [set_two st _ hz] at hr7
          have hr8 := hr7.drew
          have hB8 := ((hB.alloc hz0 (.cells #[.bool true] 4)).setCell (p := ⟨g, st.length - 2, none⟩) (by exact hr1.lt.1) (.bool true)).drew
          have e9 : st.length - 1 = st.length - 2 + 1 := by omega
          rw [e9] at hr8
          clear hr6 hr7
          go_region
          all_goals
            go_wp2_with fail
            go_roundw
            case rel => exact ⟨k + 1, g, q, by omega, by go_num, by rw [HYY.out, List.length_append, hle]; rfl, by rw [HYY.out, List.length_append, hle]; exact hr8, hB8⟩
            case measure => simp [intOf]; omega
    · obtain rfl : k = l.length := by omega
      have h1 := HEND.out
      have HV : Hid ((evTo l ch l.length).getD 0 false = condVal l ch) := rfl
      generalize evTo l ch l.length = st at *
      have c0 := hr.cell (j := 0) (by omega)
      rw [HV.out] at c0
      rw [h1]
      go_wp2_with fail
      go_ret
      exact ⟨rfl, hb⟩
end Go.Proofs.Ytlkolehdikfddaa
