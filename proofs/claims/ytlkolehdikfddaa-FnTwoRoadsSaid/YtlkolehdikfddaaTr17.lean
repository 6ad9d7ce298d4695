/- Part 17 of the texts of this claim: The walks of copyLine and inForce; The walk of takenOn's closure; The walk of takenOn. -/
import Derived.Test.YtlkolehdikfddaaTr14
import Derived.Test.YtlkolehdikfddaaTr16
import Derived.Test.YtlkolehdikfddaaTr13
import Derived.Test.YtlkolehdikfddaaTr2
/- The walks of copyLine and inForce. -/
namespace Go.Proofs.Ytlkolehdikfddaa
open Go.RowKit
theorem cnOne : ∀ (a : Cn), ∀ u ∈ cnF.enc a, u.oneCell' = true := by
  intro a u hu
  simp [cnF] at hu
  rcases hu with rfl | rfl | rfl <;> rfl
theorem blElem : ElemOk blF 25 90 := by
  obtain ⟨i, h1, h2, h3, h4⟩ := info_parts blInfo
  exact ⟨i, _, _, Try.underlying25, h1, h2, h3, h4, rfl, by decide, by omega⟩
theorem run_results_bl {fn : Func} {p : Tmp} (h : fn.results = #[.cell p 90]) (tmps : Array Value) (W : World) (N : Nat) (hp : tmps.getD p undef = .pointer (some ⟨N, 0, none⟩)) {a0 a1 a2 a3 a4 a5 : Value} (HB : BoxOf W N [a0, a1, a2, a3, a4, a5]) : (results fn tmps).run Try.prog W = .ok (.agg #[a0, a1, a2, a3, a4, a5]) W := by
  have z0 := HB.2 0 _ rfl
  have z1 := HB.2 1 _ rfl
  have z2 := HB.2 2 _ rfl
  have z3 := HB.2 3 _ rfl
  have z4 := HB.2 4 _ rfl
  have z5 := HB.2 5 _ rfl
  have hp' : tmps[p]?.getD undef = .pointer (some ⟨N, 0, none⟩) := by simpa using hp
  simp [results, h, hp', asAddr]
  go_simp
set_option maxRecDepth 100000 in
set_option maxHeartbeats 4000000 in
theorem copyLine_any (x : Bl) (B : Option Addr) (m c : Nat) (w : World) (hl : CondsIn w B m x.2.2.2.2.2) :
    Calls Try.prog 50 #[.agg #[.string x.1, .string x.2.1, .int .i64 x.2.2.1, .int .i64 x.2.2.2.1, .int .i64 x.2.2.2.2.1, .slice B m c]] w fun e w' => ∃ A' n' c', e = .returned (.agg #[.string x.1, .string x.2.1, .int .i64 x.2.2.1, .int .i64 x.2.2.2.1, .int .i64 x.2.2.2.2.1, .slice A' n' c']) ∧ Below w.heap.size w w' := by
  have hb1 := below_alloc w (.cells #[.string x.1, .string x.2.1, .int .i64 x.2.2.1, .int .i64 x.2.2.2.1, .int .i64 x.2.2.2.2.1, .slice B m c] 90)
  have hb3 : Below w.heap.size w (((w.alloc (.cells #[.string x.1, .string x.2.1, .int .i64 x.2.2.1, .int .i64 x.2.2.2.1, .int .i64 x.2.2.2.2.1, .slice B m c] 90)).alloc (.cells #[.string { data := #[] }, .string { data := #[] }, .int .i64 0, .int .i64 0, .int .i64 0, .slice none 0 0] 90)).alloc (.cells #[] 114)) := below_on (below_on hb1 (below_alloc _ _)) (below_alloc _ _)
  have B3 : BoxOf (((w.alloc (.cells #[.string x.1, .string x.2.1, .int .i64 x.2.2.1, .int .i64 x.2.2.2.1, .int .i64 x.2.2.2.2.1, .slice B m c] 90)).alloc (.cells #[.string { data := #[] }, .string { data := #[] }, .int .i64 0, .int .i64 0, .int .i64 0, .slice none 0 0] 90)).alloc (.cells #[] 114)) w.heap.size [.string x.1, .string x.2.1, .int .i64 x.2.2.1, .int .i64 x.2.2.2.1, .int .i64 x.2.2.2.2.1, .slice B m c] := ((boxOf_alloc w #[.string x.1, .string x.2.1, .int .i64 x.2.2.1, .int .i64 x.2.2.2.1, .int .i64 x.2.2.2.2.1, .slice B m c] 90).keep (below_alloc _ _)).keep (below_alloc _ _)
  have D3 : BoxOf (((w.alloc (.cells #[.string x.1, .string x.2.1, .int .i64 x.2.2.1, .int .i64 x.2.2.2.1, .int .i64 x.2.2.2.2.1, .slice B m c] 90)).alloc (.cells #[.string { data := #[] }, .string { data := #[] }, .int .i64 0, .int .i64 0, .int .i64 0, .slice none 0 0] 90)).alloc (.cells #[] 114)) (w.heap.size + 1) [.string { data := #[] }, .string { data := #[] }, .int .i64 0, .int .i64 0, .int .i64 0, .slice none 0 0] := by
    have h := (boxOf_alloc (w.alloc (.cells #[.string x.1, .string x.2.1, .int .i64 x.2.2.1, .int .i64 x.2.2.2.1, .int .i64 x.2.2.2.2.1, .slice B m c] 90)) #[.string { data := #[] }, .string { data := #[] }, .int .i64 0, .int .i64 0, .int .i64 0, .slice none 0 0] 90).keep (below_alloc _ (.cells #[] 114))
    have e : (w.alloc (.cells #[.string x.1, .string x.2.1, .int .i64 x.2.2.1, .int .i64 x.2.2.2.1, .int .i64 x.2.2.2.2.1, .slice B m c] 90)).heap.size = w.heap.size + 1 := by simp
    rw [e] at h; exact h
  have f1 : ∀ j, (((w.alloc (.cells #[.string x.1, .string x.2.1, .int .i64 x.2.2.1, .int .i64 x.2.2.2.1, .int .i64 x.2.2.2.2.1, .slice B m c] 90)).alloc (.cells #[.string { data := #[] }, .string { data := #[] }, .int .i64 0, .int .i64 0, .int .i64 0, .slice none 0 0] 90)).alloc (.cells #[] 114)).frozen? ⟨w.heap.size, j, none⟩ = false := fun j => by simp [go_sem]
  have f2 : ∀ j, (((w.alloc (.cells #[.string x.1, .string x.2.1, .int .i64 x.2.2.1, .int .i64 x.2.2.2.1, .int .i64 x.2.2.2.2.1, .slice B m c] 90)).alloc (.cells #[.string { data := #[] }, .string { data := #[] }, .int .i64 0, .int .i64 0, .int .i64 0, .slice none 0 0] 90)).alloc (.cells #[] 114)).frozen? ⟨w.heap.size + 1, j, none⟩ = false := fun j => by simp [go_sem]
  have hr3 : RowVal cnF 114 (((w.alloc (.cells #[.string x.1, .string x.2.1, .int .i64 x.2.2.1, .int .i64 x.2.2.2.1, .int .i64 x.2.2.2.2.1, .slice B m c] 90)).alloc (.cells #[.string { data := #[] }, .string { data := #[] }, .int .i64 0, .int .i64 0, .int .i64 0, .slice none 0 0] 90)).alloc (.cells #[] 114)) (w.heap.size + 2) (.slice (some ⟨w.heap.size + 1 + 1, 0, none⟩) 0 0) [] := empty_row (by simp) (by simp)
  have hz3 : w.heap.size + 2 ≤ (((w.alloc (.cells #[.string x.1, .string x.2.1, .int .i64 x.2.2.1, .int .i64 x.2.2.2.1, .int .i64 x.2.2.2.2.1, .slice B m c] 90)).alloc (.cells #[.string { data := #[] }, .string { data := #[] }, .int .i64 0, .int .i64 0, .int .i64 0, .slice none 0 0] 90)).alloc (.cells #[] 114)).heap.size := by simp
  have hl3 := hl.keep hb3
  go_enter Try.func50, Try.ntmps50
  go_wp2_with (at_builtin; refine wpList_append_copy condElem cnOne rfl (.tmp 3) (.tmp 5) rfl rfl hr3 rfl hl3 hz3 ?_; intro A2 c2 w2 ho2 hbl; have hk : Below (w.heap.size + 2) (((w.alloc (.cells #[.string x.1, .string x.2.1, .int .i64 x.2.2.1, .int .i64 x.2.2.2.1, .int .i64 x.2.2.2.2.1, .slice B m c] 90)).alloc (.cells #[.string { data := #[] }, .string { data := #[] }, .int .i64 0, .int .i64 0, .int .i64 0, .slice none 0 0] 90)).alloc (.cells #[] 114)) w2 := hbl _ (Nat.le_refl _) hz3; have B4 : BoxOf w2 w.heap.size [.string x.1, .string x.2.1, .int .i64 x.2.2.1, .int .i64 x.2.2.2.1, .int .i64 x.2.2.2.2.1, .slice B m c] := ⟨by have := hk.size; omega, fun j u hu => (hk.cell (p := ⟨w.heap.size, j, none⟩) (by show w.heap.size < _; omega)).trans (B3.2 j u hu)⟩; have D4 : BoxOf w2 (w.heap.size + 1) [.string { data := #[] }, .string { data := #[] }, .int .i64 0, .int .i64 0, .int .i64 0, .slice none 0 0] := ⟨by have := hk.size; omega, fun j u hu => (hk.cell (p := ⟨w.heap.size + 1, j, none⟩) (by show w.heap.size + 1 < _; omega)).trans (D3.2 j u hu)⟩; have g1 : ∀ j, w2.frozen? ⟨w.heap.size, j, none⟩ = false := fun j => (hk.frozen (p := ⟨w.heap.size, j, none⟩) (by show w.heap.size < _; omega)).trans (f1 j); have g2 : ∀ j, w2.frozen? ⟨w.heap.size + 1, j, none⟩ = false := fun j => (hk.frozen (p := ⟨w.heap.size + 1, j, none⟩) (by show w.heap.size + 1 < _; omega)).trans (f2 j); have x0 := B4.2 0 _ rfl; have x1 := B4.2 1 _ rfl; have x2 := B4.2 2 _ rfl; have x3 := B4.2 3 _ rfl; have x4 := B4.2 4 _ rfl; have x5 := B4.2 5 _ rfl; have y0 := D4.2 0 _ rfl; have y1 := D4.2 1 _ rfl; have y2 := D4.2 2 _ rfl; have y3 := D4.2 3 _ rfl; have y4 := D4.2 4 _ rfl; have y5 := D4.2 5 _ rfl; have p0 := g1 0; have p1 := g1 1; have p5 := g1 5; have q0 := g2 0; have q1 := g2 1; have q2 := g2 2; have q3 := g2 3; have q4 := g2 4; have q5 := g2 5)
  have D5 := D4.off (p := ⟨w.heap.size, 5, none⟩) (by show w.heap.size ≠ w.heap.size + 1; omega) (.slice A2 m c2)
  have G5 : ∀ j, (w2.setCell ⟨w.heap.size, 5, none⟩ (.slice A2 m c2)).frozen? ⟨w.heap.size + 1, j, none⟩ = false := fun j => by simp [go_sem, g2]
  have D6 := D5.set G5 0 (.string x.1) (by simp)
  have G6 := frozen_set (M := w.heap.size + 1) G5 0 (.string x.1)
  have D7 := D6.set G6 1 (.string x.2.1) (by simp)
  have G7 := frozen_set (M := w.heap.size + 1) G6 1 (.string x.2.1)
  have D8 := D7.set G7 2 (.int .i64 x.2.2.1) (by simp)
  have G8 := frozen_set (M := w.heap.size + 1) G7 2 (.int .i64 x.2.2.1)
  have D9 := D8.set G8 3 (.int .i64 x.2.2.2.1) (by simp)
  have G9 := frozen_set (M := w.heap.size + 1) G8 3 (.int .i64 x.2.2.2.1)
  have D10 := D9.set G9 4 (.int .i64 x.2.2.2.2.1) (by simp)
  have G10 := frozen_set (M := w.heap.size + 1) G9 4 (.int .i64 x.2.2.2.2.1)
  have D11 := D10.set G10 5 (.slice A2 m c2) (by simp)
  simp only [List.set_cons_zero, List.set_cons_succ] at D11
  have hk2 : Below w.heap.size w w2 := hb3.trans (hk.mono (by omega))
  have hbF := ((((((hk2.setCell (p := ⟨w.heap.size, 5, none⟩) (Nat.le_refl _) (.slice A2 m c2)).setCell (p := ⟨w.heap.size + 1, 0, none⟩) (Nat.le_succ _) (.string x.1)).setCell (p := ⟨w.heap.size + 1, 1, none⟩) (Nat.le_succ _) (.string x.2.1)).setCell (p := ⟨w.heap.size + 1, 2, none⟩) (Nat.le_succ _) (.int .i64 x.2.2.1)).setCell (p := ⟨w.heap.size + 1, 3, none⟩) (Nat.le_succ _) (.int .i64 x.2.2.2.1)).setCell (p := ⟨w.heap.size + 1, 4, none⟩) (Nat.le_succ _) (.int .i64 x.2.2.2.2.1)).setCell (p := ⟨w.heap.size + 1, 5, none⟩) (Nat.le_succ _) (.slice A2 m c2)
  (try simp only [Exit.inBlock, Exit.then])
  exact bodyPost_ret (v := .agg #[.string x.1, .string x.2.1, .int .i64 x.2.2.1, .int .i64 x.2.2.2.1, .int .i64 x.2.2.2.2.1, .slice A2 m c2]) (run_results_bl rfl _ _ _ rfl D11) rfl ⟨A2, m, c2, rfl, hbF⟩

theorem filter_take1 {α : Type} (q : α → Bool) (l : List α) (k : Nat) (h : k < l.length) : (l.take (k + 1)).filter q = (l.take k).filter q ++ (if q l[k] = true then [l[k]] else []) := by
  rw [List.take_add_one, List.getElem?_eq_getElem h, Option.toList_some, List.filter_append]
  congr 1
  by_cases hq : q l[k] = true
  · rw [if_pos hq, List.filter_cons_of_pos hq]; rfl
  · rw [if_neg hq, List.filter_cons_of_neg hq]; rfl
set_option maxRecDepth 100000 in
set_option maxHeartbeats 4000000 in
theorem inForce_any (A C : Option Addr) (n c m2 c2 : Nat) (ls : List Bl) (day : Int) (ch : List Pk) (w : World) (hl : BillLinesIn w A n ls) (hp : PicksIn w C m2 ch) (hok : ∀ x ∈ ls, okBl x) (hi : ∀ k (hk : k < ls.length), isCond ls[k].2.2.2.2.2 = true) :
    Calls Try.prog 27 #[.slice A n c, .int .i64 day, .slice C m2 c2] w fun e w' => ∃ A' m' c', e = .returned (.slice A' m' c') ∧ FlatL w' A' m' (ls.filter (lineOn ch day)) ∧ Below w.heap.size w w' := by
  have hn := hl.len
  obtain rfl := hl.num
  have HO := Lib.hid hok
  have HI := Lib.hid hi
  clear hok hi
  have hb0 := below_alloc w (.cells #[] 90)
  have hr0 : RowVal blF 90 (w.alloc (.cells #[] 90)) w.heap.size (.slice (some ⟨w.heap.size, 0, none⟩) 0 0) [] := empty_row rfl (Nat.le_refl _)
  go_enter Try.func27, Try.ntmps27
  go_wp2_with fail
  generalize (w.alloc (.cells #[] 90)) = V at *
  go_loopw [7, 13] (fun v i wr => ∃ (k : Nat) (R : List BlR), k ≤ ls.length ∧ i = .int .i64 k ∧ RowVal blF 90 wr w.heap.size v R ∧ BillLineOfs (fun _ _ _ => True) R ((ls.take k).filter (lineOn ch day)) ∧ Below w.heap.size w wr) (fun _ i _ => ls.length - (intOf i).toNat)
  case atStart => exact ⟨0, [], by omega, rfl, hr0, ⟨rfl, fun k h1 _ => by cases h1⟩, hb0⟩
  case round =>
    clear hr0 hb0
    obtain ⟨k, R, hk, rfl, hr, hR, hb⟩ := hrel
    have hRL := hR.1
    have hRK : R.length ≤ k := by
      rw [hRL]
      exact Nat.le_trans (List.length_filter_le _ _) (by rw [List.length_take]; omega)
    have HR := Lib.hid hR
    clear hR hRL
    by_cases hlt : k < ls.length
    · have HT := Lib.hid (filter_take1 (lineOn ch day) ls k hlt)
      obtain ⟨A9, q9, rfl, _⟩ := hr.form
      obtain ⟨b, o, B2, m9, c9, rfl, hbl, hc0, hc1, hc2, hc3, hc4, hc5, hcd⟩ := bl_at (hl.keep hb) hlt
      have hs := below_alloc wr (.cells #[.string ls[k].1, .string ls[k].2.1, .int .i64 ls[k].2.2.1, .int .i64 ls[k].2.2.2.1, .int .i64 ls[k].2.2.2.2.1, .slice B2 m9 c9] 90)
      have hB := below_on hb hs
      have BX : BoxOf (wr.alloc (.cells #[.string ls[k].1, .string ls[k].2.1, .int .i64 ls[k].2.2.1, .int .i64 ls[k].2.2.2.1, .int .i64 ls[k].2.2.2.2.1, .slice B2 m9 c9] 90)) wr.heap.size [.string ls[k].1, .string ls[k].2.1, .int .i64 ls[k].2.2.1, .int .i64 ls[k].2.2.2.1, .int .i64 ls[k].2.2.2.2.1, .slice B2 m9 c9] := boxOf_alloc wr #[.string ls[k].1, .string ls[k].2.1, .int .i64 ls[k].2.2.1, .int .i64 ls[k].2.2.2.1, .int .i64 ls[k].2.2.2.2.1, .slice B2 m9 c9] 90
      by_cases h1 : ls[k].2.2.2.1 ≤ day
      case neg =>
        have HF : Hid ((ls.take (k + 1)).filter (lineOn ch day) = (ls.take k).filter (lineOn ch day)) := by
          show _ = _
          rw [HT.out, if_neg (by unfold lineOn; rw [decide_eq_false h1]; simp), List.append_nil]
        go_wp2_with fail
        go_roundw
        case rel => exact ⟨k + 1, R, by omega, by go_num, hr.keep hs, by rw [HF.out]; exact HR.out, hB⟩
        case measure => simp [intOf]; omega
      by_cases h2 : day ≤ ls[k].2.2.2.2.1
      case neg =>
        have HF : Hid ((ls.take (k + 1)).filter (lineOn ch day) = (ls.take k).filter (lineOn ch day)) := by
          show _ = _
          rw [HT.out, if_neg (by unfold lineOn; rw [decide_eq_false h2]; simp), List.append_nil]
        go_wp2_with fail
        go_roundw
        case rel => exact ⟨k + 1, R, by omega, by go_num, hr.keep hs, by rw [HF.out]; exact HR.out, hB⟩
        case measure => simp [intOf]; omega
      have hokn := HO.out _ (List.getElem_mem hlt)
      have HKN : Hid (∀ y ∈ ls[k].2.2.2.2.2, okCn y) := by unfold okBl at hokn; exact hokn.2.2
      clear hokn
      have HL : Hid (lineOn ch day ls[k] = condVal ls[k].2.2.2.2.2 ch) := by show _ = _; unfold lineOn; rw [decide_eq_true h1, decide_eq_true h2]; rfl
      have hcd2 := hcd.keep hs
      have hr1 := hr.keep hs
      have x3 := BX.2 3 _ rfl
      have x4 := BX.2 4 _ rfl
      have x5 := BX.2 5 _ rfl
      go_wp2_with fail
      generalize wr.alloc (.cells #[.string ls[k].1, .string ls[k].2.1, .int .i64 ls[k].2.2.1, .int .i64 ls[k].2.2.2.1, .int .i64 ls[k].2.2.2.2.1, .slice B2 m9 c9] 90) = V1 at *
      generalize wr.heap.size = N at *
      clear hc0 hc1 hc2 hc3 hc4 hc5 hs hb hbl hcd hr x3 x4 x5
      refine (implHolds_any _ _ _ _ _ _ ls[k].2.2.2.2.2 ch _ hcd2 (hp.keep hB) HKN.out (HI.out k hlt)).mono ?_
      rintro e V2 ⟨rfl, hs⟩
      replace hB := below_on hB hs
      replace BX := BX.keep hs
      replace hr1 := hr1.keep hs
      replace hcd2 := hcd2.keep hs
      clear hs
      rw [← HL.out]
      have x0 := BX.2 0 _ rfl
      have x1 := BX.2 1 _ rfl
      have x2 := BX.2 2 _ rfl
      have x3 := BX.2 3 _ rfl
      have x4 := BX.2 4 _ rfl
      have x5 := BX.2 5 _ rfl
      cases g : lineOn ch day ls[k]
      · have HF : Hid ((ls.take (k + 1)).filter (lineOn ch day) = (ls.take k).filter (lineOn ch day)) := by
          show _ = _
          rw [HT.out, if_neg (by rw [g]; decide), List.append_nil]
        go_wp2_with fail
        go_roundw
        case rel => exact ⟨k + 1, R, by omega, by go_num, hr1, by rw [HF.out]; exact HR.out, hB⟩
        case measure => simp [intOf]; omega
      have HF : Hid ((ls.take (k + 1)).filter (lineOn ch day) = (ls.take k).filter (lineOn ch day) ++ [ls[k]]) := by
        show _ = _
        rw [HT.out, if_pos g]
      go_wp2_with fail
      refine (copyLine_any ls[k] B2 m9 c9 _ hcd2).mono ?_
      rintro e V3 ⟨A5, m5, c5, rfl, hs⟩
      replace hB := below_on hB hs
      replace hr1 := hr1.keep hs
      clear hs x0 x1 x2 x3 x4 x5 BX
      have hsz := hB.size
      go_wp2_with (at_builtin; refine wpList_append_one blElem rfl _ _ rfl rfl (l := R) hr1 (by omega) (ls[k].1, ls[k].2.1, ls[k].2.2.1, ls[k].2.2.2.1, ls[k].2.2.2.2.1, (A5, m5, c5)) #[.string ls[k].1, .string ls[k].2.1, .int .i64 ls[k].2.2.1, .int .i64 ls[k].2.2.2.1, .int .i64 ls[k].2.2.2.2.1, .slice A5 m5 c5] rfl (by simp [Value.oneCell']) V3.heap.size _ rfl rfl hsz ?_; intro v' w2 hrow' hbl hgr)
      go_roundw
      case rel => exact ⟨k + 1, _, by omega, by go_num, hrow', by rw [HF.out]; exact HR.out.snoc ⟨rfl, rfl, rfl, rfl, rfl, trivial⟩, hB.trans (hbl _ (Nat.le_refl _) hsz)⟩
      case measure => simp [intOf]; omega
    · obtain rfl : k = ls.length := by omega
      obtain ⟨A9, c9, rfl, ho⟩ := hr.form
      have HF : Hid (FlatL wr A9 R.length (ls.filter (lineOn ch day))) := ⟨R, ho.rows (by omega), by have := HR.out; rw [List.take_length] at this; exact this⟩
      go_wp2_with fail
      go_ret
      exact ⟨A9, R.length, c9, rfl, HF.out, hb⟩
end Go.Proofs.Ytlkolehdikfddaa
/- The walk of takenOn's closure. -/
namespace Go.Proofs.Ytlkolehdikfddaa
open Go.RowKit
theorem BoxOf.only {w w' : World} {N a b : Nat} {cs : List Value} (h : BoxOf w N cs) (ho : Only a b w w') (hN : ¬ (a ≤ N ∧ N < b)) : BoxOf w' N cs :=
  ⟨Nat.lt_of_lt_of_le h.1 ho.size, fun j u hu => (World.cell?_of_block (a := ⟨N, j, none⟩) (ho.block N h.1 hN)).trans (h.2 j u hu)⟩
theorem only_store {w : World} {g o : Nat} {v : Value} : Only g (g + 1) w (w.setCell ⟨g, o, none⟩ v) :=
  Only.of_grown (row := some g) ⟨rfl, rfl, rfl, by simp, fun k _ hk => heap_setCell_other w ⟨g, o, none⟩ k v (fun e => hk (by simp [e]))⟩ (fun x hx => by injection hx with hx; omega)
/-- The ending of the closure: whether so much can be told, the days' row anew. -/
def TakeEnd (w : World) (lo g : Nat) (u : Int) (M : List Int) (e : Ending) (w' : World) : Prop := e = .returned (.bool (decide (u ≤ 1000000000))) ∧ NumRow w' lo g 1000 1000 M ∧ Only g (g + 1) w w'
set_option maxRecDepth 100000 in
set_option maxHeartbeats 4000000 in
theorem take_any (r : PtR) (p : Pt) (N1 N2 N3 lo g dn : Nat) (code item : ByteArray) (q : Int) (M : List Int) (w w0 : World) (hp : PlantIn w0 r p) (hbw : Below w0.heap.size w0 w) (hok : okPt p) (hpl : isPlant p = true) (h0 : 0 ≤ findIt p.it code) (B1 : BoxOf w N1 [.slice r.i.a r.i.n r.i.c, .slice r.l.a r.l.n r.l.c, .slice r.w.a r.w.n r.w.c, .slice r.e.a r.e.n r.e.c, .slice r.p.a r.p.n r.p.c, .slice r.s.a r.s.n r.s.c, .slice r.q.a r.q.n r.q.c]) (B2 : BoxOf w N2 [.string item]) (B3 : BoxOf w N3 [.slice (some ⟨g, 0, none⟩) 1000 1000]) (hA : NumRow w lo g 1000 1000 M) (hd : dn < 1000) (hq : 0 ≤ q ∧ q ≤ 100000) (hM : 0 ≤ M.getD dn 0 ∧ M.getD dn 0 ≤ 60000000000000000) :
    Calls Try.prog 40 #[.string code, .int .i64 q, .int .i64 (dn : Int), .pointer (some ⟨N1, 0, none⟩), .pointer (some ⟨N2, 0, none⟩), .pointer (some ⟨N3, 0, none⟩)] w (TakeEnd w lo g (unitAt p item code dn) (M.set dn (M.getD dn 0 + unitAt p item code dn * q))) := by
  obtain ⟨hL, _⟩ := lev_of (isPlant_parts hpl).1
  generalize runTo (edges p.it p.ls) p.it.length p.it.length = lev at hL
  have hub := unitV_bd hL (lineOn p.ch dn) item code
  have HI : Hid (∀ k (hk : k < p.ls.length), isCond p.ls[k].2.2.2.2.2 = true) := fun k hk => (okLine_parts ((isBills_parts (isPlant_parts hpl).1).2.2.1 k hk)).2.2.2.2.2
  obtain ⟨⟨a0, n0, c0⟩, ⟨a1, n1, c1⟩, ⟨a2, n2, c2⟩, ⟨a3, n3, c3⟩, ⟨a4, n4, c4⟩, ⟨a5, n5, c5⟩, ⟨a6, n6, c6⟩⟩ := r
  have HQ0 := Lib.hid (hp.it.keep hbw)
  have HQ1 := Lib.hid (hp.ls.keep hbw)
  have HQ4 := Lib.hid (hp.ch.keep hbw)
  have HOK := Lib.hid hok
  have HL := Lib.hid hL
  have HU : Hid (unitAt p item code dn = unitV p.it p.ls (lineOn p.ch dn) item code) := rfl
  dsimp only at HQ0 HQ1 HQ4 B1 ⊢
  clear hp hpl hok hL hbw
  have hn0 : n0 = p.it.length := HQ0.out.1
  subst hn0
  obtain ⟨b0, b1, b2, b3, b4, b5, b6, bl⟩ := B1.seven
  have i0 := B2.2 0 _ rfl
  have il := B2.1
  rw [HU.out]
  generalize hM0 : M.getD dn 0 = mv at *
  have HM0 := Lib.hid hM0
  clear hM0
  go_enter Try.func40, Try.ntmps40
  go_wp2_with fail
  refine wp_region_held_drew (S := (fun w' => w'.cell? ⟨N1, 0, none⟩ = some (.slice a0 p.it.length c0) ∧ w'.cell? ⟨N1, 1, none⟩ = some (.slice a1 n1 c1) ∧ w'.cell? ⟨N1, 4, none⟩ = some (.slice a4 n4 c4) ∧ w'.cell? ⟨N2, 0, none⟩ = some (.string item) ∧ N1 < w'.heap.size ∧ N2 < w'.heap.size ∧ Below w.heap.size w w')) (by kernel_rfl) ⟨b0, b1, b4, i0, bl, il, (Below.refl _ _).drew⟩ (fun hHeld => ?_)
  refine held1 0 (some 11) hHeld ?_
  refine held1 1 (some 12) hHeld ?_
  refine held1 2 (some 13) hHeld ?_
  refine held1 3 (some 14) hHeld ?_
  refine held1 4 (some 15) hHeld ?_
  refine held1 5 (some 16) hHeld ?_
  refine held1 6 (some 17) hHeld ?_
  refine held1 8 (some 19) hHeld ?_
  refine held1 9 (some 20) hHeld ?_
  refine held_do 7 fun K hK => ?_
  go_simp
  go_at_call 27; refine (inForce_any _ _ _ _ _ _ p.ls (dn : Int) p.ch _ (HQ1.out.keep (by obtain ⟨y_c0, y_c1, y_c4, y_i0, y_n, y_i, y_R⟩ := hHeld; exact y_R)) (HQ4.out.keep (by obtain ⟨y_c0, y_c1, y_c4, y_i0, y_n, y_i, y_R⟩ := hHeld; exact y_R)) HOK.out.ls HI.out).mono ?_; rintro e w6 ⟨A5, m5, c5, rfl, hfl, hb3⟩; go_simp
  refine hK.out _ _ ?_ (fun hHeld => ?_)
  · obtain ⟨y_c0, y_c1, y_c4, y_i0, y_n, y_i, y_R⟩ := hHeld; exact ⟨(hb3.cell y_n).trans y_c0, (hb3.cell y_n).trans y_c1, (hb3.cell y_n).trans y_c4, (hb3.cell y_i).trans y_i0, Nat.lt_of_lt_of_le y_n hb3.size, Nat.lt_of_lt_of_le y_i hb3.size, below_on y_R hb3⟩
  clear hK K
  try simp only [Act.put, List.setIfInBounds_toArray, List.set_cons_zero, List.set_cons_succ]
  refine held_do 10 fun K hK => ?_
  go_simp
  go_at_call 41; refine (through_any p.it p.ls lev (lineOn p.ch (dn : Int)) item HL.out _ _ _ _ _ _ p.it.length code _ (HQ0.out.keep (by obtain ⟨y_c0, y_c1, y_c4, y_i0, y_n, y_i, y_R⟩ := hHeld; exact y_R)) hfl h0 (by omega)).mono ?_; rintro e w7 ⟨rfl, hb3⟩; go_simp
  refine hK.out _ _ ?_ (fun hHeld => ?_)
  · obtain ⟨y_c0, y_c1, y_c4, y_i0, y_n, y_i, y_R⟩ := hHeld; exact ⟨(hb3.cell y_n).trans y_c0, (hb3.cell y_n).trans y_c1, (hb3.cell y_n).trans y_c4, (hb3.cell y_i).trans y_i0, Nat.lt_of_lt_of_le y_n hb3.size, Nat.lt_of_lt_of_le y_i hb3.size, below_on y_R hb3⟩
  clear hK K
  refine held1 11 (some 10) hHeld ?_
  refine wpAnyH_done (by kernel_rfl) ?_ _
  obtain ⟨y_c0, y_c1, y_c4, y_i0, y_n, y_i, y_R⟩ := hHeld
  have hA7 := hA.keep y_R
  have x3 := (B3.keep y_R).2 0 _ rfl
  have hd2 : (dn : Int) < (1000 : Int) := by omega
  have cA := hA7.cell (j := dn) (by rw [hA7.len]; exact hd)
  have cA2 : w7.cell? ⟨g, dn, none⟩ = some (.int .i64 mv) := by rw [cA, ← HM0.out, List.getD_eq_getElem?_getD, List.getElem?_eq_getElem (by rw [hA7.len]; exact hd)]; rfl
  have fA := hA7.frozen dn
  clear cA
  have HR := Lib.hid y_R
  clear y_c0 y_c1 y_c4 y_i0 y_n y_i y_R b0 b1 b2 b3 b4 b5 b6 bl i0 il hfl
  generalize unitV p.it p.ls (lineOn p.ch (dn : Int)) item code = u at *
  have hp0 : 0 ≤ q * u := Int.mul_nonneg (by omega) (by omega)
  have hp1 : q * u ≤ 100000 * 1000000001 := Int.mul_le_mul (by omega) (by omega) (by omega) (by omega)
  have hw1 : IntKind.i64.wrap (q * u) = q * u := by apply IntWalk.i64_in <;> omega
  have hw2 : IntKind.i64.wrap (mv + q * u) = mv + q * u := by apply IntWalk.i64_in <;> omega
  go_wp2_with fail
  go_ret
  exact ⟨rfl, by rw [Int.mul_comm u q]; exact hA7.set dn _, (Only.of_below HR.out).trans only_store⟩
end Go.Proofs.Ytlkolehdikfddaa
/- The walk of takenOn. -/
namespace Go.Proofs.Ytlkolehdikfddaa
open Go.RowKit
/-- The ending of takenOn. -/
def TakenEndI (p : Pt) (ds : List Dm) (l : List Pl) (item : ByteArray) (w : World) (e : Ending) (w' : World) : Prop := ∃ A n c, e = .returned (.tuple #[.slice A n c, .bool (takenOn p ds l item).2]) ∧ ((takenOn p ds l item).2 = true → ∃ g, A = some ⟨g, 0, none⟩ ∧ n = 1000 ∧ c = 1000 ∧ NumRow w' w.heap.size g 1000 1000 (takenOn p ds l item).1) ∧ Below w.heap.size w w'
theorem takenEndI_no {p : Pt} {ds : List Dm} {l : List Pl} {item : ByteArray} {w w' : World} {A : Option Addr} {n c : Nat} (hb : (takenOn p ds l item).2 = false) (h4 : Below w.heap.size w w') : TakenEndI p ds l item w (.returned (.tuple #[.slice A n c, .bool false])) w' :=
  ⟨A, n, c, by rw [hb], (fun h => by rw [hb] at h; cases h), h4⟩
theorem takenEndI_yes {p : Pt} {ds : List Dm} {l : List Pl} {item : ByteArray} {w w' : World} {g : Nat} (hb : (takenOn p ds l item).2 = true) (h : NumRow w' w.heap.size g 1000 1000 (takenOn p ds l item).1) (h4 : Below w.heap.size w w') : TakenEndI p ds l item w (.returned (.tuple #[.slice (some ⟨g, 0, none⟩) 1000 1000, .bool true])) w' :=
  ⟨_, _, _, by rw [hb], (fun _ => ⟨g, rfl, rfl, rfl, h⟩), h4⟩
theorem set_same (m : List Int) (i : Nat) : m.set i (m.getD i 0) = m := by
  by_cases h : i < m.length
  · rw [List.getD_eq_getElem?_getD, List.getElem?_eq_getElem h]; exact List.set_getElem_self h
  · exact List.set_eq_of_length_le (by omega)
set_option maxRecDepth 100000 in
set_option maxHeartbeats 8000000 in
theorem implTaken_any (r : PtR) (p : Pt) (A B : Option Addr) (n c m d : Nat) (ds : List Dm) (l : List Pl) (item : ByteArray) (w : World) (hp : PlantIn w r p) (hok : okPt p) (hds : DemandsIn w A n ds) (hl : PlannedsIn w B m l) (hpl : arePlanned p l = true) (had : areDemands ds = true) :
    Calls Try.prog 19 #[.agg #[.slice r.i.a r.i.n r.i.c, .slice r.l.a r.l.n r.l.c, .slice r.w.a r.w.n r.w.c, .slice r.e.a r.e.n r.e.c, .slice r.p.a r.p.n r.p.c, .slice r.s.a r.s.n r.s.c, .slice r.q.a r.q.n r.q.c], .slice A n c, .slice B m d, .string item] w (TakenEndI p ds l item w) := by
  have hmf : ∀ (fn : Fn) (first cap : Array Value) (w : World), (Instr.makeFunc fn first cap).run Try.prog w = .ok (.func fn first cap) w := fun _ _ _ _ => rfl
  have HEV := Lib.hid (fun k => takenD_days (item := item) hpl had k)
  have HEP := Lib.hid (fun k => takenP_days (item := item) hpl had k)
  have HDM := Lib.hid (fun k (hk : k < ds.length) => areDemands_mem had hk)
  have HPP := Lib.hid (arePlanned_parts hpl).2.2
  have hip := (arePlanned_parts hpl).1
  have HIP := Lib.hid hip
  have HD1 := Lib.hid (takenD_step p ds item)
  have HD2 := Lib.hid (takenD_few p ds item)
  have HD3 := Lib.hid (takenD_bad p ds l item)
  have HP1 := Lib.hid (takenP_step p ds l item)
  have HP2 := Lib.hid (takenP_few p ds l item)
  have HP3 := Lib.hid (takenP_bad p ds l item)
  have HA1 := Lib.hid (takenD_all p ds l item)
  have HA2 := Lib.hid (takenD_fewall p ds l item)
  have HA3 := Lib.hid (takenP_all p ds l item)
  have HA4 := Lib.hid (takenP_fewall p ds l item)
  have h16 := areDemands_len had
  have h500 := (arePlanned_parts hpl).2.1
  have HOK := Lib.hid hok
  clear hpl had hip hok
  have hnd := hds.1
  have hnl := hl.1
  subst hnd hnl
  obtain ⟨⟨a0, n0, c0⟩, ⟨a1, n1, c1⟩, ⟨a2, n2, c2⟩, ⟨a3, n3, c3⟩, ⟨a4, n4, c4⟩, ⟨a5, n5, c5⟩, ⟨a6, n6, c6⟩⟩ := r
  have HP := Lib.hid hp
  have HQ0 := Lib.hid hp.it
  dsimp only at HQ0 ⊢
  clear hp
  have hn0 : n0 = p.it.length := HQ0.out.1
  subst hn0
  have hb0 : Below w.heap.size w ((w.alloc (.cells #[.slice a0 p.it.length c0, .slice a1 n1 c1, .slice a2 n2 c2, .slice a3 n3 c3, .slice a4 n4 c4, .slice a5 n5 c5, .slice a6 n6 c6] 34)).alloc (.cells #[.string item] 9)) := below_on (below_alloc _ _) (below_alloc _ _)
  have B10 : BoxOf ((w.alloc (.cells #[.slice a0 p.it.length c0, .slice a1 n1 c1, .slice a2 n2 c2, .slice a3 n3 c3, .slice a4 n4 c4, .slice a5 n5 c5, .slice a6 n6 c6] 34)).alloc (.cells #[.string item] 9)) w.heap.size [.slice a0 p.it.length c0, .slice a1 n1 c1, .slice a2 n2 c2, .slice a3 n3 c3, .slice a4 n4 c4, .slice a5 n5 c5, .slice a6 n6 c6] := (boxOf_alloc w #[.slice a0 p.it.length c0, .slice a1 n1 c1, .slice a2 n2 c2, .slice a3 n3 c3, .slice a4 n4 c4, .slice a5 n5 c5, .slice a6 n6 c6] 34).keep (below_alloc _ _)
  have hz1 : (w.alloc (.cells #[.slice a0 p.it.length c0, .slice a1 n1 c1, .slice a2 n2 c2, .slice a3 n3 c3, .slice a4 n4 c4, .slice a5 n5 c5, .slice a6 n6 c6] 34)).heap.size = w.heap.size + 1 := by simp
  have B20 : BoxOf ((w.alloc (.cells #[.slice a0 p.it.length c0, .slice a1 n1 c1, .slice a2 n2 c2, .slice a3 n3 c3, .slice a4 n4 c4, .slice a5 n5 c5, .slice a6 n6 c6] 34)).alloc (.cells #[.string item] 9)) (w.heap.size + 1) [.string item] := by rw [← hz1]; exact boxOf_alloc _ #[.string item] 9
  have hz2 : ((w.alloc (.cells #[.slice a0 p.it.length c0, .slice a1 n1 c1, .slice a2 n2 c2, .slice a3 n3 c3, .slice a4 n4 c4, .slice a5 n5 c5, .slice a6 n6 c6] 34)).alloc (.cells #[.string item] 9)).heap.size = w.heap.size + 2 := by simp
  go_enter Try.func19, Try.ntmps19
  go_wp2_with (at_make; refine wpList_make_nums rfl _ _ rfl w.heap.size 1000 rfl rfl rfl rfl (by omega) (by simp; omega) ?_; intro w5 hA hA2 hA3)
  have hs := below_alloc w5 (.cells #[.slice (some ⟨w.heap.size + 2, 0, none⟩) 1000 1000] 26)
  have hb1 : Below w.heap.size w (w5.alloc (.cells #[.slice (some ⟨w.heap.size + 2, 0, none⟩) 1000 1000] 26)) := below_on (below_on hb0 hA2) hs
  have B1 := (B10.keep hA2).keep hs
  have B2 := (B20.keep hA2).keep hs
  have B3 : BoxOf (w5.alloc (.cells #[.slice (some ⟨w.heap.size + 2, 0, none⟩) 1000 1000] 26)) w5.heap.size [.slice (some ⟨w.heap.size + 2, 0, none⟩) 1000 1000] := boxOf_alloc _ #[.slice (some ⟨w.heap.size + 2, 0, none⟩) 1000 1000] 26
  have hA1 : NumRow (w5.alloc (.cells #[.slice (some ⟨w.heap.size + 2, 0, none⟩) 1000 1000] 26)) w.heap.size (w.heap.size + 2) 1000 1000 (tkTo ((evsD p item ds).take 0)) := by rw [hz2] at hA; exact hA.keep hs
  have hgn : w.heap.size + 2 < w5.heap.size := by rw [hz2] at hA3; exact hA3
  clear hA hA2 hA3 hb0 B10 B20 hz1 hz2 hs
  generalize hV : (w5.alloc (.cells #[.slice (some ⟨w.heap.size + 2, 0, none⟩) 1000 1000] 26)) = V at *
  clear hV
  generalize hgi : w.heap.size + 2 = gi at *
  generalize w5.heap.size = N3 at *
  go_loopw [21] (fun i wr => ∃ k : Nat, k ≤ ds.length ∧ i = .int .i64 k ∧ Hid (few ((evsD p item ds).take k) = true) ∧ NumRow wr w.heap.size gi 1000 1000 (tkTo ((evsD p item ds).take k)) ∧ BoxOf wr w.heap.size [.slice a0 p.it.length c0, .slice a1 n1 c1, .slice a2 n2 c2, .slice a3 n3 c3, .slice a4 n4 c4, .slice a5 n5 c5, .slice a6 n6 c6] ∧ BoxOf wr (w.heap.size + 1) [.string item] ∧ BoxOf wr N3 [.slice (some ⟨gi, 0, none⟩) 1000 1000] ∧ Below w.heap.size w wr) (fun i _ => ds.length - (intOf i).toNat)
  case atStart => exact ⟨0, by omega, rfl, rfl, hA1, B1, B2, B3, hb1⟩
  case round =>
    clear hA1 B1 B2 B3 hb1
    obtain ⟨k, hk, rfl, HF, hA, B1, B2, B3, hb⟩ := hrel
    by_cases hlt : k < ds.length
    case neg =>
      obtain rfl : k = ds.length := by omega
      rw [HA1.out] at hA
      have HF0 : Hid (few (evsD p item ds ++ (evsP p item l).take 0) = true) := HA2.out.symm.trans HF.out
      clear HF
      go_wp2_with fail
      go_loopw [68] (fun i wr => ∃ k : Nat, k ≤ l.length ∧ i = .int .i64 k ∧ Hid (few (evsD p item ds ++ (evsP p item l).take k) = true) ∧ NumRow wr w.heap.size gi 1000 1000 (tkTo (evsD p item ds ++ (evsP p item l).take k)) ∧ BoxOf wr w.heap.size [.slice a0 p.it.length c0, .slice a1 n1 c1, .slice a2 n2 c2, .slice a3 n3 c3, .slice a4 n4 c4, .slice a5 n5 c5, .slice a6 n6 c6] ∧ BoxOf wr (w.heap.size + 1) [.string item] ∧ BoxOf wr N3 [.slice (some ⟨gi, 0, none⟩) 1000 1000] ∧ Below w.heap.size w wr) (fun i _ => l.length - (intOf i).toNat)
      case atStart => exact ⟨0, by omega, rfl, HF0, hA, B1, B2, B3, hb⟩
      case round =>
        clear hA B1 B2 B3 hb HF0
        obtain ⟨k, hk, rfl, HF, hA, B1, B2, B3, hb⟩ := hrel
        by_cases hlt : k < l.length
        case neg =>
          obtain rfl : k = l.length := by omega
          rw [HA3.out] at hA
          have HFF := Lib.hid (HA4.out.symm.trans HF.out)
          have x3 := B3.2 0 _ rfl
          go_wp2_with fail
          go_ret2
          exact takenEndI_yes HFF.out hA hb
        obtain ⟨b, o, rfl, hbl, hc0, hc1, hc2, hc3, hc4⟩ := planned_at (hl.keep hb) hlt
        have hs := below_alloc wr (.cells #[.string l[k].1, .int .i64 l[k].2.1, .int .i64 l[k].2.2.1, .int .i64 l[k].2.2.2.1, .bool l[k].2.2.2.2] 44)
        have BX : BoxOf (wr.alloc (.cells #[.string l[k].1, .int .i64 l[k].2.1, .int .i64 l[k].2.2.1, .int .i64 l[k].2.2.2.1, .bool l[k].2.2.2.2] 44)) wr.heap.size [.string l[k].1, .int .i64 l[k].2.1, .int .i64 l[k].2.2.1, .int .i64 l[k].2.2.2.1, .bool l[k].2.2.2.2] := boxOf_alloc wr #[.string l[k].1, .int .i64 l[k].2.1, .int .i64 l[k].2.2.1, .int .i64 l[k].2.2.2.1, .bool l[k].2.2.2.2] 44
        replace hb := below_on hb hs
        replace B1 := B1.keep hs
        replace B2 := B2.keep hs
        replace B3 := B3.keep hs
        have hgx : gi < wr.heap.size := hA.lt.2
        replace hA := hA.keep hs
        have HST := Lib.hid (HP1.out k hlt)
        have HFT := Lib.hid (HP2.out k hlt)
        have hdy := HEP.out k
        have HPB := Lib.hid (HP3.out k hlt)
        obtain ⟨z1, z2, ⟨z3, z4⟩, ⟨z5, z6⟩, z7, z8⟩ := HPP.out k hlt
        generalize hMM : tkTo (evsD p item ds ++ (evsP p item l).take k) = M at *
        clear hMM
        go_wp2_with fail
        generalize (wr.alloc (.cells #[.string l[k].1, .int .i64 l[k].2.1, .int .i64 l[k].2.2.1, .int .i64 l[k].2.2.2.1, .bool l[k].2.2.2.2] 44)) = wq at *
        generalize wr.heap.size = NX at *
        clear hc0 hc1 hc2 hc3 hc4 hbl hs
        obtain ⟨dn, hdn⟩ : ∃ dn : Nat, l[k].2.2.1 = (dn : Int) := ⟨(l[k].2.2.1).toNat, by omega⟩
        have hd1 : dn < 1000 := by omega
        have HDN := Lib.hid hdn
        rw [hdn]
        have hmc := hdy.cell dn
        refine (take_any ⟨⟨a0, p.it.length, c0⟩, ⟨a1, n1, c1⟩, ⟨a2, n2, c2⟩, ⟨a3, n3, c3⟩, ⟨a4, n4, c4⟩, ⟨a5, n5, c5⟩, ⟨a6, n6, c6⟩⟩ p w.heap.size (w.heap.size + 1) N3 w.heap.size gi dn l[k].1 item l[k].2.1 M _ w HP.out hb HOK.out HIP.out z1 B1 B2 B3 hA hd1 (by omega) (by omega)).mono ?_
        rintro e w8 ⟨rfl, hA8, ho⟩
        replace B1 := B1.only ho (by omega)
        replace B2 := B2.only ho (by omega)
        replace B3 := B3.only ho (by omega)
        replace hb := below_only hb ho (by omega) hb.size
        clear ho
        have HU : Hid (unitAt p item l[k].1 l[k].2.2.1 = unitAt p item l[k].1 dn) := by show _ = _; rw [hdn]
        generalize unitAt p item l[k].1 (dn : Int) = u at *
        by_cases hu : u ≤ 1000000000
        case neg =>
          have hde : decide (u ≤ 1000000000) = false := decide_eq_false hu
          rw [hde]
          have HBB := HPB.out (by rw [HU.out]; omega)
          go_wp2_with fail
          go_ret2
          exact takenEndI_no HBB hb
        have hde : decide (u ≤ 1000000000) = true := decide_eq_true hu
        rw [hde]
        have HFT1 : Hid (few (evsD p item ds ++ (evsP p item l).take (k + 1)) = true) := by show _ = _; rw [HFT.out, HF.out, HU.out, hde]; rfl
        have HYY : Hid (tkTo (evsD p item ds ++ (evsP p item l).take (k + 1)) = M.set dn (M.getD dn 0 + u * l[k].2.1)) := by
          show _ = _
          rw [HST.out]; unfold tkStep plV; simp only []; rw [HDN.out, Int.toNat_natCast]; (try rw [HDN.out] at HU); rw [HU.out]
        go_wp2_with fail
        go_roundw
        case rel => exact ⟨k + 1, by omega, by go_num, HFT1.out, by rw [HYY.out]; exact hA8, B1, B2, B3, hb⟩
        case measure => simp [intOf]; omega
    obtain ⟨b, o, rfl, hbl, hc0, hc1, hc2, hc3, hc4⟩ := demand_at (hds.keep hb) hlt
    have hs := below_alloc wr (.cells #[.int .i64 ds[k].1, .string ds[k].2.1, .int .i64 ds[k].2.2.1, .int .i64 ds[k].2.2.2.1, .int .i64 ds[k].2.2.2.2] 50)
    have BX : BoxOf (wr.alloc (.cells #[.int .i64 ds[k].1, .string ds[k].2.1, .int .i64 ds[k].2.2.1, .int .i64 ds[k].2.2.2.1, .int .i64 ds[k].2.2.2.2] 50)) wr.heap.size [.int .i64 ds[k].1, .string ds[k].2.1, .int .i64 ds[k].2.2.1, .int .i64 ds[k].2.2.2.1, .int .i64 ds[k].2.2.2.2] := boxOf_alloc wr #[.int .i64 ds[k].1, .string ds[k].2.1, .int .i64 ds[k].2.2.1, .int .i64 ds[k].2.2.2.1, .int .i64 ds[k].2.2.2.2] 50
    replace hb := below_on hb hs
    replace B1 := B1.keep hs
    replace B2 := B2.keep hs
    replace B3 := B3.keep hs
    have hgx : gi < wr.heap.size := hA.lt.2
    replace hA := hA.keep hs
    have HST := Lib.hid (HD1.out k hlt)
    have HFT := Lib.hid (HD2.out k hlt)
    have hdy := HEV.out k
    have HPB := Lib.hid (HD3.out k hlt)
    obtain ⟨z3, z4, z5, z6⟩ := HDM.out k hlt
    generalize hMM : tkTo ((evsD p item ds).take k) = M at *
    clear hMM
    obtain ⟨b0, b1, b2, b3, b4, b5, b6, bl⟩ := B1.seven
    go_wp2_with fail
    clear b0 b1 b2 b3 b4 b5 b6 bl
    generalize (wr.alloc (.cells #[.int .i64 ds[k].1, .string ds[k].2.1, .int .i64 ds[k].2.2.1, .int .i64 ds[k].2.2.2.1, .int .i64 ds[k].2.2.2.2] 50)) = wq at *
    generalize wr.heap.size = NX at *
    clear hc0 hc1 hc2 hc3 hc4 hbl hs
    refine (implFindItem_any _ _ _ p.it _ _ (HQ0.out.keep hb)).mono ?_
    rintro e w6 ⟨rfl, hs⟩
    replace hb := below_on hb hs
    replace B1 := B1.keep hs
    replace B2 := B2.keep hs
    replace B3 := B3.keep hs
    replace BX := BX.keep hs
    replace hA := hA.keep hs
    clear hs
    obtain ⟨dn, hdn⟩ : ∃ dn : Nat, ds[k].2.2.2.1 = (dn : Int) := ⟨(ds[k].2.2.2.1).toNat, by omega⟩
    have hd1 : dn < 1000 := by omega
    have hd2 : (dn : Int) < (1000 : Int) := by omega
    have HDN := Lib.hid hdn
    rw [hdn] at BX
    obtain ⟨f1, f2⟩ := findIt_bd p.it ds[k].2.1
    have x1 := BX.2 1 _ rfl
    have x2 := BX.2 2 _ rfl
    have x3 := BX.2 3 _ rfl
    have i0 := B2.2 0 _ rfl
    have o0 := B3.2 0 _ rfl
    cases heq : (ds[k].2.1.toList == item.toList)
    case true =>
      have HN : Hid (dmN p item ds[k] = 1) := by show _ = _; unfold dmN; rw [if_pos heq]
      have HFT1 : Hid (few ((evsD p item ds).take (k + 1)) = true) := by show _ = _; rw [HFT.out, HF.out, HN.out]; rfl
      have hmc := hdy.cell dn
      generalize hma : M.getD dn 0 = mv at *
      have HMA := Lib.hid hma
      clear hma
      have HYY : Hid (tkTo ((evsD p item ds).take (k + 1)) = M.set dn (mv + ds[k].2.2.1)) := by
        show _ = _
        rw [HST.out]; unfold tkStep dmV; simp only []; rw [HN.out, HDN.out, Int.toNat_natCast, HMA.out]; simp
      have cA := hA.cell (j := dn) (by rw [hA.len]; exact hd1)
      have cA2 : w6.cell? ⟨gi, dn, none⟩ = some (.int .i64 mv) := by rw [cA, ← HMA.out, List.getD_eq_getElem?_getD, List.getElem?_eq_getElem (by rw [hA.len]; exact hd1)]; rfl
      have fA := hA.frozen dn
      clear cA
      go_wp2_with fail
      go_still_tail 9, (by kernel_rfl)
      change wpList _ _ _ _ _ w6.drew
      replace hA := hA.keep (Below.refl w6.heap.size w6).drew
      replace B1 := B1.keep (Below.refl w6.heap.size w6).drew
      replace B2 := B2.keep (Below.refl w6.heap.size w6).drew
      replace B3 := B3.keep (Below.refl w6.heap.size w6).drew
      replace cA2 : w6.drew.cell? ⟨gi, dn, none⟩ = some (.int .i64 mv) := cA2
      replace fA : w6.drew.frozen? ⟨gi, dn, none⟩ = false := fA
      replace hb := hb.drew
      clear x1 x2 x3 i0 o0 BX
      generalize w6.drew = W8 at *
      go_wp2_with fail
      go_roundw
      case rel => exact ⟨k + 1, by omega, by go_num, HFT1.out, by rw [HYY.out]; exact hA.set dn _, B1.off (by show gi ≠ w.heap.size; omega) _, B2.off (by show gi ≠ w.heap.size + 1; omega) _, B3.off (by show gi ≠ N3; omega) _, hb.setCell (p := ⟨gi, dn, none⟩) (by show w.heap.size ≤ gi; omega) _⟩
      case measure => simp [intOf]; omega
    by_cases hf : 0 ≤ findIt p.it ds[k].2.1
    case neg =>
      have HN : Hid (dmN p item ds[k] = 0) := by show _ = _; unfold dmN; rw [if_neg (by rw [heq]; decide), decide_eq_false hf]; rfl
      have HFT1 : Hid (few ((evsD p item ds).take (k + 1)) = true) := by show _ = _; rw [HFT.out, HF.out, HN.out]; rfl
      have HYY : Hid (tkTo ((evsD p item ds).take (k + 1)) = M) := by
        show _ = _
        rw [HST.out]; unfold tkStep dmV; simp only []; rw [HN.out, HDN.out, Int.toNat_natCast, Int.zero_mul, Int.add_zero]; exact set_same M dn
      go_wp2_with fail
      go_roundw
      case rel => exact ⟨k + 1, by omega, by go_num, HFT1.out, by rw [HYY.out]; exact hA, B1, B2, B3, hb⟩
      case measure => simp [intOf]; omega
    obtain ⟨qn, hqn⟩ : ∃ qn : Nat, findIt p.it ds[k].2.1 = (qn : Int) := ⟨(findIt p.it ds[k].2.1).toNat, by omega⟩
    have q1 : qn < p.it.length := by omega
    have q2 : (qn : Int) < (p.it.length : Int) := by omega
    have q3 : (0 : Int) ≤ (qn : Int) := by omega
    obtain ⟨bi, oi, hae, hbi, t0, t1, t2, _⟩ := item_at (HQ0.out.keep hb) q1
    have HPH : Hid (phan p.it ds[k].2.1 = (p.it[qn].2.2.1 == 2)) := by show _ = _; unfold phan; rw [hqn, Int.toNat_natCast, List.getD_eq_getElem?_getD, List.getElem?_eq_getElem q1]; rfl
    have HFD := Lib.hid hf
    rw [hqn]
    clear hf f1 f2
    obtain ⟨b0, b1, b2, b3, b4, b5, b6, bl⟩ := B1.seven
    have HAE := Lib.hid hae
    rw [hae] at b0
    cases hk2 : (p.it[qn].2.2.1 == 2)
    case false =>
      have HN : Hid (dmN p item ds[k] = 0) := by show _ = _; unfold dmN; rw [if_neg (by rw [heq]; decide), HPH.out, hk2]; simp
      clear hae
      have HFT1 : Hid (few ((evsD p item ds).take (k + 1)) = true) := by show _ = _; rw [HFT.out, HF.out, HN.out]; rfl
      have HYY : Hid (tkTo ((evsD p item ds).take (k + 1)) = M) := by
        show _ = _
        rw [HST.out]; unfold tkStep dmV; simp only []; rw [HN.out, HDN.out, Int.toNat_natCast, Int.zero_mul, Int.add_zero]; exact set_same M dn
      go_wp2_with fail
      go_roundw
      case rel => exact ⟨k + 1, by omega, by go_num, HFT1.out, by rw [HYY.out]; exact hA, B1, B2, B3, hb⟩
      case measure => simp [intOf]; omega
    have HN : Hid (dmN p item ds[k] = unitAt p item ds[k].2.1 ds[k].2.2.2.1) := by show _ = _; unfold dmN; rw [if_neg (by rw [heq]; decide), HPH.out, hk2, decide_eq_true HFD.out]; rfl
    clear hae
    go_wp2_with fail
    clear b0 b1 b2 b3 b4 b5 b6 bl t0 t1 t2 hbi x1 x2 x3 i0 o0 BX
    have hmc := hdy.cell dn
    refine (take_any ⟨⟨a0, p.it.length, c0⟩, ⟨a1, n1, c1⟩, ⟨a2, n2, c2⟩, ⟨a3, n3, c3⟩, ⟨a4, n4, c4⟩, ⟨a5, n5, c5⟩, ⟨a6, n6, c6⟩⟩ p w.heap.size (w.heap.size + 1) N3 w.heap.size gi dn ds[k].2.1 item ds[k].2.2.1 M _ w HP.out hb HOK.out HIP.out HFD.out B1 B2 B3 hA hd1 (by omega) (by omega)).mono ?_
    rintro e w8 ⟨rfl, hA8, ho⟩
    replace B1 := B1.only ho (by omega)
    replace B2 := B2.only ho (by omega)
    replace B3 := B3.only ho (by omega)
    replace hb := below_only hb ho (by omega) hb.size
    clear ho
    have HU : Hid (dmN p item ds[k] = unitAt p item ds[k].2.1 dn) := by show _ = _; rw [HN.out, HDN.out]
    generalize unitAt p item ds[k].2.1 (dn : Int) = u at *
    by_cases hu : u ≤ 1000000000
    case neg =>
      have hde : decide (u ≤ 1000000000) = false := decide_eq_false hu
      rw [hde]
      have HBB := HPB.out (by rw [HU.out]; omega)
      go_wp2_with fail
      go_ret2
      exact takenEndI_no HBB hb
    have hde : decide (u ≤ 1000000000) = true := decide_eq_true hu
    rw [hde]
    have HFT1 : Hid (few ((evsD p item ds).take (k + 1)) = true) := by show _ = _; rw [HFT.out, HF.out, HU.out, hde]; rfl
    have HYY : Hid (tkTo ((evsD p item ds).take (k + 1)) = M.set dn (M.getD dn 0 + u * ds[k].2.2.1)) := by
      show _ = _
      rw [HST.out]; unfold tkStep dmV; simp only []; rw [HDN.out, Int.toNat_natCast]; (try rw [HDN.out] at HU); rw [HU.out]
    go_wp2_with fail
    go_roundw
    case rel => exact ⟨k + 1, by omega, by go_num, HFT1.out, by rw [HYY.out]; exact hA8, B1, B2, B3, hb⟩
    case measure => simp [intOf]; omega
end Go.Proofs.Ytlkolehdikfddaa
