/- Part 6 of the texts of this claim: The walks of IsBills; What of a part lies in an item, reckoned item by item and by the levels (plain). -/
import Derived.Test.YtlkolehdikfddaaTr5
/- The walks of IsBills. -/
namespace Go.Proofs.Ytlkolehdikfddaa
open Go.RowKit
def okLine (it : List It) (x : Bl) : Bool :=
  decide (0 ≤ findIt it x.1) && (decide (0 ≤ findIt it x.2.1) && ((!((it.getD (findIt it x.1).toNat itNone).2.2.1 == 0)) && (inB x.2.2.1 1 1000 && (inB x.2.2.2.1 0 999 && (inB x.2.2.2.2.1 x.2.2.2.1 999 && isCond x.2.2.2.2.2)))))
def isBills (it : List It) (ls : List Bl) : Bool := (isCat it && decide ((ls.length : Int) ≤ 24)) && (ls.all (okLine it) && !turned (edges it ls) it.length it.length)
theorem isBills_no {it : List It} {ls : List Bl} (h : (isCat it && decide ((ls.length : Int) ≤ 24)) = false) : isBills it ls = false := by unfold isBills; rw [h]; rfl
theorem isBills_bad {it : List It} {ls : List Bl} {k : Nat} (hk : k < ls.length) (h : okLine it ls[k] = false) : isBills it ls = false := by
  unfold isBills; rw [all_false ls _ k hk h]; simp
theorem isBills_end {it : List It} {ls : List Bl} (h1 : isCat it = true) (h2 : (ls.length : Int) ≤ 24) (h3 : (ls.take ls.length).all (okLine it) = true) : isBills it ls = !turned (edges it ls) it.length it.length := by
  rw [List.take_length] at h3
  unfold isBills; rw [h1, decide_eq_true h2, h3]; rfl
theorem isBills_parts {it : List It} {ls : List Bl} (h : isBills it ls = true) : isCat it = true ∧ ls.length ≤ 24 ∧ (∀ k (hk : k < ls.length), okLine it ls[k] = true) ∧ turned (edges it ls) it.length it.length = false := by
  simp only [isBills, Bool.and_eq_true, decide_eq_true_eq, Bool.not_eq_true', List.all_eq_true] at h
  exact ⟨h.1.1, by omega, fun k hk => h.2.1 _ (List.getElem_mem hk), h.2.2⟩
theorem okLine_parts {it : List It} {x : Bl} (h : okLine it x = true) : 0 ≤ findIt it x.1 ∧ 0 ≤ findIt it x.2.1 ∧ (1 ≤ x.2.2.1 ∧ x.2.2.1 ≤ 1000) ∧ (0 ≤ x.2.2.2.1 ∧ x.2.2.2.1 ≤ 999) ∧ (x.2.2.2.1 ≤ x.2.2.2.2.1 ∧ x.2.2.2.2.1 ≤ 999) ∧ isCond x.2.2.2.2.2 = true := by
  simp only [okLine, Bool.and_eq_true, inB_iff, decide_eq_true_eq] at h
  obtain ⟨h1, h2, _, h3, h4, h5, h6⟩ := h
  exact ⟨h1, h2, h3, h4, h5, h6⟩
theorem okLine_f {it : List It} {ls : List Bl} (h : (ls.take ls.length).all (okLine it) = true) : ∀ k (hk : k < ls.length), 0 ≤ findIt it ls[k].1 ∧ 0 ≤ findIt it ls[k].2.1 := by
  rw [List.take_length, List.all_eq_true] at h
  intro k hk
  have := okLine_parts (h _ (List.getElem_mem hk))
  exact ⟨this.1, this.2.1⟩
theorem okLine_eq {it : List It} {x : Bl} {p q : Nat} {b1 b2 b3 b4 b5 : Bool} (hp : findIt it x.1 = (p : Int)) (hq : findIt it x.2.1 = (q : Int)) (hp1 : p < it.length) (h1 : (it[p].2.2.1 == 0) = b1) (h2 : inB x.2.2.1 1 1000 = b2) (h3 : inB x.2.2.2.1 0 999 = b3) (h4 : inB x.2.2.2.2.1 x.2.2.2.1 999 = b4) (h5 : isCond x.2.2.2.2.2 = b5) :
    okLine it x = (!b1 && (b2 && (b3 && (b4 && b5)))) := by
  unfold okLine
  rw [hp, hq, h2, h3, h4, h5, decide_eq_true (by omega), decide_eq_true (by omega), Int.toNat_natCast, it_getD _ _ hp1, h1]
  rfl
set_option maxRecDepth 100000 in
set_option maxHeartbeats 4000000 in
theorem specIsBills_any (A B : Option Addr) (n c m d : Nat) (it : List It) (ls : List Bl) (w : World) (hi : ItemsIn w A n it) (hl : BillLinesIn w B m ls) (hoki : ∀ x ∈ it, okIt x) (hokl : ∀ x ∈ ls, okBl x) :
    Calls Try.prog 63 #[.slice A n c, .slice B m d] w fun e w' => e = .returned (.bool (isBills it ls)) ∧ Below w.heap.size w w' := by
  have hn := hi.len
  have hm := hl.len
  obtain rfl := hi.1
  obtain rfl := hl.num
  have HO := Lib.hid hoki
  have HOL := Lib.hid hokl
  clear hoki hokl
  cases g1 : isCat it
  · have HF : Hid (isBills it ls = false) := isBills_no (by rw [g1]; rfl)
    go_enter Try.func63, Try.ntmps63
    go_wp2_with fail
    refine (specIsCatalog_any _ _ _ it _ hi HO.out).mono ?_
    rintro e w1 ⟨rfl, hb⟩
    rw [g1]
    go_wp2_with fail
    go_ret
    exact ⟨ret_bool HF.out.symm, hb⟩
  by_cases h24 : (ls.length : Int) ≤ 24
  case neg =>
    have HF : Hid (isBills it ls = false) := isBills_no (by rw [decide_eq_false h24]; simp)
    go_enter Try.func63, Try.ntmps63
    go_wp2_with fail
    refine (specIsCatalog_any _ _ _ it _ hi HO.out).mono ?_
    rintro e w1 ⟨rfl, hb⟩
    rw [g1]
    go_wp2_with fail
    go_ret
    exact ⟨ret_bool HF.out.symm, hb⟩
  go_enter Try.func63, Try.ntmps63
  go_wp2_with fail
  refine (specIsCatalog_any _ _ _ it _ hi HO.out).mono ?_
  rintro e w1 ⟨rfl, hb⟩
  rw [g1]
  go_wp2_with fail
  go_loopw [5] (fun i wr => ∃ k : Nat, k ≤ ls.length ∧ i = .int .i64 k ∧ Hid ((ls.take k).all (okLine it) = true) ∧ Below w.heap.size w wr) (fun i _ => ls.length - (intOf i).toNat)
  case atStart => exact ⟨0, by omega, rfl, rfl, hb⟩
  case round =>
    clear hb
    obtain ⟨k, hk, rfl, HI, hb⟩ := hrel
    by_cases hlt : k < ls.length
    · obtain ⟨b, o, B2, m2, c2, rfl, hbl, hc0, hc1, hc2, hc3, hc4, hc5, hcd⟩ := bl_at (hl.keep hb) hlt
      have hokn := HOL.out _ (List.getElem_mem hlt)
      have HKN : Hid (∀ y ∈ ls[k].2.2.2.2.2, okCn y) := by unfold okBl at hokn; exact hokn.2.2
      clear hokn
      obtain ⟨f3, f3b⟩ := findIt_bd it ls[k].1
      obtain ⟨f4, f4b⟩ := findIt_bd it ls[k].2.1
      have hs := below_alloc wr (.cells #[.string ls[k].1, .string ls[k].2.1, .int .i64 ls[k].2.2.1, .int .i64 ls[k].2.2.2.1, .int .i64 ls[k].2.2.2.2.1, .slice B2 m2 c2] 90)
      have hB := below_on hb hs
      have hcd2 := hcd.keep hs
      have d0 : (wr.alloc (.cells #[.string ls[k].1, .string ls[k].2.1, .int .i64 ls[k].2.2.1, .int .i64 ls[k].2.2.2.1, .int .i64 ls[k].2.2.2.2.1, .slice B2 m2 c2] 90)).cell? ⟨wr.heap.size, 0, none⟩ = some (.string ls[k].1) := by simp [go_sem]
      have d1 : (wr.alloc (.cells #[.string ls[k].1, .string ls[k].2.1, .int .i64 ls[k].2.2.1, .int .i64 ls[k].2.2.2.1, .int .i64 ls[k].2.2.2.2.1, .slice B2 m2 c2] 90)).cell? ⟨wr.heap.size, 1, none⟩ = some (.string ls[k].2.1) := by simp [go_sem]
      have d2 : (wr.alloc (.cells #[.string ls[k].1, .string ls[k].2.1, .int .i64 ls[k].2.2.1, .int .i64 ls[k].2.2.2.1, .int .i64 ls[k].2.2.2.2.1, .slice B2 m2 c2] 90)).cell? ⟨wr.heap.size, 2, none⟩ = some (.int .i64 ls[k].2.2.1) := by simp [go_sem]
      have d3 : (wr.alloc (.cells #[.string ls[k].1, .string ls[k].2.1, .int .i64 ls[k].2.2.1, .int .i64 ls[k].2.2.2.1, .int .i64 ls[k].2.2.2.2.1, .slice B2 m2 c2] 90)).cell? ⟨wr.heap.size, 3, none⟩ = some (.int .i64 ls[k].2.2.2.1) := by simp [go_sem]
      have d4 : (wr.alloc (.cells #[.string ls[k].1, .string ls[k].2.1, .int .i64 ls[k].2.2.1, .int .i64 ls[k].2.2.2.1, .int .i64 ls[k].2.2.2.2.1, .slice B2 m2 c2] 90)).cell? ⟨wr.heap.size, 4, none⟩ = some (.int .i64 ls[k].2.2.2.2.1) := by simp [go_sem]
      have d5 : (wr.alloc (.cells #[.string ls[k].1, .string ls[k].2.1, .int .i64 ls[k].2.2.1, .int .i64 ls[k].2.2.2.1, .int .i64 ls[k].2.2.2.2.1, .slice B2 m2 c2] 90)).cell? ⟨wr.heap.size, 5, none⟩ = some (.slice B2 m2 c2) := by simp [go_sem]
      have dl : wr.heap.size < (wr.alloc (.cells #[.string ls[k].1, .string ls[k].2.1, .int .i64 ls[k].2.2.1, .int .i64 ls[k].2.2.2.1, .int .i64 ls[k].2.2.2.2.1, .slice B2 m2 c2] 90)).heap.size := by simp
      go_wp2_with fail
      generalize wr.alloc (.cells #[.string ls[k].1, .string ls[k].2.1, .int .i64 ls[k].2.2.1, .int .i64 ls[k].2.2.2.1, .int .i64 ls[k].2.2.2.2.1, .slice B2 m2 c2] 90) = wq at *
      generalize wr.heap.size = N at *
      clear hc0 hc1 hc2 hc3 hc4 hc5 hs hb hbl hcd
      refine (specFindItem_any _ _ _ it _ _ (hi.keep hB)).mono ?_
      rintro e v ⟨rfl, rfl⟩
      go_wp2_with fail
      refine (specFindItem_any _ _ _ it _ _ (hi.keep hB)).mono ?_
      rintro e v ⟨rfl, rfl⟩
      by_cases f1 : 0 ≤ findIt it ls[k].1
      case neg =>
        have HF : Hid (isBills it ls = false) := isBills_bad hlt (by unfold okLine; rw [decide_eq_false f1]; rfl)
        have f5 : findIt it ls[k].1 < 0 := by omega
        clear f3 f4 f3b f4b f1
        go_wp2_with (go_at_call 42; refine (l1In_any _ _ _ _).mono ?_; rintro e w' ⟨rfl, rfl⟩)
        go_ret
        exact ⟨ret_bool HF.out.symm, hB⟩
      by_cases f2 : 0 ≤ findIt it ls[k].2.1
      case neg =>
        have HF : Hid (isBills it ls = false) := isBills_bad hlt (by unfold okLine; rw [decide_eq_true f1, decide_eq_false f2]; rfl)
        have f5 : findIt it ls[k].2.1 < 0 := by omega
        clear f3 f4 f3b f4b f2
        go_wp2_with (go_at_call 42; refine (l1In_any _ _ _ _).mono ?_; rintro e w' ⟨rfl, rfl⟩)
        go_ret
        exact ⟨ret_bool HF.out.symm, hB⟩
      obtain ⟨pn, hpn⟩ : ∃ pn : Nat, findIt it ls[k].1 = (pn : Int) := ⟨(findIt it ls[k].1).toNat, by omega⟩
      obtain ⟨qn, hqn⟩ : ∃ qn : Nat, findIt it ls[k].2.1 = (qn : Int) := ⟨(findIt it ls[k].2.1).toNat, by omega⟩
      have p1 : pn < it.length := by omega
      have p2 : (pn : Int) < (it.length : Int) := by omega
      obtain ⟨bi, oi, rfl, _, _, _, hk2, _⟩ := item_at (hi.keep hB) p1
      rw [hpn, hqn]
      have HPN := Lib.hid hpn
      have HQN := Lib.hid hqn
      clear f1 f2 f3 f4 f3b f4b hpn hqn
      cases q0 : (it[pn].2.2.1 == 0)
      case true =>
        have HF : Hid (isBills it ls = false) := isBills_bad hlt ((okLine_eq HPN.out HQN.out p1 q0 rfl rfl rfl rfl).trans (by simp))
        go_wp2_with (go_at_call 42; refine (l1In_any _ _ _ _).mono ?_; rintro e w' ⟨rfl, rfl⟩)
        go_ret
        exact ⟨ret_bool HF.out.symm, hB⟩
      cases q1 : inB ls[k].2.2.1 1 1000
      · have HF : Hid (isBills it ls = false) := isBills_bad hlt ((okLine_eq HPN.out HQN.out p1 q0 q1 rfl rfl rfl).trans (by simp))
        go_wp2_with (go_at_call 42; refine (l1In_any _ _ _ _).mono ?_; rintro e w' ⟨rfl, rfl⟩)
        go_ret
        exact ⟨ret_bool HF.out.symm, hB⟩
      cases q2 : inB ls[k].2.2.2.1 0 999
      · have HF : Hid (isBills it ls = false) := isBills_bad hlt ((okLine_eq HPN.out HQN.out p1 q0 q1 q2 rfl rfl).trans (by simp))
        go_wp2_with (go_at_call 42; refine (l1In_any _ _ _ _).mono ?_; rintro e w' ⟨rfl, rfl⟩)
        go_ret
        exact ⟨ret_bool HF.out.symm, hB⟩
      cases q3 : inB ls[k].2.2.2.2.1 ls[k].2.2.2.1 999
      · have HF : Hid (isBills it ls = false) := isBills_bad hlt ((okLine_eq HPN.out HQN.out p1 q0 q1 q2 q3 rfl).trans (by simp))
        go_wp2_with (go_at_call 42; refine (l1In_any _ _ _ _).mono ?_; rintro e w' ⟨rfl, rfl⟩)
        go_ret
        exact ⟨ret_bool HF.out.symm, hB⟩
      cases q4 : isCond ls[k].2.2.2.2.2
      · have HF : Hid (isBills it ls = false) := isBills_bad hlt ((okLine_eq HPN.out HQN.out p1 q0 q1 q2 q3 q4).trans (by simp))
        go_wp2_with (go_at_call 42; refine (l1In_any _ _ _ _).mono ?_; rintro e w' ⟨rfl, rfl⟩)
        refine (specIsCond_any _ _ _ ls[k].2.2.2.2.2 _ hcd2 HKN.out).mono ?_
        rintro e w6 ⟨rfl, hb6⟩
        rw [q4]
        go_wp2_with fail
        go_ret
        exact ⟨ret_bool HF.out.symm, below_on hB hb6⟩
      have HF : Hid ((ls.take (k + 1)).all (okLine it) = true) := by
        show _ = _
        rw [all_take ls _ k hlt, HI.out, okLine_eq HPN.out HQN.out p1 q0 q1 q2 q3 q4]; rfl
      go_wp2_with (go_at_call 42; refine (l1In_any _ _ _ _).mono ?_; rintro e w' ⟨rfl, rfl⟩)
      refine (specIsCond_any _ _ _ ls[k].2.2.2.2.2 _ hcd2 HKN.out).mono ?_
      rintro e w6 ⟨rfl, hb6⟩
      rw [q4]
      go_wp2_with fail
      go_roundw
      case rel => exact ⟨k + 1, by omega, by go_num, HF.out, below_on hB hb6⟩
      case measure => simp [intOf]; omega
    · obtain rfl : k = ls.length := by omega
      have HE := Lib.hid (isBills_end g1 h24 HI.out)
      have HLN := Lib.hid (levI_len (E := edges it ls) (n := it.length))
      have HLT := Lib.hid (edges_lt (okLine_f HI.out))
      go_wp2_with fail
      refine (l9Levels_any _ _ _ _ _ _ it ls _ (hi.keep hb) (hl.keep hb) (isCat_len g1) (by omega) (okLine_f HI.out)).mono ?_
      rintro e w6 ⟨A', k6, c', rfl, hown, hb6⟩
      have h6 := hown.1
      rw [HLN.out] at h6
      cases ht : turned (edges it ls) it.length it.length
      · rw [ht] at h6
        obtain rfl : k6 = it.length := h6
        have HT : Hid (isBills it ls = true) := by show _ = _; rw [HE.out, ht]; rfl
        clear hown
        go_wp2_with fail
        go_ret
        exact ⟨ret_bool HT.out.symm, below_on hb hb6⟩
      · rw [ht] at h6
        obtain rfl : k6 = 0 := h6
        have hpos := turned_pos HLT.out ht
        have HT : Hid (isBills it ls = false) := by show _ = _; rw [HE.out, ht]; rfl
        have hq : ((0 : Int) == (it.length : Int)) = false := by rw [beq_eq_false_iff_ne]; omega
        clear hown hpos
        go_wp2_with fail
        go_ret
        exact ⟨ret_bool HT.out.symm, below_on hb hb6⟩
set_option maxRecDepth 100000 in
set_option maxHeartbeats 4000000 in
theorem implIsBills_any (A B : Option Addr) (n c m d : Nat) (it : List It) (ls : List Bl) (w : World) (hi : ItemsIn w A n it) (hl : BillLinesIn w B m ls) (hoki : ∀ x ∈ it, okIt x) (hokl : ∀ x ∈ ls, okBl x) :
    Calls Try.prog 24 #[.slice A n c, .slice B m d] w fun e w' => e = .returned (.bool (isBills it ls)) ∧ Below w.heap.size w w' := by
  have hn := hi.len
  have hm := hl.len
  obtain rfl := hi.1
  obtain rfl := hl.num
  have HO := Lib.hid hoki
  have HOL := Lib.hid hokl
  clear hoki hokl
  cases g1 : isCat it
  · have HF : Hid (isBills it ls = false) := isBills_no (by rw [g1]; rfl)
    go_enter Try.func24, Try.ntmps24
    go_wp2_with fail
    refine (implIsCatalog_any _ _ _ it _ hi HO.out).mono ?_
    rintro e w1 ⟨rfl, hb⟩
    rw [g1]
    go_wp2_with fail
    go_ret
    exact ⟨ret_bool HF.out.symm, hb⟩
  by_cases h24 : (ls.length : Int) ≤ 24
  case neg =>
    have HF : Hid (isBills it ls = false) := isBills_no (by rw [decide_eq_false h24]; simp)
    go_enter Try.func24, Try.ntmps24
    go_wp2_with fail
    refine (implIsCatalog_any _ _ _ it _ hi HO.out).mono ?_
    rintro e w1 ⟨rfl, hb⟩
    rw [g1]
    go_wp2_with fail
    go_ret
    exact ⟨ret_bool HF.out.symm, hb⟩
  go_enter Try.func24, Try.ntmps24
  go_wp2_with fail
  refine (implIsCatalog_any _ _ _ it _ hi HO.out).mono ?_
  rintro e w1 ⟨rfl, hb⟩
  rw [g1]
  go_wp2_with fail
  go_loopw [21] (fun i wr => ∃ k : Nat, k ≤ ls.length ∧ i = .int .i64 k ∧ Hid ((ls.take k).all (okLine it) = true) ∧ Below w.heap.size w wr) (fun i _ => ls.length - (intOf i).toNat)
  case atStart => exact ⟨0, by omega, rfl, rfl, hb⟩
  case round =>
    clear hb
    obtain ⟨k, hk, rfl, HI, hb⟩ := hrel
    by_cases hlt : k < ls.length
    · obtain ⟨b, o, B2, m2, c2, rfl, hbl, hc0, hc1, hc2, hc3, hc4, hc5, hcd⟩ := bl_at (hl.keep hb) hlt
      have hokn := HOL.out _ (List.getElem_mem hlt)
      have HKN : Hid (∀ y ∈ ls[k].2.2.2.2.2, okCn y) := by unfold okBl at hokn; exact hokn.2.2
      clear hokn
      obtain ⟨f3, f3b⟩ := findIt_bd it ls[k].1
      obtain ⟨f4, f4b⟩ := findIt_bd it ls[k].2.1
      have hs := below_alloc wr (.cells #[.string ls[k].1, .string ls[k].2.1, .int .i64 ls[k].2.2.1, .int .i64 ls[k].2.2.2.1, .int .i64 ls[k].2.2.2.2.1, .slice B2 m2 c2] 90)
      have hB := below_on hb hs
      have hcd2 := hcd.keep hs
      have d0 : (wr.alloc (.cells #[.string ls[k].1, .string ls[k].2.1, .int .i64 ls[k].2.2.1, .int .i64 ls[k].2.2.2.1, .int .i64 ls[k].2.2.2.2.1, .slice B2 m2 c2] 90)).cell? ⟨wr.heap.size, 0, none⟩ = some (.string ls[k].1) := by simp [go_sem]
      have d1 : (wr.alloc (.cells #[.string ls[k].1, .string ls[k].2.1, .int .i64 ls[k].2.2.1, .int .i64 ls[k].2.2.2.1, .int .i64 ls[k].2.2.2.2.1, .slice B2 m2 c2] 90)).cell? ⟨wr.heap.size, 1, none⟩ = some (.string ls[k].2.1) := by simp [go_sem]
      have d2 : (wr.alloc (.cells #[.string ls[k].1, .string ls[k].2.1, .int .i64 ls[k].2.2.1, .int .i64 ls[k].2.2.2.1, .int .i64 ls[k].2.2.2.2.1, .slice B2 m2 c2] 90)).cell? ⟨wr.heap.size, 2, none⟩ = some (.int .i64 ls[k].2.2.1) := by simp [go_sem]
      have d3 : (wr.alloc (.cells #[.string ls[k].1, .string ls[k].2.1, .int .i64 ls[k].2.2.1, .int .i64 ls[k].2.2.2.1, .int .i64 ls[k].2.2.2.2.1, .slice B2 m2 c2] 90)).cell? ⟨wr.heap.size, 3, none⟩ = some (.int .i64 ls[k].2.2.2.1) := by simp [go_sem]
      have d4 : (wr.alloc (.cells #[.string ls[k].1, .string ls[k].2.1, .int .i64 ls[k].2.2.1, .int .i64 ls[k].2.2.2.1, .int .i64 ls[k].2.2.2.2.1, .slice B2 m2 c2] 90)).cell? ⟨wr.heap.size, 4, none⟩ = some (.int .i64 ls[k].2.2.2.2.1) := by simp [go_sem]
      have d5 : (wr.alloc (.cells #[.string ls[k].1, .string ls[k].2.1, .int .i64 ls[k].2.2.1, .int .i64 ls[k].2.2.2.1, .int .i64 ls[k].2.2.2.2.1, .slice B2 m2 c2] 90)).cell? ⟨wr.heap.size, 5, none⟩ = some (.slice B2 m2 c2) := by simp [go_sem]
      have dl : wr.heap.size < (wr.alloc (.cells #[.string ls[k].1, .string ls[k].2.1, .int .i64 ls[k].2.2.1, .int .i64 ls[k].2.2.2.1, .int .i64 ls[k].2.2.2.2.1, .slice B2 m2 c2] 90)).heap.size := by simp
      go_wp2_with fail
      generalize wr.alloc (.cells #[.string ls[k].1, .string ls[k].2.1, .int .i64 ls[k].2.2.1, .int .i64 ls[k].2.2.2.1, .int .i64 ls[k].2.2.2.2.1, .slice B2 m2 c2] 90) = wq at *
      generalize wr.heap.size = N at *
      clear hc0 hc1 hc2 hc3 hc4 hc5 hs hb hbl hcd
      go_region_held3 (fun w' => w'.cell? ⟨N, 0, none⟩ = some (.string ls[k].1) ∧ w'.cell? ⟨N, 1, none⟩ = some (.string ls[k].2.1) ∧ w'.cell? ⟨N, 2, none⟩ = some (.int .i64 ls[k].2.2.1) ∧ w'.cell? ⟨N, 3, none⟩ = some (.int .i64 ls[k].2.2.2.1) ∧ w'.cell? ⟨N, 4, none⟩ = some (.int .i64 ls[k].2.2.2.2.1) ∧ w'.cell? ⟨N, 5, none⟩ = some (.slice B2 m2 c2) ∧ N < w'.heap.size ∧ CondsIn w' B2 m2 ls[k].2.2.2.2.2 ∧ Below w.heap.size w w')
        (first
          | exact ⟨d0, d1, d2, d3, d4, d5, dl, hcd2.keep (Below.refl _ _).drew, hB.drew⟩
          | (go_split_ands; refine ⟨?_, ?_, ?_, ?_, ?_, ?_, ?_, ?_, ?_⟩ <;> with_reducible assumption)
          | (go_split_ands; exact ⟨(hb3.cell (by with_reducible assumption)).trans (by with_reducible assumption), (hb3.cell (by with_reducible assumption)).trans (by with_reducible assumption), (hb3.cell (by with_reducible assumption)).trans (by with_reducible assumption), (hb3.cell (by with_reducible assumption)).trans (by with_reducible assumption), (hb3.cell (by with_reducible assumption)).trans (by with_reducible assumption), (hb3.cell (by with_reducible assumption)).trans (by with_reducible assumption), Nat.lt_of_lt_of_le (by with_reducible assumption) hb3.size, RowsIn.keep (by with_reducible assumption) hb3, below_on (by with_reducible assumption) hb3⟩))
        (first
          | ((with_reducible refine (implFindItem_any A it.length c it ls[k].1 _ (hi.keep ?_)).mono ?_); (go_split_ands; with_reducible assumption); rintro e w3 ⟨rfl, hb3⟩)
          | ((with_reducible refine (implFindItem_any A it.length c it ls[k].2.1 _ (hi.keep ?_)).mono ?_); (go_split_ands; with_reducible assumption); rintro e w3 ⟨rfl, hb3⟩))
      all_goals
        go_split_ands
        have hB3 : Below w.heap.size w w3 := by with_reducible assumption
        have hcd3 : CondsIn w3 B2 m2 ls[k].2.2.2.2.2 := by with_reducible assumption
        clear hB hcd2 d0 d1 d2 d3 d4 d5 dl
        by_cases f1 : 0 ≤ findIt it ls[k].1
        case neg =>
          have HF : Hid (isBills it ls = false) := isBills_bad hlt (by unfold okLine; rw [decide_eq_false f1]; rfl)
          have f5 : findIt it ls[k].1 < 0 := by omega
          clear f3 f4 f3b f4b f1
          go_wp2_with (go_at_call 25; refine (in_any _ _ _ _).mono ?_; rintro e w' ⟨rfl, rfl⟩)
          go_ret
          exact ⟨ret_bool HF.out.symm, hB3⟩
        by_cases f2 : 0 ≤ findIt it ls[k].2.1
        case neg =>
          have HF : Hid (isBills it ls = false) := isBills_bad hlt (by unfold okLine; rw [decide_eq_true f1, decide_eq_false f2]; rfl)
          have f5 : findIt it ls[k].2.1 < 0 := by omega
          clear f3 f4 f3b f4b f2
          go_wp2_with (go_at_call 25; refine (in_any _ _ _ _).mono ?_; rintro e w' ⟨rfl, rfl⟩)
          go_ret
          exact ⟨ret_bool HF.out.symm, hB3⟩
        obtain ⟨pn, hpn⟩ : ∃ pn : Nat, findIt it ls[k].1 = (pn : Int) := ⟨(findIt it ls[k].1).toNat, by omega⟩
        obtain ⟨qn, hqn⟩ : ∃ qn : Nat, findIt it ls[k].2.1 = (qn : Int) := ⟨(findIt it ls[k].2.1).toNat, by omega⟩
        have p1 : pn < it.length := by omega
        have p2 : (pn : Int) < (it.length : Int) := by omega
        obtain ⟨bi, oi, rfl, _, _, _, hk2, _⟩ := item_at (hi.keep hB3) p1
        rw [hpn, hqn]
        have HPN := Lib.hid hpn
        have HQN := Lib.hid hqn
        clear f1 f2 f3 f4 f3b f4b hpn hqn
        cases q0 : (it[pn].2.2.1 == 0)
        case true =>
          have HF : Hid (isBills it ls = false) := isBills_bad hlt ((okLine_eq HPN.out HQN.out p1 q0 rfl rfl rfl rfl).trans (by simp))
          go_wp2_with (go_at_call 25; refine (in_any _ _ _ _).mono ?_; rintro e w' ⟨rfl, rfl⟩)
          go_ret
          exact ⟨ret_bool HF.out.symm, hB3⟩
        cases q1 : inB ls[k].2.2.1 1 1000
        · have HF : Hid (isBills it ls = false) := isBills_bad hlt ((okLine_eq HPN.out HQN.out p1 q0 q1 rfl rfl rfl).trans (by simp))
          go_wp2_with (go_at_call 25; refine (in_any _ _ _ _).mono ?_; rintro e w' ⟨rfl, rfl⟩)
          go_ret
          exact ⟨ret_bool HF.out.symm, hB3⟩
        cases q2 : inB ls[k].2.2.2.1 0 999
        · have HF : Hid (isBills it ls = false) := isBills_bad hlt ((okLine_eq HPN.out HQN.out p1 q0 q1 q2 rfl rfl).trans (by simp))
          go_wp2_with (go_at_call 25; refine (in_any _ _ _ _).mono ?_; rintro e w' ⟨rfl, rfl⟩)
          go_ret
          exact ⟨ret_bool HF.out.symm, hB3⟩
        cases q3 : inB ls[k].2.2.2.2.1 ls[k].2.2.2.1 999
        · have HF : Hid (isBills it ls = false) := isBills_bad hlt ((okLine_eq HPN.out HQN.out p1 q0 q1 q2 q3 rfl).trans (by simp))
          go_wp2_with (go_at_call 25; refine (in_any _ _ _ _).mono ?_; rintro e w' ⟨rfl, rfl⟩)
          go_ret
          exact ⟨ret_bool HF.out.symm, hB3⟩
        cases q4 : isCond ls[k].2.2.2.2.2
        · have HF : Hid (isBills it ls = false) := isBills_bad hlt ((okLine_eq HPN.out HQN.out p1 q0 q1 q2 q3 q4).trans (by simp))
          go_wp2_with (go_at_call 25; refine (in_any _ _ _ _).mono ?_; rintro e w' ⟨rfl, rfl⟩)
          refine (implIsCond_any _ _ _ ls[k].2.2.2.2.2 _ hcd3 HKN.out).mono ?_
          rintro e w6 ⟨rfl, hb6⟩
          rw [q4]
          go_wp2_with fail
          go_ret
          exact ⟨ret_bool HF.out.symm, below_on hB3 hb6⟩
        have HF : Hid ((ls.take (k + 1)).all (okLine it) = true) := by
          show _ = _
          rw [all_take ls _ k hlt, HI.out, okLine_eq HPN.out HQN.out p1 q0 q1 q2 q3 q4]; rfl
        go_wp2_with (go_at_call 25; refine (in_any _ _ _ _).mono ?_; rintro e w' ⟨rfl, rfl⟩)
        refine (implIsCond_any _ _ _ ls[k].2.2.2.2.2 _ hcd3 HKN.out).mono ?_
        rintro e w6 ⟨rfl, hb6⟩
        rw [q4]
        go_wp2_with fail
        go_roundw
        case rel => exact ⟨k + 1, by omega, by go_num, HF.out, below_on hB3 hb6⟩
        case measure => simp [intOf]; omega
    · obtain rfl : k = ls.length := by omega
      have HE := Lib.hid (isBills_end g1 h24 HI.out)
      have HLN := Lib.hid (levI_len (E := edges it ls) (n := it.length))
      have HLT := Lib.hid (edges_lt (okLine_f HI.out))
      go_wp2_with fail
      refine (levels_any _ _ _ _ _ _ it ls _ (hi.keep hb) (hl.keep hb) (isCat_len g1) (by omega) (okLine_f HI.out)).mono ?_
      rintro e w6 ⟨A', k6, c', rfl, _, hb6⟩
      go_wp2_with fail
      go_ret
      exact ⟨ret_bool HE.out.symm, below_on hb hb6⟩
end Go.Proofs.Ytlkolehdikfddaa
/- What of a part lies in an item, reckoned item by item and by the levels (plain). -/
namespace Go.Proofs.Ytlkolehdikfddaa
def eqB (a b : ByteArray) : Bool := a.toList == b.toList
def phan (it : List It) (c : ByteArray) : Bool := (it.getD (findIt it c).toNat itNone).2.2.1 == 2
def thrStep (it : List It) (on : Bl → Bool) (part code : ByteArray) (f : ByteArray → Int) (s : Int) (x : Bl) : Int :=
  if on x && (x.1.toList == code.toList) then (if x.2.1.toList == part.toList then min (s + x.2.2.1) 1000000001 else if phan it x.2.1 then min (s + x.2.2.1 * f x.2.1) 1000000001 else s) else s
def thr (it : List It) (ls : List Bl) (on : Bl → Bool) (part : ByteArray) : Nat → ByteArray → Int
  | 0, _ => 0
  | f + 1, code => ls.foldl (thrStep it on part code (thr it ls on part f)) 0
/-- What of part lies in code, at most 1000000001. -/
def unitV (it : List It) (ls : List Bl) (on : Bl → Bool) (part code : ByteArray) : Int := thr it ls on part it.length code
theorem foldl_ext' {α β : Type} (f g : β → α → β) (l : List α) : (∀ s, ∀ x ∈ l, f s x = g s x) → ∀ s, l.foldl f s = l.foldl g s := by
  induction l with
  | nil => intro _ s; rfl
  | cons a t ih =>
    intro h s
    rw [List.foldl_cons, List.foldl_cons, h s a List.mem_cons_self]
    exact ih (fun s x hx => h s x (List.mem_cons_of_mem _ hx)) _
theorem findIt_congr {l : List It} {c d : ByteArray} (h : c.toList = d.toList) : findIt l c = findIt l d := by unfold findIt; rw [h]
theorem thr_congr (it : List It) (ls : List Bl) (on : Bl → Bool) (part : ByteArray) (f : Nat) {c d : ByteArray} (h : c.toList = d.toList) : thr it ls on part f c = thr it ls on part f d := by
  cases f with
  | zero => rfl
  | succ f =>
    simp only [thr]
    refine foldl_ext' _ _ _ (fun s x _ => ?_) 0
    unfold thrStep; rw [h]
theorem unitV_congr {it : List It} {ls : List Bl} {on : Bl → Bool} {part : ByteArray} {c d : ByteArray} (h : c.toList = d.toList) : unitV it ls on part c = unitV it ls on part d := thr_congr _ _ _ _ _ h
/-- A catalog and lines whose items are all found, and levels at rest. -/
structure Lev (it : List It) (ls : List Bl) (lev : List Nat) : Prop where
  len : lev.length = it.length
  fnd : ∀ x ∈ ls, 0 ≤ findIt it x.1 ∧ 0 ≤ findIt it x.2.1
  qty : ∀ x ∈ ls, 1 ≤ x.2.2.1 ∧ x.2.2.1 ≤ 1000
  rest : ∀ x ∈ ls, lev.getD (findIt it x.1).toNat 0 < lev.getD (findIt it x.2.1).toNat 0
  lt : ∀ v, v < it.length → lev.getD v 0 < it.length
  held : ∀ v, 0 < lev.getD v 0 → ∃ x ∈ ls, (findIt it x.2.1).toNat = v
theorem lev_of {it : List It} {ls : List Bl} (h : isBills it ls = true) : Lev it ls (runTo (edges it ls) it.length it.length) ∧ levI (edges it ls) it.length = natI (runTo (edges it ls) it.length it.length) := by
  obtain ⟨_, _, h3, h4⟩ := isBills_parts h
  have hf : ∀ k (hk : k < ls.length), 0 ≤ findIt it ls[k].1 ∧ 0 ≤ findIt it ls[k].2.1 := fun k hk => ⟨(okLine_parts (h3 k hk)).1, (okLine_parts (h3 k hk)).2.1⟩
  have hE := edges_lt hf
  have hR : Rest (edges it ls) (runTo (edges it ls) it.length it.length) := (pass_rest (E := edges it ls) _ _ (Nat.le_refl _) h4).2
  have hH := Held.run hE it.length
  have hat : ∀ k (hk : k < ls.length), (edges it ls).getD k (0, 0) = ((findIt it ls[k].1).toNat, (findIt it ls[k].2.1).toNat) := fun k hk =>
    edges_at it ls hk (by have := (hf k hk).1; omega) (by have := (hf k hk).2; omega)
  refine ⟨⟨runTo_len _, fun x hx => ?_, fun x hx => ?_, fun x hx => ?_, fun v hv => rest_le hE hH hR v hv, fun v hv => ?_⟩, levI_some h4⟩
  · obtain ⟨k, hk, rfl⟩ := List.mem_iff_getElem.1 hx
    exact hf k hk
  · obtain ⟨k, hk, rfl⟩ := List.mem_iff_getElem.1 hx
    exact (okLine_parts (h3 k hk)).2.2.1
  · obtain ⟨k, hk, rfl⟩ := List.mem_iff_getElem.1 hx
    have := hR k (by rw [edges_len]; exact hk)
    rw [hat k hk] at this
    exact this
  · obtain ⟨k, h1, h2, _⟩ := hH v hv
    rw [edges_len] at h1
    rw [hat k h1] at h2
    exact ⟨ls[k], List.getElem_mem h1, h2⟩
section
variable {it : List It} {ls : List Bl} {lev : List Nat} (hL : Lev it ls lev) (on : Bl → Bool) (part : ByteArray)
include hL
theorem thr_stab (f : Nat) : ∀ code, 0 ≤ findIt it code → it.length - lev.getD (findIt it code).toNat 0 ≤ f → thr it ls on part (f + 1) code = thr it ls on part f code := by
  induction f with
  | zero =>
    intro code h0 hf
    have := hL.lt _ (findIt_lt h0)
    omega
  | succ f ih =>
    intro code h0 hf
    show ls.foldl (thrStep it on part code (thr it ls on part (f + 1))) 0 = ls.foldl (thrStep it on part code (thr it ls on part f)) 0
    refine foldl_ext' _ _ _ (fun s x hx => ?_) 0
    unfold thrStep
    by_cases hc : (on x && (x.1.toList == code.toList)) = true
    · rw [if_pos hc, if_pos hc]
      simp only [Bool.and_eq_true, beq_iff_eq] at hc
      have h1 := hL.rest x hx
      rw [findIt_congr hc.2] at h1
      have h2 := hL.fnd x hx
      rw [ih x.2.1 h2.2 (by omega)]
    · rw [if_neg hc, if_neg hc]
theorem unitV_eq (code : ByteArray) (h0 : 0 ≤ findIt it code) : unitV it ls on part code = ls.foldl (thrStep it on part code (unitV it ls on part)) 0 :=
  (thr_stab hL on part it.length code h0 (by omega)).symm
omit hL in
theorem thrStep_bd (code : ByteArray) (f : ByteArray → Int) (s : Int) (x : Bl) (hs : 0 ≤ s ∧ s ≤ 1000000001) (hf : 0 ≤ f x.2.1) (hq : 1 ≤ x.2.2.1) : 0 ≤ thrStep it on part code f s x ∧ thrStep it on part code f s x ≤ 1000000001 := by
  unfold thrStep
  split
  · split
    · omega
    · split
      · have := Int.mul_nonneg (show 0 ≤ x.2.2.1 by omega) hf
        omega
      · exact hs
  · exact hs
theorem thr_bd (f : Nat) : ∀ code, 0 ≤ thr it ls on part f code ∧ thr it ls on part f code ≤ 1000000001 := by
  induction f with
  | zero => intro code; exact ⟨by simp [thr], by simp [thr]⟩
  | succ f ih =>
    intro code
    simp only [thr]
    have hq := hL.qty
    have : ∀ (l : List Bl), (∀ x ∈ l, 1 ≤ x.2.2.1) → ∀ s : Int, 0 ≤ s ∧ s ≤ 1000000001 → 0 ≤ l.foldl (thrStep it on part code (thr it ls on part f)) s ∧ l.foldl (thrStep it on part code (thr it ls on part f)) s ≤ 1000000001 := by
      intro l
      induction l with
      | nil => intro _ s hs; exact hs
      | cons a t iht =>
        intro h s hs
        rw [List.foldl_cons]
        exact iht (fun x hx => h x (List.mem_cons_of_mem _ hx)) _ (thrStep_bd on part code _ s a hs (ih _).1 (h a List.mem_cons_self))
    exact this ls (fun x hx => (hq x hx).1) 0 (by omega)
theorem unitV_bd (code : ByteArray) : 0 ≤ unitV it ls on part code ∧ unitV it ls on part code ≤ 1000000001 := thr_bd hL on part _ _
theorem thrTo_bd (code : ByteArray) (k : Nat) : 0 ≤ (ls.take k).foldl (thrStep it on part code (unitV it ls on part)) 0 ∧ (ls.take k).foldl (thrStep it on part code (unitV it ls on part)) 0 ≤ 1000000001 := by
  have hq := hL.qty
  have hu := fun c => (unitV_bd hL on part c).1
  have : ∀ (l : List Bl), (∀ x ∈ l, 1 ≤ x.2.2.1) → ∀ s : Int, 0 ≤ s ∧ s ≤ 1000000001 → 0 ≤ l.foldl (thrStep it on part code (unitV it ls on part)) s ∧ l.foldl (thrStep it on part code (unitV it ls on part)) s ≤ 1000000001 := by
    intro l
    induction l with
    | nil => intro _ s hs; exact hs
    | cons a t iht =>
      intro h s hs
      rw [List.foldl_cons]
      exact iht (fun x hx => h x (List.mem_cons_of_mem _ hx)) _ (thrStep_bd on part code _ s a hs (hu _) (h a List.mem_cons_self))
  exact this (ls.take k) (fun x hx => (hq x (List.mem_of_mem_take hx)).1) 0 (by omega)
end
/-! The same by the levels, where more than 1000000000 is -1. -/
def capv (t : Int) : Int := if t ≤ 1000000000 then t else -1
def timesC (a b : Int) : Int := if a < 0 ∨ b < 0 ∨ (0 < a ∧ 1000000000 / a < b) then -1 else a * b
def plusC (a b : Int) : Int := if a < 0 ∨ b < 0 ∨ 1000000000 < a + b then -1 else a + b
theorem times_cap (u q : Int) (hu : 0 ≤ u) (hq : 1 ≤ q) : timesC (capv u) q = capv (q * u) := by
  unfold capv timesC
  by_cases h1 : u ≤ 1000000000
  · rw [if_pos h1]
    by_cases h0 : u = 0
    · subst h0; simp; omega
    · have hp : 0 < u := by omega
      by_cases h2 : 1000000000 / u < q
      · rw [if_pos (.inr (.inr ⟨hp, h2⟩))]
        have := (Int.ediv_lt_iff_lt_mul hp).1 h2
        rw [if_neg (by omega)]
      · rw [if_neg (by omega)]
        have h3 : ¬ 1000000000 < q * u := fun h => h2 ((Int.ediv_lt_iff_lt_mul hp).2 h)
        rw [if_pos (by omega), Int.mul_comm]
  · rw [if_neg h1, if_pos (.inl (by omega))]
    have := Int.mul_le_mul_of_nonneg_right hq hu
    rw [if_neg (by omega)]
theorem plus_cap (s t : Int) (hs : 0 ≤ s) (ht : 0 ≤ t) : plusC (capv s) (capv t) = capv (min (s + t) 1000000001) := by
  unfold capv plusC
  by_cases h1 : s ≤ 1000000000
  · rw [if_pos h1]
    by_cases h2 : t ≤ 1000000000
    · rw [if_pos h2]
      by_cases h3 : s + t ≤ 1000000000
      · rw [if_neg (by omega), if_pos (by omega)]; omega
      · rw [if_pos (by omega), if_neg (by omega)]
    · rw [if_neg h2, if_pos (by omega), if_neg (by omega)]
  · rw [if_neg h1, if_pos (by omega), if_neg (by omega)]
theorem capv_zero {u : Int} (hu : 0 ≤ u) (h : capv u = 0) : u = 0 := by unfold capv at h; split at h <;> omega
theorem cap_step (s u q : Int) (hs : 0 ≤ s ∧ s ≤ 1000000001) (hu : 0 ≤ u) (hq : 1 ≤ q) : (if capv u = 0 then capv s else plusC (capv s) (timesC (capv u) q)) = capv (min (s + q * u) 1000000001) := by
  by_cases h : capv u = 0
  · rw [if_pos h, capv_zero hu h, Int.mul_zero, Int.add_zero]
    rw [show min s 1000000001 = s by omega]
  · rw [if_neg h, times_cap u q hu hq, plus_cap s (q * u) hs.1 (Int.mul_nonneg (by omega) hu)]
def nOf (it : List It) (part : ByteArray) (m : List Int) (x : Bl) : Int := if x.2.1.toList == part.toList then 1 else if phan it x.2.1 then m.getD (findIt it x.2.1).toNat 0 else 0
def inLine (it : List It) (on : Bl → Bool) (part : ByteArray) (a : Nat) (m : List Int) (x : Bl) : List Int :=
  if (x.1.toList == (it.getD a itNone).1.toList) && on x then (if nOf it part m x = 0 then m else m.set a (plusC (m.getD a 0) (timesC (nOf it part m x) x.2.2.1))) else m
def inItem (it : List It) (ls : List Bl) (on : Bl → Bool) (part : ByteArray) (a : Nat) (m : List Int) : List Int := ls.foldl (inLine it on part a) m
def inTo (it : List It) (ls : List Bl) (on : Bl → Bool) (part : ByteArray) (rest : List Nat) : List Int := rest.foldr (inItem it ls on part) (List.replicate it.length 0)
theorem intD_set (m : List Int) (d i : Nat) (x : Int) (hd : d < m.length) : (m.set d x).getD i 0 = if d = i then x else m.getD i 0 := by
  rw [List.getD_eq_getElem?_getD, List.getElem?_set, List.getD_eq_getElem?_getD]
  by_cases h : d = i
  · subst h; rw [if_pos rfl, if_pos rfl, if_pos hd]; rfl
  · rw [if_neg h, if_neg h]
theorem inLine_len (it : List It) (on : Bl → Bool) (part : ByteArray) (a : Nat) (m : List Int) (x : Bl) : (inLine it on part a m x).length = m.length := by
  unfold inLine; split
  · split
    · rfl
    · rw [List.length_set]
  · rfl
theorem inItem_len (it : List It) (ls : List Bl) (on : Bl → Bool) (part : ByteArray) (a : Nat) (m : List Int) : (inItem it ls on part a m).length = m.length := by
  unfold inItem
  induction ls generalizing m with
  | nil => rfl
  | cons x t ih => rw [List.foldl_cons, ih, inLine_len]
theorem inTo_len (it : List It) (ls : List Bl) (on : Bl → Bool) (part : ByteArray) (rest : List Nat) : (inTo it ls on part rest).length = it.length := by
  unfold inTo
  induction rest with
  | nil => simp
  | cons a t ih => rw [List.foldr_cons, inItem_len, ih]
section
variable {it : List It} {ls : List Bl} {lev : List Nat} (hL : Lev it ls lev) (on : Bl → Bool) (part : ByteArray)
include hL
theorem inItem_at (a : Nat) (rest : List Nat) (m0 : List Int) (ha : a < it.length) (hlen : m0.length = it.length) (hna : a ∉ rest)
    (hb : ∀ b, b < it.length → lev.getD a 0 < lev.getD b 0 → b ∈ rest) (h : ∀ b, b < it.length → m0.getD b 0 = if b ∈ rest then capv (unitV it ls on part (it.getD b itNone).1) else 0) (k : Nat) (hk : k ≤ ls.length) :
    (∀ b, b ≠ a → ((ls.take k).foldl (inLine it on part a) m0).getD b 0 = m0.getD b 0) ∧ ((ls.take k).foldl (inLine it on part a) m0).getD a 0 = capv ((ls.take k).foldl (thrStep it on part (it.getD a itNone).1 (unitV it ls on part)) 0) ∧ ((ls.take k).foldl (inLine it on part a) m0).length = it.length := by
  induction k with
  | zero =>
    refine ⟨fun b _ => rfl, ?_, hlen⟩
    show m0.getD a 0 = capv 0
    rw [h a ha, if_neg hna]; rfl
  | succ k ih =>
    obtain ⟨h1, h2, h3⟩ := ih (by omega)
    have hk2 : k < ls.length := by omega
    rw [List.take_add_one, List.getElem?_eq_getElem hk2, Option.toList_some, List.foldl_append, List.foldl_append]
    simp only [List.foldl_cons, List.foldl_nil]
    generalize hM : (ls.take k).foldl (inLine it on part a) m0 = M at *
    have hS := thrTo_bd hL on part (it.getD a itNone).1 k
    generalize (ls.take k).foldl (thrStep it on part (it.getD a itNone).1 (unitV it ls on part)) 0 = s at *
    have hx := List.getElem_mem hk2
    generalize ls[k] = x at *
    unfold inLine thrStep
    by_cases hc : (on x && (x.1.toList == (it.getD a itNone).1.toList)) = true
    case neg => rw [if_neg hc, if_neg (by rw [Bool.and_comm]; exact hc)]; exact ⟨h1, h2, h3⟩
    rw [if_pos hc, if_pos (by rw [Bool.and_comm]; exact hc)]
    simp only [Bool.and_eq_true, beq_iff_eq] at hc
    obtain ⟨f1, f2⟩ := hL.fnd x hx
    have hr := hL.rest x hx
    have hlev : lev.getD a 0 ≤ lev.getD (findIt it x.1).toNat 0 := by
      rcases Nat.eq_zero_or_pos (lev.getD a 0) with h0 | h0
      · omega
      · obtain ⟨y, hy, hya⟩ := hL.held a h0
        rcases findIt_cases it y.2.1 with e | ⟨q, hq, e1, e2⟩
        · have := (hL.fnd y hy).2; omega
        · have hqa : q = a := by rw [e1] at hya; simpa using hya
          subst hqa
          have e3 : it[q].1.toList = y.2.1.toList := by simpa using e2
          have e4 : x.1.toList = y.2.1.toList := by
            rw [hc.2, ← e3, List.getD_eq_getElem?_getD, List.getElem?_eq_getElem hq]; rfl
          rw [findIt_congr e4, e1]; simp
    have hbm : (findIt it x.2.1).toNat ∈ rest := hb _ (findIt_lt f2) (by omega)
    have hba : (findIt it x.2.1).toNat ≠ a := fun e => hna (e ▸ hbm)
    have hMb : M.getD (findIt it x.2.1).toNat 0 = capv (unitV it ls on part x.2.1) := by
      rw [h1 _ hba, h _ (findIt_lt f2), if_pos hbm]
      rcases findIt_cases it x.2.1 with e | ⟨q, hq, e1, e2⟩
      · omega
      · have e3 : it[q].1.toList = x.2.1.toList := by simpa using e2
        rw [e1, Int.toNat_natCast, List.getD_eq_getElem?_getD, List.getElem?_eq_getElem hq]
        show capv (unitV it ls on part it[q].1) = _
        rw [unitV_congr e3]
    have hq := hL.qty x hx
    have hu := unitV_bd hL on part x.2.1
    have key : ∀ u : Int, 0 ≤ u → (∀ b, b ≠ a → (if capv u = 0 then M else M.set a (plusC (M.getD a 0) (timesC (capv u) x.2.2.1))).getD b 0 = m0.getD b 0) ∧ (if capv u = 0 then M else M.set a (plusC (M.getD a 0) (timesC (capv u) x.2.2.1))).getD a 0 = capv (min (s + x.2.2.1 * u) 1000000001) ∧ (if capv u = 0 then M else M.set a (plusC (M.getD a 0) (timesC (capv u) x.2.2.1))).length = it.length := by
      intro u hu0
      have hcs := cap_step s u x.2.2.1 hS hu0 hq.1
      by_cases h0 : capv u = 0
      · simp only [if_pos h0] at hcs ⊢
        exact ⟨h1, by rw [h2, hcs], h3⟩
      · simp only [if_neg h0] at hcs ⊢
        refine ⟨fun b hb2 => ?_, ?_, by rw [List.length_set, h3]⟩
        · rw [intD_set _ _ _ _ (by omega), if_neg (Ne.symm hb2), h1 b hb2]
        · rw [intD_set _ _ _ _ (by omega), if_pos rfl, h2, hcs]
    unfold nOf
    by_cases hp : (x.2.1.toList == part.toList) = true
    · simp only [if_pos hp]
      have := key 1 (by omega)
      rw [Int.mul_one] at this
      exact this
    · simp only [if_neg hp]
      by_cases hph : phan it x.2.1 = true
      · simp only [if_pos hph, hMb]
        exact key _ hu.1
      · simp only [if_neg hph]
        exact ⟨h1, h2, h3⟩
theorem inTo_at (pre rest : List Nat) (h : ordOf lev it.length = pre ++ rest) : ∀ b, b < it.length → (inTo it ls on part rest).getD b 0 = if b ∈ rest then capv (unitV it ls on part (it.getD b itNone).1) else 0 := by
  induction rest generalizing pre with
  | nil =>
    intro b hb
    unfold inTo
    rw [List.foldr_nil, List.getD_eq_getElem?_getD, List.getElem?_replicate, if_pos hb]; simp
  | cons a t ih =>
    have h2 : ordOf lev it.length = (pre ++ [a]) ++ t := by rw [h]; simp
    have iht := ih (pre ++ [a]) h2
    have hpw := ordOf_pw lev it.length
    rw [h2, List.pairwise_append] at hpw
    obtain ⟨hp1, _, hp3⟩ := hpw
    have hna : a ∉ t := fun hm => (hp3 a (by simp) a hm).1 rfl
    have ha : a < it.length := by
      have : a ∈ ordOf lev it.length := by rw [h]; simp
      have := (ordOf_mem.1 this).1
      rw [hL.len] at this; exact this
    have hb : ∀ b, b < it.length → lev.getD a 0 < lev.getD b 0 → b ∈ t := by
      intro b hbl hlt
      have hm : b ∈ ordOf lev it.length := ordOf_mem.2 ⟨by rw [hL.len]; exact hbl, hL.lt b hbl⟩
      rw [h, List.mem_append, List.mem_cons] at hm
      rcases hm with hm | hm | hm
      · rw [List.pairwise_append] at hp1
        have := (hp1.2.2 b hm a (by simp)).2
        omega
      · subst hm; omega
      · exact hm
    obtain ⟨k1, k2, _⟩ := inItem_at hL on part a t (inTo it ls on part t) ha (inTo_len _ _ _ _ _) hna hb iht ls.length (Nat.le_refl _)
    rw [List.take_length] at k1 k2
    have hE : inTo it ls on part (a :: t) = ls.foldl (inLine it on part a) (inTo it ls on part t) := rfl
    intro b hbl
    rw [hE]
    by_cases hba : b = a
    · subst hba
      rw [k2, if_pos List.mem_cons_self, unitV_eq hL on part _ ?_]
      rcases findIt_cases it (it.getD b itNone).1 with e | ⟨q, hq, e1, e2⟩
      · exfalso
        unfold findIt at e
        split at e
        · omega
        · next hn =>
          rw [List.findIdx?_eq_none_iff] at hn
          have := hn _ (List.getElem_mem ha)
          rw [List.getD_eq_getElem?_getD, List.getElem?_eq_getElem ha] at this
          simp at this
      · omega
    · rw [k1 b hba, iht b hbl]
      by_cases hm : b ∈ t
      · rw [if_pos hm, if_pos (List.mem_cons_of_mem _ hm)]
      · rw [if_neg hm, if_neg (by simp [hba, hm])]
theorem unit_order (code : ByteArray) (h0 : 0 ≤ findIt it code) : (inTo it ls on part (ordOf lev it.length)).getD (findIt it code).toNat 0 = capv (unitV it ls on part code) := by
  rw [inTo_at hL on part [] (ordOf lev it.length) (by simp) _ (findIt_lt h0)]
  rw [if_pos (ordOf_mem.2 ⟨by rw [hL.len]; exact findIt_lt h0, hL.lt _ (findIt_lt h0)⟩)]
  rcases findIt_cases it code with e | ⟨q, hq, e1, e2⟩
  · omega
  · have e3 : it[q].1.toList = code.toList := by simpa using e2
    rw [e1, Int.toNat_natCast, List.getD_eq_getElem?_getD, List.getElem?_eq_getElem hq]
    show capv (unitV it ls on part it[q].1) = _
    rw [unitV_congr e3]
end
theorem timesC_bd (a b : Int) (hb : 0 ≤ b) : -1 ≤ timesC a b ∧ timesC a b ≤ 1000000000 := by
  unfold timesC
  split
  · omega
  · next h =>
    have ha : 0 ≤ a := by omega
    have h0 := Int.mul_nonneg ha hb
    refine ⟨by omega, ?_⟩
    by_cases hp : 0 < a
    · have h1 : ¬ 1000000000 / a < b := fun e => h (.inr (.inr ⟨hp, e⟩))
      have h2 : ¬ 1000000000 < b * a := fun e => h1 ((Int.ediv_lt_iff_lt_mul hp).2 e)
      rw [Int.mul_comm]; omega
    · obtain rfl : a = 0 := by omega
      simp
theorem plusC_bd (a b : Int) : -1 ≤ plusC a b ∧ plusC a b ≤ 1000000000 := by
  unfold plusC
  split <;> omega
def InB (m : List Int) : Prop := ∀ b, -1 ≤ m.getD b 0 ∧ m.getD b 0 ≤ 1000000000
theorem inLine_bd (it : List It) (on : Bl → Bool) (part : ByteArray) (a : Nat) (m : List Int) (x : Bl) (h : InB m) : InB (inLine it on part a m x) := by
  unfold inLine
  split
  · split
    · exact h
    · intro b
      by_cases ha : a < m.length
      · rw [intD_set _ _ _ _ ha]
        split
        · exact plusC_bd _ _
        · exact h b
      · rw [List.set_eq_of_length_le (by omega)]; exact h b
  · exact h
theorem inFold_bd (it : List It) (on : Bl → Bool) (part : ByteArray) (a : Nat) (l : List Bl) : ∀ m : List Int, InB m → InB (l.foldl (inLine it on part a) m) := by
  induction l with
  | nil => intro m h; exact h
  | cons x t ih => intro m h; exact ih _ (inLine_bd it on part a m x h)
theorem inTo_bd (it : List It) (ls : List Bl) (on : Bl → Bool) (part : ByteArray) (rest : List Nat) : InB (inTo it ls on part rest) := by
  unfold inTo
  induction rest with
  | nil =>
    intro b
    rw [List.foldr_nil, List.getD_eq_getElem?_getD, List.getElem?_replicate]
    split <;> simp
  | cons a t ih => exact inFold_bd it on part a ls _ ih
theorem inFold_len (it : List It) (on : Bl → Bool) (part : ByteArray) (a : Nat) (l : List Bl) (m : List Int) : (l.foldl (inLine it on part a) m).length = m.length := inItem_len it l on part a m
theorem inFold_take (it : List It) (on : Bl → Bool) (part : ByteArray) (a : Nat) (l : List Bl) (m : List Int) (k : Nat) (h : k < l.length) : (l.take (k + 1)).foldl (inLine it on part a) m = inLine it on part a ((l.take k).foldl (inLine it on part a) m) l[k] := by
  rw [List.take_add_one, List.getElem?_eq_getElem h, Option.toList_some, List.foldl_append]; rfl
theorem inLine_no (it : List It) (on : Bl → Bool) (part : ByteArray) (a : Nat) (m : List Int) (x : Bl) (h : ((x.1.toList == (it.getD a itNone).1.toList) && on x) = false) : inLine it on part a m x = m := by unfold inLine; rw [if_neg (by rw [h]; decide)]
theorem inLine_zero (it : List It) (on : Bl → Bool) (part : ByteArray) (a : Nat) (m : List Int) (x : Bl) (h0 : nOf it part m x = 0) : inLine it on part a m x = m := by
  unfold inLine
  simp only [h0, if_true]
  split <;> rfl
theorem inLine_yes (it : List It) (on : Bl → Bool) (part : ByteArray) (a : Nat) (m : List Int) (x : Bl) (h : ((x.1.toList == (it.getD a itNone).1.toList) && on x) = true) (h0 : nOf it part m x ≠ 0) : inLine it on part a m x = m.set a (plusC (m.getD a 0) (timesC (nOf it part m x) x.2.2.1)) := by unfold inLine; rw [if_pos h, if_neg h0]
theorem inTo_cons (it : List It) (ls : List Bl) (on : Bl → Bool) (part : ByteArray) (ord : List Nat) (k : Nat) (h : k < ord.length) : inTo it ls on part (ord.drop k) = (ls.take ls.length).foldl (inLine it on part ord[k]) (inTo it ls on part (ord.drop (k + 1))) := by
  rw [List.take_length, List.drop_eq_getElem_cons h]; rfl
end Go.Proofs.Ytlkolehdikfddaa
