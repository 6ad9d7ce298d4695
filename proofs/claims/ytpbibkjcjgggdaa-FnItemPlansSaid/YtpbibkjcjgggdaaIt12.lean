/- Part 12 of the texts of this claim: The walks of IsBills; The walks of IsPlant; The walk of IsPlant (the reference's). -/
import Derived.Test.YtpbibkjcjgggdaaIt11
import Derived.Test.YtpbibkjcjgggdaaIt7
import Derived.Test.YtpbibkjcjgggdaaIt8
/- The walks of IsBills. -/
namespace Go.Proofs.Ytpbibkjcjgggdaa
open Go.RowKit
def okLine (it : List It) (x : Bl) : Bool :=
  decide (0 ≤ findIt it x.1) && (decide (0 ≤ findIt it x.2.1) && ((!((it.getD (findIt it x.1).toNat itNone).2.2.1 == 0)) && (inB x.2.2.1 1 1000 && (inB x.2.2.2.1 0 999 && (inB x.2.2.2.2.1 x.2.2.2.1 999 && isCond x.2.2.2.2.2)))))
def isBills (it : List It) (ls : List Bl) : Bool := (isCat it && decide ((ls.length : Int) ≤ 24)) && (ls.all (okLine it) && !turned (edges it ls) it.length it.length)
theorem isBills_no {it : List It} {ls : List Bl} (h : (isCat it && decide ((ls.length : Int) ≤ 24)) = false) : isBills it ls = false := by unfold isBills; rw [h]; rfl
theorem isBills_bad {it : List It} {ls : List Bl} {k : Nat} (hk : k < ls.length) (h : okLine it ls[k] = false) : isBills it ls = false := by
  unfold isBills; rw [all_false ls _ k hk h]; simp
theorem isBills_end {it : List It} {ls : List Bl} (h1 : isCat it = true) (h2 : (ls.length : Int) ≤ 24) (h3 : (ls.take ls.length).all (okLine it) = true) : isBills it ls = !turned (edges it ls) it.length it.length := by
  rw [List.take_length] at h3
  unfold isBills; rw [h1, decide_eq_true h2, h3]; rfl
theorem isBills_parts {it : List It} {ls : List Bl} (h : isBills it ls = true) : isCat it = true ∧ ls.length ≤ 24 ∧ (∀ k (hk : k < ls.length), okLine it ls[k] = true) ∧ turned (edges it ls) it.length it.length = false := by
  simp only [isBills, Bool.and_eq_true, decide_eq_true_eq, Bool.not_eq_true', List.all_eq_true] at h
  exact ⟨h.1.1, by omega, fun k hk => h.2.1 _ (List.getElem_mem hk), h.2.2⟩
theorem okLine_parts {it : List It} {x : Bl} (h : okLine it x = true) : 0 ≤ findIt it x.1 ∧ 0 ≤ findIt it x.2.1 ∧ (1 ≤ x.2.2.1 ∧ x.2.2.1 ≤ 1000) ∧ (0 ≤ x.2.2.2.1 ∧ x.2.2.2.1 ≤ 999) ∧ (x.2.2.2.1 ≤ x.2.2.2.2.1 ∧ x.2.2.2.2.1 ≤ 999) ∧ isCond x.2.2.2.2.2 = true := by
  simp only [okLine, Bool.and_eq_true, inB_iff, decide_eq_true_eq] at h
  obtain ⟨h1, h2, _, h3, h4, h5, h6⟩ := h
  exact ⟨h1, h2, h3, h4, h5, h6⟩
theorem okLine_f {it : List It} {ls : List Bl} (h : (ls.take ls.length).all (okLine it) = true) : ∀ k (hk : k < ls.length), 0 ≤ findIt it ls[k].1 ∧ 0 ≤ findIt it ls[k].2.1 := by
  rw [List.take_length, List.all_eq_true] at h
  intro k hk
  have := okLine_parts (h _ (List.getElem_mem hk))
  exact ⟨this.1, this.2.1⟩
theorem okLine_eq {it : List It} {x : Bl} {p q : Nat} {b1 b2 b3 b4 b5 : Bool} (hp : findIt it x.1 = (p : Int)) (hq : findIt it x.2.1 = (q : Int)) (hp1 : p < it.length) (h1 : (it[p].2.2.1 == 0) = b1) (h2 : inB x.2.2.1 1 1000 = b2) (h3 : inB x.2.2.2.1 0 999 = b3) (h4 : inB x.2.2.2.2.1 x.2.2.2.1 999 = b4) (h5 : isCond x.2.2.2.2.2 = b5) :
    okLine it x = (!b1 && (b2 && (b3 && (b4 && b5)))) := by
  unfold okLine
  rw [hp, hq, h2, h3, h4, h5, decide_eq_true (by omega), decide_eq_true (by omega), Int.toNat_natCast, it_getD _ _ hp1, h1]
  rfl
set_option maxRecDepth 100000 in
set_option maxHeartbeats 4000000 in
theorem specIsBills_any (A B : Option Addr) (n c m d : Nat) (it : List It) (ls : List Bl) (w : World) (hi : ItemsIn w A n it) (hl : BillLinesIn w B m ls) (hoki : ∀ x ∈ it, okIt x) (hokl : ∀ x ∈ ls, okBl x) :
    Calls Try.prog 58 #[.slice A n c, .slice B m d] w fun e w' => e = .returned (.bool (isBills it ls)) ∧ Below w.heap.size w w' := by
  have hn := hi.len
  have hm := hl.len
  obtain rfl := hi.1
  obtain rfl := hl.num
  have HO := Lib.hid hoki
  have HOL := Lib.hid hokl
  clear hoki hokl
  cases g1 : isCat it
  · have HF : Hid (isBills it ls = false) := isBills_no (by rw [g1]; rfl)
    go_enter Try.func58, Try.ntmps58
    go_wp2_with fail
    refine (specIsCatalog_any _ _ _ it _ hi HO.out).mono ?_
    rintro e w1 ⟨rfl, hb⟩
    rw [g1]
    go_wp2_with fail
    go_ret
    exact ⟨ret_bool HF.out.symm, hb⟩
  by_cases h24 : (ls.length : Int) ≤ 24
  case neg =>
    have HF : Hid (isBills it ls = false) := isBills_no (by rw [decide_eq_false h24]; simp)
    go_enter Try.func58, Try.ntmps58
    go_wp2_with fail
    refine (specIsCatalog_any _ _ _ it _ hi HO.out).mono ?_
    rintro e w1 ⟨rfl, hb⟩
    rw [g1]
    go_wp2_with fail
    go_ret
    exact ⟨ret_bool HF.out.symm, hb⟩
  go_enter Try.func58, Try.ntmps58
  go_wp2_with fail
  refine (specIsCatalog_any _ _ _ it _ hi HO.out).mono ?_
  rintro e w1 ⟨rfl, hb⟩
  rw [g1]
  go_wp2_with fail
  go_loopw [5] (fun i wr => ∃ k : Nat, k ≤ ls.length ∧ i = .int .i64 k ∧ Hid ((ls.take k).all (okLine it) = true) ∧ Below w.heap.size w wr) (fun i _ => ls.length - (intOf i).toNat)
  case atStart => exact ⟨0, by omega, rfl, rfl, hb⟩
  case round =>
    clear hb
    obtain ⟨k, hk, rfl, HI, hb⟩ := hrel
    by_cases hlt : k < ls.length
    · obtain ⟨b, o, B2, m2, c2, rfl, hbl, hc0, hc1, hc2, hc3, hc4, hc5, hcd⟩ := bl_at (hl.keep hb) hlt
      have hokn := HOL.out _ (List.getElem_mem hlt)
      have HKN : Hid (∀ y ∈ ls[k].2.2.2.2.2, okCn y) := by unfold okBl at hokn; exact hokn.2.2
      clear hokn
      obtain ⟨f3, f3b⟩ := findIt_bd it ls[k].1
      obtain ⟨f4, f4b⟩ := findIt_bd it ls[k].2.1
      have hs := below_alloc wr (.cells #[.string ls[k].1, .string ls[k].2.1, .int .i64 ls[k].2.2.1, .int .i64 ls[k].2.2.2.1, .int .i64 ls[k].2.2.2.2.1, .slice B2 m2 c2] 103)
      have hB := below_on hb hs
      have hcd2 := hcd.keep hs
      have d0 : (wr.alloc (.cells #[.string ls[k].1, .string ls[k].2.1, .int .i64 ls[k].2.2.1, .int .i64 ls[k].2.2.2.1, .int .i64 ls[k].2.2.2.2.1, .slice B2 m2 c2] 103)).cell? ⟨wr.heap.size, 0, none⟩ = some (.string ls[k].1) := by simp [go_sem]
      have d1 : (wr.alloc (.cells #[.string ls[k].1, .string ls[k].2.1, .int .i64 ls[k].2.2.1, .int .i64 ls[k].2.2.2.1, .int .i64 ls[k].2.2.2.2.1, .slice B2 m2 c2] 103)).cell? ⟨wr.heap.size, 1, none⟩ = some (.string ls[k].2.1) := by simp [go_sem]
      have d2 : (wr.alloc (.cells #[.string ls[k].1, .string ls[k].2.1, .int .i64 ls[k].2.2.1, .int .i64 ls[k].2.2.2.1, .int .i64 ls[k].2.2.2.2.1, .slice B2 m2 c2] 103)).cell? ⟨wr.heap.size, 2, none⟩ = some (.int .i64 ls[k].2.2.1) := by simp [go_sem]
      have d3 : (wr.alloc (.cells #[.string ls[k].1, .string ls[k].2.1, .int .i64 ls[k].2.2.1, .int .i64 ls[k].2.2.2.1, .int .i64 ls[k].2.2.2.2.1, .slice B2 m2 c2] 103)).cell? ⟨wr.heap.size, 3, none⟩ = some (.int .i64 ls[k].2.2.2.1) := by simp [go_sem]
      have d4 : (wr.alloc (.cells #[.string ls[k].1, .string ls[k].2.1, .int .i64 ls[k].2.2.1, .int .i64 ls[k].2.2.2.1, .int .i64 ls[k].2.2.2.2.1, .slice B2 m2 c2] 103)).cell? ⟨wr.heap.size, 4, none⟩ = some (.int .i64 ls[k].2.2.2.2.1) := by simp [go_sem]
      have d5 : (wr.alloc (.cells #[.string ls[k].1, .string ls[k].2.1, .int .i64 ls[k].2.2.1, .int .i64 ls[k].2.2.2.1, .int .i64 ls[k].2.2.2.2.1, .slice B2 m2 c2] 103)).cell? ⟨wr.heap.size, 5, none⟩ = some (.slice B2 m2 c2) := by simp [go_sem]
      have dl : wr.heap.size < (wr.alloc (.cells #[.string ls[k].1, .string ls[k].2.1, .int .i64 ls[k].2.2.1, .int .i64 ls[k].2.2.2.1, .int .i64 ls[k].2.2.2.2.1, .slice B2 m2 c2] 103)).heap.size := by simp
      go_wp2_with fail
      generalize wr.alloc (.cells #[.string ls[k].1, .string ls[k].2.1, .int .i64 ls[k].2.2.1, .int .i64 ls[k].2.2.2.1, .int .i64 ls[k].2.2.2.2.1, .slice B2 m2 c2] 103) = wq at *
      generalize wr.heap.size = N at *
      clear hc0 hc1 hc2 hc3 hc4 hc5 hs hb hbl hcd
      refine (specFindItem_any _ _ _ it _ _ (hi.keep hB)).mono ?_
      rintro e v ⟨rfl, rfl⟩
      go_wp2_with fail
      refine (specFindItem_any _ _ _ it _ _ (hi.keep hB)).mono ?_
      rintro e v ⟨rfl, rfl⟩
      by_cases f1 : 0 ≤ findIt it ls[k].1
      case neg =>
        have HF : Hid (isBills it ls = false) := isBills_bad hlt (by unfold okLine; rw [decide_eq_false f1]; rfl)
        have f5 : findIt it ls[k].1 < 0 := by omega
        clear f3 f4 f3b f4b f1
        go_wp2_with (go_at_call 35; refine (l1In_any _ _ _ _).mono ?_; rintro e w' ⟨rfl, rfl⟩)
        go_ret
        exact ⟨ret_bool HF.out.symm, hB⟩
      by_cases f2 : 0 ≤ findIt it ls[k].2.1
      case neg =>
        have HF : Hid (isBills it ls = false) := isBills_bad hlt (by unfold okLine; rw [decide_eq_true f1, decide_eq_false f2]; rfl)
        have f5 : findIt it ls[k].2.1 < 0 := by omega
        clear f3 f4 f3b f4b f2
        go_wp2_with (go_at_call 35; refine (l1In_any _ _ _ _).mono ?_; rintro e w' ⟨rfl, rfl⟩)
        go_ret
        exact ⟨ret_bool HF.out.symm, hB⟩
      obtain ⟨pn, hpn⟩ : ∃ pn : Nat, findIt it ls[k].1 = (pn : Int) := ⟨(findIt it ls[k].1).toNat, by omega⟩
      obtain ⟨qn, hqn⟩ : ∃ qn : Nat, findIt it ls[k].2.1 = (qn : Int) := ⟨(findIt it ls[k].2.1).toNat, by omega⟩
      have p1 : pn < it.length := by omega
      have p2 : (pn : Int) < (it.length : Int) := by omega
      obtain ⟨bi, oi, rfl, _, _, _, hk2, _⟩ := item_at (hi.keep hB) p1
      rw [hpn, hqn]
      have HPN := Lib.hid hpn
      have HQN := Lib.hid hqn
      clear f1 f2 f3 f4 f3b f4b hpn hqn
      cases q0 : (it[pn].2.2.1 == 0)
      case true =>
        have HF : Hid (isBills it ls = false) := isBills_bad hlt ((okLine_eq HPN.out HQN.out p1 q0 rfl rfl rfl rfl).trans (by simp))
        go_wp2_with (go_at_call 35; refine (l1In_any _ _ _ _).mono ?_; rintro e w' ⟨rfl, rfl⟩)
        go_ret
        exact ⟨ret_bool HF.out.symm, hB⟩
      cases q1 : inB ls[k].2.2.1 1 1000
      · have HF : Hid (isBills it ls = false) := isBills_bad hlt ((okLine_eq HPN.out HQN.out p1 q0 q1 rfl rfl rfl).trans (by simp))
        go_wp2_with (go_at_call 35; refine (l1In_any _ _ _ _).mono ?_; rintro e w' ⟨rfl, rfl⟩)
        go_ret
        exact ⟨ret_bool HF.out.symm, hB⟩
      cases q2 : inB ls[k].2.2.2.1 0 999
      · have HF : Hid (isBills it ls = false) := isBills_bad hlt ((okLine_eq HPN.out HQN.out p1 q0 q1 q2 rfl rfl).trans (by simp))
        go_wp2_with (go_at_call 35; refine (l1In_any _ _ _ _).mono ?_; rintro e w' ⟨rfl, rfl⟩)
        go_ret
        exact ⟨ret_bool HF.out.symm, hB⟩
      cases q3 : inB ls[k].2.2.2.2.1 ls[k].2.2.2.1 999
      · have HF : Hid (isBills it ls = false) := isBills_bad hlt ((okLine_eq HPN.out HQN.out p1 q0 q1 q2 q3 rfl).trans (by simp))
        go_wp2_with (go_at_call 35; refine (l1In_any _ _ _ _).mono ?_; rintro e w' ⟨rfl, rfl⟩)
        go_ret
        exact ⟨ret_bool HF.out.symm, hB⟩
      cases q4 : isCond ls[k].2.2.2.2.2
      · have HF : Hid (isBills it ls = false) := isBills_bad hlt ((okLine_eq HPN.out HQN.out p1 q0 q1 q2 q3 q4).trans (by simp))
        go_wp2_with (go_at_call 35; refine (l1In_any _ _ _ _).mono ?_; rintro e w' ⟨rfl, rfl⟩)
        refine (specIsCond_any _ _ _ ls[k].2.2.2.2.2 _ hcd2 HKN.out).mono ?_
        rintro e w6 ⟨rfl, hb6⟩
        rw [q4]
        go_wp2_with fail
        go_ret
        exact ⟨ret_bool HF.out.symm, below_on hB hb6⟩
      have HF : Hid ((ls.take (k + 1)).all (okLine it) = true) := by
        show _ = _
        rw [all_take ls _ k hlt, HI.out, okLine_eq HPN.out HQN.out p1 q0 q1 q2 q3 q4]; rfl
      go_wp2_with (go_at_call 35; refine (l1In_any _ _ _ _).mono ?_; rintro e w' ⟨rfl, rfl⟩)
      refine (specIsCond_any _ _ _ ls[k].2.2.2.2.2 _ hcd2 HKN.out).mono ?_
      rintro e w6 ⟨rfl, hb6⟩
      rw [q4]
      go_wp2_with fail
      go_roundw
      case rel => exact ⟨k + 1, by omega, by go_num, HF.out, below_on hB hb6⟩
      case measure => simp [intOf]; omega
    · obtain rfl : k = ls.length := by omega
      have HE := Lib.hid (isBills_end g1 h24 HI.out)
      have HLN := Lib.hid (levI_len (E := edges it ls) (n := it.length))
      have HLT := Lib.hid (edges_lt (okLine_f HI.out))
      go_wp2_with fail
      refine (l9Levels_any _ _ _ _ _ _ it ls _ (hi.keep hb) (hl.keep hb) (isCat_len g1) (by omega) (okLine_f HI.out)).mono ?_
      rintro e w6 ⟨A', k6, c', rfl, hown, hb6⟩
      have h6 := hown.1
      rw [HLN.out] at h6
      cases ht : turned (edges it ls) it.length it.length
      · rw [ht] at h6
        obtain rfl : k6 = it.length := h6
        have HT : Hid (isBills it ls = true) := by show _ = _; rw [HE.out, ht]; rfl
        clear hown
        go_wp2_with fail
        go_ret
        exact ⟨ret_bool HT.out.symm, below_on hb hb6⟩
      · rw [ht] at h6
        obtain rfl : k6 = 0 := h6
        have hpos := turned_pos HLT.out ht
        have HT : Hid (isBills it ls = false) := by show _ = _; rw [HE.out, ht]; rfl
        have hq : ((0 : Int) == (it.length : Int)) = false := by rw [beq_eq_false_iff_ne]; omega
        clear hown hpos
        go_wp2_with fail
        go_ret
        exact ⟨ret_bool HT.out.symm, below_on hb hb6⟩
set_option maxRecDepth 100000 in
set_option maxHeartbeats 4000000 in
theorem implIsBills_any (A B : Option Addr) (n c m d : Nat) (it : List It) (ls : List Bl) (w : World) (hi : ItemsIn w A n it) (hl : BillLinesIn w B m ls) (hoki : ∀ x ∈ it, okIt x) (hokl : ∀ x ∈ ls, okBl x) :
    Calls Try.prog 49 #[.slice A n c, .slice B m d] w fun e w' => e = .returned (.bool (isBills it ls)) ∧ Below w.heap.size w w' := by
  have hn := hi.len
  have hm := hl.len
  obtain rfl := hi.1
  obtain rfl := hl.num
  have HO := Lib.hid hoki
  have HOL := Lib.hid hokl
  clear hoki hokl
  cases g1 : isCat it
  · have HF : Hid (isBills it ls = false) := isBills_no (by rw [g1]; rfl)
    go_enter Try.func49, Try.ntmps49
    go_wp2_with fail
    refine (implIsCatalog_any _ _ _ it _ hi HO.out).mono ?_
    rintro e w1 ⟨rfl, hb⟩
    rw [g1]
    go_wp2_with fail
    go_ret
    exact ⟨ret_bool HF.out.symm, hb⟩
  by_cases h24 : (ls.length : Int) ≤ 24
  case neg =>
    have HF : Hid (isBills it ls = false) := isBills_no (by rw [decide_eq_false h24]; simp)
    go_enter Try.func49, Try.ntmps49
    go_wp2_with fail
    refine (implIsCatalog_any _ _ _ it _ hi HO.out).mono ?_
    rintro e w1 ⟨rfl, hb⟩
    rw [g1]
    go_wp2_with fail
    go_ret
    exact ⟨ret_bool HF.out.symm, hb⟩
  go_enter Try.func49, Try.ntmps49
  go_wp2_with fail
  refine (implIsCatalog_any _ _ _ it _ hi HO.out).mono ?_
  rintro e w1 ⟨rfl, hb⟩
  rw [g1]
  go_wp2_with fail
  go_loopw [21] (fun i wr => ∃ k : Nat, k ≤ ls.length ∧ i = .int .i64 k ∧ Hid ((ls.take k).all (okLine it) = true) ∧ Below w.heap.size w wr) (fun i _ => ls.length - (intOf i).toNat)
  case atStart => exact ⟨0, by omega, rfl, rfl, hb⟩
  case round =>
    clear hb
    obtain ⟨k, hk, rfl, HI, hb⟩ := hrel
    by_cases hlt : k < ls.length
    · obtain ⟨b, o, B2, m2, c2, rfl, hbl, hc0, hc1, hc2, hc3, hc4, hc5, hcd⟩ := bl_at (hl.keep hb) hlt
      have hokn := HOL.out _ (List.getElem_mem hlt)
      have HKN : Hid (∀ y ∈ ls[k].2.2.2.2.2, okCn y) := by unfold okBl at hokn; exact hokn.2.2
      clear hokn
      obtain ⟨f3, f3b⟩ := findIt_bd it ls[k].1
      obtain ⟨f4, f4b⟩ := findIt_bd it ls[k].2.1
      have hs := below_alloc wr (.cells #[.string ls[k].1, .string ls[k].2.1, .int .i64 ls[k].2.2.1, .int .i64 ls[k].2.2.2.1, .int .i64 ls[k].2.2.2.2.1, .slice B2 m2 c2] 103)
      have hB := below_on hb hs
      have hcd2 := hcd.keep hs
      have d0 : (wr.alloc (.cells #[.string ls[k].1, .string ls[k].2.1, .int .i64 ls[k].2.2.1, .int .i64 ls[k].2.2.2.1, .int .i64 ls[k].2.2.2.2.1, .slice B2 m2 c2] 103)).cell? ⟨wr.heap.size, 0, none⟩ = some (.string ls[k].1) := by simp [go_sem]
      have d1 : (wr.alloc (.cells #[.string ls[k].1, .string ls[k].2.1, .int .i64 ls[k].2.2.1, .int .i64 ls[k].2.2.2.1, .int .i64 ls[k].2.2.2.2.1, .slice B2 m2 c2] 103)).cell? ⟨wr.heap.size, 1, none⟩ = some (.string ls[k].2.1) := by simp [go_sem]
      have d2 : (wr.alloc (.cells #[.string ls[k].1, .string ls[k].2.1, .int .i64 ls[k].2.2.1, .int .i64 ls[k].2.2.2.1, .int .i64 ls[k].2.2.2.2.1, .slice B2 m2 c2] 103)).cell? ⟨wr.heap.size, 2, none⟩ = some (.int .i64 ls[k].2.2.1) := by simp [go_sem]
      have d3 : (wr.alloc (.cells #[.string ls[k].1, .string ls[k].2.1, .int .i64 ls[k].2.2.1, .int .i64 ls[k].2.2.2.1, .int .i64 ls[k].2.2.2.2.1, .slice B2 m2 c2] 103)).cell? ⟨wr.heap.size, 3, none⟩ = some (.int .i64 ls[k].2.2.2.1) := by simp [go_sem]
      have d4 : (wr.alloc (.cells #[.string ls[k].1, .string ls[k].2.1, .int .i64 ls[k].2.2.1, .int .i64 ls[k].2.2.2.1, .int .i64 ls[k].2.2.2.2.1, .slice B2 m2 c2] 103)).cell? ⟨wr.heap.size, 4, none⟩ = some (.int .i64 ls[k].2.2.2.2.1) := by simp [go_sem]
      have d5 : (wr.alloc (.cells #[.string ls[k].1, .string ls[k].2.1, .int .i64 ls[k].2.2.1, .int .i64 ls[k].2.2.2.1, .int .i64 ls[k].2.2.2.2.1, .slice B2 m2 c2] 103)).cell? ⟨wr.heap.size, 5, none⟩ = some (.slice B2 m2 c2) := by simp [go_sem]
      have dl : wr.heap.size < (wr.alloc (.cells #[.string ls[k].1, .string ls[k].2.1, .int .i64 ls[k].2.2.1, .int .i64 ls[k].2.2.2.1, .int .i64 ls[k].2.2.2.2.1, .slice B2 m2 c2] 103)).heap.size := by simp
      go_wp2_with fail
      generalize wr.alloc (.cells #[.string ls[k].1, .string ls[k].2.1, .int .i64 ls[k].2.2.1, .int .i64 ls[k].2.2.2.1, .int .i64 ls[k].2.2.2.2.1, .slice B2 m2 c2] 103) = wq at *
      generalize wr.heap.size = N at *
      clear hc0 hc1 hc2 hc3 hc4 hc5 hs hb hbl hcd
      go_region_held3 (fun w' => w'.cell? ⟨N, 0, none⟩ = some (.string ls[k].1) ∧ w'.cell? ⟨N, 1, none⟩ = some (.string ls[k].2.1) ∧ w'.cell? ⟨N, 2, none⟩ = some (.int .i64 ls[k].2.2.1) ∧ w'.cell? ⟨N, 3, none⟩ = some (.int .i64 ls[k].2.2.2.1) ∧ w'.cell? ⟨N, 4, none⟩ = some (.int .i64 ls[k].2.2.2.2.1) ∧ w'.cell? ⟨N, 5, none⟩ = some (.slice B2 m2 c2) ∧ N < w'.heap.size ∧ CondsIn w' B2 m2 ls[k].2.2.2.2.2 ∧ Below w.heap.size w w')
        (first
          | exact ⟨d0, d1, d2, d3, d4, d5, dl, hcd2.keep (Below.refl _ _).drew, hB.drew⟩
          | (go_split_ands; refine ⟨?_, ?_, ?_, ?_, ?_, ?_, ?_, ?_, ?_⟩ <;> with_reducible assumption)
          | (go_split_ands; exact ⟨(hb3.cell (by with_reducible assumption)).trans (by with_reducible assumption), (hb3.cell (by with_reducible assumption)).trans (by with_reducible assumption), (hb3.cell (by with_reducible assumption)).trans (by with_reducible assumption), (hb3.cell (by with_reducible assumption)).trans (by with_reducible assumption), (hb3.cell (by with_reducible assumption)).trans (by with_reducible assumption), (hb3.cell (by with_reducible assumption)).trans (by with_reducible assumption), Nat.lt_of_lt_of_le (by with_reducible assumption) hb3.size, RowsIn.keep (by with_reducible assumption) hb3, below_on (by with_reducible assumption) hb3⟩))
        (first
          | ((with_reducible refine (implFindItem_any A it.length c it ls[k].1 _ (hi.keep ?_)).mono ?_); (go_split_ands; with_reducible assumption); rintro e w3 ⟨rfl, hb3⟩)
          | ((with_reducible refine (implFindItem_any A it.length c it ls[k].2.1 _ (hi.keep ?_)).mono ?_); (go_split_ands; with_reducible assumption); rintro e w3 ⟨rfl, hb3⟩))
      all_goals
        go_split_ands
        have hB3 : Below w.heap.size w w3 := by with_reducible assumption
        have hcd3 : CondsIn w3 B2 m2 ls[k].2.2.2.2.2 := by with_reducible assumption
        clear hB hcd2 d0 d1 d2 d3 d4 d5 dl
        by_cases f1 : 0 ≤ findIt it ls[k].1
        case neg =>
          have HF : Hid (isBills it ls = false) := isBills_bad hlt (by unfold okLine; rw [decide_eq_false f1]; rfl)
          have f5 : findIt it ls[k].1 < 0 := by omega
          clear f3 f4 f3b f4b f1
          go_wp2_with (go_at_call 51; refine (in_any _ _ _ _).mono ?_; rintro e w' ⟨rfl, rfl⟩)
          go_ret
          exact ⟨ret_bool HF.out.symm, hB3⟩
        by_cases f2 : 0 ≤ findIt it ls[k].2.1
        case neg =>
          have HF : Hid (isBills it ls = false) := isBills_bad hlt (by unfold okLine; rw [decide_eq_true f1, decide_eq_false f2]; rfl)
          have f5 : findIt it ls[k].2.1 < 0 := by omega
          clear f3 f4 f3b f4b f2
          go_wp2_with (go_at_call 51; refine (in_any _ _ _ _).mono ?_; rintro e w' ⟨rfl, rfl⟩)
          go_ret
          exact ⟨ret_bool HF.out.symm, hB3⟩
        obtain ⟨pn, hpn⟩ : ∃ pn : Nat, findIt it ls[k].1 = (pn : Int) := ⟨(findIt it ls[k].1).toNat, by omega⟩
        obtain ⟨qn, hqn⟩ : ∃ qn : Nat, findIt it ls[k].2.1 = (qn : Int) := ⟨(findIt it ls[k].2.1).toNat, by omega⟩
        have p1 : pn < it.length := by omega
        have p2 : (pn : Int) < (it.length : Int) := by omega
        obtain ⟨bi, oi, rfl, _, _, _, hk2, _⟩ := item_at (hi.keep hB3) p1
        rw [hpn, hqn]
        have HPN := Lib.hid hpn
        have HQN := Lib.hid hqn
        clear f1 f2 f3 f4 f3b f4b hpn hqn
        cases q0 : (it[pn].2.2.1 == 0)
        case true =>
          have HF : Hid (isBills it ls = false) := isBills_bad hlt ((okLine_eq HPN.out HQN.out p1 q0 rfl rfl rfl rfl).trans (by simp))
          go_wp2_with (go_at_call 51; refine (in_any _ _ _ _).mono ?_; rintro e w' ⟨rfl, rfl⟩)
          go_ret
          exact ⟨ret_bool HF.out.symm, hB3⟩
        cases q1 : inB ls[k].2.2.1 1 1000
        · have HF : Hid (isBills it ls = false) := isBills_bad hlt ((okLine_eq HPN.out HQN.out p1 q0 q1 rfl rfl rfl).trans (by simp))
          go_wp2_with (go_at_call 51; refine (in_any _ _ _ _).mono ?_; rintro e w' ⟨rfl, rfl⟩)
          go_ret
          exact ⟨ret_bool HF.out.symm, hB3⟩
        cases q2 : inB ls[k].2.2.2.1 0 999
        · have HF : Hid (isBills it ls = false) := isBills_bad hlt ((okLine_eq HPN.out HQN.out p1 q0 q1 q2 rfl rfl).trans (by simp))
          go_wp2_with (go_at_call 51; refine (in_any _ _ _ _).mono ?_; rintro e w' ⟨rfl, rfl⟩)
          go_ret
          exact ⟨ret_bool HF.out.symm, hB3⟩
        cases q3 : inB ls[k].2.2.2.2.1 ls[k].2.2.2.1 999
        · have HF : Hid (isBills it ls = false) := isBills_bad hlt ((okLine_eq HPN.out HQN.out p1 q0 q1 q2 q3 rfl).trans (by simp))
          go_wp2_with (go_at_call 51; refine (in_any _ _ _ _).mono ?_; rintro e w' ⟨rfl, rfl⟩)
          go_ret
          exact ⟨ret_bool HF.out.symm, hB3⟩
        cases q4 : isCond ls[k].2.2.2.2.2
        · have HF : Hid (isBills it ls = false) := isBills_bad hlt ((okLine_eq HPN.out HQN.out p1 q0 q1 q2 q3 q4).trans (by simp))
          go_wp2_with (go_at_call 51; refine (in_any _ _ _ _).mono ?_; rintro e w' ⟨rfl, rfl⟩)
          refine (implIsCond_any _ _ _ ls[k].2.2.2.2.2 _ hcd3 HKN.out).mono ?_
          rintro e w6 ⟨rfl, hb6⟩
          rw [q4]
          go_wp2_with fail
          go_ret
          exact ⟨ret_bool HF.out.symm, below_on hB3 hb6⟩
        have HF : Hid ((ls.take (k + 1)).all (okLine it) = true) := by
          show _ = _
          rw [all_take ls _ k hlt, HI.out, okLine_eq HPN.out HQN.out p1 q0 q1 q2 q3 q4]; rfl
        go_wp2_with (go_at_call 51; refine (in_any _ _ _ _).mono ?_; rintro e w' ⟨rfl, rfl⟩)
        refine (implIsCond_any _ _ _ ls[k].2.2.2.2.2 _ hcd3 HKN.out).mono ?_
        rintro e w6 ⟨rfl, hb6⟩
        rw [q4]
        go_wp2_with fail
        go_roundw
        case rel => exact ⟨k + 1, by omega, by go_num, HF.out, below_on hB3 hb6⟩
        case measure => simp [intOf]; omega
    · obtain rfl : k = ls.length := by omega
      have HE := Lib.hid (isBills_end g1 h24 HI.out)
      have HLN := Lib.hid (levI_len (E := edges it ls) (n := it.length))
      have HLT := Lib.hid (edges_lt (okLine_f HI.out))
      go_wp2_with fail
      refine (levels_any _ _ _ _ _ _ it ls _ (hi.keep hb) (hl.keep hb) (isCat_len g1) (by omega) (okLine_f HI.out)).mono ?_
      rintro e w6 ⟨A', k6, c', rfl, _, hb6⟩
      go_wp2_with fail
      go_ret
      exact ⟨ret_bool HE.out.symm, below_on hb hb6⟩
end Go.Proofs.Ytpbibkjcjgggdaa
/- The walks of IsPlant. -/
namespace Go.Proofs.Ytpbibkjcjgggdaa
open Go.RowKit
def ndNone : Nd := (ByteArray.empty, 0)
def okStk (it : List It) (st : List Nd) (k : Nat) : Bool :=
  decide (0 ≤ findIt it (st.getD k ndNone).1) && (inB (st.getD k ndNone).2 0 100000 && (decide (k = 0) || itLt (st.getD (k - 1) ndNone).1 (st.getD k ndNone).1))
def okRcp (it : List It) (x : Rc) : Bool := decide (0 ≤ findIt it x.1) && (inB x.2.2 1 100000 && inB x.2.1 0 999)
def isPlant (p : Pt) : Bool :=
  (isBills p.it p.ls && (isCal p.wk p.ex && (decide ((p.st.length : Int) ≤ 12) && decide ((p.rc.length : Int) ≤ 16)))) && ((List.range p.st.length).all (okStk p.it p.st) && p.rc.all (okRcp p.it))
theorem nd_getD (l : List Nd) (k : Nat) (h : k < l.length) : l.getD k ndNone = l[k] := by
  rw [List.getD_eq_getElem?_getD, List.getElem?_eq_getElem h]; rfl
theorem isPlant_no {p : Pt} (h : (isBills p.it p.ls && (isCal p.wk p.ex && (decide ((p.st.length : Int) ≤ 12) && decide ((p.rc.length : Int) ≤ 16)))) = false) : isPlant p = false := by unfold isPlant; rw [h]; rfl
theorem isPlant_stk {p : Pt} {k : Nat} (hk : k < p.st.length) (h : okStk p.it p.st k = false) : isPlant p = false := by
  unfold isPlant
  have : (List.range p.st.length).all (okStk p.it p.st) = false := by rw [List.all_eq_false]; exact ⟨k, by simpa using hk, by simp [h]⟩
  rw [this]; simp
theorem isPlant_rcp {p : Pt} {k : Nat} (hk : k < p.rc.length) (h : okRcp p.it p.rc[k] = false) : isPlant p = false := by
  unfold isPlant; rw [all_false p.rc _ k hk h]; simp
theorem isPlant_yes {p : Pt} (h1 : isBills p.it p.ls = true) (h2 : isCal p.wk p.ex = true) (h3 : (p.st.length : Int) ≤ 12) (h4 : (p.rc.length : Int) ≤ 16) (h5 : ∀ j < p.st.length, okStk p.it p.st j = true) (h6 : (p.rc.take p.rc.length).all (okRcp p.it) = true) : isPlant p = true := by
  rw [List.take_length] at h6
  unfold isPlant
  have : (List.range p.st.length).all (okStk p.it p.st) = true := by rw [List.all_eq_true]; intro x hx; exact h5 x (by simpa using hx)
  rw [h1, h2, decide_eq_true h3, decide_eq_true h4, this, h6]; rfl
theorem okStk_of {it : List It} {st : List Nd} {k : Nat} (hk : k < st.length) : okStk it st k = (decide (0 ≤ findIt it st[k].1) && (inB st[k].2 0 100000 && (decide (k = 0) || itLt (st.getD (k - 1) ndNone).1 st[k].1))) := by
  unfold okStk; rw [nd_getD _ _ hk]
theorem okStk_find {it : List It} {st : List Nd} {k : Nat} (hk : k < st.length) (h : ¬ 0 ≤ findIt it st[k].1) : okStk it st k = false := by rw [okStk_of hk, decide_eq_false h]; rfl
theorem okStk_in {it : List It} {st : List Nd} {k : Nat} (hk : k < st.length) (h : inB st[k].2 0 100000 = false) : okStk it st k = false := by rw [okStk_of hk, h]; simp
theorem okStk_first {it : List It} {st : List Nd} {k : Nat} (hk : k < st.length) (h1 : 0 ≤ findIt it st[k].1) (h2 : inB st[k].2 0 100000 = true) (h0 : k = 0) : okStk it st k = true := by rw [okStk_of hk, decide_eq_true h1, h2, decide_eq_true h0]; rfl
theorem okStk_next {it : List It} {st : List Nd} {k : Nat} (hk : k < st.length) (h1 : 0 ≤ findIt it st[k].1) (h2 : inB st[k].2 0 100000 = true) (h0 : ¬ k = 0) (hp : k - 1 < st.length) : okStk it st k = itLt st[k - 1].1 st[k].1 := by rw [okStk_of hk, decide_eq_true h1, h2, decide_eq_false h0, nd_getD _ _ hp]; rfl
theorem okStk_more {it : List It} {st : List Nd} {k : Nat} (h : okStk it st k = true) (hI : ∀ j < k, okStk it st j = true) : ∀ j < k + 1, okStk it st j = true := fun j hj => by
  rcases Nat.lt_or_ge j k with h1 | h1
  · exact hI j h1
  · rw [show j = k by omega]; exact h
end Go.Proofs.Ytpbibkjcjgggdaa
/- The walk of IsPlant (the reference's). -/
namespace Go.Proofs.Ytpbibkjcjgggdaa
open Go.RowKit
set_option maxRecDepth 100000 in
set_option maxHeartbeats 8000000 in
theorem specIsPlant_any (r : PtR) (p : Pt) (w : World) (hp : PlantIn w r p) (hok : okPt p) :
    Calls Try.prog 28 #[.agg #[.slice r.i.a r.i.n r.i.c, .slice r.l.a r.l.n r.l.c, .slice r.w.a r.w.n r.w.c, .slice r.e.a r.e.n r.e.c, .slice r.p.a r.p.n r.p.c, .slice r.s.a r.s.n r.s.c, .slice r.q.a r.q.n r.q.c]] w fun e w' => e = .returned (.bool (isPlant p)) ∧ Below w.heap.size w w' := by
  obtain ⟨⟨a0, n0, c0⟩, ⟨a1, n1, c1⟩, ⟨a2, n2, c2⟩, ⟨a3, n3, c3⟩, ⟨a4, n4, c4⟩, ⟨a5, n5, c5⟩, ⟨a6, n6, c6⟩⟩ := r
  obtain ⟨q0, q1, q2, q3, q4, q5, q6⟩ := hp
  dsimp only at q0 q1 q2 q3 q4 q5 q6 ⊢
  have HNS := Lib.hid q5.1
  have HNR := Lib.hid q6.1
  have hls := q5.len
  have hlr := q6.len
  have Q0 := Lib.hid q0
  have Q1 := Lib.hid q1
  have Q2 := Lib.hid q2
  have Q3 := Lib.hid q3
  have Q5 := Lib.hid q5
  have Q6 := Lib.hid q6
  clear q0 q1 q2 q3 q4 q5 q6
  have HO := Lib.hid hok
  clear hok
  obtain rfl := HNS.out
  obtain rfl := HNR.out
  clear HNS HNR
  have hb := below_alloc w (.cells #[.slice a0 n0 c0, .slice a1 n1 c1, .slice a2 n2 c2, .slice a3 n3 c3, .slice a4 n4 c4, .slice a5 p.st.length c5, .slice a6 p.rc.length c6] 34)
  have B0 : BoxOf (w.alloc (.cells #[.slice a0 n0 c0, .slice a1 n1 c1, .slice a2 n2 c2, .slice a3 n3 c3, .slice a4 n4 c4, .slice a5 p.st.length c5, .slice a6 p.rc.length c6] 34)) w.heap.size [.slice a0 n0 c0, .slice a1 n1 c1, .slice a2 n2 c2, .slice a3 n3 c3, .slice a4 n4 c4, .slice a5 p.st.length c5, .slice a6 p.rc.length c6] := boxOf_alloc w #[.slice a0 n0 c0, .slice a1 n1 c1, .slice a2 n2 c2, .slice a3 n3 c3, .slice a4 n4 c4, .slice a5 p.st.length c5, .slice a6 p.rc.length c6] 34
  go_enter Try.func28, Try.ntmps28
  go_wp2_with fail
  generalize (w.alloc (.cells #[.slice a0 n0 c0, .slice a1 n1 c1, .slice a2 n2 c2, .slice a3 n3 c3, .slice a4 n4 c4, .slice a5 p.st.length c5, .slice a6 p.rc.length c6] 34)) = V at *
  refine (specIsBills_any _ _ _ _ _ _ p.it p.ls _ (Q0.out.keep hb) (Q1.out.keep hb) HO.out.it HO.out.ls).mono ?_
  rintro e V1 ⟨rfl, hs⟩
  replace hb := below_on hb hs
  replace B0 := B0.keep hs
  clear hs
  obtain ⟨b0, b1, b2, b3, b4, b5, b6, bl⟩ := B0.seven
  cases g1 : isBills p.it p.ls
  · have HF : Hid (isPlant p = false) := isPlant_no (by rw [g1]; rfl)
    go_wp2_with fail
    go_ret
    exact ⟨ret_bool HF.out.symm, hb⟩
  go_wp2_with fail
  refine (specIsCalendar_any _ _ _ _ _ _ p.wk p.ex _ (Q2.out.keep hb) (Q3.out.keep hb)).mono ?_
  rintro e V2 ⟨rfl, hs⟩
  replace hb := below_on hb hs
  replace B0 := B0.keep hs
  clear hs b0 b1 b2 b3 b4 b5 b6 bl
  obtain ⟨b0, b1, b2, b3, b4, b5, b6, bl⟩ := B0.seven
  cases g2 : isCal p.wk p.ex
  · have HF : Hid (isPlant p = false) := isPlant_no (by rw [g2]; simp)
    go_wp2_with fail
    go_ret
    exact ⟨ret_bool HF.out.symm, hb⟩
  by_cases h12 : (p.st.length : Int) ≤ 12
  case neg =>
    have HF : Hid (isPlant p = false) := isPlant_no (by rw [decide_eq_false h12]; simp)
    go_wp2_with fail
    go_ret
    exact ⟨ret_bool HF.out.symm, hb⟩
  by_cases h16 : (p.rc.length : Int) ≤ 16
  case neg =>
    have HF : Hid (isPlant p = false) := isPlant_no (by rw [decide_eq_false h16]; simp)
    go_wp2_with fail
    go_ret
    exact ⟨ret_bool HF.out.symm, hb⟩
  go_wp2_with fail
  clear b0 b1 b2 b3 b4 b5 b6 bl
  go_loopw [3] (fun i wr => ∃ k : Nat, k ≤ p.st.length ∧ i = .int .i64 k ∧ Hid (∀ j < k, okStk p.it p.st j = true) ∧ BoxOf wr w.heap.size [.slice a0 n0 c0, .slice a1 n1 c1, .slice a2 n2 c2, .slice a3 n3 c3, .slice a4 n4 c4, .slice a5 p.st.length c5, .slice a6 p.rc.length c6] ∧ Below w.heap.size w wr) (fun i _ => p.st.length - (intOf i).toNat)
  case atStart => exact ⟨0, by omega, rfl, fun j h => absurd h (by omega), B0, hb⟩
  case round =>
    clear B0 hb
    obtain ⟨k, hk, rfl, HI, B0, hb⟩ := hrel
    obtain ⟨b0, b1, b2, b3, b4, b5, b6, bl⟩ := B0.seven
    by_cases hlt : k < p.st.length
    · have HIT := Lib.hid (Q0.out.keep hb)
      have hst := Q5.out.keep hb
      obtain ⟨b, o, rfl, hbl, hc0, hc1⟩ := need_at hst hlt
      obtain ⟨f3, f3b⟩ := findIt_bd p.it p.st[k].1
      by_cases f1 : 0 ≤ findIt p.it p.st[k].1
      case neg =>
        have HC := Lib.hid (okStk_find hlt f1)
        have f5 : findIt p.it p.st[k].1 < 0 := by omega
        clear f3 f3b f1
        go_wp2_with fail
        go_quiet ((first | (go_at_call 8; refine (specFindItem_any _ _ _ p.it _ _ (HIT.out.keep (below_drewN (Below.refl _ _) _))).mono ?_; rintro e w' ⟨rfl, rfl⟩; exact ⟨rfl, _, rfl⟩) | (go_at_call 35; exact quietS (l1In_any _ _ _))))
        go_wp2
        go_ret
        exact ⟨ret_bool (isPlant_stk hlt HC.out).symm, below_drewN hb _⟩
      have f5 : ¬ findIt p.it p.st[k].1 < 0 := by omega
      have f6 : decide (findIt p.it p.st[k].1 < 0) = false := decide_eq_false f5
      cases q1 : inB p.st[k].2 0 100000
      · have HC := Lib.hid (okStk_in (it := p.it) hlt q1)
        clear f1 f3 f3b
        go_wp2_with fail
        go_quiet ((first | (go_at_call 8; refine (specFindItem_any _ _ _ p.it _ _ (HIT.out.keep (below_drewN (Below.refl _ _) _))).mono ?_; rintro e w' ⟨rfl, rfl⟩; exact ⟨rfl, _, rfl⟩) | (go_at_call 35; exact quietS (l1In_any _ _ _))))
        go_wp2
        go_ret
        exact ⟨ret_bool (isPlant_stk hlt HC.out).symm, below_drewN hb _⟩
      by_cases h0 : k = 0
      · have hy1 : decide (0 < k) = false := by simp; omega
        have hy2 : decide ((0 : Int) < (k : Int)) = false := by simp; omega
        have HC := Lib.hid (okStk_first hlt f1 q1 h0)
        clear h0 f1 f3 f3b
        go_wp2_with fail
        go_quiet ((first | (go_at_call 8; refine (specFindItem_any _ _ _ p.it _ _ (HIT.out.keep (below_drewN (Below.refl _ _) _))).mono ?_; rintro e w' ⟨rfl, rfl⟩; exact ⟨rfl, _, rfl⟩) | (go_at_call 35; exact quietS (l1In_any _ _ _))))
        go_wp2
        go_roundw
        case rel => exact ⟨k + 1, by omega, by go_num, okStk_more HC.out HI.out, B0.keep (below_drewN (Below.refl _ _) _), below_drewN hb _⟩
        case measure => simp [intOf]; omega
      have hlt2 : k - 1 < p.st.length := by omega
      obtain ⟨b2, o2, e2, _, hp0, _⟩ := need_at hst hlt2
      obtain ⟨rfl, rfl⟩ : b = b2 ∧ o = o2 := by simpa using e2
      clear e2
      have hy1 : decide (0 < k) = true := by simp; omega
      have hy2 : decide ((0 : Int) < (k : Int)) = true := by simp; omega
      have hi1 : (0 : Int) ≤ (k : Int) - 1 := by omega
      have hi2 : (k : Int) - 1 < (p.st.length : Int) := by omega
      have hi3 : ((k : Int) - 1).toNat = k - 1 := by omega
      have hi4 : (1 : Int) ≤ (k : Int) := by omega
      have hwk : IntKind.i64.wrap ((k : Int) - 1) = (k : Int) - 1 := IntWalk.i64_in _ (by omega)
      have HC := Lib.hid (okStk_next hlt f1 q1 h0 hlt2)
      clear h0 f1 f3 f3b
      cases hq : itLt p.st[k - 1].1 p.st[k].1
      · have hq2 : Op.bytesLess p.st[k - 1].1.toList p.st[k].1.toList = false := hq
        go_wp2_with fail
        go_quiet ((first | (go_at_call 8; refine (specFindItem_any _ _ _ p.it _ _ (HIT.out.keep (below_drewN (Below.refl _ _) _))).mono ?_; rintro e w' ⟨rfl, rfl⟩; exact ⟨rfl, _, rfl⟩) | (go_at_call 35; exact quietS (l1In_any _ _ _))))
        go_wp2
        go_ret
        exact ⟨ret_bool (isPlant_stk hlt (HC.out.trans hq)).symm, below_drewN hb _⟩
      · have hq2 : Op.bytesLess p.st[k - 1].1.toList p.st[k].1.toList = true := hq
        go_wp2_with fail
        go_quiet ((first | (go_at_call 8; refine (specFindItem_any _ _ _ p.it _ _ (HIT.out.keep (below_drewN (Below.refl _ _) _))).mono ?_; rintro e w' ⟨rfl, rfl⟩; exact ⟨rfl, _, rfl⟩) | (go_at_call 35; exact quietS (l1In_any _ _ _))))
        go_wp2
        go_roundw
        case rel => exact ⟨k + 1, by omega, by go_num, okStk_more (HC.out.trans hq) HI.out, B0.keep (below_drewN (Below.refl _ _) _), below_drewN hb _⟩
        case measure => simp [intOf]; omega
    · obtain rfl : k = p.st.length := by omega
      go_wp2_with fail
      clear b0 b1 b2 b3 b4 b5 b6 bl
      go_loopw [4] (fun i wr => ∃ k : Nat, k ≤ p.rc.length ∧ i = .int .i64 k ∧ Hid ((p.rc.take k).all (okRcp p.it) = true) ∧ BoxOf wr w.heap.size [.slice a0 n0 c0, .slice a1 n1 c1, .slice a2 n2 c2, .slice a3 n3 c3, .slice a4 n4 c4, .slice a5 p.st.length c5, .slice a6 p.rc.length c6] ∧ Below w.heap.size w wr) (fun i _ => p.rc.length - (intOf i).toNat)
      case atStart => exact ⟨0, by omega, rfl, rfl, B0, hb⟩
      case round =>
        clear B0 hb hlt hk
        obtain ⟨k, hk, rfl, HJ, B0, hb⟩ := hrel
        obtain ⟨b0, b1, b2, b3, b4, b5, b6, bl⟩ := B0.seven
        by_cases hlt : k < p.rc.length
        · have HIT := Lib.hid (Q0.out.keep hb)
          have hrc := Q6.out.keep hb
          obtain ⟨b, o, rfl, hbl, hc0, hc1, hc2⟩ := receipt_at hrc hlt
          obtain ⟨f3, f3b⟩ := findIt_bd p.it p.rc[k].1
          by_cases f1 : 0 ≤ findIt p.it p.rc[k].1
          case neg =>
            have HC : Hid (okRcp p.it p.rc[k] = false) := by show _ = _; unfold okRcp; rw [decide_eq_false f1]; rfl
            have f5 : findIt p.it p.rc[k].1 < 0 := by omega
            clear f3 f3b f1
            go_wp2_with fail
            go_quiet ((first | (go_at_call 8; refine (specFindItem_any _ _ _ p.it _ _ (HIT.out.keep (below_drewN (Below.refl _ _) _))).mono ?_; rintro e w' ⟨rfl, rfl⟩; exact ⟨rfl, _, rfl⟩) | (go_at_call 35; exact quietS (l1In_any _ _ _))))
            go_wp2
            go_ret
            exact ⟨ret_bool (isPlant_rcp hlt HC.out).symm, below_drewN hb _⟩
          have f5 : ¬ findIt p.it p.rc[k].1 < 0 := by omega
          have f6 : decide (findIt p.it p.rc[k].1 < 0) = false := decide_eq_false f5
          cases q1 : inB p.rc[k].2.2 1 100000
          · have HC : Hid (okRcp p.it p.rc[k] = false) := by show _ = _; unfold okRcp; rw [q1]; simp
            clear f1 f3 f3b
            go_wp2_with fail
            go_quiet ((first | (go_at_call 8; refine (specFindItem_any _ _ _ p.it _ _ (HIT.out.keep (below_drewN (Below.refl _ _) _))).mono ?_; rintro e w' ⟨rfl, rfl⟩; exact ⟨rfl, _, rfl⟩) | (go_at_call 35; exact quietS (l1In_any _ _ _))))
            go_wp2
            go_ret
            exact ⟨ret_bool (isPlant_rcp hlt HC.out).symm, below_drewN hb _⟩
          cases q2 : inB p.rc[k].2.1 0 999
          · have HC : Hid (okRcp p.it p.rc[k] = false) := by show _ = _; unfold okRcp; rw [q2]; simp
            clear f1 f3 f3b
            go_wp2_with fail
            go_quiet ((first | (go_at_call 8; refine (specFindItem_any _ _ _ p.it _ _ (HIT.out.keep (below_drewN (Below.refl _ _) _))).mono ?_; rintro e w' ⟨rfl, rfl⟩; exact ⟨rfl, _, rfl⟩) | (go_at_call 35; exact quietS (l1In_any _ _ _))))
            go_wp2
            go_ret
            exact ⟨ret_bool (isPlant_rcp hlt HC.out).symm, below_drewN hb _⟩
          have HC : Hid (okRcp p.it p.rc[k] = true) := by show _ = _; unfold okRcp; rw [decide_eq_true f1, q1, q2]; rfl
          clear f1 f3 f3b
          go_wp2_with fail
          go_quiet ((first | (go_at_call 8; refine (specFindItem_any _ _ _ p.it _ _ (HIT.out.keep (below_drewN (Below.refl _ _) _))).mono ?_; rintro e w' ⟨rfl, rfl⟩; exact ⟨rfl, _, rfl⟩) | (go_at_call 35; exact quietS (l1In_any _ _ _))))
          go_wp2
          go_roundw
          case rel => exact ⟨k + 1, by omega, by go_num, by rw [all_take p.rc _ k hlt, HJ.out]; exact HC.out, B0.keep (below_drewN (Below.refl _ _) _), below_drewN hb _⟩
          case measure => simp [intOf]; omega
        · obtain rfl : k = p.rc.length := by omega
          have HF := Lib.hid (isPlant_yes g1 g2 h12 h16 HI.out HJ.out)
          go_wp2_with fail
          go_ret
          exact ⟨ret_bool HF.out.symm, hb⟩
end Go.Proofs.Ytpbibkjcjgggdaa
