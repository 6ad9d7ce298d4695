/- The walks of DemandFlows. -/
import Derived.Test.YtdofhdelcendeaaDemands
import Derived.Test.YtdofhdelcendeaaMerge
namespace Go.Proofs.Ytdofhdelcendeaa
open Go.RowKit
def demStep (item : ByteArray) (o : List Fl) (d : Dm) : List Fl := if d.2.1.toList == item.toList then addS o d.2.2.2.1 d.2.2.1 else o
def demTo (l : List Dm) (item : ByteArray) (k : Nat) : List Fl := (l.take k).foldl (demStep item) []
theorem demTo_succ (l : List Dm) (item : ByteArray) (k : Nat) (h : k < l.length) : demTo l item (k + 1) = demStep item (demTo l item k) l[k] := foldl_take _ _ _ _ h
theorem areDemands_mem {l : List Dm} (h : areDemands l = true) {k : Nat} (hk : k < l.length) : 1 ≤ l[k].2.2.1 ∧ l[k].2.2.1 ≤ 100000 ∧ 0 ≤ l[k].2.2.2.1 ∧ l[k].2.2.2.1 ≤ 999 := by
  simp only [areDemands, Bool.and_eq_true, List.all_eq_true, List.mem_range] at h
  have := h.1 k hk
  simp only [okDem, dm_getD l k hk, Bool.and_eq_true, inB_iff] at this
  omega
theorem areDemands_len {l : List Dm} (h : areDemands l = true) : l.length ≤ 16 := by
  simp only [areDemands, Bool.and_eq_true, decide_eq_true_eq] at h
  omega
theorem demTo_parts (l : List Dm) (item : ByteArray) (h : areDemands l = true) (k : Nat) (hk : k ≤ l.length) : ascends (demTo l item k) ∧ (demTo l item k).length ≤ k ∧ ∀ f ∈ demTo l item k, 0 ≤ f.2 ∧ f.2 ≤ 100000 * k := by
  induction k with
  | zero => exact ⟨fun i j hj => by simp [demTo] at hj, by simp [demTo], fun f hf => by simp [demTo] at hf⟩
  | succ k ih =>
    obtain ⟨h1, h2, h3⟩ := ih (by omega)
    have hm := areDemands_mem h (show k < l.length by omega)
    rw [demTo_succ l item k (by omega)]
    unfold demStep
    split
    · refine ⟨addS_ascends _ _ _ h1, by have := addS_len (demTo l item k) l[k].2.2.2.1 l[k].2.2.1; omega, fun f hf => ?_⟩
      have := addS_bd (demTo l item k) l[k].2.2.2.1 l[k].2.2.1 0 (100000 * k) 0 100000 h3 (by omega) (by omega) (by omega) (by omega) (by omega) f hf
      omega
    · exact ⟨h1, by omega, fun f hf => by have := h3 f hf; omega⟩
def demandFlows (l : List Dm) (item : ByteArray) : List Fl := if areDemands l then demTo l item l.length else []
theorem demandFlows_no {l : List Dm} {item : ByteArray} (h : areDemands l = false) : demandFlows l item = [] := by unfold demandFlows; rw [h]; rfl
theorem demandFlows_yes {l : List Dm} {item : ByteArray} (h : areDemands l = true) : demandFlows l item = demTo l item l.length := by unfold demandFlows; rw [if_pos h]
theorem demandFlows_len (l : List Dm) (item : ByteArray) : (demandFlows l item).length ≤ 16777216 := by
  cases h : areDemands l
  · rw [demandFlows_no h]; simp
  · rw [demandFlows_yes h]
    have := (demTo_parts l item h l.length (Nat.le_refl _)).2.1
    have := areDemands_len h
    omega
set_option maxRecDepth 100000 in
set_option maxHeartbeats 4000000 in
theorem specDemandFlows_any (A : Option Addr) (n c : Nat) (l : List Dm) (item : ByteArray) (w : World) (hl : DemandsIn w A n l) (hok : ∀ x ∈ l, okDm x) :
    Calls Try.prog 63 #[.slice A n c, .string item] w (OneRow w (demandFlows l item)) := by
  have hn := hl.len
  obtain rfl := hl.1
  cases hf : areDemands l
  · have HN : Hid (demandFlows l item = []) := demandFlows_no hf
    by_cases h0 : 0 < l.length
    · go_enter Try.func63, Try.ntmps63
      go_wp2
      refine wp_loop_rounds 1 ?_
      rw [rounds_succ]
      go_wp2_with fail
      refine (specAreDemands_any _ _ _ l _ (hl.keep (below_alloc _ _)) hok).mono ?_
      rintro e w1 ⟨rfl, hd⟩
      rw [hf]
      have hB := (below_alloc w (.cells #[] 51)).trans (hd.mono (by simp))
      have hr : RowVal flF 51 w1 w.heap.size (.slice (some ⟨w.heap.size, 0, none⟩) 0 0) [] := (empty_row (F := flF) (e := 51) (w := w) rfl (Nat.le_refl _)).keep hd
      clear hok
      go_wp2_with fail
      go_ret
      rw [HN.out]
      exact oneRow_mk hr hB
    · exfalso
      have : l = [] := List.eq_nil_of_length_eq_zero (by omega)
      subst this
      simp [areDemands] at hf
  have HP := Lib.hid (demTo_parts l item hf)
  have HM := Lib.hid (fun k hk => areDemands_mem hf (k := k) hk)
  have hl16 := areDemands_len hf
  have HO := Lib.hid hok
  clear hok
  go_enter Try.func63, Try.ntmps63
  go_wp2
  have hb0 := below_alloc w (.cells #[] 51)
  have hv0 : RowVal flF 51 (w.alloc (.cells #[] 51)) w.heap.size (.slice (some ⟨w.heap.size, 0, none⟩) 0 0) [] := empty_row rfl (Nat.le_refl _)
  go_loopw [5, 6] (fun v i wr => ∃ k : Nat, k ≤ l.length ∧ i = .int .i64 k ∧ RowVal flF 51 wr w.heap.size v (demTo l item k) ∧ Below w.heap.size w wr) (fun _ i _ => l.length - (intOf i).toNat)
  case atStart => exact ⟨0, by omega, rfl, hv0, hb0⟩
  case round =>
    clear hv0 hb0
    obtain ⟨k, hk, rfl, hrow, HR⟩ := hrel
    obtain ⟨p1, p2, p3⟩ := HP.out k hk
    obtain ⟨A2, c2, rfl, ho⟩ := hrow.form
    obtain ⟨k1, k2⟩ := own_cap ho
    clear p1
    by_cases hlt : k < l.length
    · have HS := Lib.hid (demTo_succ l item k hlt)
      obtain ⟨m1, m2, m3, m4⟩ := HM.out k hlt
      have HQ : Hid (∀ f ∈ demTo l item k, -1000000000000 ≤ f.2 ∧ f.2 ≤ 1000000000000) := fun f hf => by have := p3 f hf; omega
      clear p3
      go_wp2_with fail
      refine (specAreDemands_any _ _ _ l _ (hl.keep HR) HO.out).mono ?_
      rintro e w1 ⟨rfl, hd⟩
      rw [hf]
      have HR1 := below_on HR hd
      replace ho := ho.keep hd
      obtain ⟨b, o, rfl, _, hc0, hc1, hc2, hc3, hc4⟩ := demand_at (hl.keep HR1) hlt
      cases heq : (l[k].2.1.toList == item.toList)
      · have HE : Hid (demStep item (demTo l item k) l[k] = demTo l item k) := by show _ = _; unfold demStep; rw [heq]; rfl
        go_wp2_with fail
        go_roundw
        case rel => exact ⟨k + 1, by omega, by go_num, by rw [HS.out, HE.out]; exact ho.val, HR1⟩
        case measure => simp [intOf]; omega
      · have HE : Hid (demStep item (demTo l item k) l[k] = addS (demTo l item k) l[k].2.2.2.1 l[k].2.2.1) := by show _ = _; unfold demStep; rw [heq]; rfl
        go_wp2_with fail
        go_still_tail 11, (by kernel_rfl)
        change wpList _ _ _ _ _ w1.drew
        have HE2 : Below w.heap.size w w1.drew := HR1.drew
        have ho2 : OwnRows flF 51 w1.drew w.heap.size A2 (demTo l item k).length c2 (demTo l item k) := ho
        clear ho HR hd HR1 hc0 hc1 hc2 hc3 hc4 hrow
        generalize w1.drew = w2 at *
        go_wp2_with fail
        refine (l14Add_any _ _ _ (demTo l item k) _ _ _ (ho2.rows (by omega)) k1 (by unfold maxLen at k2; omega) (by omega) HQ.out (by omega)).mono ?_
        rintro e w3 ⟨A3, c3, rfl, ho3, hb3⟩
        rw [← HE.out, ← HS.out] at ho3
        rw [← HE.out, ← HS.out]
        go_wp2_with fail
        go_roundw
        case rel => exact ⟨k + 1, by omega, by go_num, (ho3.lower HE2.size).val, below_on HE2 hb3⟩
        case measure => simp [intOf]; omega
    · obtain rfl : k = l.length := by omega
      have HY := Lib.hid (demandFlows_yes (item := item) hf)
      clear p3
      go_wp2_with fail
      go_ret
      rw [HY.out]
      exact oneRow_mk ho.val HR
set_option maxRecDepth 100000 in
set_option maxHeartbeats 4000000 in
theorem implDemandFlows_any (A : Option Addr) (n c : Nat) (l : List Dm) (item : ByteArray) (w : World) (hl : DemandsIn w A n l) (hok : ∀ x ∈ l, okDm x) (hnc : n ≤ c) :
    Calls Try.prog 65 #[.slice A n c, .string item] w (OneRow w (demandFlows l item)) := by
  have hn := hl.len
  obtain rfl := hl.1
  have hr0 : RowVal flF 51 (w.alloc (.cells #[] 51)) w.heap.size (.slice (some ⟨w.heap.size, 0, none⟩) 0 0) [] := empty_row rfl (Nat.le_refl _)
  have HO := Lib.hid hok
  clear hok
  go_enter Try.func65, Try.ntmps65
  go_wp2_with fail
  refine (implAreDemands_any _ _ _ l _ (hl.keep (below_alloc _ _)) HO.out hnc).mono ?_
  rintro e w1 ⟨rfl, hd⟩
  have hB := (below_alloc w (.cells #[] 51)).trans (hd.mono (by simp))
  have hr := hr0.keep hd
  clear hr0 hd
  cases hf : areDemands l
  · have HN : Hid (demandFlows l item = []) := demandFlows_no hf
    go_wp2_with fail
    go_ret
    rw [HN.out]
    exact oneRow_mk hr hB
  have HP := Lib.hid (demTo_parts l item hf)
  have HM := Lib.hid (fun k hk => areDemands_mem hf (k := k) hk)
  have hl16 := areDemands_len hf
  go_wp2_with fail
  go_loopw [5, 15] (fun v i wr => ∃ k : Nat, k ≤ l.length ∧ i = .int .i64 k ∧ RowVal flF 51 wr w.heap.size v (demTo l item k) ∧ Below w.heap.size w wr) (fun _ i _ => l.length - (intOf i).toNat)
  case atStart => exact ⟨0, by omega, rfl, hr, hB⟩
  case round =>
    clear hr hB
    obtain ⟨k, hk, rfl, hrow, HR⟩ := hrel
    obtain ⟨p1, p2, p3⟩ := HP.out k hk
    obtain ⟨A2, c2, rfl, ho⟩ := hrow.form
    have HPA := Lib.hid p1
    clear p1
    by_cases hlt : k < l.length
    · have HS := Lib.hid (demTo_succ l item k hlt)
      obtain ⟨m1, m2, m3, m4⟩ := HM.out k hlt
      have HQ : Hid (∀ f ∈ demTo l item k, -1000000000000 ≤ f.2 ∧ f.2 ≤ 1000000000000) := fun f hf => by have := p3 f hf; omega
      clear p3
      obtain ⟨b, o, rfl, _, hc0, hc1, hc2, hc3, hc4⟩ := demand_at (hl.keep HR) hlt
      have hsz := HR.size
      have HA := HR.alloc hsz (.cells #[.int .i64 l[k].1, .string l[k].2.1, .int .i64 l[k].2.2.1, .int .i64 l[k].2.2.2.1, .int .i64 l[k].2.2.2.2] 99)
      have ho2 := ho.keep (below_alloc wr (.cells #[.int .i64 l[k].1, .string l[k].2.1, .int .i64 l[k].2.2.1, .int .i64 l[k].2.2.2.1, .int .i64 l[k].2.2.2.2] 99))
      cases heq : (l[k].2.1.toList == item.toList)
      · have HE : Hid (demStep item (demTo l item k) l[k] = demTo l item k) := by show _ = _; unfold demStep; rw [heq]; rfl
        go_wp2_with fail
        go_roundw
        case rel => exact ⟨k + 1, by omega, by go_num, by rw [HS.out, HE.out]; exact ho2.val, HA⟩
        case measure => simp [intOf]; omega
      · have HE : Hid (demStep item (demTo l item k) l[k] = addS (demTo l item k) l[k].2.2.2.1 l[k].2.2.1) := by show _ = _; unfold demStep; rw [heq]; rfl
        go_wp2_with fail
        refine (addFlow_any _ _ _ (demTo l item k) _ _ _ (ho2.rows (by omega)) (by omega) HQ.out (by omega)).mono ?_
        rintro e w3 ⟨A3, c3, rfl, ho3, hb3⟩
        rw [addI_eq _ _ _ HPA.out, ← HE.out, ← HS.out] at ho3
        rw [addI_eq _ _ _ HPA.out, ← HE.out, ← HS.out]
        go_wp2_with fail
        go_roundw
        case rel => exact ⟨k + 1, by omega, by go_num, (ho3.lower HA.size).val, below_on HA hb3⟩
        case measure => simp [intOf]; omega
    · obtain rfl : k = l.length := by omega
      have HY := Lib.hid (demandFlows_yes (item := item) hf)
      clear p3
      go_wp2_with fail
      go_ret
      rw [HY.out]
      exact oneRow_mk ho.val HR
end Go.Proofs.Ytdofhdelcendeaa
