/- Part 20 of the texts of this claim: The walks of ReceiptFlows; A cell of a row of numbers, with getD; The walks of the hours of a day and of what machines can work on it. -/
import Derived.Test.YtlnkofnfgemfdaaGreatIp18
import Derived.Test.YtlnkofnfgemfdaaGreatIp12
import Derived.Test.YtlnkofnfgemfdaaGreatIp6
import Derived.Test.YtlnkofnfgemfdaaGreatIp14
/- The walks of ReceiptFlows. -/
namespace Go.Proofs.YtlnkofnfgemfdaaGreat
open Go.RowKit
theorem addS_days (l : List Fl) (d q : Int) (h : ∀ f ∈ l, 0 ≤ f.1 ∧ f.1 ≤ 999) (hd : 0 ≤ d ∧ d ≤ 999) : ∀ f ∈ addS l d q, 0 ≤ f.1 ∧ f.1 ≤ 999 := by
  induction l with
  | nil => intro f hf; simp [addS] at hf; rw [hf]; exact hd
  | cons g t ih =>
    have hg := h g List.mem_cons_self
    have ht := ih (fun f hf => h f (List.mem_cons_of_mem _ hf))
    intro f hf
    simp only [addS] at hf
    split at hf
    · rcases List.mem_cons.1 hf with rfl | hf
      · exact hg
      · exact ht f hf
    · split at hf
      · rcases List.mem_cons.1 hf with rfl | hf
        · exact hg
        · exact h f (List.mem_cons_of_mem _ hf)
      · rcases List.mem_cons.1 hf with rfl | hf
        · exact hd
        · exact h f hf
theorem addS_one (l : List Fl) (d q : Int) (h : ∀ f ∈ l, 1 ≤ f.2) (hq : 1 ≤ q) : ∀ f ∈ addS l d q, 1 ≤ f.2 := by
  induction l with
  | nil => intro f hf; simp [addS] at hf; rw [hf]; exact hq
  | cons g t ih =>
    have hg := h g List.mem_cons_self
    have ht := ih (fun f hf => h f (List.mem_cons_of_mem _ hf))
    intro f hf
    simp only [addS] at hf
    split at hf
    · rcases List.mem_cons.1 hf with rfl | hf
      · exact hg
      · exact ht f hf
    · split at hf
      · rcases List.mem_cons.1 hf with rfl | hf
        · simp only; omega
        · exact h f (List.mem_cons_of_mem _ hf)
      · rcases List.mem_cons.1 hf with rfl | hf
        · exact hq
        · exact h f hf
def rcStep (item : ByteArray) (o : List Fl) (d : Rc) : List Fl := if d.1.toList == item.toList then addS o d.2.1 d.2.2 else o
def rcTo (l : List Rc) (item : ByteArray) (k : Nat) : List Fl := (l.take k).foldl (rcStep item) []
theorem rcTo_succ (l : List Rc) (item : ByteArray) (k : Nat) (h : k < l.length) : rcTo l item (k + 1) = rcStep item (rcTo l item k) l[k] := foldl_take _ _ _ _ h
theorem rcTo_parts (p : Pt) (item : ByteArray) (h : isPlant p = true) (k : Nat) (hk : k ≤ p.rc.length) : ascends (rcTo p.rc item k) ∧ (rcTo p.rc item k).length ≤ k ∧ ∀ f ∈ rcTo p.rc item k, (0 ≤ f.1 ∧ f.1 ≤ 999) ∧ 1 ≤ f.2 ∧ f.2 ≤ 100000 * k := by
  induction k with
  | zero => exact ⟨fun i j hj => by simp [rcTo] at hj, by simp [rcTo], fun f hf => by simp [rcTo] at hf⟩
  | succ k ih =>
    obtain ⟨h1, h2, h3⟩ := ih (by omega)
    obtain ⟨_, hm, hd⟩ := (isPlant_parts h).2.2.2.2.2 k (by omega)
    rw [rcTo_succ p.rc item k (by omega)]
    unfold rcStep
    split
    · refine ⟨addS_ascends _ _ _ h1, by have := addS_len (rcTo p.rc item k) p.rc[k].2.1 p.rc[k].2.2; omega, fun f hf => ?_⟩
      have hb := addS_bd (rcTo p.rc item k) p.rc[k].2.1 p.rc[k].2.2 0 (100000 * k) 0 100000 (fun f hf => by have := h3 f hf; omega) (by omega) (by omega) (by omega) (by omega) (by omega) f hf
      have hp1 := addS_one (rcTo p.rc item k) p.rc[k].2.1 p.rc[k].2.2 (fun f hf => (h3 f hf).2.1) (by omega) f hf
      have hdd := addS_days (rcTo p.rc item k) p.rc[k].2.1 p.rc[k].2.2 (fun f hf => (h3 f hf).1) hd f hf
      exact ⟨hdd, by omega, by omega⟩
    · exact ⟨h1, by omega, fun f hf => by have := h3 f hf; omega⟩
def receiptFlows (p : Pt) (item : ByteArray) : List Fl := if isPlant p = true then rcTo p.rc item p.rc.length else []
theorem receiptFlows_no {p : Pt} {item : ByteArray} (h : isPlant p = false) : receiptFlows p item = [] := by unfold receiptFlows; rw [if_neg (by rw [h]; decide)]
theorem receiptFlows_yes {p : Pt} {item : ByteArray} (h : isPlant p = true) : receiptFlows p item = rcTo p.rc item p.rc.length := by unfold receiptFlows; rw [if_pos h]
theorem receiptFlows_len (p : Pt) (item : ByteArray) : (receiptFlows p item).length ≤ 16 := by
  cases h : isPlant p
  · rw [receiptFlows_no h]; simp
  · rw [receiptFlows_yes h]
    have := (rcTo_parts p item h p.rc.length (Nat.le_refl _)).2.1
    have := (isPlant_parts h).2.2.2.1
    omega
set_option maxRecDepth 100000 in
set_option maxHeartbeats 4000000 in
theorem specReceiptFlows_any (r : PtR) (p : Pt) (s : ByteArray) (w : World) (hp : PlantIn w r p) (hok : okPt p) (_hs : s.size ≤ 9223372036854775807) :
    Calls Tryz.prog 42 #[.agg #[.slice r.i.a r.i.n r.i.c, .slice r.l.a r.l.n r.l.c, .slice r.w.a r.w.n r.w.c, .slice r.e.a r.e.n r.e.c, .slice r.p.a r.p.n r.p.c, .slice r.s.a r.s.n r.s.c, .slice r.q.a r.q.n r.q.c], .string s] w (OneRow w (receiptFlows p s)) := by
  obtain ⟨⟨a0, n0, c0⟩, ⟨a1, n1, c1⟩, ⟨a2, n2, c2⟩, ⟨a3, n3, c3⟩, ⟨a4, n4, c4⟩, ⟨a5, n5, c5⟩, ⟨a6, n6, c6⟩⟩ := r
  have HNS := Lib.hid hp.st.1
  have HNR := Lib.hid hp.rc.1
  dsimp only at HNS HNR ⊢
  obtain rfl := HNS.out
  obtain rfl := HNR.out
  clear HNS HNR
  have hls := hp.st.len
  have hlr := hp.rc.len
  have HP := Lib.hid hp
  have HQ5 := Lib.hid hp.st
  have HQ6 := Lib.hid hp.rc
  have HQ0 := Lib.hid hp.it
  dsimp only at HQ5 HQ6 HQ0
  have HO := Lib.hid hok
  clear hp hok
  have hb0 := below_alloc w (.cells #[.slice a0 n0 c0, .slice a1 n1 c1, .slice a2 n2 c2, .slice a3 n3 c3, .slice a4 n4 c4, .slice a5 p.st.length c5, .slice a6 p.rc.length c6] 48)
  have hb : Below w.heap.size w ((w.alloc (.cells #[.slice a0 n0 c0, .slice a1 n1 c1, .slice a2 n2 c2, .slice a3 n3 c3, .slice a4 n4 c4, .slice a5 p.st.length c5, .slice a6 p.rc.length c6] 48)).alloc (.cells #[] 90)) := below_on hb0 (below_alloc _ _)
  have B0 : BoxOf ((w.alloc (.cells #[.slice a0 n0 c0, .slice a1 n1 c1, .slice a2 n2 c2, .slice a3 n3 c3, .slice a4 n4 c4, .slice a5 p.st.length c5, .slice a6 p.rc.length c6] 48)).alloc (.cells #[] 90)) w.heap.size [.slice a0 n0 c0, .slice a1 n1 c1, .slice a2 n2 c2, .slice a3 n3 c3, .slice a4 n4 c4, .slice a5 p.st.length c5, .slice a6 p.rc.length c6] := (boxOf_alloc w #[.slice a0 n0 c0, .slice a1 n1 c1, .slice a2 n2 c2, .slice a3 n3 c3, .slice a4 n4 c4, .slice a5 p.st.length c5, .slice a6 p.rc.length c6] 48).keep (below_alloc _ _)
  have hr : RowVal flF 90 ((w.alloc (.cells #[.slice a0 n0 c0, .slice a1 n1 c1, .slice a2 n2 c2, .slice a3 n3 c3, .slice a4 n4 c4, .slice a5 p.st.length c5, .slice a6 p.rc.length c6] 48)).alloc (.cells #[] 90)) w.heap.size (.slice (some ⟨w.heap.size + 1, 0, none⟩) 0 0) [] := empty_row (by simp) hb0.size
  clear hb0
  cases g : isPlant p
  · have HN : Hid (receiptFlows p s = []) := receiptFlows_no g
    by_cases h0 : 0 < p.rc.length
    · go_enter Tryz.func42, Tryz.ntmps42
      go_wp2_with fail
      generalize ((w.alloc (.cells #[.slice a0 n0 c0, .slice a1 n1 c1, .slice a2 n2 c2, .slice a3 n3 c3, .slice a4 n4 c4, .slice a5 p.st.length c5, .slice a6 p.rc.length c6] 48)).alloc (.cells #[] 90)) = V at *
      refine wp_loop_rounds 1 ?_
      rw [rounds_succ]
      obtain ⟨b0, b1, b2, b3, b4, b5, b6, bl⟩ := B0.seven
      go_wp2_with fail
      clear b0 b1 b2 b3 b4 b5 b6 bl
      refine (specIsPlant_any ⟨⟨a0, n0, c0⟩, ⟨a1, n1, c1⟩, ⟨a2, n2, c2⟩, ⟨a3, n3, c3⟩, ⟨a4, n4, c4⟩, ⟨a5, p.st.length, c5⟩, ⟨a6, p.rc.length, c6⟩⟩ p _ (HP.out.keep hb) HO.out).mono ?_
      rintro e V1 ⟨rfl, hs⟩
      rw [g]
      replace hb := below_on hb hs
      replace B0 := B0.keep hs
      replace hr := hr.keep hs
      clear hs
      go_wp2_with fail
      go_ret
      rw [HN.out]
      exact oneRow_mk hr hb
    · have hz : ¬ ((0 : Int) < (p.rc.length : Int)) := by omega
      go_enter Tryz.func42, Tryz.ntmps42
      go_wp2_with fail
      generalize ((w.alloc (.cells #[.slice a0 n0 c0, .slice a1 n1 c1, .slice a2 n2 c2, .slice a3 n3 c3, .slice a4 n4 c4, .slice a5 p.st.length c5, .slice a6 p.rc.length c6] 48)).alloc (.cells #[] 90)) = V at *
      refine wp_loop_rounds 1 ?_
      rw [rounds_succ]
      obtain ⟨b0, b1, b2, b3, b4, b5, b6, bl⟩ := B0.seven
      go_wp2_with fail
      go_ret
      rw [HN.out]
      exact oneRow_mk hr hb
  have HPR := Lib.hid (rcTo_parts p s g)
  have HM := Lib.hid (isPlant_parts g).2.2.2.2.2
  have hl16 := (isPlant_parts g).2.2.2.1
  go_enter Tryz.func42, Tryz.ntmps42
  go_wp2_with fail
  generalize ((w.alloc (.cells #[.slice a0 n0 c0, .slice a1 n1 c1, .slice a2 n2 c2, .slice a3 n3 c3, .slice a4 n4 c4, .slice a5 p.st.length c5, .slice a6 p.rc.length c6] 48)).alloc (.cells #[] 90)) = V at *
  go_loopw [5, 6] (fun v i wr => ∃ k : Nat, k ≤ p.rc.length ∧ i = .int .i64 k ∧ RowVal flF 90 wr w.heap.size v (rcTo p.rc s k) ∧ BoxOf wr w.heap.size [.slice a0 n0 c0, .slice a1 n1 c1, .slice a2 n2 c2, .slice a3 n3 c3, .slice a4 n4 c4, .slice a5 p.st.length c5, .slice a6 p.rc.length c6] ∧ Below w.heap.size w wr) (fun _ i _ => p.rc.length - (intOf i).toNat)
  case atStart => exact ⟨0, by omega, rfl, hr, B0, hb⟩
  case round =>
    clear hr B0 hb
    obtain ⟨k, hk, rfl, hrow, B0, hb⟩ := hrel
    obtain ⟨p1, p2, p3⟩ := HPR.out k hk
    obtain ⟨A2, c9, rfl, ho⟩ := hrow.form
    obtain ⟨k1, k2⟩ := own_cap ho
    clear hrow
    have HPA := Lib.hid p1
    clear p1
    by_cases hlt : k < p.rc.length
    · have HS := Lib.hid (rcTo_succ p.rc s k hlt)
      obtain ⟨_, ⟨m1, m2⟩, m3, m4⟩ := HM.out k hlt
      have HQ : Hid (∀ f ∈ rcTo p.rc s k, -1000000000000 ≤ f.2 ∧ f.2 ≤ 1000000000000) := fun f hf => by have := p3 f hf; omega
      clear p3
      obtain ⟨b0, b1, b2, b3, b4, b5, b6, bl⟩ := B0.seven
      go_wp2_with fail
      clear b0 b1 b2 b3 b4 b5 b6 bl
      refine (specIsPlant_any ⟨⟨a0, n0, c0⟩, ⟨a1, n1, c1⟩, ⟨a2, n2, c2⟩, ⟨a3, n3, c3⟩, ⟨a4, n4, c4⟩, ⟨a5, p.st.length, c5⟩, ⟨a6, p.rc.length, c6⟩⟩ p _ (HP.out.keep hb) HO.out).mono ?_
      rintro e V1 ⟨rfl, hs⟩
      rw [g]
      replace hb := below_on hb hs
      replace B0 := B0.keep hs
      replace ho := ho.keep hs
      clear hs
      obtain ⟨b, o, rfl, hbl, hc0, hc1, hc2⟩ := receipt_at (HQ6.out.keep hb) hlt
      obtain ⟨b0, b1, b2, b3, b4, b5, b6, bl⟩ := B0.seven
      cases heq : (p.rc[k].1.toList == s.toList)
      · have HE : Hid (rcStep s (rcTo p.rc s k) p.rc[k] = rcTo p.rc s k) := by show _ = _; unfold rcStep; rw [heq]; rfl
        go_wp2_with fail
        go_roundw
        case rel => exact ⟨k + 1, by omega, by go_num, by rw [HS.out, HE.out]; exact ho.val, B0, hb⟩
        case measure => simp [intOf]; omega
      · have HE : Hid (rcStep s (rcTo p.rc s k) p.rc[k] = addS (rcTo p.rc s k) p.rc[k].2.1 p.rc[k].2.2) := by show _ = _; unfold rcStep; rw [heq]; rfl
        go_wp2_with fail
        go_still_tail 13, (by kernel_rfl)
        change wpList _ _ _ _ _ V1.drew
        have HE2 : Below w.heap.size w V1.drew := hb.drew
        have ho2 : OwnRows flF 90 V1.drew w.heap.size A2 (rcTo p.rc s k).length c9 (rcTo p.rc s k) := ho
        have B2 := B0.keep (Below.refl V1.heap.size V1).drew
        clear ho hb hc0 hc1 hc2 B0 b0 b1 b2 b3 b4 b5 b6 bl
        generalize V1.drew = w2 at *
        go_wp2_with fail
        refine (l14Add_any _ _ _ (rcTo p.rc s k) _ _ _ (ho2.rows (by omega)) k1 (by unfold maxLen at k2; omega) (by omega) HQ.out (by omega)).mono ?_
        rintro e w3 ⟨A3, c3, rfl, ho3, hb3⟩
        rw [← HE.out, ← HS.out] at ho3
        rw [← HE.out, ← HS.out]
        go_wp2_with fail
        go_roundw
        case rel => exact ⟨k + 1, by omega, by go_num, (ho3.lower HE2.size).val, B2.keep hb3, below_on HE2 hb3⟩
        case measure => simp [intOf]; omega
    · obtain rfl : k = p.rc.length := by omega
      have HY := Lib.hid (receiptFlows_yes (item := s) g)
      clear p3
      obtain ⟨b0, b1, b2, b3, b4, b5, b6, bl⟩ := B0.seven
      go_wp2_with fail
      go_ret
      rw [HY.out]
      exact oneRow_mk ho.val hb
set_option maxRecDepth 100000 in
set_option maxHeartbeats 4000000 in
theorem implReceiptFlows_any (r : PtR) (p : Pt) (s : ByteArray) (w : World) (hp : PlantIn w r p) (hok : okPt p) (_hs : s.size ≤ 9223372036854775807) :
    Calls Tryz.prog 58 #[.agg #[.slice r.i.a r.i.n r.i.c, .slice r.l.a r.l.n r.l.c, .slice r.w.a r.w.n r.w.c, .slice r.e.a r.e.n r.e.c, .slice r.p.a r.p.n r.p.c, .slice r.s.a r.s.n r.s.c, .slice r.q.a r.q.n r.q.c], .string s] w (OneRow w (receiptFlows p s)) := by
  obtain ⟨⟨a0, n0, c0⟩, ⟨a1, n1, c1⟩, ⟨a2, n2, c2⟩, ⟨a3, n3, c3⟩, ⟨a4, n4, c4⟩, ⟨a5, n5, c5⟩, ⟨a6, n6, c6⟩⟩ := r
  have HNS := Lib.hid hp.st.1
  have HNR := Lib.hid hp.rc.1
  dsimp only at HNS HNR ⊢
  obtain rfl := HNS.out
  obtain rfl := HNR.out
  clear HNS HNR
  have hls := hp.st.len
  have hlr := hp.rc.len
  have HP := Lib.hid hp
  have HQ5 := Lib.hid hp.st
  have HQ6 := Lib.hid hp.rc
  have HQ0 := Lib.hid hp.it
  dsimp only at HQ5 HQ6 HQ0
  have HO := Lib.hid hok
  clear hp hok
  have hb0 := below_alloc w (.cells #[.slice a0 n0 c0, .slice a1 n1 c1, .slice a2 n2 c2, .slice a3 n3 c3, .slice a4 n4 c4, .slice a5 p.st.length c5, .slice a6 p.rc.length c6] 48)
  have hb : Below w.heap.size w ((w.alloc (.cells #[.slice a0 n0 c0, .slice a1 n1 c1, .slice a2 n2 c2, .slice a3 n3 c3, .slice a4 n4 c4, .slice a5 p.st.length c5, .slice a6 p.rc.length c6] 48)).alloc (.cells #[] 90)) := below_on hb0 (below_alloc _ _)
  have B0 : BoxOf ((w.alloc (.cells #[.slice a0 n0 c0, .slice a1 n1 c1, .slice a2 n2 c2, .slice a3 n3 c3, .slice a4 n4 c4, .slice a5 p.st.length c5, .slice a6 p.rc.length c6] 48)).alloc (.cells #[] 90)) w.heap.size [.slice a0 n0 c0, .slice a1 n1 c1, .slice a2 n2 c2, .slice a3 n3 c3, .slice a4 n4 c4, .slice a5 p.st.length c5, .slice a6 p.rc.length c6] := (boxOf_alloc w #[.slice a0 n0 c0, .slice a1 n1 c1, .slice a2 n2 c2, .slice a3 n3 c3, .slice a4 n4 c4, .slice a5 p.st.length c5, .slice a6 p.rc.length c6] 48).keep (below_alloc _ _)
  have hr : RowVal flF 90 ((w.alloc (.cells #[.slice a0 n0 c0, .slice a1 n1 c1, .slice a2 n2 c2, .slice a3 n3 c3, .slice a4 n4 c4, .slice a5 p.st.length c5, .slice a6 p.rc.length c6] 48)).alloc (.cells #[] 90)) w.heap.size (.slice (some ⟨w.heap.size + 1, 0, none⟩) 0 0) [] := empty_row (by simp) hb0.size
  clear hb0
  cases g : isPlant p
  · have HN : Hid (receiptFlows p s = []) := receiptFlows_no g
    go_enter Tryz.func58, Tryz.ntmps58
    go_wp2_with fail
    generalize ((w.alloc (.cells #[.slice a0 n0 c0, .slice a1 n1 c1, .slice a2 n2 c2, .slice a3 n3 c3, .slice a4 n4 c4, .slice a5 p.st.length c5, .slice a6 p.rc.length c6] 48)).alloc (.cells #[] 90)) = V at *
    refine (implIsPlant_any ⟨⟨a0, n0, c0⟩, ⟨a1, n1, c1⟩, ⟨a2, n2, c2⟩, ⟨a3, n3, c3⟩, ⟨a4, n4, c4⟩, ⟨a5, p.st.length, c5⟩, ⟨a6, p.rc.length, c6⟩⟩ p _ (HP.out.keep hb) HO.out).mono ?_
    rintro e V1 ⟨rfl, hs⟩
    rw [g]
    replace hb := below_on hb hs
    replace B0 := B0.keep hs
    replace hr := hr.keep hs
    clear hs
    go_wp2_with fail
    go_ret
    rw [HN.out]
    exact oneRow_mk hr hb
  have HPR := Lib.hid (rcTo_parts p s g)
  have HM := Lib.hid (isPlant_parts g).2.2.2.2.2
  have hl16 := (isPlant_parts g).2.2.2.1
  go_enter Tryz.func58, Tryz.ntmps58
  go_wp2_with fail
  generalize ((w.alloc (.cells #[.slice a0 n0 c0, .slice a1 n1 c1, .slice a2 n2 c2, .slice a3 n3 c3, .slice a4 n4 c4, .slice a5 p.st.length c5, .slice a6 p.rc.length c6] 48)).alloc (.cells #[] 90)) = V at *
  refine (implIsPlant_any ⟨⟨a0, n0, c0⟩, ⟨a1, n1, c1⟩, ⟨a2, n2, c2⟩, ⟨a3, n3, c3⟩, ⟨a4, n4, c4⟩, ⟨a5, p.st.length, c5⟩, ⟨a6, p.rc.length, c6⟩⟩ p _ (HP.out.keep hb) HO.out).mono ?_
  rintro e V1 ⟨rfl, hs⟩
  rw [g]
  replace hb := below_on hb hs
  replace B0 := B0.keep hs
  replace hr := hr.keep hs
  clear hs
  obtain ⟨b0, b1, b2, b3, b4, b5, b6, bl⟩ := B0.seven
  go_wp2_with fail
  clear b0 b1 b2 b3 b4 b5 b6 bl
  go_loopw [5, 16] (fun v i wr => ∃ k : Nat, k ≤ p.rc.length ∧ i = .int .i64 k ∧ RowVal flF 90 wr w.heap.size v (rcTo p.rc s k) ∧ BoxOf wr w.heap.size [.slice a0 n0 c0, .slice a1 n1 c1, .slice a2 n2 c2, .slice a3 n3 c3, .slice a4 n4 c4, .slice a5 p.st.length c5, .slice a6 p.rc.length c6] ∧ Below w.heap.size w wr) (fun _ i _ => p.rc.length - (intOf i).toNat)
  case atStart => exact ⟨0, by omega, rfl, hr, B0, hb⟩
  case round =>
    clear hr B0 hb
    obtain ⟨k, hk, rfl, hrow, B0, hb⟩ := hrel
    obtain ⟨p1, p2, p3⟩ := HPR.out k hk
    obtain ⟨A2, c9, rfl, ho⟩ := hrow.form
    obtain ⟨k1, k2⟩ := own_cap ho
    clear hrow
    have HPA := Lib.hid p1
    clear p1
    by_cases hlt : k < p.rc.length
    · have HS := Lib.hid (rcTo_succ p.rc s k hlt)
      obtain ⟨_, ⟨m1, m2⟩, m3, m4⟩ := HM.out k hlt
      have HQ : Hid (∀ f ∈ rcTo p.rc s k, -1000000000000 ≤ f.2 ∧ f.2 ≤ 1000000000000) := fun f hf => by have := p3 f hf; omega
      clear p3
      obtain ⟨b, o, rfl, hbl, hc0, hc1, hc2⟩ := receipt_at (HQ6.out.keep hb) hlt
      have hs := below_alloc wr (.cells #[.string p.rc[k].1, .int .i64 p.rc[k].2.1, .int .i64 p.rc[k].2.2] 154)
      have HA := below_on hb hs
      have ho2 := ho.keep hs
      have B2 := B0.keep hs
      clear hs
      cases heq : (p.rc[k].1.toList == s.toList)
      · have HE : Hid (rcStep s (rcTo p.rc s k) p.rc[k] = rcTo p.rc s k) := by show _ = _; unfold rcStep; rw [heq]; rfl
        go_wp2_with fail
        go_roundw
        case rel => exact ⟨k + 1, by omega, by go_num, by rw [HS.out, HE.out]; exact ho2.val, B2, HA⟩
        case measure => simp [intOf]; omega
      · have HE : Hid (rcStep s (rcTo p.rc s k) p.rc[k] = addS (rcTo p.rc s k) p.rc[k].2.1 p.rc[k].2.2) := by show _ = _; unfold rcStep; rw [heq]; rfl
        go_wp2_with fail
        refine (addFlow_any _ _ _ (rcTo p.rc s k) _ _ _ (ho2.rows (by omega)) (by omega) HQ.out (by omega)).mono ?_
        rintro e w3 ⟨A3, c3, rfl, ho3, hb3⟩
        rw [addI_eq _ _ _ HPA.out, ← HE.out, ← HS.out] at ho3
        rw [addI_eq _ _ _ HPA.out, ← HE.out, ← HS.out]
        go_wp2_with fail
        go_roundw
        case rel => exact ⟨k + 1, by omega, by go_num, (ho3.lower HA.size).val, B2.keep hb3, below_on HA hb3⟩
        case measure => simp [intOf]; omega
    · obtain rfl : k = p.rc.length := by omega
      have HY := Lib.hid (receiptFlows_yes (item := s) g)
      clear p3
      go_wp2_with fail
      go_ret
      rw [HY.out]
      exact oneRow_mk ho.val hb
end Go.Proofs.YtlnkofnfgemfdaaGreat
/- A cell of a row of numbers, with getD. -/
namespace Go.Proofs.YtlnkofnfgemfdaaGreat
open Go.RowKit
theorem getD_cell {l : List Int} {j : Nat} (h : j < l.length) : l.getD j 0 = l[j] := by rw [List.getD_eq_getElem?_getD, List.getElem?_eq_getElem h]; rfl
theorem NumRow.cellD {w : World} {lo g n c : Nat} {l : List Int} (h : NumRow w lo g n c l) {j : Nat} (hj : j < l.length) : w.cell? ⟨g, j, none⟩ = some (.int .i64 (l.getD j 0)) := by rw [getD_cell hj]; exact h.cell hj
end Go.Proofs.YtlnkofnfgemfdaaGreat
/- The walks of the hours of a day and of what machines can work on it. -/
namespace Go.Proofs.YtlnkofnfgemfdaaGreat
open Go.RowKit
set_option maxRecDepth 100000 in
set_option maxHeartbeats 4000000 in
theorem specL4Hours_any (A B : Option Addr) (n m c d : Nat) (wk : List Int) (ex : List Ex) (day : Nat) (w : World) (ha : IntsIn w A n wk) (hb : ExsIn w B m ex) (hc : isCal wk ex = true) (hd : day ≤ 999) :
    Calls Tryz.prog 107 #[.agg #[.slice A n c, .slice B m d], .int .i64 day] w fun e w' => e = .returned (.int .i64 (hoursTo wk ex day ex.length)) ∧ Below w.heap.size w w' := by
  have hn := ha.len
  have hm := hb.len
  obtain rfl := ha.1
  obtain rfl := hb.1
  have HC := Lib.hid hc
  clear hc
  have hwl : day % 7 < wk.length := by have := (isCal_parts HC.out).1; omega
  have hbox := below_alloc w (.cells #[.slice A wk.length c, .slice B ex.length d] 43)
  have g0 : (w.alloc (.cells #[.slice A wk.length c, .slice B ex.length d] 43)).cell? ⟨w.heap.size, 0, none⟩ = some (.slice A wk.length c) := by simp [go_sem]
  have g1 : (w.alloc (.cells #[.slice A wk.length c, .slice B ex.length d] 43)).cell? ⟨w.heap.size, 1, none⟩ = some (.slice B ex.length d) := by simp [go_sem]
  go_enter Tryz.func107, Tryz.ntmps107
  go_wp2_with fail
  generalize w.alloc (.cells #[.slice A wk.length c, .slice B ex.length d] 43) = w1 at *
  replace ha := ha.keep hbox
  replace hb := hb.keep hbox
  obtain ⟨ba, oa, rfl, _, hcw⟩ := ha.at_ hwl
  have HW : Hid (wk.getD (day % 7) 0 = wk[day % 7]) := by
    show wk.getD (day % 7) 0 = _
    rw [List.getD_eq_getElem?_getD, List.getElem?_eq_getElem hwl]; rfl
  go_loop [5] (fun i => ∃ k : Nat, k ≤ ex.length ∧ i = .int .i64 k ∧ Hid (∀ j < k, (ex.getD j exNone).1 ≠ day)) (fun i => ex.length - (intOf i).toNat)
  case atStart => exact ⟨0, by omega, rfl, fun j h => absurd h (by omega)⟩
  case round =>
    obtain ⟨k, hk, rfl, HI⟩ := hrel
    by_cases hlt : k < ex.length
    · obtain ⟨b, o, rfl, hbl, hc0, hc1⟩ := exc_at hb hlt
      have HG : Hid (ex.getD k exNone = ex[k]) := ex_getD _ _ hlt
      by_cases hq : ex[k].1 = day
      · have hqb : (ex[k].1 == (day : Int)) = true := by rw [hq]; simp
        have HQ := Lib.hid hq
        clear hq
        go_wp2
        go_ret
        exact ⟨ret_int (by rw [hoursTo_hit HC.out day k hlt (by rw [HG.out]; exact HQ.out), HG.out]), hbox⟩
      · have hqb : (ex[k].1 == (day : Int)) = false := by simpa using hq
        have HQ := Lib.hid hq
        clear hq
        go_wp2
        go_round
        case rel =>
          refine ⟨k + 1, by omega, by go_num, fun j hj => ?_⟩
          rcases Nat.lt_or_ge j k with h1 | h1
          · exact HI.out j h1
          · rw [show j = k by omega, HG.out]; exact HQ.out
        case measure => simp [intOf]; omega
    · obtain rfl : k = ex.length := by omega
      go_wp2
      go_ret
      exact ⟨ret_int (by rw [hoursTo_miss wk ex day _ HI.out, HW.out]), hbox⟩
set_option maxRecDepth 100000 in
set_option maxHeartbeats 4000000 in
theorem implHours_any (A B : Option Addr) (n m c d : Nat) (wk : List Int) (ex : List Ex) (w : World) (ha : IntsIn w A n wk) (hb : ExsIn w B m ex) (hc : isCal wk ex = true) :
    Calls Tryz.prog 151 #[.agg #[.slice A n c, .slice B m d]] w fun e w' => ∃ g, e = .returned (.slice (some ⟨g, 0, none⟩) 1000 1000) ∧ NumRow w' w.heap.size g 1000 1000 (hoursRow wk ex ex.length) ∧ Below w.heap.size w w' := by
  have hn := ha.len
  have hm := hb.len
  obtain rfl := ha.1
  obtain rfl := hb.1
  have HC := Lib.hid hc
  clear hc
  have hbox := below_alloc w (.cells #[.slice A wk.length c, .slice B ex.length d] 43)
  have hs1 : w.heap.size < (w.alloc (.cells #[.slice A wk.length c, .slice B ex.length d] 43)).heap.size := by simp
  have g0 : (w.alloc (.cells #[.slice A wk.length c, .slice B ex.length d] 43)).cell? ⟨w.heap.size, 0, none⟩ = some (.slice A wk.length c) := by simp [go_sem]
  have g1 : (w.alloc (.cells #[.slice A wk.length c, .slice B ex.length d] 43)).cell? ⟨w.heap.size, 1, none⟩ = some (.slice B ex.length d) := by simp [go_sem]
  go_enter Tryz.func151, Tryz.ntmps151
  go_wp2_with (at_make; refine wpList_make_nums rfl _ _ rfl w.heap.size 1000 rfl rfl rfl rfl (by omega) (by simp) ?_; intro w2 hA hA2 hA3)
  have hws : (w.alloc (.cells #[.slice A wk.length c, .slice B ex.length d] 43)).heap.size = w.heap.size + 1 := by simp
  generalize w.alloc (.cells #[.slice A wk.length c, .slice B ex.length d] 43) = w1 at *
  replace g0 := (hA2.cell (p := ⟨w.heap.size, 0, none⟩) hs1).trans g0
  replace g1 := (hA2.cell (p := ⟨w.heap.size, 1, none⟩) hs1).trans g1
  have hB := below_on hbox hA2
  rw [← weekRow_zero wk] at hA
  have hz2 : w1.heap.size ≤ w2.heap.size := hA2.size
  have hz3 : w.heap.size < w2.heap.size := by omega
  have hw1 : w.heap.size ≤ w1.heap.size := by omega
  have hne1 : ¬ w1.heap.size = w.heap.size := by omega
  have hne2 : ¬ w.heap.size = w1.heap.size := by omega
  clear hA2
  rw [hws] at hA hA3 hw1 hne1 hne2
  clear hws hz2 hA3 hs1
  generalize hgg : w.heap.size + 1 = gg at *
  clear hgg
  go_loopw [10] (fun i wr => ∃ k : Nat, k ≤ 1000 ∧ i = .int .i64 k ∧ NumRow wr w.heap.size gg 1000 1000 (weekRow wk k) ∧ wr.cell? ⟨w.heap.size, 0, none⟩ = some (.slice A wk.length c) ∧ wr.cell? ⟨w.heap.size, 1, none⟩ = some (.slice B ex.length d) ∧ Below w.heap.size w wr) (fun i _ => 1000 - (intOf i).toNat)
  case atStart => exact ⟨0, by omega, rfl, hA, g0, g1, hB⟩
  case round =>
    clear hA g0 g1 hB
    obtain ⟨k, hk, rfl, hA, g0, g1, HR⟩ := hrel
    by_cases hlt : k < 1000
    · have hwl : k % 7 < wk.length := by have := (isCal_parts HC.out).1; omega
      obtain ⟨ba, oa, rfl, _, hcw⟩ := (ha.keep HR).at_ hwl
      have HW : Hid (wk.getD (k % 7) 0 = wk[k % 7]) := by
        show wk.getD (k % 7) 0 = _
        rw [List.getD_eq_getElem?_getD, List.getElem?_eq_getElem hwl]; rfl
      have HN := Lib.hid (weekRow_next wk k hlt)
      have f1 := hA.frozen k
      have c1 := hA.cellD (j := k) (by rw [weekRow_len]; exact hlt)
      have hs := hA.set k wk[k % 7]
      rw [← HW.out, HN.out] at hs
      have HS : Hid (NumRow (wr.setCell ⟨gg, k, none⟩ (.int .i64 wk[k % 7])) w.heap.size gg 1000 1000 (weekRow wk (k + 1))) := by
        show NumRow _ _ _ _ _ _
        rw [← HW.out]; exact hs
      clear hs
      generalize (weekRow wk k).getD k 0 = old at *
      go_wp2
      go_roundw
      case rel => exact ⟨k + 1, by omega, by go_num, HS.out, by simp [go_sem, hne2, g0], by simp [go_sem, hne2, g1], HR.setCell (by exact hw1) _⟩
      case measure => simp [intOf]; omega
    · obtain rfl : k = 1000 := by omega
      rw [weekRow_all wk ex] at hA
      clear hlt hk
      go_wp2_with fail
      go_loopw [26] (fun i wr => ∃ k : Nat, k ≤ ex.length ∧ i = .int .i64 k ∧ NumRow wr w.heap.size gg 1000 1000 (hoursRow wk ex k) ∧ Below w.heap.size w wr) (fun i _ => ex.length - (intOf i).toNat)
      case atStart => exact ⟨0, by omega, rfl, hA, HR⟩
      case round =>
        clear hA HR g0 g1
        obtain ⟨k, hk, rfl, hA, HR⟩ := hrel
        by_cases hlt : k < ex.length
        · obtain ⟨b, o, rfl, hbl, hc0, hc1⟩ := exc_at (hb.keep HR) hlt
          obtain ⟨e1, e2, e3, e4, _⟩ := (isCal_parts HC.out).2.2.2 k hlt
          have HG := ex_getD _ _ hlt
          have HN := hoursRow_next wk ex k ex[k].1.toNat (by rw [HG] at e1 e2 ⊢; omega) (by rw [HG] at e1 e2; omega)
          rw [HG] at e1 e2 e3 e4 HN
          clear HG
          obtain ⟨y, hy⟩ : ∃ y : Nat, ex[k].1 = (y : Int) := ⟨ex[k].1.toNat, by omega⟩
          rw [hy] at hc0 HN e1 e2
          rw [Int.toNat_natCast] at HN
          have hy9 : y < 1000 := by omega
          have HY := Lib.hid hy
          clear hy
          have hsz : w.heap.size ≤ wr.heap.size := HR.size
          have hgl := (own_lt hA.2 _ rfl).2
          simp only at hgl
          have hA1 := hA.keep (below_alloc wr (.cells #[.int .i64 (y : Int), .int .i64 ex[k].2] 192))
          have f1 := hA1.frozen y
          have c1 := hA1.cellD (j := y) (by rw [hoursRow_len]; exact hy9)
          have hs := hA.set y ex[k].2
          rw [HN] at hs
          have hs2 := hs.keep (below_alloc _ (.cells #[.int .i64 (y : Int), .int .i64 ex[k].2] 192))
          have HS := Lib.hid hs2
          clear hs2
          clear hs HN
          generalize (hoursRow wk ex k).getD y 0 = old at *
          have hng : ¬ gg = wr.heap.size := by omega
          go_wp2
          go_roundw
          case rel => exact ⟨k + 1, by omega, by go_num, HS.out, (HR.setCell (p := ⟨gg, y, none⟩) hw1 _).alloc (by simp; exact hsz) _⟩
          case measure => simp [intOf]; omega
        · obtain rfl : k = ex.length := by omega
          go_wp2
          go_ret
          exact ⟨gg, rfl, hA, HR⟩
theorem minutesOn_no {wk : List Int} {ex : List (Int × Int)} {m day : Int} (h : inB m 0 20 = false) : minutesOn wk ex m day = 0 := by simp [minutesOn, h]
theorem minutesOn_yes {wk : List Int} {ex : List (Int × Int)} {m day : Int} (h : inB m 0 20 = true) : minutesOn wk ex m day = hoursOn wk ex day * 60 * m := by simp [minutesOn, h]
theorem minutesOn_bd (wk : List Int) (ex : List (Int × Int)) (m day : Int) : 0 ≤ minutesOn wk ex m day ∧ minutesOn wk ex m day ≤ 28800 := by
  cases h : inB m 0 20
  · rw [minutesOn_no h]; omega
  · rw [minutesOn_yes h]
    obtain ⟨m1, m2⟩ := inB_iff.1 h
    obtain ⟨h1, h2⟩ := hoursOn_bd wk ex day
    have h3 : 0 ≤ hoursOn wk ex day * 60 := by omega
    exact ⟨Int.mul_nonneg h3 m1, Int.le_trans (Int.mul_le_mul_of_nonneg_right (show hoursOn wk ex day * 60 ≤ 1440 by omega) m1) (Int.mul_le_mul_of_nonneg_left m2 (by decide))⟩
end Go.Proofs.YtlnkofnfgemfdaaGreat
