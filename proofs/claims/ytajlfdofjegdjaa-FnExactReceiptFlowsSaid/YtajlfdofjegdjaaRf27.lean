/- Part 27 of the texts of this claim: The walks of ReceiptFlows; The walks of the laws' marks on flows. -/
import Derived.Test.YtajlfdofjegdjaaRf23
import Derived.Test.YtajlfdofjegdjaaRf26
import Derived.Test.YtajlfdofjegdjaaRf24
import Derived.Test.YtajlfdofjegdjaaRf1
/- The walks of ReceiptFlows. -/
namespace Go.Proofs.Ytajlfdofjegdjaa
open Go.RowKit
theorem addS_days (l : List Fl) (d q : Int) (h : ∀ f ∈ l, 0 ≤ f.1 ∧ f.1 ≤ 999) (hd : 0 ≤ d ∧ d ≤ 999) : ∀ f ∈ addS l d q, 0 ≤ f.1 ∧ f.1 ≤ 999 := by
  induction l with
  | nil => intro f hf; simp [addS] at hf; rw [hf]; exact hd
  | cons g t ih =>
    have hg := h g List.mem_cons_self
    have ht := ih (fun f hf => h f (List.mem_cons_of_mem _ hf))
    intro f hf
    simp only [addS] at hf
    split at hf
    · rcases List.mem_cons.1 hf with rfl | hf
      · exact hg
      · exact ht f hf
    · split at hf
      · rcases List.mem_cons.1 hf with rfl | hf
        · exact hg
        · exact h f (List.mem_cons_of_mem _ hf)
      · rcases List.mem_cons.1 hf with rfl | hf
        · exact hd
        · exact h f hf
theorem addS_pos (l : List Fl) (d q : Int) (h : ∀ f ∈ l, 1 ≤ f.2) (hq : 1 ≤ q) : ∀ f ∈ addS l d q, 1 ≤ f.2 := by
  induction l with
  | nil => intro f hf; simp [addS] at hf; rw [hf]; exact hq
  | cons g t ih =>
    have hg := h g List.mem_cons_self
    have ht := ih (fun f hf => h f (List.mem_cons_of_mem _ hf))
    intro f hf
    simp only [addS] at hf
    split at hf
    · rcases List.mem_cons.1 hf with rfl | hf
      · exact hg
      · exact ht f hf
    · split at hf
      · rcases List.mem_cons.1 hf with rfl | hf
        · simp only; omega
        · exact h f (List.mem_cons_of_mem _ hf)
      · rcases List.mem_cons.1 hf with rfl | hf
        · exact hq
        · exact h f hf
def rcStep (item : ByteArray) (o : List Fl) (d : Rc) : List Fl := if d.1.toList == item.toList then addS o d.2.1 d.2.2 else o
def rcTo (l : List Rc) (item : ByteArray) (k : Nat) : List Fl := (l.take k).foldl (rcStep item) []
theorem rcTo_succ (l : List Rc) (item : ByteArray) (k : Nat) (h : k < l.length) : rcTo l item (k + 1) = rcStep item (rcTo l item k) l[k] := foldl_take _ _ _ _ h
theorem rcTo_parts (p : Pt) (item : ByteArray) (h : isPlant p = true) (k : Nat) (hk : k ≤ p.rc.length) : ascends (rcTo p.rc item k) ∧ (rcTo p.rc item k).length ≤ k ∧ ∀ f ∈ rcTo p.rc item k, (0 ≤ f.1 ∧ f.1 ≤ 999) ∧ 1 ≤ f.2 ∧ f.2 ≤ 100000 * k := by
  induction k with
  | zero => exact ⟨fun i j hj => by simp [rcTo] at hj, by simp [rcTo], fun f hf => by simp [rcTo] at hf⟩
  | succ k ih =>
    obtain ⟨h1, h2, h3⟩ := ih (by omega)
    obtain ⟨_, hm, hd⟩ := (isPlant_parts h).2.2.2.2.2 k (by omega)
    rw [rcTo_succ p.rc item k (by omega)]
    unfold rcStep
    split
    · refine ⟨addS_ascends _ _ _ h1, by have := addS_len (rcTo p.rc item k) p.rc[k].2.1 p.rc[k].2.2; omega, fun f hf => ?_⟩
      have hb := addS_bd (rcTo p.rc item k) p.rc[k].2.1 p.rc[k].2.2 0 (100000 * k) 0 100000 (fun f hf => by have := h3 f hf; omega) (by omega) (by omega) (by omega) (by omega) (by omega) f hf
      have hp1 := addS_pos (rcTo p.rc item k) p.rc[k].2.1 p.rc[k].2.2 (fun f hf => (h3 f hf).2.1) (by omega) f hf
      have hdd := addS_days (rcTo p.rc item k) p.rc[k].2.1 p.rc[k].2.2 (fun f hf => (h3 f hf).1) hd f hf
      exact ⟨hdd, by omega, by omega⟩
    · exact ⟨h1, by omega, fun f hf => by have := h3 f hf; omega⟩
def receiptFlows (p : Pt) (item : ByteArray) : List Fl := if isPlant p = true then rcTo p.rc item p.rc.length else []
theorem receiptFlows_no {p : Pt} {item : ByteArray} (h : isPlant p = false) : receiptFlows p item = [] := by unfold receiptFlows; rw [if_neg (by rw [h]; decide)]
theorem receiptFlows_yes {p : Pt} {item : ByteArray} (h : isPlant p = true) : receiptFlows p item = rcTo p.rc item p.rc.length := by unfold receiptFlows; rw [if_pos h]
theorem receiptFlows_len (p : Pt) (item : ByteArray) : (receiptFlows p item).length ≤ 16 := by
  cases h : isPlant p
  · rw [receiptFlows_no h]; simp
  · rw [receiptFlows_yes h]
    have := (rcTo_parts p item h p.rc.length (Nat.le_refl _)).2.1
    have := (isPlant_parts h).2.2.2.1
    omega
set_option maxRecDepth 100000 in
set_option maxHeartbeats 4000000 in
theorem specReceiptFlows_any (r : PtR) (p : Pt) (s : ByteArray) (w : World) (hp : PlantIn w r p) (hok : okPt p) (_hs : s.size ≤ 9223372036854775807) :
    Calls Try.prog 20 #[.agg #[.slice r.i.a r.i.n r.i.c, .slice r.l.a r.l.n r.l.c, .slice r.w.a r.w.n r.w.c, .slice r.e.a r.e.n r.e.c, .slice r.p.a r.p.n r.p.c, .slice r.s.a r.s.n r.s.c, .slice r.q.a r.q.n r.q.c], .string s] w (OneRow w (receiptFlows p s)) := by
  obtain ⟨⟨a0, n0, c0⟩, ⟨a1, n1, c1⟩, ⟨a2, n2, c2⟩, ⟨a3, n3, c3⟩, ⟨a4, n4, c4⟩, ⟨a5, n5, c5⟩, ⟨a6, n6, c6⟩⟩ := r
  have HNS := Lib.hid hp.st.1
  have HNR := Lib.hid hp.rc.1
  dsimp only at HNS HNR ⊢
  obtain rfl := HNS.out
  obtain rfl := HNR.out
  clear HNS HNR
  have hls := hp.st.len
  have hlr := hp.rc.len
  have HP := Lib.hid hp
  have HQ5 := Lib.hid hp.st
  have HQ6 := Lib.hid hp.rc
  have HQ0 := Lib.hid hp.it
  dsimp only at HQ5 HQ6 HQ0
  have HO := Lib.hid hok
  clear hp hok
  have hb0 := below_alloc w (.cells #[.slice a0 n0 c0, .slice a1 n1 c1, .slice a2 n2 c2, .slice a3 n3 c3, .slice a4 n4 c4, .slice a5 p.st.length c5, .slice a6 p.rc.length c6] 44)
  have hb : Below w.heap.size w ((w.alloc (.cells #[.slice a0 n0 c0, .slice a1 n1 c1, .slice a2 n2 c2, .slice a3 n3 c3, .slice a4 n4 c4, .slice a5 p.st.length c5, .slice a6 p.rc.length c6] 44)).alloc (.cells #[] 70)) := below_on hb0 (below_alloc _ _)
  have B0 : BoxOf ((w.alloc (.cells #[.slice a0 n0 c0, .slice a1 n1 c1, .slice a2 n2 c2, .slice a3 n3 c3, .slice a4 n4 c4, .slice a5 p.st.length c5, .slice a6 p.rc.length c6] 44)).alloc (.cells #[] 70)) w.heap.size [.slice a0 n0 c0, .slice a1 n1 c1, .slice a2 n2 c2, .slice a3 n3 c3, .slice a4 n4 c4, .slice a5 p.st.length c5, .slice a6 p.rc.length c6] := (boxOf_alloc w #[.slice a0 n0 c0, .slice a1 n1 c1, .slice a2 n2 c2, .slice a3 n3 c3, .slice a4 n4 c4, .slice a5 p.st.length c5, .slice a6 p.rc.length c6] 44).keep (below_alloc _ _)
  have hr : RowVal flF 70 ((w.alloc (.cells #[.slice a0 n0 c0, .slice a1 n1 c1, .slice a2 n2 c2, .slice a3 n3 c3, .slice a4 n4 c4, .slice a5 p.st.length c5, .slice a6 p.rc.length c6] 44)).alloc (.cells #[] 70)) w.heap.size (.slice (some ⟨w.heap.size + 1, 0, none⟩) 0 0) [] := empty_row (by simp) hb0.size
  clear hb0
  cases g : isPlant p
  · have HN : Hid (receiptFlows p s = []) := receiptFlows_no g
    by_cases h0 : 0 < p.rc.length
    · go_enter Try.func20, Try.ntmps20
      go_wp2_with fail
      generalize ((w.alloc (.cells #[.slice a0 n0 c0, .slice a1 n1 c1, .slice a2 n2 c2, .slice a3 n3 c3, .slice a4 n4 c4, .slice a5 p.st.length c5, .slice a6 p.rc.length c6] 44)).alloc (.cells #[] 70)) = V at *
      refine wp_loop_rounds 1 ?_
      rw [rounds_succ]
      obtain ⟨b0, b1, b2, b3, b4, b5, b6, bl⟩ := B0.seven
      go_wp2_with fail
      clear b0 b1 b2 b3 b4 b5 b6 bl
      refine (specIsPlant_any ⟨⟨a0, n0, c0⟩, ⟨a1, n1, c1⟩, ⟨a2, n2, c2⟩, ⟨a3, n3, c3⟩, ⟨a4, n4, c4⟩, ⟨a5, p.st.length, c5⟩, ⟨a6, p.rc.length, c6⟩⟩ p _ (HP.out.keep hb) HO.out).mono ?_
      rintro e V1 ⟨rfl, hs⟩
      rw [g]
      replace hb := below_on hb hs
      replace B0 := B0.keep hs
      replace hr := hr.keep hs
      clear hs
      go_wp2_with fail
      go_ret
      rw [HN.out]
      exact oneRow_mk hr hb
    · have hz : ¬ ((0 : Int) < (p.rc.length : Int)) := by omega
      go_enter Try.func20, Try.ntmps20
      go_wp2_with fail
      generalize ((w.alloc (.cells #[.slice a0 n0 c0, .slice a1 n1 c1, .slice a2 n2 c2, .slice a3 n3 c3, .slice a4 n4 c4, .slice a5 p.st.length c5, .slice a6 p.rc.length c6] 44)).alloc (.cells #[] 70)) = V at *
      refine wp_loop_rounds 1 ?_
      rw [rounds_succ]
      obtain ⟨b0, b1, b2, b3, b4, b5, b6, bl⟩ := B0.seven
      go_wp2_with fail
      go_ret
      rw [HN.out]
      exact oneRow_mk hr hb
  have HPR := Lib.hid (rcTo_parts p s g)
  have HM := Lib.hid (isPlant_parts g).2.2.2.2.2
  have hl16 := (isPlant_parts g).2.2.2.1
  go_enter Try.func20, Try.ntmps20
  go_wp2_with fail
  generalize ((w.alloc (.cells #[.slice a0 n0 c0, .slice a1 n1 c1, .slice a2 n2 c2, .slice a3 n3 c3, .slice a4 n4 c4, .slice a5 p.st.length c5, .slice a6 p.rc.length c6] 44)).alloc (.cells #[] 70)) = V at *
  go_loopw [5, 6] (fun v i wr => ∃ k : Nat, k ≤ p.rc.length ∧ i = .int .i64 k ∧ RowVal flF 70 wr w.heap.size v (rcTo p.rc s k) ∧ BoxOf wr w.heap.size [.slice a0 n0 c0, .slice a1 n1 c1, .slice a2 n2 c2, .slice a3 n3 c3, .slice a4 n4 c4, .slice a5 p.st.length c5, .slice a6 p.rc.length c6] ∧ Below w.heap.size w wr) (fun _ i _ => p.rc.length - (intOf i).toNat)
  case atStart => exact ⟨0, by omega, rfl, hr, B0, hb⟩
  case round =>
    clear hr B0 hb
    obtain ⟨k, hk, rfl, hrow, B0, hb⟩ := hrel
    obtain ⟨p1, p2, p3⟩ := HPR.out k hk
    obtain ⟨A2, c9, rfl, ho⟩ := hrow.form
    obtain ⟨k1, k2⟩ := own_cap ho
    clear hrow
    have HPA := Lib.hid p1
    clear p1
    by_cases hlt : k < p.rc.length
    · have HS := Lib.hid (rcTo_succ p.rc s k hlt)
      obtain ⟨_, ⟨m1, m2⟩, m3, m4⟩ := HM.out k hlt
      have HQ : Hid (∀ f ∈ rcTo p.rc s k, -1000000000000 ≤ f.2 ∧ f.2 ≤ 1000000000000) := fun f hf => by have := p3 f hf; omega
      clear p3
      obtain ⟨b0, b1, b2, b3, b4, b5, b6, bl⟩ := B0.seven
      go_wp2_with fail
      clear b0 b1 b2 b3 b4 b5 b6 bl
      refine (specIsPlant_any ⟨⟨a0, n0, c0⟩, ⟨a1, n1, c1⟩, ⟨a2, n2, c2⟩, ⟨a3, n3, c3⟩, ⟨a4, n4, c4⟩, ⟨a5, p.st.length, c5⟩, ⟨a6, p.rc.length, c6⟩⟩ p _ (HP.out.keep hb) HO.out).mono ?_
      rintro e V1 ⟨rfl, hs⟩
      rw [g]
      replace hb := below_on hb hs
      replace B0 := B0.keep hs
      replace ho := ho.keep hs
      clear hs
      obtain ⟨b, o, rfl, hbl, hc0, hc1, hc2⟩ := receipt_at (HQ6.out.keep hb) hlt
      obtain ⟨b0, b1, b2, b3, b4, b5, b6, bl⟩ := B0.seven
      cases heq : (p.rc[k].1.toList == s.toList)
      · have HE : Hid (rcStep s (rcTo p.rc s k) p.rc[k] = rcTo p.rc s k) := by show _ = _; unfold rcStep; rw [heq]; rfl
        go_wp2_with fail
        go_roundw
        case rel => exact ⟨k + 1, by omega, by go_num, by rw [HS.out, HE.out]; exact ho.val, B0, hb⟩
        case measure => simp [intOf]; omega
      · have HE : Hid (rcStep s (rcTo p.rc s k) p.rc[k] = addS (rcTo p.rc s k) p.rc[k].2.1 p.rc[k].2.2) := by show _ = _; unfold rcStep; rw [heq]; rfl
        go_wp2_with fail
        go_still_tail 13, (by kernel_rfl)
        change wpList _ _ _ _ _ V1.drew
        have HE2 : Below w.heap.size w V1.drew := hb.drew
        have ho2 : OwnRows flF 70 V1.drew w.heap.size A2 (rcTo p.rc s k).length c9 (rcTo p.rc s k) := ho
        have B2 := B0.keep (Below.refl V1.heap.size V1).drew
        clear ho hb hc0 hc1 hc2 B0 b0 b1 b2 b3 b4 b5 b6 bl
        generalize V1.drew = w2 at *
        go_wp2_with fail
        refine (l14Add_any _ _ _ (rcTo p.rc s k) _ _ _ (ho2.rows (by omega)) k1 (by unfold maxLen at k2; omega) (by omega) HQ.out (by omega)).mono ?_
        rintro e w3 ⟨A3, c3, rfl, ho3, hb3⟩
        rw [← HE.out, ← HS.out] at ho3
        rw [← HE.out, ← HS.out]
        go_wp2_with fail
        go_roundw
        case rel => exact ⟨k + 1, by omega, by go_num, (ho3.lower HE2.size).val, B2.keep hb3, below_on HE2 hb3⟩
        case measure => simp [intOf]; omega
    · obtain rfl : k = p.rc.length := by omega
      have HY := Lib.hid (receiptFlows_yes (item := s) g)
      clear p3
      obtain ⟨b0, b1, b2, b3, b4, b5, b6, bl⟩ := B0.seven
      go_wp2_with fail
      go_ret
      rw [HY.out]
      exact oneRow_mk ho.val hb
set_option maxRecDepth 100000 in
set_option maxHeartbeats 4000000 in
theorem implReceiptFlows_any (r : PtR) (p : Pt) (s : ByteArray) (w : World) (hp : PlantIn w r p) (hok : okPt p) (_hs : s.size ≤ 9223372036854775807) :
    Calls Try.prog 30 #[.agg #[.slice r.i.a r.i.n r.i.c, .slice r.l.a r.l.n r.l.c, .slice r.w.a r.w.n r.w.c, .slice r.e.a r.e.n r.e.c, .slice r.p.a r.p.n r.p.c, .slice r.s.a r.s.n r.s.c, .slice r.q.a r.q.n r.q.c], .string s] w (OneRow w (receiptFlows p s)) := by
  obtain ⟨⟨a0, n0, c0⟩, ⟨a1, n1, c1⟩, ⟨a2, n2, c2⟩, ⟨a3, n3, c3⟩, ⟨a4, n4, c4⟩, ⟨a5, n5, c5⟩, ⟨a6, n6, c6⟩⟩ := r
  have HNS := Lib.hid hp.st.1
  have HNR := Lib.hid hp.rc.1
  dsimp only at HNS HNR ⊢
  obtain rfl := HNS.out
  obtain rfl := HNR.out
  clear HNS HNR
  have hls := hp.st.len
  have hlr := hp.rc.len
  have HP := Lib.hid hp
  have HQ5 := Lib.hid hp.st
  have HQ6 := Lib.hid hp.rc
  have HQ0 := Lib.hid hp.it
  dsimp only at HQ5 HQ6 HQ0
  have HO := Lib.hid hok
  clear hp hok
  have hb0 := below_alloc w (.cells #[.slice a0 n0 c0, .slice a1 n1 c1, .slice a2 n2 c2, .slice a3 n3 c3, .slice a4 n4 c4, .slice a5 p.st.length c5, .slice a6 p.rc.length c6] 44)
  have hb : Below w.heap.size w ((w.alloc (.cells #[.slice a0 n0 c0, .slice a1 n1 c1, .slice a2 n2 c2, .slice a3 n3 c3, .slice a4 n4 c4, .slice a5 p.st.length c5, .slice a6 p.rc.length c6] 44)).alloc (.cells #[] 70)) := below_on hb0 (below_alloc _ _)
  have B0 : BoxOf ((w.alloc (.cells #[.slice a0 n0 c0, .slice a1 n1 c1, .slice a2 n2 c2, .slice a3 n3 c3, .slice a4 n4 c4, .slice a5 p.st.length c5, .slice a6 p.rc.length c6] 44)).alloc (.cells #[] 70)) w.heap.size [.slice a0 n0 c0, .slice a1 n1 c1, .slice a2 n2 c2, .slice a3 n3 c3, .slice a4 n4 c4, .slice a5 p.st.length c5, .slice a6 p.rc.length c6] := (boxOf_alloc w #[.slice a0 n0 c0, .slice a1 n1 c1, .slice a2 n2 c2, .slice a3 n3 c3, .slice a4 n4 c4, .slice a5 p.st.length c5, .slice a6 p.rc.length c6] 44).keep (below_alloc _ _)
  have hr : RowVal flF 70 ((w.alloc (.cells #[.slice a0 n0 c0, .slice a1 n1 c1, .slice a2 n2 c2, .slice a3 n3 c3, .slice a4 n4 c4, .slice a5 p.st.length c5, .slice a6 p.rc.length c6] 44)).alloc (.cells #[] 70)) w.heap.size (.slice (some ⟨w.heap.size + 1, 0, none⟩) 0 0) [] := empty_row (by simp) hb0.size
  clear hb0
  cases g : isPlant p
  · have HN : Hid (receiptFlows p s = []) := receiptFlows_no g
    go_enter Try.func30, Try.ntmps30
    go_wp2_with fail
    generalize ((w.alloc (.cells #[.slice a0 n0 c0, .slice a1 n1 c1, .slice a2 n2 c2, .slice a3 n3 c3, .slice a4 n4 c4, .slice a5 p.st.length c5, .slice a6 p.rc.length c6] 44)).alloc (.cells #[] 70)) = V at *
    refine (implIsPlant_any ⟨⟨a0, n0, c0⟩, ⟨a1, n1, c1⟩, ⟨a2, n2, c2⟩, ⟨a3, n3, c3⟩, ⟨a4, n4, c4⟩, ⟨a5, p.st.length, c5⟩, ⟨a6, p.rc.length, c6⟩⟩ p _ (HP.out.keep hb) HO.out).mono ?_
    rintro e V1 ⟨rfl, hs⟩
    rw [g]
    replace hb := below_on hb hs
    replace B0 := B0.keep hs
    replace hr := hr.keep hs
    clear hs
    go_wp2_with fail
    go_ret
    rw [HN.out]
    exact oneRow_mk hr hb
  have HPR := Lib.hid (rcTo_parts p s g)
  have HM := Lib.hid (isPlant_parts g).2.2.2.2.2
  have hl16 := (isPlant_parts g).2.2.2.1
  go_enter Try.func30, Try.ntmps30
  go_wp2_with fail
  generalize ((w.alloc (.cells #[.slice a0 n0 c0, .slice a1 n1 c1, .slice a2 n2 c2, .slice a3 n3 c3, .slice a4 n4 c4, .slice a5 p.st.length c5, .slice a6 p.rc.length c6] 44)).alloc (.cells #[] 70)) = V at *
  refine (implIsPlant_any ⟨⟨a0, n0, c0⟩, ⟨a1, n1, c1⟩, ⟨a2, n2, c2⟩, ⟨a3, n3, c3⟩, ⟨a4, n4, c4⟩, ⟨a5, p.st.length, c5⟩, ⟨a6, p.rc.length, c6⟩⟩ p _ (HP.out.keep hb) HO.out).mono ?_
  rintro e V1 ⟨rfl, hs⟩
  rw [g]
  replace hb := below_on hb hs
  replace B0 := B0.keep hs
  replace hr := hr.keep hs
  clear hs
  obtain ⟨b0, b1, b2, b3, b4, b5, b6, bl⟩ := B0.seven
  go_wp2_with fail
  clear b0 b1 b2 b3 b4 b5 b6 bl
  go_loopw [5, 16] (fun v i wr => ∃ k : Nat, k ≤ p.rc.length ∧ i = .int .i64 k ∧ RowVal flF 70 wr w.heap.size v (rcTo p.rc s k) ∧ BoxOf wr w.heap.size [.slice a0 n0 c0, .slice a1 n1 c1, .slice a2 n2 c2, .slice a3 n3 c3, .slice a4 n4 c4, .slice a5 p.st.length c5, .slice a6 p.rc.length c6] ∧ Below w.heap.size w wr) (fun _ i _ => p.rc.length - (intOf i).toNat)
  case atStart => exact ⟨0, by omega, rfl, hr, B0, hb⟩
  case round =>
    clear hr B0 hb
    obtain ⟨k, hk, rfl, hrow, B0, hb⟩ := hrel
    obtain ⟨p1, p2, p3⟩ := HPR.out k hk
    obtain ⟨A2, c9, rfl, ho⟩ := hrow.form
    obtain ⟨k1, k2⟩ := own_cap ho
    clear hrow
    have HPA := Lib.hid p1
    clear p1
    by_cases hlt : k < p.rc.length
    · have HS := Lib.hid (rcTo_succ p.rc s k hlt)
      obtain ⟨_, ⟨m1, m2⟩, m3, m4⟩ := HM.out k hlt
      have HQ : Hid (∀ f ∈ rcTo p.rc s k, -1000000000000 ≤ f.2 ∧ f.2 ≤ 1000000000000) := fun f hf => by have := p3 f hf; omega
      clear p3
      obtain ⟨b, o, rfl, hbl, hc0, hc1, hc2⟩ := receipt_at (HQ6.out.keep hb) hlt
      have hs := below_alloc wr (.cells #[.string p.rc[k].1, .int .i64 p.rc[k].2.1, .int .i64 p.rc[k].2.2] 93)
      have HA := below_on hb hs
      have ho2 := ho.keep hs
      have B2 := B0.keep hs
      clear hs
      cases heq : (p.rc[k].1.toList == s.toList)
      · have HE : Hid (rcStep s (rcTo p.rc s k) p.rc[k] = rcTo p.rc s k) := by show _ = _; unfold rcStep; rw [heq]; rfl
        go_wp2_with fail
        go_roundw
        case rel => exact ⟨k + 1, by omega, by go_num, by rw [HS.out, HE.out]; exact ho2.val, B2, HA⟩
        case measure => simp [intOf]; omega
      · have HE : Hid (rcStep s (rcTo p.rc s k) p.rc[k] = addS (rcTo p.rc s k) p.rc[k].2.1 p.rc[k].2.2) := by show _ = _; unfold rcStep; rw [heq]; rfl
        go_wp2_with fail
        refine (addFlow_any _ _ _ (rcTo p.rc s k) _ _ _ (ho2.rows (by omega)) (by omega) HQ.out (by omega)).mono ?_
        rintro e w3 ⟨A3, c3, rfl, ho3, hb3⟩
        rw [addI_eq _ _ _ HPA.out, ← HE.out, ← HS.out] at ho3
        rw [addI_eq _ _ _ HPA.out, ← HE.out, ← HS.out]
        go_wp2_with fail
        go_roundw
        case rel => exact ⟨k + 1, by omega, by go_num, (ho3.lower HA.size).val, B2.keep hb3, below_on HA hb3⟩
        case measure => simp [intOf]; omega
    · obtain rfl : k = p.rc.length := by omega
      have HY := Lib.hid (receiptFlows_yes (item := s) g)
      clear p3
      go_wp2_with fail
      go_ret
      rw [HY.out]
      exact oneRow_mk ho.val hb
end Go.Proofs.Ytajlfdofjegdjaa
/- The walks of the laws' marks on flows. -/
namespace Go.Proofs.Ytajlfdofjegdjaa
open Go.RowKit
/-- What the marks from k on make of a list of flows. -/
def marksFl : List Fl → Int → List Fl
  | [], _ => []
  | _ :: t, k => (k, k + 1) :: marksFl t (k + 2)
theorem marksFl_len (l : List Fl) (k : Int) : (marksFl l k).length = l.length := by
  induction l generalizing k with
  | nil => rfl
  | cons f t ih => simp [marksFl, ih]
theorem marksFl_at (l : List Fl) (k : Int) (j : Nat) (h : j < (marksFl l k).length) : (marksFl l k)[j] = (k + 2 * j, k + 2 * j + 1) := by
  induction l generalizing k j with
  | nil => simp [marksFl] at h
  | cons f t ih =>
    cases j with
    | zero => simp [marksFl]
    | succ j =>
      simp only [marksFl, List.getElem_cons_succ]
      rw [ih]
      simp only [Prod.mk.injEq]
      omega
set_option maxRecDepth 100000 in
set_option maxHeartbeats 1000000 in
theorem markFlowS_any (A : Option Addr) (n c lo hi : Nat) (l : List Fl) (k0 : Int) (w : World) (ha : RowsAt flF 70 w lo hi A n c l) (hk0 : 0 ≤ k0) (hk1 : k0 ≤ 1000000000) (hn : l.length ≤ 16777216) :
    Calls Try.prog 33 #[.slice A n c, .int .i64 k0] w fun e w' => e = .returned (.int .i64 (k0 + 2 * l.length)) ∧ RowsAt flF 70 w' lo hi A n c (marksFl l k0) ∧ Only lo hi w w' := by
  obtain rfl := ha.1
  have hml := marksFl_len l k0
  have hlen : (l.flatMap flF.enc).length = l.length * 2 := flatMap_len flF.enc 2 flF.len l
  have hlen2 : ((marksFl l k0).flatMap flF.enc).length = l.length * 2 := by rw [flatMap_len flF.enc 2 flF.len, hml]
  have HZ := Lib.hid (hlen.trans hlen2.symm)
  have HL := Lib.hid hlen2
  have HM := Lib.hid hml
  clear hml hlen hlen2
  obtain ⟨_, ⟨hown, hhi, hlt⟩⟩ := ha
  have HT := Lib.hid hlt
  clear hlt
  go_enter Try.func33, Try.ntmps33
  go_wp2
  go_loopw [1, 5] (fun m i wr => ∃ k : Nat, k ≤ l.length ∧ i = .int .i64 k ∧ m = .int .i64 (k0 + 2 * k) ∧ wr.ownsRow lo 70 2 (.slice A l.length c) l.length (fillC (l.flatMap flF.enc) ((marksFl l k0).flatMap flF.enc) (k * 2)) ∧ Only lo hi w wr) (fun _ i _ => l.length - (intOf i).toNat)
  case atStart => exact ⟨0, by omega, rfl, by go_num, by rw [Nat.zero_mul, fillC_zero]; exact hown, Only.refl _ _ _⟩
  case round =>
    obtain ⟨k, hk, rfl, rfl, ho, HO⟩ := hrel
    by_cases hlt : k < l.length
    · have hA : ∃ g, A = some ⟨g, 0, none⟩ := by
        rcases ho.2 with ⟨hv, h0⟩ | ⟨g, cap, cur, hv, _⟩
        · omega
        · exact ⟨g, by injection hv⟩
      obtain ⟨g, rfl⟩ := hA
      have hm : k < (marksFl l k0).length := by rw [HM.out]; exact hlt
      have e1 : ((marksFl l k0).flatMap flF.enc)[k * 2]? = some (.int .i64 (k0 + 2 * k)) := by
        rw [show k * 2 = k * 2 + 0 from rfl, flatMap_at flF.enc 2 flF.len _ k 0 hm (by omega), marksFl_at _ _ _ hm]; rfl
      have e2 : ((marksFl l k0).flatMap flF.enc)[k * 2 + 1]? = some (.int .i64 (k0 + 2 * k + 1)) := by
        rw [flatMap_at flF.enc 2 flF.len _ k 1 hm (by omega), marksFl_at _ _ _ hm]; rfl
      obtain ⟨u1, c1, f1⟩ := own_cell ho (k * 2) (by omega)
      obtain ⟨u2, c2, f2⟩ := own_cell ho (k * 2 + 1) (by omega)
      have s1 := (ho.stored (k * 2) (.int .i64 (k0 + 2 * k)))
      rw [fillC_set _ _ _ _ e1 HZ.out] at s1
      have s2 := (s1.1.stored (k * 2 + 1) (.int .i64 (k0 + 2 * k + 1)))
      rw [fillC_set _ _ _ _ e2 HZ.out] at s2
      have hgl : lo ≤ g ∧ g < hi := ⟨(own_lt ho _ rfl).1, HT.out _ rfl⟩
      have HO2 : Only lo hi w _ := (HO.trans (Only.of_grown s1.2 (fun x hx => by injection hx with hx; subst hx; exact hgl))).trans (Only.of_grown s2.2 (fun x hx => by injection hx with hx; subst hx; exact hgl))
      have S2 := Lib.hid s2.1
      clear e1 e2 s1 s2 ho
      go_wp2
      go_roundw
      case rel => exact ⟨k + 1, by omega, by go_num, by go_num, by rw [show (k + 1) * 2 = k * 2 + 1 + 1 by omega]; exact S2.out, HO2⟩
      case measure => simp [intOf]; omega
    · obtain rfl : k = l.length := by omega
      go_wp2
      go_ret
      rw [← HL.out, fillC_all _ _ HZ.out] at ho
      exact ⟨rfl, ⟨HM.out.symm, ho, Nat.le_trans hhi HO.size, HT.out⟩, HO⟩
set_option maxRecDepth 100000 in
set_option maxHeartbeats 1000000 in
theorem heldFlowS_any (A : Option Addr) (n c : Nat) (l : List Fl) (k0 : Int) (w : World) (ha : FlowsIn w A n (marksFl l k0)) (hk0 : 0 ≤ k0) (hk1 : k0 ≤ 1000000000) :
    Calls Try.prog 34 #[.slice A n c, .int .i64 k0] w fun e w' => e = .returned (.int .i64 (k0 + 2 * l.length)) ∧ w = w' := by
  have hn := ha.len
  rw [marksFl_len] at hn
  have HM := Lib.hid (marksFl_len l k0)
  obtain rfl : n = l.length := ha.1.trans HM.out
  go_enter Try.func34, Try.ntmps34
  go_wp2
  go_loop [1, 5] (fun m i => ∃ k : Nat, k ≤ l.length ∧ i = .int .i64 k ∧ m = .int .i64 (k0 + 2 * k)) (fun _ i => l.length - (intOf i).toNat)
  case atStart => exact ⟨0, by omega, rfl, by go_num⟩
  case round =>
    obtain ⟨k, hk, rfl, rfl⟩ := hrel
    by_cases hlt : k < l.length
    · have hm : k < (marksFl l k0).length := by rw [HM.out]; exact hlt
      obtain ⟨b, o, rfl, _, hc1, hc2⟩ := flow_at ha hm
      rw [marksFl_at _ _ _ hm] at hc1 hc2
      dsimp only at hc1 hc2
      clear hm
      go_wp2
      go_round
      case rel => exact ⟨k + 1, by omega, by go_num, by go_num⟩
      case measure => simp [intOf]; omega
    · obtain rfl : k = l.length := by omega
      go_wp2
      go_ret
      exact ⟨rfl, rfl⟩
end Go.Proofs.Ytajlfdofjegdjaa
