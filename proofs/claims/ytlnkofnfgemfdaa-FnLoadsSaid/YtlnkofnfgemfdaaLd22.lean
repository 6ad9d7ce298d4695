/- Part 22 of the texts of this claim: The walk of the law FnLoads: for every input it returns true, and no memory that was there is written; Bytes that came in. -/
import Derived.Test.YtlnkofnfgemfdaaLd13
import Derived.Test.YtlnkofnfgemfdaaLd16
import Derived.Test.YtlnkofnfgemfdaaLd15
import Derived.Test.YtlnkofnfgemfdaaLd21
import Derived.Test.YtlnkofnfgemfdaaLd6
/- The walk of the law FnLoads: for every input it returns true, and no memory that was there is written. -/
namespace Go.Proofs.Ytlnkofnfgemfdaa
open Go.RowKit
theorem okLt_steps (o : Pl) (st : List Sp) (s : List Ld) (h : ∀ y ∈ st, okSp y) (hd : 0 ≤ o.2.2.1 ∧ o.2.2.1 ≤ 999) (hs : okLt s) : okLt (st.foldl (loadsOne o) s) := by
  induction st generalizing s with
  | nil => exact hs
  | cons y t ih =>
    rw [List.foldl_cons]
    exact ih _ (fun z hz => h z (List.mem_cons_of_mem _ hz)) (okLt_add hs (h y List.mem_cons_self) hd _)
theorem loadsTo_okLt {r : List Rt} {l : List Pl} (hr : areRoutings r = true) (hok : ∀ x ∈ r, okRt x) (hl : l.all okPl1 = true) (k : Nat) : okLt (loadsTo r l k) := by
  induction k with
  | zero => exact okLt_nil
  | succ k ih =>
    by_cases hk : k < l.length
    · rw [loadsTo_succ r l k hk]
      unfold loadsPl
      have h2 := List.all_eq_true.1 hl _ (List.getElem_mem hk)
      unfold okPl1 at h2
      simp only [Bool.and_eq_true] at h2
      refine okLt_steps _ _ _ (fun y hy => ?_) (inB_iff.1 h2.2) ih
      unfold stepsOf at hy
      split at hy
      · next hf =>
        have hb := findRt_bd r l[k].1
        have hq : (findRt r l[k].1).toNat < r.length := by omega
        rw [rt_getD _ _ hq] at hy
        exact (hok _ (List.getElem_mem hq)).2 y hy
      · simp at hy
    · rw [loadsTo_over r l (k + 1) (by omega), ← loadsTo_over r l k (by omega)]; exact ih
theorem sortedL_step {S : List Ld} (h : SortedL S) {k : Nat} (hk : k + 1 < S.length) : ltK (S[k]'(by omega)).1 (S[k]'(by omega)).2.1 S[k + 1].1 S[k + 1].2.1 = true := List.pairwise_iff_getElem.1 h k (k + 1) (by omega) hk (by omega)
theorem bl_asymm (x y : List UInt8) (h : Op.bytesLess x y = true) : Op.bytesLess y x = false := by
  cases h2 : Op.bytesLess y x
  · rfl
  · have := bl_trans x y x h h2; rw [bl_irrefl] at this; cases this
/-- What the law's test of order reads in sorted loads. -/
theorem ltK_read {c c' : ByteArray} {d d' : Int} (h : ltK c d c' d' = true) : (Op.bytesLess c.toList c'.toList = true ∧ (c.toList == c'.toList) = false) ∨ (Op.bytesLess c.toList c'.toList = false ∧ (c.toList == c'.toList) = true ∧ d < d') := by
  unfold ltK at h
  simp only [Bool.or_eq_true, Bool.and_eq_true, beq_iff_eq, decide_eq_true_eq] at h
  rcases h with h | ⟨h1, h2⟩
  · refine .inl ⟨h, ?_⟩
    cases h3 : c.toList == c'.toList
    · rfl
    · rw [beq_iff_eq] at h3; rw [h3, bl_irrefl] at h; cases h
  · rw [h1]; exact .inr ⟨bl_irrefl _, by simp, h2⟩
set_option maxRecDepth 100000 in
set_option maxHeartbeats 4000000 in
theorem lawLoads {w : World} (A : Option Addr) (n c : Nat) (l : List Int) (hl : n ≤ 1048576 → RowsIn byteF w A n l ∧ ∀ x ∈ l, okByte x) (hn : n ≤ 9223372036854775807) :
    Calls Try.prog 7 #[.slice A n c] w fun e w' => e = .returned (.bool true) ∧ Below w.heap.size w w' := by
  by_cases big : 1048576 < n
  · go_enter Try.func7, Try.ntmps7
    go_wp2_with fail
    refine (big_yes _ _ _ _ big hn).mono ?_
    rintro e w1 ⟨rfl, rfl⟩
    go_wp2_with fail
    go_ret
    exact ⟨rfl, Below.refl _ _⟩
  obtain ⟨hi, hok⟩ := hl (by omega)
  have hby := bytesAt_of hi hok
  clear hl hi hok
  go_enter Try.func7, Try.ntmps7
  go_wp2_with fail
  refine (big_no _ _ _ _ big).mono ?_
  rintro e w1 ⟨rfl, rfl⟩
  go_wp2_with fail
  refine (DrawLoadsOf_any _ _ _ _ hby).mono ?_
  rintro e w1 ⟨r, l, A1, B1, n1, c1, m1, d1, rfl, hr6, hok, hl6, hr, hl, hbD⟩
  have HO := Lib.hid hok
  have hnr := hr.num
  subst hnr
  have hnl := hl.1
  subst hnl
  clear hby big hok
  go_wp2_with fail
  refine (implLoadsOf_any A1 B1 _ c1 _ d1 r l _ hr hl HO.out).mono ?_
  rintro e w2 ⟨A2, c2, rfl, os, hs⟩
  replace hr := hr.keep hs
  replace hl := hl.keep hs
  replace hbD := below_on hbD hs
  clear hs
  cases hflag : ((areRoutings r && decide ((l.length : Int) ≤ 500)) && l.all okPl1)
  · have HNO : Hid (loadsOf r l = ([], false)) := by
      show _ = _
      unfold loadsOf; rw [hflag]; rfl
    rw [HNO.out] at os ⊢
    clear os
    dsimp only
    go_wp2_with fail
    refine (specLoadsOf_any A1 B1 _ c1 _ d1 r l _ hr hl HO.out).mono ?_
    rintro e w3 ⟨A3, c3, rfl, _, hs⟩
    rw [HNO.out]
    replace hbD := below_on hbD hs
    dsimp only
    go_wp2_with fail
    go_ret
    exact ⟨rfl, hbD⟩
  have HAR : Hid (areRoutings r = true) := by
    show _ = _
    simp only [Bool.and_eq_true] at hflag
    exact hflag.1.1
  have HPL : Hid (l.all okPl1 = true) := by
    show _ = _
    simp only [Bool.and_eq_true] at hflag
    exact hflag.2
  have HYES : Hid (loadsOf r l = (loadsTo r l l.length, true)) := by
    show _ = _
    unfold loadsOf; rw [hflag]; rfl
  clear hflag
  have HSL := Lib.hid (loadsTo_okLt HAR.out HO.out HPL.out l.length).1
  have HSUM := Lib.hid (loads_sum HAR.out HPL.out l.length)
  have HBD := Lib.hid (loadsTo_bd0 r l l.length HAR.out)
  rw [HYES.out] at os ⊢
  dsimp only at os ⊢
  go_wp2_with fail
  refine (specLoadsOf_any A1 B1 _ c1 _ d1 r l _ hr hl HO.out).mono ?_
  rintro e w3 ⟨A3, c3, rfl, _, hs⟩
  rw [HYES.out]
  dsimp only
  replace hr := hr.keep hs
  replace hl := hl.keep hs
  replace hbD := below_on hbD hs
  have hlen : (loadsTo r l l.length).length ≤ 36 := by have := HBD.out.1; omega
  have hS : LoadsIn w3 A2 (loadsTo r l l.length).length (loadsTo r l l.length) := (os.keep hs).rows (by omega)
  clear hs os HYES
  have hbx : ∀ x ∈ loadsTo r l l.length, 0 ≤ x.2.2 ∧ x.2.2 ≤ 3600036000 := fun x hx => by have := HBD.out.2 x hx; omega
  have HBX := Lib.hid hbx
  clear hbx HBD
  generalize loadsTo r l l.length = S at *
  go_wp2_with fail
  go_loopw [9, 10] (fun t i wr => ∃ k : Nat, k ≤ l.length ∧ i = .int .i64 k ∧ t = .int .i64 (sumT r l k) ∧ Below w.heap.size w wr ∧ Below w3.heap.size w3 wr) (fun _ i _ => l.length - (intOf i).toNat)
  case atStart => exact ⟨0, by omega, rfl, rfl, hbD, Below.refl _ _⟩
  case round =>
    clear hbD
    obtain ⟨k, hk, rfl, rfl, hbD, hb⟩ := hrel
    have hl6' : l.length ≤ 6 := hl6
    have ht := sumT_bd r l k
    by_cases hlt : k < l.length
    case pos =>
      have HT := Lib.hid (sumT_succ r l k hlt)
      have hto := timeOf_bd r l[k]
      obtain ⟨b, o, rfl, hbl, hc0, hc1, hc2, hc3, hc4⟩ := planned_at (hl.keep hb) hlt
      have klt : (k : Int) < (l.length : Int) := by omega
      have HTO : Hid (timeOf r l[k] = if 0 ≤ findRt r l[k].1 then (routingTime (r.getD (findRt r l[k].1).toNat rtNone) l[k].2.1).1 else 0) := rfl
      go_wp2_with fail
      refine (implFindRouting_any _ _ _ r _ _ (hr.keep hb)).mono ?_
      rintro e w4 ⟨rfl, hs⟩
      replace hbD := below_on hbD hs
      replace hb := below_on hb hs
      clear hs hbl hc0 hc1 hc2 hc3 hc4
      obtain ⟨_, _, e9, hbl, hc0, hc1, hc2, hc3, hc4⟩ := planned_at (hl.keep hb) hlt
      obtain ⟨rfl, rfl⟩ : b = _ ∧ o = _ := by simpa using e9
      clear e9
      obtain ⟨f1, f2⟩ := findRt_bd r l[k].1
      by_cases hf : 0 ≤ findRt r l[k].1
      case neg =>
        have hz : timeOf r l[k] = 0 := by rw [HTO.out, if_neg hf]
        have HN : Hid (sumT r l (k + 1) = sumT r l k) := by show _ = _; rw [HT.out, hz]; omega
        clear hz
        go_wp2_with fail
        go_roundw
        case rel => exact ⟨k + 1, by omega, by go_num, by rw [HN.out], hbD, hb⟩
        case measure => simp [intOf]; omega
      obtain ⟨qn, hqn⟩ : ∃ qn : Nat, findRt r l[k].1 = (qn : Int) := ⟨(findRt r l[k].1).toNat, by omega⟩
      have q1 : qn < r.length := by omega
      have q2 : (qn : Int) < (r.length : Int) := by omega
      have q3 : (0 : Int) ≤ (qn : Int) := by omega
      have HTV : Hid (timeOf r l[k] = (routingTime r[qn] l[k].2.1).1) := by show _ = _; rw [HTO.out, if_pos hf, hqn, Int.toNat_natCast, rt_getD _ _ q1]
      rw [HTV.out] at hto
      have hrok := HO.out _ (List.getElem_mem q1)
      rw [hqn]
      clear hqn hf f1 f2 HTO
      obtain ⟨br, or_, Bs, ms, cs, hae, hbr, r0, r1, hst⟩ := rt_at (hr.keep hb) q1
      subst hae
      have HST := Lib.hid hst
      clear hst
      generalize hrq : r[qn] = x at *
      have HQ := Lib.hid hrq
      clear hrq
      go_wp2_with fail
      refine wp_region_held_drew (S := (fun w' => w'.cell? ⟨br, or_ + qn * 2, none⟩ = some (.string x.1) ∧ w'.cell? ⟨br, or_ + qn * 2 + 1, none⟩ = some (.slice Bs ms cs) ∧ w'.cell? ⟨b, o + k * 5 + 1, none⟩ = some (.int .i64 l[k].2.1) ∧ b < w'.heap.size ∧ br < w'.heap.size ∧ Below w4.heap.size w4 w')) (by kernel_rfl) ⟨r0, r1, hc1, hbl, hbr, (Below.refl _ _).drew⟩ (fun hHeld => ?_)
      refine held_on 0 (some 58) rfl rfl (by kernel_rfl) (by kernel_rfl) (by kernel_rfl) (fun _ _ _ h => h) (by rfl) hHeld (v := ?v1) ?y1 ?r1
      case y1 => intro w hSw; (try dsimp only at hSw); go_simp; (try with_reducible rfl)
      try simp only [Act.put, List.setIfInBounds_toArray, List.set_cons_zero, List.set_cons_succ]
      refine held_on 1 (some 59) rfl rfl (by kernel_rfl) (by kernel_rfl) (by kernel_rfl) (fun _ _ _ h => h) (by rfl) hHeld (v := ?v2) ?y2 ?r2
      case y2 => intro w hSw; (try dsimp only at hSw); go_simp; (try with_reducible rfl)
      try simp only [Act.put, List.setIfInBounds_toArray, List.set_cons_zero, List.set_cons_succ]
      refine held_on 2 (some 60) rfl rfl (by kernel_rfl) (by kernel_rfl) (by kernel_rfl) (fun _ _ _ h => h) (by rfl) hHeld (v := ?v3) ?y3 ?r3
      case y3 => intro w hSw; (try dsimp only at hSw); go_simp; (try with_reducible rfl)
      try simp only [Act.put, List.setIfInBounds_toArray, List.set_cons_zero, List.set_cons_succ]
      refine held_on 3 (some 61) rfl rfl (by kernel_rfl) (by kernel_rfl) (by kernel_rfl) (fun _ _ _ h => h) (by rfl) hHeld (v := ?v4) ?y4 ?r4
      case y4 => intro w hSw; (try dsimp only at hSw); go_simp; (try with_reducible rfl)
      try simp only [Act.put, List.setIfInBounds_toArray, List.set_cons_zero, List.set_cons_succ]
      refine held_on 4 (some 62) rfl rfl (by kernel_rfl) (by kernel_rfl) (by kernel_rfl) (fun _ _ _ h => h) (by rfl) hHeld (v := ?v5) ?y5 ?r5
      case y5 => intro w hSw; (try dsimp only at hSw); go_simp; (try with_reducible rfl)
      try simp only [Act.put, List.setIfInBounds_toArray, List.set_cons_zero, List.set_cons_succ]
      refine held_on 5 (some 63) rfl rfl (by kernel_rfl) (by kernel_rfl) (by kernel_rfl) (fun _ _ _ h => h) (by rfl) hHeld (v := ?v6) ?y6 ?r6
      case y6 => intro w hSw; (try dsimp only at hSw); go_simp; (try with_reducible rfl)
      try simp only [Act.put, List.setIfInBounds_toArray, List.set_cons_zero, List.set_cons_succ]
      refine held_on 6 (some 64) rfl rfl (by kernel_rfl) (by kernel_rfl) (by kernel_rfl) (fun _ _ _ h => h) (by rfl) hHeld (v := ?v7) ?y7 ?r7
      case y7 => intro w hSw; (try dsimp only at hSw); go_simp; (try with_reducible rfl)
      try simp only [Act.put, List.setIfInBounds_toArray, List.set_cons_zero, List.set_cons_succ]
      refine held_on 7 (some 65) rfl rfl (by kernel_rfl) (by kernel_rfl) (by kernel_rfl) (fun _ _ _ h => h) (by rfl) hHeld (v := ?v8) ?y8 ?r8
      case y8 => intro w hSw; (try dsimp only at hSw); go_simp; (try with_reducible rfl)
      try simp only [Act.put, List.setIfInBounds_toArray, List.set_cons_zero, List.set_cons_succ]
      refine held_on 8 (some 66) rfl rfl (by kernel_rfl) (by kernel_rfl) (by kernel_rfl) (fun _ _ _ h => h) (by rfl) hHeld (v := ?v9) ?y9 ?r9
      case y9 => intro w hSw; (try dsimp only at hSw); go_simp; (try with_reducible rfl)
      try simp only [Act.put, List.setIfInBounds_toArray, List.set_cons_zero, List.set_cons_succ]
      refine wpAnyH_ready (rs := [9]) (by kernel_rfl) (by simp) ?_
      refine AllReadyH.cons rfl (fun K hK => ?_) AllReadyH.nil
      go_simp
      go_at_call 44; refine (specRoutingTime_any x Bs ms cs l[k].2.1 _ (HST.out.keep (by obtain ⟨y_r0, y_r1, y_q, y_b, y_x, y_R⟩ := hHeld; exact y_R)) hrok).mono ?_; rintro e w6 ⟨rfl, hb3⟩; go_simp
      refine hK.out _ _ ?_ (fun hHeld => ?_)
      · obtain ⟨y_r0, y_r1, y_q, y_b, y_x, y_R⟩ := hHeld; exact ⟨(hb3.cell y_x).trans y_r0, (hb3.cell y_x).trans y_r1, (hb3.cell y_b).trans y_q, Nat.lt_of_lt_of_le y_b hb3.size, Nat.lt_of_lt_of_le y_x hb3.size, below_on y_R hb3⟩
      clear hK K
      try simp only [Act.put, List.setIfInBounds_toArray, List.set_cons_zero, List.set_cons_succ]
      refine held_on 10 (some 57) rfl rfl (by kernel_rfl) (by kernel_rfl) (by kernel_rfl) (fun _ _ _ h => h) (by rfl) hHeld (v := ?v10) ?y10 ?r10
      case y10 => intro w hSw; (try dsimp only at hSw); go_simp; (try with_reducible rfl)
      try simp only [Act.put, List.setIfInBounds_toArray, List.set_cons_zero, List.set_cons_succ]
      refine held_on 11 (some 68) rfl rfl (by kernel_rfl) (by kernel_rfl) (by kernel_rfl) (fun _ _ _ h => h) (by rfl) hHeld (v := ?v11) ?y11 ?r11
      case y11 => intro w hSw; (try dsimp only at hSw); go_simp; (try with_reducible rfl)
      try simp only [Act.put, List.setIfInBounds_toArray, List.set_cons_zero, List.set_cons_succ]
      refine held_on 12 (some 69) rfl rfl (by kernel_rfl) (by kernel_rfl) (by kernel_rfl) (fun _ _ _ h => h) (by rfl) hHeld (v := ?v12) ?y12 ?r12
      case y12 => intro w hSw; (try dsimp only at hSw); go_simp; (try with_reducible rfl)
      try simp only [Act.put, List.setIfInBounds_toArray, List.set_cons_zero, List.set_cons_succ]
      refine held_on 13 (some 12) rfl rfl (by kernel_rfl) (by kernel_rfl) (by kernel_rfl) (fun _ _ _ h => h) (by rfl) hHeld (v := ?v13) ?y13 ?r13
      case y13 => intro w hSw; (try dsimp only at hSw); go_simp; (try with_reducible rfl)
      try simp only [Act.put, List.setIfInBounds_toArray, List.set_cons_zero, List.set_cons_succ]
      refine held_on 14 (some 13) rfl rfl (by kernel_rfl) (by kernel_rfl) (by kernel_rfl) (fun _ _ _ h => h) (by rfl) hHeld (v := ?v14) ?y14 ?r14
      case y14 => intro w hSw; (try dsimp only at hSw); go_simp; (try with_reducible rfl)
      try simp only [Act.put, List.setIfInBounds_toArray, List.set_cons_zero, List.set_cons_succ]
      refine wpAnyH_done (by kernel_rfl) ?_ _
      obtain ⟨y_r0, y_r1, y_q, y_b, y_x, y_R⟩ := hHeld
      replace hbD := below_on hbD y_R
      replace hb := below_on hb y_R
      clear r0 r1 hc0 hc1 hc2 hc3 hc4 hbl hbr y_r0 y_r1 y_q y_b y_x y_R
      generalize routingTime x l[k].2.1 = tv at *
      have hwr : IntKind.i64.wrap (sumT r l k + tv.1) = sumT r l k + tv.1 := IntWalk.i64_in _ (by omega)
      go_wp2_with fail
      go_roundw
      case rel => exact ⟨k + 1, by omega, by go_num, by rw [HT.out, HTV.out], hbD, hb⟩
      case measure => simp [intOf]; omega
    obtain rfl : k = l.length := by omega
    have hS2 := hS.keep hb
    have HSZ := Lib.hid HSUM.out
    rw [← HSZ.out, ← prefM_all S]
    have hpa := prefM_bd (by omega) HBX.out S.length
    clear hb ht
    go_wp2_with fail
    go_loopw [9, 14] (fun t i w9 => ∃ k : Nat, k ≤ S.length ∧ i = .int .i64 k ∧ t = .int .i64 (prefM S S.length - prefM S k) ∧ Below wr.heap.size wr w9) (fun _ i _ => S.length - (intOf i).toNat)
    case atStart => exact ⟨0, by omega, rfl, by simp [prefM, sumM], Below.refl _ _⟩
    case round =>
      obtain ⟨k, hk, rfl, rfl, hb⟩ := hrel
      have hpk := prefM_bd (by omega) HBX.out k
      have hlen' : S.length ≤ 36 := hlen
      by_cases hlt : k < S.length
      case neg =>
        obtain rfl : k = S.length := by omega
        rw [Int.sub_self]
        go_wp2_with fail
        go_ret
        exact ⟨rfl, below_on hbD hb⟩
      have HP := Lib.hid (prefM_succ S k hlt)
      have hx9 := HBX.out _ (List.getElem_mem hlt)
      obtain ⟨b, o, rfl, hbl, s0, s1, s2⟩ := load_at (hS2.keep hb) hlt
      have klt : (k : Int) < (S.length : Int) := by omega
      have hwr : IntKind.i64.wrap (prefM S S.length - prefM S k - S[k].2.2) = prefM S S.length - prefM S k - S[k].2.2 := IntWalk.i64_in _ (by omega)
      by_cases hk0 : k = 0
      case pos =>
        subst hk0
        go_wp2_with fail
        go_quiet (fail)
        go_wp2_with fail
        go_roundw
        case rel => exact ⟨0 + 1, by omega, by go_num, by rw [HP.out]; congr 1; omega, below_drewN hb _⟩
        case measure => simp [intOf]; omega
      obtain ⟨j, hkj⟩ : ∃ j, k = j + 1 := ⟨k - 1, by omega⟩
      have hjl : j < S.length := by omega
      have hord : ltK S[j].1 S[j].2.1 S[k].1 S[k].2.1 = true := by subst hkj; exact sortedL_step HSL.out hlt
      have e2 := ltK_read hord
      obtain ⟨_, _, e9, _, z0, z1, z2⟩ := load_at (hS2.keep hb) hjl
      obtain ⟨rfl, rfl⟩ : b = _ ∧ o = _ := by simpa using e9
      clear e9 hord z2
      have p1 : (0 : Int) < (k : Int) := by omega
      have p2 : decide ((0 : Int) < (k : Int)) = true := decide_eq_true p1
      have p6 : decide (0 < k) = true := decide_eq_true (by omega)
      have p3 : IntKind.i64.wrap ((k : Int) - 1) = (j : Int) := by rw [IntWalk.i64_in _ (by omega)]; omega
      have p4 : (0 : Int) ≤ (j : Int) := by omega
      have p5 : (j : Int) < (S.length : Int) := by omega
      have HPJ : Hid (prefM S S.length - prefM S (k + 1) = prefM S S.length - prefM S k - S[k].2.2) := by show _ = _; rw [HP.out]; omega
      generalize hxk : S[k] = x at *
      generalize hxj : S[j] = y at *
      clear hxk hxj hkj
      rcases e2 with ⟨e1, e3⟩ | ⟨e1, e3, e4⟩
      · skip
        go_wp2_with fail
        go_quiet (fail)
        go_wp2_with fail
        go_roundw
        case rel => exact ⟨k + 1, by omega, by go_num, by rw [HPJ.out], below_drewN hb _⟩
        case measure => simp [intOf]; omega
      · have e5 : decide (x.2.1 ≤ y.2.1) = false := decide_eq_false (by omega)
        go_wp2_with fail
        go_quiet (fail)
        go_wp2_with fail
        go_roundw
        case rel => exact ⟨k + 1, by omega, by go_num, by rw [HPJ.out], below_drewN hb _⟩
        case measure => simp [intOf]; omega
end Go.Proofs.Ytlnkofnfgemfdaa
/- Bytes that came in. -/
namespace Go.Proofs.Ytlnkofnfgemfdaa
open Go.ChangeShapes Go.WideShapes Go.ChangeAt Go.RowKit Go.Deep
theorem open_bytesIn {H : Type} {enc : TypeId × Value → H} {W : World} {a : Option Addr} {len cap : Nat} {d : DataW H} {p : List MemPlace}
    (h : DataW.Trod enc Try.prog W 0 (fun _ => true) true 22 (.slice a len cap) d p) : len ≤ 9223372036854775807 ∧ ∃ l, len ≤ 1048576 → RowsIn byteF W a len l ∧ ∀ x ∈ l, okByte x := by
  refine open_rows_ok byteF okByte Try.underlying22 (by kernel_rfl) (by decide) (fun fuel cs x hx => ?_) h
  obtain ⟨n0, g0, _, hw⟩ := DataW.trod_int Try.underlying5 hx
  subst g0
  refine ⟨n0, rfl, ?_⟩
  simp [Lit.wf] at hw
  have e1 : IntKind.u8.min = 0 := by decide
  have e2 : IntKind.u8.max = 255 := by decide
  unfold okByte
  omega
end Go.Proofs.Ytlnkofnfgemfdaa
