/- The walk of the law FnSmoothed: for every input it returns true, and no memory that was there is written. -/
import Derived.Test.YtmkfinahbelpdaaSmoothedLaw
import Derived.Test.YtmkfinahbelpdaaSmoothImpl
import Derived.Test.YtmkfinahbelpdaaDrawLoads
import Derived.Test.YtmkfinahbelpdaaBytesCore
import Derived.Deep.RegionHeld3
namespace Go.Proofs.Ytmkfinahbelpdaa
open Go.RowKit
set_option maxRecDepth 100000 in
set_option maxHeartbeats 8000000 in
theorem lawSmoothed {w : World} (A : Option Addr) (n c : Nat) (l : List Int) (hl : n ≤ 1048576 → RowsIn byteF w A n l ∧ ∀ x ∈ l, okByte x) (hn : n ≤ 9223372036854775807) :
    Calls Try.prog 3 #[.slice A n c] w fun e w' => e = .returned (.bool true) ∧ Below w.heap.size w w' := by
  by_cases big : 1048576 < n
  · go_enter Try.func3, Try.ntmps3
    go_wp2_with fail
    refine (big_yes _ _ _ _ big hn).mono ?_
    rintro e w1 ⟨rfl, rfl⟩
    go_wp2_with fail
    go_ret
    exact ⟨rfl, Below.refl _ _⟩
  obtain ⟨hi, hok⟩ := hl (by omega)
  have hby := bytesAt_of hi hok
  clear hl hi hok l
  go_enter Try.func3, Try.ntmps3
  go_wp2_with fail
  refine (big_no _ _ _ _ big).mono ?_
  rintro e w1 ⟨rfl, rfl⟩
  go_wp2_with fail
  refine (DrawSmoothLoads_any _ _ _ _ hby).mono ?_
  rintro e w1 ⟨l, wk, ex, q, A1, C, B, c1, n2, c2, m, d, rfl, hl6, hok, hl, ha, hb, hbD⟩
  have HO := Lib.hid hok
  clear hby big hok
  have hx := boxOf_alloc w1 #[.slice C n2 c2, .slice B m d] 28
  simp only at hx
  have hs := below_alloc w1 (.cells #[.slice C n2 c2, .slice B m d] 28)
  obtain ⟨g0, g1, gl⟩ := hx.two
  go_wp2_with fail
  generalize w1.alloc (.cells #[.slice C n2 c2, .slice B m d] 28) = w2 at *
  replace hl := hl.keep hs
  replace ha := ha.keep hs
  replace hb := hb.keep hs
  replace hbD := below_on hbD hs
  generalize w1.heap.size = N at *
  clear hs
  refine (implSmoothLoads_any _ _ _ _ _ _ _ _ _ l wk ex q _ hl HO.out ha hb).mono ?_
  rintro e w3 ⟨XS, CS, rfl, os, hs⟩
  replace hl := hl.keep hs
  replace ha := ha.keep hs
  replace hb := hb.keep hs
  replace hbD := below_on hbD hs
  replace hx := hx.keep hs
  clear hs g0 g1 gl
  obtain ⟨g0, g1, gl⟩ := hx.two
  cases hflag : (areMinutes l && (isCal wk ex && inB q 0 20))
  · have HNO := Lib.hid (smoothLoads_no hflag)
    rw [HNO.out]
    clear os
    go_wp2_with fail
    refine (specSmoothLoads_any _ _ _ _ _ _ _ _ _ l wk ex q _ hl HO.out ha hb).mono ?_
    rintro e w4 ⟨XW, CW, rfl, _, hs⟩
    rw [HNO.out]
    replace hbD := below_on hbD hs
    go_wp2_with fail
    go_ret
    exact ⟨rfl, hbD⟩
  have HM : Hid (areMinutes l = true) := by
    show _ = true
    simp only [Bool.and_eq_true] at hflag
    exact hflag.1
  obtain ⟨S, mr, kk, hS, hF⟩ := smoothLoads_facts hflag
  have HF := Lib.hid hF
  have hS1000 := hF.len
  clear hflag hF
  have hsr : LoadsIn w3 XS S.length S := by
    rw [hS] at os
    exact os.rows (by show S.length ≤ 16777216; omega)
  rw [hS]
  have HS := Lib.hid hS
  clear os hS
  dsimp only
  go_wp2_with fail
  refine (specSmoothLoads_any _ _ _ _ _ _ _ _ _ l wk ex q _ hl HO.out ha hb).mono ?_
  rintro e w4 ⟨XW, CW, rfl, _, hs⟩
  rw [HS.out]
  dsimp only
  replace hl := hl.keep hs
  replace hsr := hsr.keep hs
  replace ha := ha.keep hs
  replace hb := hb.keep hs
  replace hbD := below_on hbD hs
  replace hx := hx.keep hs
  clear hs g0 g1 gl HS
  go_wp2_with fail
  go_loopw [10, 11, 12, 13, 14] (fun av bv iv kv dv wr => ∃ (D i : Nat), D ≤ 1000 ∧ dv = .int .i64 D ∧ Hid (Ptr l i D) ∧ av = .int .i64 (sumL l i) ∧ iv = .int .i64 i ∧ bv = .int .i64 (preS mr D) ∧ kv = .int .i64 (kk D) ∧ Below w4.heap.size w4 wr) (fun _ _ _ _ d _ => 1000 - (intOf d).toNat)
  case atStart => exact ⟨0, 0, by omega, rfl, Lib.hid (Ptr.zero HM.out), rfl, rfl, rfl, by rw [HF.out.zero]; rfl, Below.refl _ _⟩
  case round =>
    obtain ⟨D, i, hD, rfl, HP, rfl, rfl, rfl, rfl, hR⟩ := hrel
    have hsm := HF.out.sum D
    have hrb := row_bd HM.out D
    have hsb := HF.out.bd D hD
    have hsl := HP.out.sum
    have hsl1 : 0 ≤ sumL l i ∧ sumL l i ≤ 1000000000000000 := by omega
    have hll : l.length ≤ 6 := hl6
    clear hsl hsm hrb
    by_cases hD9 : D < 1000
    · have hd9 : (D : Int) ≤ 999 := by omega
      go_wp2_with fail
      go_loop [10, 12] (fun av iv => ∃ i' : Nat, Hid (i' = i ∨ (i' = i + 1 ∧ ∃ h : i < l.length, l[i].2.1 = (D : Int))) ∧ iv = .int .i64 i' ∧ av = .int .i64 (sumL l i')) (fun _ iv => l.length - (intOf iv).toNat)
      case atStart => exact ⟨i, Lib.hid (.inl rfl), rfl, rfl⟩
      case round =>
        obtain ⟨i', HI, rfl, rfl⟩ := hrel
        by_cases hgo : ∃ h : i' < l.length, l[i'].2.1 = (D : Int)
        · obtain ⟨h1, h2⟩ := hgo
          have he : i' = i := by
            rcases HI.out with h | ⟨h, h3, h4⟩
            · exact h
            · subst h
              have := (HP.out.take HM.out h3 h4).hi (i + 1) h1 (Nat.le_refl _)
              omega
          subst he
          obtain ⟨b9, o9, rfl, _, z0, z1, z2⟩ := load_at (hl.keep hR) h1
          rw [h2] at z1
          obtain ⟨_, _, m1, m2⟩ := (areMinutes_parts HM.out).2 i' h1
          have HSN : Hid (sumL l (i' + 1) = sumL l i' + l[i'].2.2) := by
            show _ = _
            simp only [sumL]; rw [ld_getD _ _ h1]
          have H2 := Lib.hid h2
          clear h2
          go_wp2
          go_round
          case rel => exact ⟨i' + 1, Lib.hid (.inr ⟨rfl, h1, H2.out⟩), by go_num, by rw [HSN.out]⟩
          case measure => simp [intOf]; omega
        · have HPN : Hid (Ptr l i' (D + 1)) := by
            show Ptr l i' (D + 1)
            rcases HI.out with h | ⟨h, h3, h4⟩
            · subst h
              exact HP.out.pass HM.out (fun h1 h2 => hgo ⟨h1, h2⟩)
            · subst h
              exact HP.out.take HM.out h3 h4
          have hsl9 : sumL l i' ≤ preS mr (D + 1) := by
            have h1 := HPN.out.sum
            have h2 := HF.out.sum (D + 1)
            omega
          have hsl0 : 0 ≤ sumL l i' := by
            have h1 := HPN.out.sum
            have h2 := row_bd HM.out (D + 1)
            omega
          have hil := HPN.out.le
          by_cases h1 : i' < l.length
          case' pos =>
            have h2 : ¬ l[i'].2.1 = (D : Int) := fun h2 => hgo ⟨h1, h2⟩
            obtain ⟨b9, o9, rfl, _, z0, z1, z2⟩ := load_at (hl.keep hR) h1
          all_goals
            clear hgo
            go_wp2_with fail
            go_loopw [11, 13] (fun bv kv wr2 => ∃ k' : Nat, Hid ((k' = kk D) ∨ (k' = kk D + 1 ∧ 0 < mr.getD D 0)) ∧ kv = .int .i64 k' ∧ bv = .int .i64 (if k' = kk D then preS mr D else preS mr (D + 1)) ∧ Below w4.heap.size w4 wr2) (fun _ kv _ => kk D + 1 - (intOf kv).toNat)
            case atStart => exact ⟨kk D, Lib.hid (.inl rfl), rfl, by rw [if_pos rfl], hR⟩
            case round =>
              obtain ⟨k', HK, rfl, rfl, hR2⟩ := hrel
              by_cases hgo : k' = kk D ∧ 0 < mr.getD D 0
              · obtain ⟨he, hpos⟩ := hgo
                obtain ⟨h8, h9, h10⟩ := HF.out.hit D hD9 hpos
                rw [if_pos he]
                rw [← he] at h8
                obtain ⟨b7, o7, hXS, hb7, s0, s1, s2⟩ := load_at (hsr.keep hR2) h8
                have e1 : S[k'].2.1 = (D : Int) := by subst he; exact h9
                have e2 : S[k'].2.2 = mr.getD D 0 := by subst he; exact h10
                rw [e1] at s1
                rw [e2] at s2
                have hmx := HF.out.le D
                have hsb9 := HF.out.bd (D + 1) (by omega)
                obtain ⟨x, hx9⟩ : ∃ x : Int, mr.getD D 0 = x := ⟨_, rfl⟩
                rw [hx9] at s2 hpos hmx
                have HX := Lib.hid hx9
                have HPS : Hid (preS mr (D + 1) = preS mr D + x) := by
                  show preS mr D + mr.getD D 0 = _
                  rw [hx9]
                have HE := Lib.hid he
                have hs15 : preS mr D + x ≤ 1000000000000000 := by have := HPS.out; omega
                clear he h9 h10 e1 e2 hx9
                subst hXS
                by_cases hD0 : D = 0
                · have HD0 := Lib.hid hD0
                  have hdz : ¬ (0 : Int) < (D : Int) := by omega
                  have hdz2 : decide ((0 : Int) < (D : Int)) = false := decide_eq_false hdz
                  have hdz3 : decide (0 < D) = false := decide_eq_false (by omega)
                  clear hD0
                  go_wp2_with fail
                  go_quiet (fail)
                  go_wp2_with fail
                  go_roundw
                  case rel => exact ⟨k' + 1, Lib.hid (.inr ⟨by rw [HE.out], by rw [HX.out]; exact hpos⟩), by go_num, by rw [if_neg (by have := HE.out; omega), HPS.out], below_drewN hR2 _⟩
                  case measure => have := HE.out; simp [intOf]; omega
                · have hd1 : (0 : Int) < (D : Int) := by omega
                  have hd2 : decide ((0 : Int) < (D : Int)) = true := decide_eq_true hd1
                  have hd3 : decide (0 < D) = true := decide_eq_true (by omega)
                  have hcap := HF.out.cap D (by omega) (by omega)
                  rw [HX.out] at hcap
                  have hle : ¬ minutesOn wk ex q D < x := by omega
                  have hle2 : decide (minutesOn wk ex q D < x) = false := decide_eq_false hle
                  obtain ⟨g0, g1, gl⟩ := (hx.keep hR2).two
                  go_wp2_with fail
                  go_region_held3 (fun w' => w'.cell? ⟨b7, o7 + k' * 3 + 2, none⟩ = some (.int .i64 x) ∧ w'.cell? ⟨N, 0, none⟩ = some (.slice C n2 c2) ∧ w'.cell? ⟨N, 1, none⟩ = some (.slice B m d) ∧ b7 < w'.heap.size ∧ N < w'.heap.size ∧ Below w4.heap.size w4 w')
                    (first
                      | exact ⟨s2, g0, g1, hb7, gl, hR2.drew⟩
                      | (go_split_ands; refine ⟨?_, ?_, ?_, ?_, ?_, ?_⟩ <;> with_reducible assumption)
                      | (go_split_ands; exact ⟨(hb3.cell (by with_reducible assumption)).trans (by with_reducible assumption), (hb3.cell (by with_reducible assumption)).trans (by with_reducible assumption), (hb3.cell (by with_reducible assumption)).trans (by with_reducible assumption), Nat.lt_of_lt_of_le (by with_reducible assumption) hb3.size, Nat.lt_of_lt_of_le (by with_reducible assumption) hb3.size, below_on (by with_reducible assumption) hb3⟩))
                    (first
                      | ((with_reducible refine (specMinutesOn_any C B n2 m c2 d wk ex q _ _ (ha.keep ?_) (hb.keep ?_)).mono ?_); (go_split_ands; with_reducible assumption); (go_split_ands; with_reducible assumption); rintro e w9 ⟨rfl, hb3⟩))
                  go_split_ands
                  go_wp2_with fail
                  go_roundw
                  case rel => exact ⟨k' + 1, Lib.hid (.inr ⟨by rw [HE.out], by rw [HX.out]; exact hpos⟩), by go_num, by rw [if_neg (by have := HE.out; omega), HPS.out], by with_reducible assumption⟩
                  case measure => have := HE.out; simp [intOf]; omega
              · have hkn : k' = kk (D + 1) ∧ (if k' = kk D then preS mr D else preS mr (D + 1)) = preS mr (D + 1) := by
                  have hn := HF.out.next D
                  rcases HK.out with h | ⟨h, hp⟩
                  · have hp : ¬ 0 < mr.getD D 0 := fun hp => hgo ⟨h, hp⟩
                    have h0 := HF.out.nn D
                    rw [if_neg hp] at hn
                    refine ⟨by omega, ?_⟩
                    rw [if_pos h]
                    show _ = preS mr D + mr.getD D 0
                    omega
                  · rw [if_pos hp] at hn
                    exact ⟨by omega, by rw [if_neg (by omega)]⟩
                obtain ⟨hk1, hk2⟩ := hkn
                rw [hk2]
                have hsb9 := HF.out.bd (D + 1) (by omega)
                have hng : ¬ preS mr (D + 1) < sumL l i' := by omega
                have HK1 := Lib.hid hk1
                clear hgo hk2
                by_cases h8 : k' < S.length
                case' pos =>
                  obtain ⟨b7, o7, rfl, hb7, s0, s1, s2⟩ := load_at (hsr.keep hR2) h8
                  have hfar : ¬ S[k'].2.1 = (D : Int) := by
                    have h9 := HF.out.far (D + 1) (by omega) (by rw [← hk1]; exact h8)
                    intro h10
                    subst hk1
                    omega
                all_goals
                  clear hk1
                  go_wp2_with fail
                  go_roundw
                  case rel => exact ⟨D + 1, i', by omega, by go_num, HPN, rfl, rfl, rfl, by rw [HK1.out], hR2⟩
                  case measure => simp [intOf]; omega
    · obtain rfl : D = 1000 := by omega
      have hsum : sumL l i = preS mr 1000 := by rw [HP.out.sum, HF.out.all]
      rw [hsum, HF.out.last]
      have HI := Lib.hid (HP.out.last HM.out)
      rw [HI.out]
      clear hsum hsl1
      go_wp2_with fail
      go_ret
      exact ⟨rfl, below_on hbD hR⟩
end Go.Proofs.Ytmkfinahbelpdaa
