/- The walk of the law FnPromises: for every input it returns true, and no memory that was there is written. -/
import Derived.Test.YtdofhdelcendeaaBytes
import Derived.Test.YtdofhdelcendeaaDrawPromises
import Derived.Test.YtdofhdelcendeaaPromisesLaw
import Derived.Test.YtdofhdelcendeaaCancel
import Derived.Test.YtdofhdelcendeaaKept
import Derived.Test.YtdofhdelcendeaaOpen
namespace Go.Proofs.Ytdofhdelcendeaa
open Go.RowKit
theorem promiseNext_nil {sup prom : List Fl} {q d : Int} (h : (promiseDay sup prom q d).2 = false) : promiseNext sup prom q d = ([], false) := promiseNext_no (by rw [h]; rfl)
theorem openOn_bd (sup prom : List Fl) (d : Int) : -40000000000 ≤ openOn sup prom d ∧ openOn sup prom d ≤ 40000000000 := by
  unfold openOn
  split
  · exact openTo_bd _ _ _ _
  · omega
set_option maxRecDepth 100000 in
set_option maxHeartbeats 4000000 in
theorem lawPromises {w : World} (A : Option Addr) (n c : Nat) (l : List Int) (hl : n ≤ 1048576 → RowsIn byteF w A n l ∧ ∀ x ∈ l, okByte x) (hn : n ≤ 9223372036854775807) :
    Calls Try.prog 12 #[.slice A n c] w fun e w' => e = .returned (.bool true) ∧ Below w.heap.size w w' := by
  by_cases big : 1048576 < n
  · go_enter Try.func12, Try.ntmps12
    go_wp2_with fail
    refine (big_yes _ _ _ _ big hn).mono ?_
    rintro e w1 ⟨rfl, rfl⟩
    go_wp2_with fail
    go_ret
    exact ⟨rfl, Below.refl _ _⟩
  obtain ⟨hi, hok⟩ := hl (by omega)
  have hby := bytesAt_of hi hok
  clear hl hi hok
  go_enter Try.func12, Try.ntmps12
  go_wp2_with fail
  refine (big_no _ _ _ _ big).mono ?_
  rintro e w1 ⟨rfl, rfl⟩
  go_wp2_with fail
  refine (DrawPromiseNext_any _ _ _ _ hby).mono ?_
  rintro e w1 ⟨a, b, A1, c1, A2, c2, q, from_, rfl, l1, l2, oa, ob, hb1⟩
  have ra := oa.rows (by omega)
  have rb := ob.rows (by omega)
  clear oa ob hby
  obtain ⟨day, is, hD⟩ : ∃ day is, promiseDay a b q from_ = (day, is) := ⟨_, _, rfl⟩
  obtain ⟨m, too, hN⟩ : ∃ m too, promiseNext a b q from_ = (m, too) := ⟨_, _, rfl⟩
  have hml : m.length ≤ 16777216 := by have := promiseNext_len a b q from_; rw [hN] at this; exact this
  have K1 := implPromiseDay_any A1 A2 a.length b.length c1 c2 a b q from_ w1 ra rb
  rw [hD] at K1
  unfold pairV at K1
  have HD := Lib.hid hD
  have HN := Lib.hid hN
  clear hD hN
  go_wp2_with fail
  refine K1.mono ?_
  rintro e w2 ⟨rfl, hb2⟩
  have K2 := specPromiseDay_any A1 A2 a.length b.length c1 c2 a b q from_ w2 (ra.keep hb2) (rb.keep hb2)
  rw [HD.out] at K2
  unfold pairV at K2
  go_wp2_with fail
  refine K2.mono ?_
  rintro e w3 ⟨rfl, hb3⟩
  have ra3 := (ra.keep hb2).keep (hb3.below _)
  have rb3 := (rb.keep hb2).keep (hb3.below _)
  have HB3 := (below_on hb1 hb2).trans (hb3.below _)
  clear ra rb hb1 hb2 hb3 K1 K2
  have K3 := implPromiseNext_any A1 A2 a.length b.length c1 c2 a b q from_ w3 ra3 rb3
  rw [HN.out] at K3
  have hiq : (is != is) = false := by simp
  cases is
  · have h0 : (promiseDay a b q from_).2 = false := by rw [HD.out]
    have hz := promiseDay_zero h0
    rw [HD.out] at hz
    have hn := promiseNext_nil h0
    rw [HN.out] at hn
    simp only [Prod.mk.injEq] at hn
    obtain ⟨rfl, rfl⟩ := hn
    simp only at hz
    subst hz
    clear h0
    go_wp2_with fail
    refine K3.mono ?_
    rintro e w4 ⟨X, C, rfl, _, hb4⟩
    dsimp only
    go_wp2_with fail
    go_ret
    exact ⟨rfl, below_on HB3 hb4⟩
  have h0 : (promiseDay a b q from_).2 = true := by rw [HD.out]
  obtain ⟨f1, f2, f3, f4, f5, f6, f7, f8⟩ := promiseDay_facts h0
  rw [HD.out] at f5 f6 f7 f8
  have HEA : Hid (∀ (e : Int), from_ ≤ e → e < day → ∀ m, mergeFlows b [(e, q)] = (m, true) → isKept a m = false) := fun e h1 h2 m hm => promise_early h0 h1 (by rw [HD.out]; exact h2) hm
  simp only at f5 f6 f7 f8
  have HLT := Lib.hid f8
  clear f1 f8 h0
  have hob := openOn_bd a b day
  have hob2 := openOn_bd a b (day - 1)
  go_wp2_with fail
  refine K3.mono ?_
  rintro e w4 ⟨X, C, rfl, oX, hb4⟩
  have rX := oX.rows (by simp only; omega)
  dsimp only at rX ⊢
  have ra4 := ra3.keep hb4
  have rb4 := rb3.keep hb4
  have HB4 := below_on HB3 hb4
  clear ra3 rb3 HB3 hb4 K3 oX
  have hd1 : decide (day < from_) = false := by simp; omega
  have hd2 : decide (openOn a b day < q) = false := by simp; omega
  go_wp2_with fail
  refine (implOpenOn_any _ _ _ _ _ _ a b day _ ra4 rb4).mono ?_
  rintro e w5 ⟨rfl, hb5⟩
  replace ra4 := ra4.keep hb5
  replace rb4 := rb4.keep hb5
  replace rX := rX.keep hb5
  replace HB4 := below_on HB4 hb5
  clear hb5
  have hback : too = true → cancelPromise m day q = (b, true) := fun h => by
    subst h
    have := promise_back HN.out
    rw [HD.out] at this; exact this
  have hkept : too = true → isKept a m = true := fun h => by
    subst h
    exact promise_kept HN.out
  have HBA := Lib.hid hback
  have HKE := Lib.hid hkept
  clear hback hkept
  by_cases hgt : from_ < day
  · have hd3 : decide (from_ < day) = true := by simpa using hgt
    have hd4 := HLT.out (day - 1) (by omega) (by omega)
    have hd5 : decide (q ≤ openOn a b (day - 1)) = false := by simp; omega
    go_wp2_with fail
    refine (implOpenOn_any _ _ _ _ _ _ a b (day - 1) _ ra4 rb4).mono ?_
    rintro e w6 ⟨rfl, hb6⟩
    replace ra4 := ra4.keep hb6
    replace rb4 := rb4.keep hb6
    replace rX := rX.keep hb6
    replace HB4 := below_on HB4 hb6
    clear hb6
    cases too
    · go_wp2_with fail
      go_ret
      exact ⟨rfl, HB4⟩
    have K6 := implCancelPromise_any X m.length C m day q w6 rX
    rw [HBA.out (by trivial)] at K6
    go_wp2_with fail
    refine K6.mono ?_
    rintro e w7 ⟨Y, D, rfl, oY, hb7⟩
    have rY := oY.rows (by simp only; omega)
    dsimp only at rY ⊢
    have ra7 := ra4.keep hb7
    have rb7 := rb4.keep hb7
    have rX7 := rX.keep hb7
    have HB7 := below_on HB4 hb7
    clear K6 oY hb7 ra4 rb4 rX HB4
    go_wp2_with fail
    go_loopw [15] (fun i wr => ∃ d : Int, from_ ≤ d ∧ d ≤ day ∧ i = .int .i64 d ∧ Below w7.heap.size w7 wr) (fun i _ => (day - intOf i).toNat)
    case atStart => exact ⟨from_, by omega, by omega, rfl, Below.refl _ _⟩
    case round =>
      obtain ⟨d, d1, d2, rfl, HR⟩ := hrel
      by_cases hlt : d < day
      · have hsz := HR.size
        obtain ⟨early, fits, hE⟩ : ∃ early fits, mergeFlows b [(d, q)] = (early, fits) := ⟨_, _, rfl⟩
        have hel : early.length ≤ 16777216 := by have := mergeFlows_len b [(d, q)]; rw [hE] at this; exact this
        have HRa := HR.alloc hsz (.cells #[.int .i64 d, .int .i64 q] 51)
        have K8 := specMergeFlows_any A2 (some ⟨wr.heap.size, 0, none⟩) b.length 1 c2 1 b [(d, q)] (wr.alloc (.cells #[.int .i64 d, .int .i64 q] 51)) (rb7.keep HRa) (new_row wr rfl d q)
        rw [hE] at K8
        have HE := Lib.hid hE
        clear hE
        go_wp2_with fail
        refine K8.mono ?_
        rintro e w8 ⟨Z, Dz, rfl, oZ, hb8⟩
        have rZ := oZ.rows (by simp only; omega)
        dsimp only at rZ ⊢
        have HR8 := below_on HRa hb8
        clear K8 oZ hb8
        cases fits
        · go_wp2_with fail
          go_roundw
          case rel => exact ⟨d + 1, by omega, by omega, rfl, HR8⟩
          case measure => simp [intOf]; omega
        · have HK := Lib.hid (HEA.out d d1 hlt early HE.out)
          go_wp2_with fail
          refine (implIsKept_any _ _ _ _ _ _ a early _ (ra7.keep HR8) rZ).mono ?_
          rintro e w9 ⟨rfl, hb9⟩
          have HR9 := below_on HR8 hb9
          rw [HK.out]
          go_wp2_with fail
          go_roundw
          case rel => exact ⟨d + 1, by omega, by omega, rfl, HR9⟩
          case measure => simp [intOf]; omega
      · go_wp2_with fail
        refine (implIsKept_any _ _ _ _ _ _ a m _ (ra7.keep HR) (rX7.keep HR)).mono ?_
        rintro e w8 ⟨rfl, hb8⟩
        have HR8 := below_on HR hb8
        rw [HKE.out (by trivial)]
        go_wp2_with fail
        refine (specIsKept_any _ _ _ _ _ _ a m _ (ra7.keep HR8) (rX7.keep HR8)).mono ?_
        rintro e w9 ⟨rfl, hb9⟩
        have HR9 := HR8.trans (hb9.below _)
        rw [HKE.out (by trivial)]
        go_wp2_with fail
        refine (sameFlows_yes _ _ _ _ _ _ b _ (rY.keep HR9) (rb7.keep HR9)).mono ?_
        rintro e w10 ⟨rfl, hb10⟩
        have HR10 := HR9.trans (hb10.below _)
        go_wp2_with fail
        go_ret
        exact ⟨rfl, below_on HB7 HR10⟩
  · have hd3 : decide (from_ < day) = false := by simpa using hgt
    cases too
    · go_wp2_with fail
      go_ret
      exact ⟨rfl, HB4⟩
    have K6 := implCancelPromise_any X m.length C m day q w5 rX
    rw [HBA.out (by trivial)] at K6
    go_wp2_with fail
    refine K6.mono ?_
    rintro e w7 ⟨Y, D, rfl, oY, hb7⟩
    have rY := oY.rows (by simp only; omega)
    dsimp only at rY ⊢
    have ra7 := ra4.keep hb7
    have rb7 := rb4.keep hb7
    have rX7 := rX.keep hb7
    have HB7 := below_on HB4 hb7
    clear K6 oY hb7 ra4 rb4 rX HB4
    go_wp2_with fail
    go_loopw [15] (fun i wr => ∃ d : Int, from_ ≤ d ∧ d ≤ day ∧ i = .int .i64 d ∧ Below w7.heap.size w7 wr) (fun i _ => (day - intOf i).toNat)
    case atStart => exact ⟨from_, by omega, by omega, rfl, Below.refl _ _⟩
    case round =>
      obtain ⟨d, d1, d2, rfl, HR⟩ := hrel
      by_cases hlt : d < day
      · exfalso; omega
      · go_wp2_with fail
        refine (implIsKept_any _ _ _ _ _ _ a m _ (ra7.keep HR) (rX7.keep HR)).mono ?_
        rintro e w8 ⟨rfl, hb8⟩
        have HR8 := below_on HR hb8
        rw [HKE.out (by trivial)]
        go_wp2_with fail
        refine (specIsKept_any _ _ _ _ _ _ a m _ (ra7.keep HR8) (rX7.keep HR8)).mono ?_
        rintro e w9 ⟨rfl, hb9⟩
        have HR9 := HR8.trans (hb9.below _)
        rw [HKE.out (by trivial)]
        go_wp2_with fail
        refine (sameFlows_yes _ _ _ _ _ _ b _ (rY.keep HR9) (rb7.keep HR9)).mono ?_
        rintro e w10 ⟨rfl, hb10⟩
        have HR10 := HR9.trans (hb10.below _)
        go_wp2_with fail
        go_ret
        exact ⟨rfl, below_on HB7 HR10⟩

end Go.Proofs.Ytdofhdelcendeaa
