/- The walk of the law FnLots: for every input it returns true, and no memory that was there is written. -/
import Derived.Test.YtdofhdelcendeaaBytes
import Derived.Test.YtdofhdelcendeaaDrawLots
import Derived.Test.YtdofhdelcendeaaLotsLaw
import Derived.Test.YtdofhdelcendeaaLots
import Derived.Test.YtdofhdelcendeaaLotting
import Derived.Test.YtdofhdelcendeaaSpare
namespace Go.Proofs.Ytdofhdelcendeaa
open Go.RowKit
theorem lotsFor_nil {needs : List Fl} {rule size : Int} (h : (lotsFor needs rule size).2 = false) : (lotsFor needs rule size).1 = [] := by
  unfold lotsFor at h ⊢
  split at h
  · simp at h
  · rename_i hc
    rw [if_neg hc]
theorem lotsFor_all {needs m : List Fl} {rule size : Int} (h : lotsFor needs rule size = (m, true)) : lotRule rule size = true ∧ areFlows needs = true ∧ areFlows m = true ∧ m = (lotTo rule size needs needs.length).1 := by
  unfold lotsFor at h
  split at h
  · rename_i hc
    simp only [Bool.and_eq_true] at hc
    simp only [Prod.mk.injEq, and_true] at h
    subst h
    exact ⟨hc.1.1, hc.1.2, hc.2, rfl⟩
  · simp at h
theorem spareOn_bd (needs lots : List Fl) (d : Int) : -40000000000 ≤ spareOn needs lots d ∧ spareOn needs lots d ≤ 40000000000 := by
  have h1 := flowUpTo_bd needs d
  have h2 := flowUpTo_bd lots d
  unfold spareOn
  split <;> omega
set_option maxRecDepth 100000 in
set_option maxHeartbeats 4000000 in
theorem lawLots {w : World} (A : Option Addr) (n c : Nat) (l : List Int) (hl : n ≤ 1048576 → RowsIn byteF w A n l ∧ ∀ x ∈ l, okByte x) (hn : n ≤ 9223372036854775807) :
    Calls Try.prog 11 #[.slice A n c] w fun e w' => e = .returned (.bool true) ∧ Below w.heap.size w w' := by
  by_cases big : 1048576 < n
  · go_enter Try.func11, Try.ntmps11
    go_wp2_with fail
    refine (big_yes _ _ _ _ big hn).mono ?_
    rintro e w1 ⟨rfl, rfl⟩
    go_wp2_with fail
    go_ret
    exact ⟨rfl, Below.refl _ _⟩
  obtain ⟨hi, hok⟩ := hl (by omega)
  have hby := bytesAt_of hi hok
  clear hl hi hok
  go_enter Try.func11, Try.ntmps11
  go_wp2_with fail
  refine (big_no _ _ _ _ big).mono ?_
  rintro e w1 ⟨rfl, rfl⟩
  go_wp2_with fail
  refine (DrawLotsFor_any _ _ _ _ hby).mono ?_
  rintro e w1 ⟨rule, size, a, A1, c1, rfl, l1, oa, hb1⟩
  have ra := oa.rows (by omega)
  clear oa hby
  obtain ⟨m, is, hM⟩ : ∃ m is, lotsFor a rule size = (m, is) := ⟨_, _, rfl⟩
  have K1 := implLotsFor_any A1 a.length c1 a rule size w1 ra
  rw [hM] at K1
  have hml : m.length ≤ 16777216 := by have := lotsFor_len a rule size; rw [hM] at this; exact this
  have hm0 : is = false → m = [] := fun h => by have := lotsFor_nil (needs := a) (rule := rule) (size := size) (by rw [hM]; exact h); rw [hM] at this; exact this
  have HM := Lib.hid hM
  clear hM
  go_wp2_with fail
  refine K1.mono ?_
  rintro e w2 ⟨X1, C1, rfl, o1, hb2⟩
  have r1 := o1.rows (by simp only; omega)
  have K2 := specLotsFor_any A1 a.length c1 a rule size w2 (ra.keep hb2)
  rw [HM.out] at K2
  clear o1 K1
  dsimp only at r1 ⊢
  go_wp2_with fail
  refine K2.mono ?_
  rintro e w3 ⟨X2, C2, rfl, _, hb3⟩
  dsimp only
  cases is
  · obtain rfl := hm0 rfl
    go_wp2_with fail
    go_ret
    exact ⟨rfl, below_on (below_on hb1 hb2) hb3⟩
  clear hm0
  obtain ⟨e1, e2, e3, e4⟩ := lotsFor_all HM.out
  have HIL : Hid (isLotting a m rule size = true) := by
    show _ = _
    rw [e4]; exact lots_isLotting e1 e2 (by rw [← e4]; exact e3)
  have HEA : Hid (∀ i (hi : i < a.length), 0 ≤ spareOn a m a[i].1 ∧ (rule = 1 → spareOn a m a[i].1 < size) ∧ (rule = 2 → i + 1 = a.length → spareOn a m a[i].1 = 0)) := fun i hi => by
    rw [e4]; exact lots_each e1 e2 (by rw [← e4]; exact e3) i hi
  have HSA : Hid (rule = 0 → m = a) := fun h => by
    rw [e4, h, lot0 _ (Nat.le_refl _), List.take_length]
  have hru := lotRule_parts e1
  clear e1 e2 e3 e4 HM
  have ra4 := (ra.keep hb2).keep hb3
  have r14 := r1.keep hb3
  have HB4 := below_on (below_on hb1 hb2) hb3
  clear ra r1 hb2 hb3 hb1 K2
  go_wp2_with fail
  refine (implIsLotting_any _ _ _ _ _ _ a m rule size _ ra4 r14).mono ?_
  rintro e w5 ⟨rfl, hb5⟩
  rw [HIL.out]
  go_wp2_with fail
  refine (specIsLotting_any _ _ _ _ _ _ a m rule size _ (ra4.keep hb5) (r14.keep hb5)).mono ?_
  rintro e w6 ⟨rfl, hb6⟩
  rw [HIL.out]
  have ra6 := (ra4.keep hb5).keep (hb6.below _)
  have r16 := (r14.keep hb5).keep (hb6.below _)
  have HB6 := (below_on HB4 hb5).trans (hb6.below _)
  clear ra4 r14 HB4 hb5 hb6
  by_cases hr0 : rule = 0
  · have hma := HSA.out hr0
    subst hma
    obtain ⟨rfl, rfl⟩ : rule = 0 ∧ size = 0 := by omega
    go_wp2_with fail
    refine (sameFlows_yes _ _ _ _ _ _ m _ r16 ra6).mono ?_
    rintro e w7 ⟨rfl, hb7⟩
    replace ra6 := ra6.keep (hb7.below _)
    replace r16 := r16.keep (hb7.below _)
    replace HB6 := HB6.trans (hb7.below _)
    clear hb7
    go_wp2_with fail
    go_loopw [10] (fun i wr => ∃ k : Nat, k ≤ m.length ∧ i = .int .i64 k ∧ Below w7.heap.size w7 wr) (fun i _ => m.length - (intOf i).toNat)
    case atStart => exact ⟨0, by omega, rfl, Below.refl _ _⟩
    case round =>
      obtain ⟨k, hk, rfl, HR⟩ := hrel
      by_cases hlt : k < m.length
      · have hsp := (HEA.out k hlt).1
        have hbd := spareOn_bd m m m[k].1
        obtain ⟨b, o, rfl, _, hc0, _⟩ := flow_at (ra6.keep HR) hlt
        go_wp2_with fail
        refine (implSpareOn_any _ _ _ _ _ _ m m _ _ (ra6.keep HR) (r16.keep HR)).mono ?_
        rintro e w8 ⟨rfl, hb8⟩
        have HR8 := below_on HR hb8
        have hz : decide (spareOn m m m[k].1 < 0) = false := by simp; omega
        cases hz2 : ((k : Int) == (m.length : Int) - 1)
        all_goals
          go_wp2_with fail
          go_roundw
          case rel => exact ⟨k + 1, by omega, by go_num, HR8⟩
          case measure => simp [intOf]; omega
      · go_wp2_with fail
        go_ret
        exact ⟨rfl, below_on HB6 HR⟩
  · rcases (show (rule = 1 ∧ 1 ≤ size ∧ size ≤ 1000) ∨ (rule = 2 ∧ 1 ≤ size ∧ size ≤ 1000) by omega) with ⟨rfl, s1, s2⟩ | ⟨rfl, s1, s2⟩
    all_goals
      clear hr0 hru HSA
      go_wp2_with fail
      go_loopw [10] (fun i wr => ∃ k : Nat, k ≤ a.length ∧ i = .int .i64 k ∧ Below w6.heap.size w6 wr) (fun i _ => a.length - (intOf i).toNat)
      case atStart => exact ⟨0, by omega, rfl, Below.refl _ _⟩
      case round =>
        obtain ⟨k, hk, rfl, HR⟩ := hrel
        by_cases hlt : k < a.length
        · obtain ⟨p1, p2, p3⟩ := HEA.out k hlt
          have P2 := Lib.hid p2
          have P3 := Lib.hid p3
          clear p2 p3
          have hbd := spareOn_bd a m a[k].1
          obtain ⟨b, o, rfl, _, hc0, _⟩ := flow_at (ra6.keep HR) hlt
          go_wp2_with fail
          refine (implSpareOn_any _ _ _ _ _ _ a m _ _ (ra6.keep HR) (r16.keep HR)).mono ?_
          rintro e w8 ⟨rfl, hb8⟩
          have HR8 := below_on HR hb8
          have hz : decide (spareOn a m a[k].1 < 0) = false := by simp; omega
          by_cases hle : k + 1 = a.length
          · have hz2 : ((k : Int) == (a.length : Int) - 1) = true := by rw [beq_iff_eq]; omega
            first
              | (have hz3 : decide (size ≤ spareOn a m a[k].1) = false := by have := P2.out (by trivial); simp; omega
                 have HLE := Lib.hid hle
                 clear hle
                 go_wp2_with fail
                 go_roundw
                 case rel => exact ⟨k + 1, by omega, by go_num, HR8⟩
                 case measure => simp [intOf]; omega)
              | (have hz3 : (spareOn a m a[k].1 != 0) = false := by have := P3.out (by trivial) hle; simp [this]
                 have HLE := Lib.hid hle
                 clear hle
                 go_wp2_with fail
                 go_roundw
                 case rel => exact ⟨k + 1, by omega, by go_num, HR8⟩
                 case measure => simp [intOf]; omega)
          · have hz2 : ((k : Int) == (a.length : Int) - 1) = false := by rw [beq_eq_false_iff_ne]; omega
            first
              | (have hz3 : decide (size ≤ spareOn a m a[k].1) = false := by have := P2.out (by trivial); simp; omega
                 go_wp2_with fail
                 go_roundw
                 case rel => exact ⟨k + 1, by omega, by go_num, HR8⟩
                 case measure => simp [intOf]; omega)
              | (go_wp2_with fail
                 go_roundw
                 case rel => exact ⟨k + 1, by omega, by go_num, HR8⟩
                 case measure => simp [intOf]; omega)
        · go_wp2_with fail
          go_ret
          exact ⟨rfl, below_on HB6 HR⟩
end Go.Proofs.Ytdofhdelcendeaa
