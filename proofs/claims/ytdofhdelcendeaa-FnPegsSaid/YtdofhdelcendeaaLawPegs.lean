/- The walk of the law FnPegs: for every input it returns true, and no memory that was there is written. -/
import Derived.Test.YtdofhdelcendeaaBytes
import Derived.Test.YtdofhdelcendeaaPegsLaw
import Derived.Test.YtdofhdelcendeaaPegIn
import Derived.Test.YtdofhdelcendeaaFlowUp
import Derived.Test.YtdofhdelcendeaaPegging
namespace Go.Proofs.Ytdofhdelcendeaa
open Go.RowKit
def Mono (p : List Pg) : Prop := ∀ i (hi : i + 1 < p.length), (p[i]'(by omega)).1 ≤ (p[i + 1]).1 ∧ (p[i]'(by omega)).2.1 ≤ (p[i + 1]).2.1
theorem pegSum_bd (l : List Pg) (k : Nat) (hl : l.length ≤ 1600) : 0 ≤ pegSum l k ∧ pegSum l k ≤ 1600000000000 * k := by
  induction k with
  | zero => simp [pegSum]
  | succ k ih =>
    have h1 := ih
    have h2 := peggedTo_bd l k l.length (Nat.le_refl _)
    simp only [pegSum, peggedFor]
    omega
set_option maxRecDepth 100000 in
set_option maxHeartbeats 4000000 in
theorem lawPegs {w : World} (A : Option Addr) (n c : Nat) (l : List Int) (hl : n ≤ 1048576 → RowsIn byteF w A n l ∧ ∀ x ∈ l, okByte x) (hn : n ≤ 9223372036854775807) :
    Calls Try.prog 9 #[.slice A n c] w fun e w' => e = .returned (.bool true) ∧ Below w.heap.size w w' := by
  by_cases big : 1048576 < n
  · go_enter Try.func9, Try.ntmps9
    go_wp2_with fail
    refine (big_yes _ _ _ _ big hn).mono ?_
    rintro e w1 ⟨rfl, rfl⟩
    go_wp2_with fail
    go_ret
    exact ⟨rfl, Below.refl _ _⟩
  obtain ⟨hi, hok⟩ := hl (by omega)
  have hby := bytesAt_of hi hok
  clear hl hi hok
  go_enter Try.func9, Try.ntmps9
  go_wp2_with fail
  refine (big_no _ _ _ _ big).mono ?_
  rintro e w1 ⟨rfl, rfl⟩
  go_wp2_with fail
  refine (DrawPegInOrder_any _ _ _ _ hby).mono ?_
  rintro e w1 ⟨a, b, A1, c1, A2, c2, rfl, l1, l2, oa, ob, hb1⟩
  have ra := oa.rows (by omega)
  have rb := ob.rows (by omega)
  clear oa ob hby
  cases hg : (areFlows a && areFlows b)
  · have HP : Hid (pegsOf false a b = ([], false)) := pegsOf_no hg
    clear hg
    have K1 := implPegInOrder_any A1 A2 a.length b.length c1 c2 a b w1 ra rb
    rw [HP.out] at K1
    go_wp2_with fail
    refine K1.mono ?_
    rintro e w2 ⟨X1, C1, rfl, o1, hb2⟩
    have K2 := specPegInOrder_any A1 A2 a.length b.length c1 c2 a b w2 (ra.keep hb2) (rb.keep hb2)
    rw [HP.out] at K2
    dsimp only
    go_wp2_with fail
    refine K2.mono ?_
    rintro e w3 ⟨X2, C2, rfl, _, hb3⟩
    dsimp only
    go_wp2_with fail
    go_ret
    exact ⟨rfl, below_on (below_on hb1 hb2) hb3⟩
  have hg2 := hg
  rw [Bool.and_eq_true] at hg2
  obtain ⟨g1, g2⟩ := hg2
  have hn1 := (areFlows_parts g1).2
  have hn2 := (areFlows_parts g2).2
  have HP : Hid (pegsOf false a b = (pegsS false b a 0 0 0, true)) := pegsOf_yes g1 g2
  have HIP := Lib.hid (pegs_isPegging (t := false) g1 g2)
  have HOK := Lib.hid (pegs_ok (t := false) g1 g2)
  have HSU := Lib.hid (pegs_sum g1 g2)
  have HMO : Mono (pegsS false b a 0 0 0) := fun i hi => pegs_mono (t := false) g1 g2 i hi
  have hpl := pegsS_bd (t := false) g1 g2
  have HF1 := Lib.hid (fSum_999 g1)
  have HF2 := Lib.hid (fSum_999 g2)
  have K1 := implPegInOrder_any A1 A2 a.length b.length c1 c2 a b w1 ra rb
  rw [HP.out] at K1
  clear hg g1 g2
  generalize pegsS false b a 0 0 0 = p at *
  go_wp2_with fail
  refine K1.mono ?_
  rintro e w2 ⟨X1, C1, rfl, o1, hb2⟩
  have r1 := o1.rows (by simp only; omega)
  have K2 := specPegInOrder_any A1 A2 a.length b.length c1 c2 a b w2 (ra.keep hb2) (rb.keep hb2)
  rw [HP.out] at K2
  dsimp only at r1 ⊢
  go_wp2_with fail
  refine K2.mono ?_
  rintro e w3 ⟨X2, C2, rfl, _, hb3⟩
  dsimp only
  have ra4 := (ra.keep hb2).keep hb3
  have rb4 := (rb.keep hb2).keep hb3
  have r14 := r1.keep hb3
  have HB4 := below_on (below_on hb1 hb2) hb3
  clear ra rb r1 hb2 hb3 hb1 K1 K2 o1
  go_wp2_with fail
  go_loopw [9, 10] (fun s i wr => ∃ k : Nat, k ≤ a.length ∧ i = .int .i64 k ∧ s = .int .i64 (pegSum p k) ∧ Below w3.heap.size w3 wr) (fun _ i _ => a.length - (intOf i).toNat)
  case atStart => exact ⟨0, by omega, rfl, rfl, Below.refl _ _⟩
  case round =>
    obtain ⟨k, hk, rfl, rfl, HR⟩ := hrel
    have hb := pegSum_bd p k hpl
    by_cases hlt : k < a.length
    · have hb2 := peggedTo_bd p k p.length (Nat.le_refl _)
      have hb3 : 0 ≤ peggedFor p k ∧ peggedFor p k ≤ 1600000000000 := by unfold peggedFor; omega
      clear hb2
      go_wp2_with fail
      refine (implPeggedFor_any _ _ _ p k _ (r14.keep HR)).mono ?_
      rintro e w5 ⟨rfl, hb5⟩
      have HR5 := below_on HR hb5
      go_wp2_with fail
      go_roundw
      case rel => exact ⟨k + 1, by omega, by go_num, rfl, HR5⟩
      case measure => simp [intOf]; omega
    · obtain rfl : k = a.length := by omega
      have HPS : Hid (pegSum p a.length = min (fSum a) (fSum b)) := by show _ = _; rw [pegSum_all p a.length b.length HOK.out, HSU.out]
      go_wp2_with fail
      go_loopw [11] (fun i wr => ∃ k : Nat, 1 ≤ k ∧ k ≤ p.length + 1 ∧ i = .int .i64 k ∧ Below w3.heap.size w3 wr) (fun i _ => p.length - (intOf i).toNat)
      case atStart => exact ⟨1, by omega, by omega, rfl, HR⟩
      case round =>
        clear HR
        obtain ⟨k, hk1, hk, rfl, HR⟩ := hrel
        by_cases hlt : k < p.length
        · obtain ⟨j, rfl⟩ : ∃ j, k = j + 1 := ⟨k - 1, by omega⟩
          obtain ⟨m1, m2⟩ := HMO j hlt
          obtain ⟨b1, o1, rfl, _, hc0, hc1, _⟩ := peg_at (r14.keep HR) hlt
          obtain ⟨b2, o2, e2, _, hd0, hd1, _⟩ := peg_at (r14.keep HR) (show j < p.length by omega)
          obtain ⟨rfl, rfl⟩ : b1 = b2 ∧ o1 = o2 := by simpa using e2
          have hi1 : (0 : Int) ≤ ((j + 1 : Nat) : Int) - 1 := by omega
          have hi2 : ((j + 1 : Nat) : Int) - 1 < (p.length : Int) := by omega
          have hi3 : (((j + 1 : Nat) : Int) - 1).toNat = j := by omega
          have hz1 : decide (p[j + 1].1 < p[j].1) = false := by simp; omega
          have hz2 : decide (p[j + 1].2.1 < p[j].2.1) = false := by simp; omega
          go_wp2_with fail
          go_quiet (fail)
          go_wp2_with fail
          go_roundw
          case rel => exact ⟨j + 1 + 1, by omega, by omega, by go_num, below_drewN HR _⟩
          case measure => simp [intOf]; omega
        · go_wp2_with fail
          refine (implIsPegging_any _ _ _ _ _ _ _ _ _ a b p _ (ra4.keep HR) (rb4.keep HR) (r14.keep HR)).mono ?_
          rintro e w5 ⟨rfl, hb5⟩
          have HR5 := below_on HR hb5
          rw [HIP.out]
          go_wp2_with fail
          refine (specIsPegging_any _ _ _ _ _ _ _ _ _ a b p _ (ra4.keep HR5) (rb4.keep HR5) (r14.keep HR5)).mono ?_
          rintro e w6 ⟨rfl, hb6⟩
          have HR6 := below_on HR5 hb6
          rw [HIP.out]
          go_wp2_with fail
          refine (specFlowUpTo_any _ _ _ a 999 _ (ra4.keep HR6)).mono ?_
          rintro e w7 ⟨rfl, hb7⟩
          have HR7 := HR6.trans (hb7.below _)
          go_wp2_with fail
          refine (specFlowUpTo_any _ _ _ b 999 _ (rb4.keep HR7)).mono ?_
          rintro e w8 ⟨rfl, hb8⟩
          have HR8 := HR7.trans (hb8.below _)
          rw [HF1.out, HF2.out, HPS.out]
          have hz : (min (fSum a) (fSum b) == if fSum b < fSum a then fSum b else fSum a) = true := by rw [beq_iff_eq]; split <;> omega
          go_wp2_with fail
          all_goals
            go_ret
            exact ⟨by first | rfl | exact ret_bool hz, below_on HB4 HR8⟩
end Go.Proofs.Ytdofhdelcendeaa
