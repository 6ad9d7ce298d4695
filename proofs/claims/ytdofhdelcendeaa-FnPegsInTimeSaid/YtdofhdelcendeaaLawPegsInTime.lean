/- The walk of the law FnPegsInTime: for every input it returns true, and no memory that was there is written. -/
import Derived.Test.YtdofhdelcendeaaBytes
import Derived.Test.YtdofhdelcendeaaPegsLaw
import Derived.Test.YtdofhdelcendeaaPegIn
import Derived.Test.YtdofhdelcendeaaFlowUp
import Derived.Test.YtdofhdelcendeaaPegging
import Derived.Test.YtdofhdelcendeaaLack
namespace Go.Proofs.Ytdofhdelcendeaa
open Go.RowKit
def qTo (l : List Pg) (k : Nat) : Int := qSum (l.take k)
theorem qTo_succ (l : List Pg) (k : Nat) (h : k < l.length) : qTo l (k + 1) = qTo l k + l[k].2.2 := by
  unfold qTo
  rw [List.take_succ_eq_append_getElem h, qSum_append]; simp [qSum]
theorem qTo_bd (l : List Pg) (nd ns k : Nat) (hk : k ≤ l.length) (h : ∀ p ∈ l, okPeg nd ns p = true) : 0 ≤ qTo l k ∧ qTo l k ≤ 1000000000 * k := by
  induction k with
  | zero => simp [qTo, qSum]
  | succ k ih =>
    have h1 := ih (by omega)
    have h2 := h _ (List.getElem_mem (show k < l.length by omega))
    simp only [okPeg, Bool.and_eq_true, inB_iff] at h2
    rw [qTo_succ l k (by omega)]
    omega
theorem fSum_bd (l : List Fl) (h : areFlows l = true) : 0 ≤ fSum l ∧ fSum l ≤ 40000000000 := by
  have := flowUpTo_bd l 999
  rw [fSum_999 h] at this
  exact this
set_option maxRecDepth 100000 in
set_option maxHeartbeats 4000000 in
theorem lawPegsInTime {w : World} (A : Option Addr) (n c : Nat) (l : List Int) (hl : n ≤ 1048576 → RowsIn byteF w A n l ∧ ∀ x ∈ l, okByte x) (hn : n ≤ 9223372036854775807) :
    Calls Try.prog 7 #[.slice A n c] w fun e w' => e = .returned (.bool true) ∧ Below w.heap.size w w' := by
  by_cases big : 1048576 < n
  · go_enter Try.func7, Try.ntmps7
    go_wp2_with fail
    refine (big_yes _ _ _ _ big hn).mono ?_
    rintro e w1 ⟨rfl, rfl⟩
    go_wp2_with fail
    go_ret
    exact ⟨rfl, Below.refl _ _⟩
  obtain ⟨hi, hok⟩ := hl (by omega)
  have hby := bytesAt_of hi hok
  clear hl hi hok
  go_enter Try.func7, Try.ntmps7
  go_wp2_with fail
  refine (big_no _ _ _ _ big).mono ?_
  rintro e w1 ⟨rfl, rfl⟩
  go_wp2_with fail
  refine (DrawPegInTime_any _ _ _ _ hby).mono ?_
  rintro e w1 ⟨a, b, A1, c1, A2, c2, rfl, l1, l2, oa, ob, hb1⟩
  have ra := oa.rows (by omega)
  have rb := ob.rows (by omega)
  clear oa ob hby
  cases hg : (areFlows a && areFlows b)
  · have HP : Hid (pegsOf true a b = ([], false)) := pegsOf_no hg
    have HL : Hid (lackOf a b = (0, false)) := by show _ = _; unfold lackOf; rw [hg]; rfl
    clear hg
    have K1 := implPegInTime_any A1 A2 a.length b.length c1 c2 a b w1 ra rb
    rw [HP.out] at K1
    go_wp2_with fail
    refine K1.mono ?_
    rintro e w2 ⟨X1, C1, rfl, o1, hb2⟩
    have K2 := specPegInTime_any A1 A2 a.length b.length c1 c2 a b w2 (ra.keep hb2) (rb.keep hb2)
    rw [HP.out] at K2
    dsimp only
    go_wp2_with fail
    refine K2.mono ?_
    rintro e w3 ⟨X2, C2, rfl, _, hb3⟩
    dsimp only
    have K3 := implLackOf_any A1 A2 a.length b.length c1 c2 a b w3 ((ra.keep hb2).keep hb3) ((rb.keep hb2).keep hb3)
    rw [HL.out] at K3
    unfold pairV at K3
    go_wp2_with fail
    refine K3.mono ?_
    rintro e w4 ⟨rfl, hb4⟩
    go_wp2_with fail
    go_ret
    exact ⟨rfl, below_on (below_on (below_on hb1 hb2) hb3) hb4⟩
  have hg2 := hg
  rw [Bool.and_eq_true] at hg2
  obtain ⟨g1, g2⟩ := hg2
  have hn1 := (areFlows_parts g1).2
  have hn2 := (areFlows_parts g2).2
  have HP : Hid (pegsOf true a b = (pegsS true b a 0 0 0, true)) := pegsOf_yes g1 g2
  have HL : Hid (lackOf a b = (lackTo a b a.length, true)) := by show _ = _; unfold lackOf; rw [hg]; rfl
  have HIP := Lib.hid (pegs_isPegging (t := true) g1 g2)
  have HOK := Lib.hid (pegs_ok (t := true) g1 g2)
  have HSU := Lib.hid (pegs_lack g1 g2)
  have HMEM := Lib.hid (pegs_facts (t := true) g1 g2).mem
  have hpl := pegsS_bd (t := true) g1 g2
  have HF1 := Lib.hid (fSum_999 g1)
  have hsb := fSum_bd a g1
  have K1 := implPegInTime_any A1 A2 a.length b.length c1 c2 a b w1 ra rb
  rw [HP.out] at K1
  clear hg g1 g2
  generalize pegsS true b a 0 0 0 = p at *
  go_wp2_with fail
  refine K1.mono ?_
  rintro e w2 ⟨X1, C1, rfl, o1, hb2⟩
  have r1 := o1.rows (by simp only; omega)
  have K2 := specPegInTime_any A1 A2 a.length b.length c1 c2 a b w2 (ra.keep hb2) (rb.keep hb2)
  rw [HP.out] at K2
  dsimp only at r1 ⊢
  go_wp2_with fail
  refine K2.mono ?_
  rintro e w3 ⟨X2, C2, rfl, _, hb3⟩
  dsimp only
  have K3 := implLackOf_any A1 A2 a.length b.length c1 c2 a b w3 ((ra.keep hb2).keep hb3) ((rb.keep hb2).keep hb3)
  rw [HL.out] at K3
  unfold pairV at K3
  go_wp2_with fail
  refine K3.mono ?_
  rintro e w4 ⟨rfl, hb4⟩
  have ra4 := ((ra.keep hb2).keep hb3).keep hb4
  have rb4 := ((rb.keep hb2).keep hb3).keep hb4
  have r14 := (r1.keep hb3).keep hb4
  have HB4 := below_on (below_on (below_on hb1 hb2) hb3) hb4
  clear ra rb r1 hb2 hb3 hb4 hb1 K1 K2 K3 o1
  go_wp2_with fail
  go_loopw [11, 12] (fun s i wr => ∃ k : Nat, k ≤ p.length ∧ i = .int .i64 k ∧ s = .int .i64 (qTo p k) ∧ Below w4.heap.size w4 wr) (fun _ i _ => p.length - (intOf i).toNat)
  case atStart => exact ⟨0, by omega, rfl, rfl, Below.refl _ _⟩
  case round =>
    obtain ⟨k, hk, rfl, rfl, HR⟩ := hrel
    obtain ⟨q1, q2⟩ := qTo_bd p a.length b.length k hk HOK.out
    by_cases hlt : k < p.length
    · have HS := Lib.hid (qTo_succ p k hlt)
      obtain ⟨x, hx, y, hy, m1, _, m2, _, m3, m4, m5⟩ := HMEM.out _ (List.getElem_mem hlt)
      have hq : p[k].2.2 ≤ 1000000000 := by
        have h2 := HOK.out _ (List.getElem_mem hlt)
        simp only [okPeg, Bool.and_eq_true, inB_iff] at h2
        omega
      have m6 := m5 (by trivial)
      clear m5
      obtain ⟨b1, o1, rfl, _, hc0, hc1, hc2⟩ := peg_at (r14.keep HR) hlt
      obtain ⟨b2, o2, rfl, _, hd0, _⟩ := flow_at (ra4.keep HR) hx
      obtain ⟨b3, o3, rfl, _, he0, _⟩ := flow_at (rb4.keep HR) hy
      rw [m1] at hc0
      rw [m2] at hc1
      clear m1 m2
      have hz1 : decide (b.length ≤ y) = false := by simp; omega
      have hz2 : decide (a.length ≤ x) = false := by simp; omega
      have hz4 : decide ((b.length : Int) ≤ (y : Int)) = false := by simp; omega
      have hz5 : decide ((a.length : Int) ≤ (x : Int)) = false := by simp; omega
      have hz3 : decide (a[x].1 < b[y].1) = false := by simp; omega
      go_wp2_with fail
      go_quiet (fail)
      go_wp2_with fail
      go_roundw
      case rel => exact ⟨k + 1, by omega, by go_num, by rw [HS.out], below_drewN HR _⟩
      case measure => simp [intOf]; omega
    · obtain rfl : k = p.length := by omega
      have HQ : Hid (fSum a - qTo p p.length = lackTo a b a.length) := by show _ = _; unfold qTo; rw [List.take_length]; exact HSU.out
      go_wp2_with fail
      refine (specIsPegging_any _ _ _ _ _ _ _ _ _ a b p _ (ra4.keep HR) (rb4.keep HR) (r14.keep HR)).mono ?_
      rintro e w6 ⟨rfl, hb6⟩
      have HR6 := below_on HR hb6
      rw [HIP.out]
      go_wp2_with fail
      refine (specFlowUpTo_any _ _ _ a 999 _ (ra4.keep HR6)).mono ?_
      rintro e w7 ⟨rfl, hb7⟩
      have HR7 := HR6.trans (hb7.below _)
      rw [HF1.out]
      have hz : ((fSum a - qTo p p.length) == lackTo a b a.length) = true := by rw [beq_iff_eq]; exact HQ.out
      go_wp2_with fail
      go_ret
      exact ⟨rfl, below_on HB4 HR7⟩
end Go.Proofs.Ytdofhdelcendeaa
