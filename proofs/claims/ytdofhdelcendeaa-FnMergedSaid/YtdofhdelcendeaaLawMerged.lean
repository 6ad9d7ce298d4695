/- The walk of the law FnMerged: for every input it returns true, and no memory that was there is written. -/
import Derived.Test.YtdofhdelcendeaaBytes
import Derived.Test.YtdofhdelcendeaaMergedPlain
import Derived.Test.YtdofhdelcendeaaFlowUp
namespace Go.Proofs.Ytdofhdelcendeaa
open Go.RowKit
set_option maxRecDepth 100000 in
set_option maxHeartbeats 4000000 in
theorem lawMerged {w : World} (A : Option Addr) (n c : Nat) (l : List Int) (hl : n ≤ 1048576 → RowsIn byteF w A n l ∧ ∀ x ∈ l, okByte x) (hn : n ≤ 9223372036854775807) :
    Calls Try.prog 8 #[.slice A n c] w fun e w' => e = .returned (.bool true) ∧ Below w.heap.size w w' := by
  by_cases big : 1048576 < n
  · go_enter Try.func8, Try.ntmps8
    go_wp2_with fail
    refine (big_yes _ _ _ _ big hn).mono ?_
    rintro e w1 ⟨rfl, rfl⟩
    go_wp2_with fail
    go_ret
    exact ⟨rfl, Below.refl _ _⟩
  obtain ⟨hi, hok⟩ := hl (by omega)
  have hby := bytesAt_of hi hok
  clear hl hi hok
  go_enter Try.func8, Try.ntmps8
  go_wp2_with fail
  refine (big_no _ _ _ _ big).mono ?_
  rintro e w1 ⟨rfl, rfl⟩
  go_wp2_with fail
  refine (DrawMergeFlows_any _ _ _ _ hby).mono ?_
  rintro e w1 ⟨a, b, A1, c1, A2, c2, rfl, l1, l2, oa, ob, hb1⟩
  have ra := oa.rows (by omega)
  have rb := ob.rows (by omega)
  clear oa ob hby
  obtain ⟨m, is, hM⟩ : ∃ m is, mergeFlows a b = (m, is) := ⟨_, _, rfl⟩
  have hM2 : mergeFlows b a = (m, is) := by rw [mergeFlows_comm]; exact hM
  have K1 := implMergeFlows_any A1 A2 a.length b.length c1 c2 a b w1 ra rb
  rw [hM] at K1
  have hm0 : is = false → m = [] := fun h => by have := mergeFlows_nil (a := a) (b := b) (by rw [hM]; exact h); rw [hM] at this; exact this
  have hmu : is = true → ∀ e, flowUpTo m e = flowUpTo a e + flowUpTo b e := fun h e => by have := mergeFlows_upTo (a := a) (b := b) (by rw [hM]; exact h) e; rw [hM] at this; exact this
  have hmf : areFlows m = true := by have := mergeFlows_flows a b; rw [hM] at this; exact this
  have HM := Lib.hid hM
  have HM2 := Lib.hid hM2
  have HU := Lib.hid hmu
  clear hM hM2 hmu
  go_wp2_with fail
  refine K1.mono ?_
  rintro e w2 ⟨X1, C1, rfl, o1, hb2⟩
  have hml := (areFlows_parts hmf).2
  have r1 := o1.rows (by simp only; omega)
  have K2 := specMergeFlows_any A1 A2 a.length b.length c1 c2 a b w2 (ra.keep hb2) (rb.keep hb2)
  rw [HM.out] at K2
  clear o1 K1
  dsimp only at r1 ⊢
  go_wp2_with fail
  refine K2.mono ?_
  rintro e w3 ⟨X2, C2, rfl, _, hb3⟩
  have K3 := implMergeFlows_any A2 A1 b.length a.length c2 c1 b a w3 ((rb.keep hb2).keep hb3) ((ra.keep hb2).keep hb3)
  rw [HM2.out] at K3
  clear K2
  dsimp only
  cases is
  · obtain rfl := hm0 rfl
    go_wp2_with fail
    refine K3.mono ?_
    rintro e w4 ⟨X3, C3, rfl, _, hb4⟩
    dsimp only
    go_wp2_with fail
    go_ret
    exact ⟨rfl, below_on (below_on (below_on hb1 hb2) hb3) hb4⟩
  clear hm0
  go_wp2_with fail
  refine K3.mono ?_
  rintro e w4 ⟨X3, C3, rfl, o3, hb4⟩
  have r3 := o3.rows (by simp only; omega)
  dsimp only at r3 ⊢
  have ra4 := ((ra.keep hb2).keep hb3).keep hb4
  have rb4 := ((rb.keep hb2).keep hb3).keep hb4
  have r14 := (r1.keep hb3).keep hb4
  have HB4 := below_on (below_on (below_on hb1 hb2) hb3) hb4
  clear ra rb r1 hb2 hb3 hb4 hb1 K3 o3
  go_wp2_with fail
  go_loopw [11] (fun i wr => ∃ k : Nat, k ≤ 60 ∧ i = .int .i64 k ∧ Below w4.heap.size w4 wr) (fun i _ => 60 - (intOf i).toNat)
  case atStart => exact ⟨0, by omega, rfl, Below.refl _ _⟩
  case round =>
    obtain ⟨k, hk, rfl, HR⟩ := hrel
    by_cases hlt : k < 60
    · have hf1 := flowUpTo_bd a k
      have hf2 := flowUpTo_bd b k
      have hlt2 : (k : Int) < 60 := by omega
      go_wp2_with fail
      refine (implFlowUpTo_any _ _ _ m k _ (r14.keep HR)).mono ?_
      rintro e w5 ⟨rfl, hb5⟩
      have HR5 := below_on HR hb5
      go_wp2_with fail
      refine (implFlowUpTo_any _ _ _ a k _ (ra4.keep HR5)).mono ?_
      rintro e w6 ⟨rfl, hb6⟩
      have HR6 := below_on HR5 hb6
      go_wp2_with fail
      refine (implFlowUpTo_any _ _ _ b k _ (rb4.keep HR6)).mono ?_
      rintro e w7 ⟨rfl, hb7⟩
      have HR7 := below_on HR6 hb7
      rw [HU.out (by trivial) k]
      have hz : (flowUpTo a k + flowUpTo b k != flowUpTo a k + flowUpTo b k) = false := by simp
      go_wp2_with fail
      go_roundw
      case rel => exact ⟨k + 1, by omega, by go_num, HR7⟩
      case measure => simp [intOf]; omega
    · have hlt2 : ¬ (k : Int) < 60 := by omega
      go_wp2_with fail
      refine (specAreFlows_any _ _ _ m _ (r14.keep HR)).mono ?_
      rintro e w5 ⟨rfl, hb5⟩
      have HR5 := HR.trans (hb5.below _)
      rw [hmf]
      go_wp2_with fail
      refine (sameFlows_yes _ _ _ _ _ _ m _ (r14.keep HR5) (r3.keep HR5)).mono ?_
      rintro e w6 ⟨rfl, hb6⟩
      have HR6 := HR5.trans (hb6.below _)
      go_wp2_with fail
      go_ret
      exact ⟨rfl, below_on HB4 HR6⟩
end Go.Proofs.Ytdofhdelcendeaa
