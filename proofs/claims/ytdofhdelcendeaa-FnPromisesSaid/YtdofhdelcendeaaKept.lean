/- The walks of IsKept. -/
import Derived.Test.YtdofhdelcendeaaLack
namespace Go.Proofs.Ytdofhdelcendeaa
open Go.RowKit
set_option maxRecDepth 100000 in
set_option maxHeartbeats 1000000 in
theorem specIsKept_any (A B : Option Addr) (n m c c2 : Nat) (sup prom : List Fl) (w : World) (ha : FlowsIn w A n sup) (hb : FlowsIn w B m prom) :
    Calls Try.prog 61 #[.slice A n c, .slice B m c2] w fun e w' => e = .returned (.bool (isKept sup prom)) ∧ Drew w w' := by
  have hn := ha.len
  have hm := hb.len
  obtain rfl := ha.1
  obtain rfl := hb.1
  cases h1 : areFlows sup
  · go_enter Try.func61, Try.ntmps61
    go_wp2_with fail
    refine (specAreFlows_any _ _ _ sup _ ha).mono ?_
    rintro e w1 ⟨rfl, HD⟩
    go_wp2_with fail
    go_ret
    exact ⟨ret_bool (by simp [isKept, h1]), HD⟩
  cases h2 : areFlows prom
  · go_enter Try.func61, Try.ntmps61
    go_wp2_with fail
    refine (specAreFlows_any _ _ _ sup _ ha).mono ?_
    rintro e w1 ⟨rfl, HD⟩
    go_wp2_with fail
    refine (specAreFlows_any _ _ _ prom _ (hb.keep (HD.below _))).mono ?_
    rintro e w2 ⟨rfl, HD2⟩
    go_wp2_with fail
    go_ret
    exact ⟨ret_bool (by simp [isKept, h2]), HD.trans HD2⟩
  go_enter Try.func61, Try.ntmps61
  go_wp2_with fail
  refine (specAreFlows_any _ _ _ sup _ ha).mono ?_
  rintro e w1 ⟨rfl, HD⟩
  go_wp2_with fail
  refine (specAreFlows_any _ _ _ prom _ (hb.keep (HD.below _))).mono ?_
  rintro e w2 ⟨rfl, HD2⟩
  have HD12 := HD.trans HD2
  go_wp2_with fail
  go_loopw [5] (fun i wr => ∃ k : Nat, k ≤ prom.length ∧ i = .int .i64 k ∧ Hid (∀ j (hj : j < prom.length), j < k → flowUpTo prom prom[j].1 ≤ flowUpTo sup prom[j].1) ∧ Drew w wr) (fun i _ => prom.length - (intOf i).toNat)
  case atStart => exact ⟨0, by omega, rfl, fun j _ h => absurd h (by omega), HD12⟩
  case round =>
    obtain ⟨k, hk, rfl, HI, HR⟩ := hrel
    by_cases hlt : k < prom.length
    · obtain ⟨b, o, rfl, _, hc1, hc2⟩ := flow_at (hb.keep (HR.below _)) hlt
      by_cases hle : flowUpTo prom prom[k].1 ≤ flowUpTo sup prom[k].1
      all_goals
        go_wp2_with fail
        go_quiet ((first | (go_at_call_of 35 (Value.slice (some ⟨b, o, none⟩) prom.length c2); exact quietD (fun W hW => specFlowUpTo_any _ _ _ prom _ _ (hb.keep ((HR.trans hW).below _)))) | (go_at_call 35; exact quietD (fun W hW => specFlowUpTo_any _ _ _ sup _ _ (ha.keep ((HR.trans hW).below _))))))
        go_wp2
      · go_roundw
        case rel =>
          refine ⟨k + 1, by omega, by go_num, ?_, HR.more _⟩
          intro j hj hjk
          rcases Nat.lt_or_ge j k with h3 | h3
          · exact HI.out j hj h3
          · obtain rfl : j = k := by omega
            exact hle
        case measure => simp [intOf]; omega
      · go_ret
        exact ⟨ret_bool (isKept_no hlt (by omega)).symm, HR.more _⟩
    · obtain rfl : k = prom.length := by omega
      go_wp2_with fail
      go_ret
      exact ⟨ret_bool (isKept_yes h1 h2 (fun k hk => HI.out k hk hk)).symm, HR⟩
set_option maxRecDepth 100000 in
set_option maxHeartbeats 1000000 in
theorem implIsKept_any (A B : Option Addr) (n m c c2 : Nat) (sup prom : List Fl) (w : World) (ha : FlowsIn w A n sup) (hb : FlowsIn w B m prom) :
    Calls Try.prog 60 #[.slice A n c, .slice B m c2] w fun e w' => e = .returned (.bool (isKept sup prom)) ∧ Below w.heap.size w w' := by
  have hk := isKept_lack sup prom
  obtain ⟨lk, hlk⟩ : ∃ p, p = lackOf prom sup := ⟨_, rfl⟩
  rw [← hlk] at hk
  obtain ⟨x, y⟩ := lk
  have HK := Lib.hid hk
  have HL := Lib.hid hlk
  clear hk hlk
  cases y
  · go_enter Try.func60, Try.ntmps60
    go_wp2_with fail
    refine (implLackOf_any _ _ _ _ _ _ prom sup _ hb ha).mono ?_
    rintro e w1 ⟨rfl, HD⟩
    rw [← HL.out]
    unfold pairV
    go_wp2_with fail
    go_ret
    exact ⟨ret_bool (by rw [HK.out]; rfl), HD⟩
  by_cases h0 : x = 0
  · subst h0
    go_enter Try.func60, Try.ntmps60
    go_wp2_with fail
    refine (implLackOf_any _ _ _ _ _ _ prom sup _ hb ha).mono ?_
    rintro e w1 ⟨rfl, HD⟩
    rw [← HL.out]
    unfold pairV
    go_wp2_with fail
    go_ret
    exact ⟨ret_bool (by rw [HK.out]; rfl), HD⟩
  · have hx : (x == 0) = false := beq_eq_false_iff_ne.2 h0
    have H0 := Lib.hid h0; clear h0
    go_enter Try.func60, Try.ntmps60
    go_wp2_with fail
    refine (implLackOf_any _ _ _ _ _ _ prom sup _ hb ha).mono ?_
    rintro e w1 ⟨rfl, HD⟩
    rw [← HL.out]
    unfold pairV
    go_wp2_with fail
    go_ret
    exact ⟨ret_bool (by rw [HK.out]; simp [H0.out]), HD⟩
end Go.Proofs.Ytdofhdelcendeaa
