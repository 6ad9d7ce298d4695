/- The walks of the rule of lots. -/
import Derived.Test.YtdofhdelcendeaaBase
namespace Go.Proofs.Ytdofhdelcendeaa
open Go.RowKit
def lotRule (r s : Int) : Bool := ((r == 0) && (s == 0)) || (((r == 1) || (r == 2)) && inB s 1 1000)
theorem inB_12 (r : Int) : inB r 1 2 = ((r == 1) || (r == 2)) := by
  rw [Bool.eq_iff_iff, inB_iff]
  simp only [Bool.or_eq_true, beq_iff_eq]
  omega
set_option maxRecDepth 100000 in
set_option maxHeartbeats 2000000 in
theorem l15Rule_any (r s : Int) (w : World) : Calls Try.prog 75 #[.int .i64 r, .int .i64 s] w fun e w' => e = .returned (.bool (lotRule r s)) ∧ w = w' := by
  unfold lotRule
  rw [← inB_12]
  cases h1 : (r == 0) <;> cases h2 : (s == 0) <;> cases h3 : inB r 1 2 <;> cases h4 : inB s 1 1000
  all_goals
    go_enter Try.func75, Try.ntmps75
    go_wp2_with (go_at_call 68; refine (l1In_any _ _ _ _).mono ?_; rintro e w' ⟨rfl, rfl⟩)
    go_ret
    exact ⟨rfl, rfl⟩
set_option maxRecDepth 100000 in
set_option maxHeartbeats 2000000 in
theorem isLotRule_any (r s : Int) (w : World) : Calls Try.prog 76 #[.int .i64 r, .int .i64 s] w fun e w' => e = .returned (.bool (lotRule r s)) ∧ w = w' := by
  unfold lotRule
  cases h1 : (r == 0) <;> cases h2 : (s == 0) <;> cases h3 : (r == 1) <;> cases h5 : (r == 2) <;> cases h4 : inB s 1 1000
  all_goals
    go_enter Try.func76, Try.ntmps76
    go_wp2_with (go_at_call 72; refine (in_any _ _ _ _).mono ?_; rintro e w' ⟨rfl, rfl⟩)
    go_ret
    exact ⟨rfl, rfl⟩
end Go.Proofs.Ytdofhdelcendeaa
