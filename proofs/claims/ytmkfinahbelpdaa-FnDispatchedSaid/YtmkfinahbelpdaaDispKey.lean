/- What a rule prefers: some number, and no memory is turned. -/
import Derived.Test.YtmkfinahbelpdaaWorkSpec
namespace Go.Proofs.Ytmkfinahbelpdaa
open Go.RowKit
set_option maxRecDepth 100000 in
set_option maxHeartbeats 2000000 in
theorem l22Key_any (x0 x1 : Int) (B : Option Addr) (m c : Nat) (l : List Wk) (k : Nat) (kk : Int) (rule : Int) (w : World) (hkk : kk = (k : Int)) (hl : WorksIn w B m l) (hm : MinOk l) (hk : k < l.length) (h1 : 0 ≤ x1) (h2 : x1 ≤ 100000) :
    Calls Try.prog 51 #[.agg #[.int .i64 x0, .int .i64 x1, .slice B m c], .int .i64 kk, .int .i64 rule] w fun e w' => ∃ y : Int, e = .returned (.int .i64 y) ∧ Below w.heap.size w w' := by
  subst hkk
  have h5 := hm.1
  obtain rfl := hl.1
  have hb := below_alloc w (.cells #[.int .i64 x0, .int .i64 x1, .slice B l.length c] 44)
  have g0 : (w.alloc (.cells #[.int .i64 x0, .int .i64 x1, .slice B l.length c] 44)).cell? ⟨w.heap.size, 0, none⟩ = some (.int .i64 x0) := by simp [go_sem]
  have g1 : (w.alloc (.cells #[.int .i64 x0, .int .i64 x1, .slice B l.length c] 44)).cell? ⟨w.heap.size, 1, none⟩ = some (.int .i64 x1) := by simp [go_sem]
  have g2 : (w.alloc (.cells #[.int .i64 x0, .int .i64 x1, .slice B l.length c] 44)).cell? ⟨w.heap.size, 2, none⟩ = some (.slice B l.length c) := by simp [go_sem]
  have hl2 := hl.keep hb
  obtain ⟨b, o, rfl, _, hd0, hd1⟩ := work_at hl2 hk
  have b1 := beforeN_bd hm k
  have b2 := beforeN_bd hm l.length
  go_enter Try.func51, Try.ntmps51
  by_cases r0 : rule = 0
  · subst r0
    go_wp2_with fail
    go_ret
    exact ⟨_, rfl, hb⟩
  · by_cases r1 : rule = 1
    · subst r1
      go_wp2_with fail
      go_ret
      exact ⟨_, rfl, hb⟩
    · go_wp2_with fail
      refine (specLeft_any _ _ _ _ _ l k _ _ rfl hl2 hm (by omega)).mono ?_
      rintro e w1 ⟨rfl, hb1⟩
      go_wp2_with fail
      go_ret
      exact ⟨_, rfl, below_on hb hb1⟩
end Go.Proofs.Ytmkfinahbelpdaa
