/- The law FnExactLotCost: for every input it returns true, and no memory that was there is written. -/
import Derived.Test.YtjndlahkmjpdcaaLawKit
import Derived.Test.YtjndlahkmjpdcaaLotCost
namespace Go.Proofs.Ytjndlahkmjpdcaa
open Go.ChangeShapes Go.WideShapes Go.ChangeAt Go.RowKit
theorem lawLotCost {w : World} (A : Option Addr) (n c : Nat) (l : List Int) (hl : n ≤ 1048576 → IntsIn w A n l) (hn : n ≤ 9223372036854775807)
    (B : Option Addr) (m d : Nat) (k : List Int) (hk : m ≤ 1048576 → IntsIn w B m k) (hm : m ≤ 9223372036854775807)
    (s : Int) (_ : (Lit.int .i64 s).wf = true) (h : Int) (_ : (Lit.int .i64 h).wf = true) :
    Calls Try.prog 4 #[.slice A n c, .slice B m d, .int .i64 s, .int .i64 h] w fun e w' => e = .returned (.bool true) ∧ Below w.heap.size w w' := by
  by_cases hbig : 1048576 < n
  · go_enter Try.func4, Try.ntmps4
    go_wp2_with fail
    go_ret
    exact ⟨rfl, Below.refl _ _⟩
  by_cases hbig2 : 1048576 < m
  · go_enter Try.func4, Try.ntmps4
    go_wp2_with fail
    go_ret
    exact ⟨rfl, Below.refl _ _⟩
  have hi := hl (by omega)
  have hj := hk (by omega)
  clear hl hk
  have hil := hi.len
  have hjl := hj.len
  go_enter Try.func4, Try.ntmps4
  go_wp2_with fail
  refine (toIntS_any _ _ _ l _ hi).mono ?_
  rintro e w1 ⟨A1, rfl, ho1, hb1⟩
  go_wp2_with fail
  refine (toIntS_any _ _ _ k _ (hj.keep hb1)).mono ?_
  rintro e w2 ⟨A2, rfl, ho2, hb2⟩
  go_wp2_with fail
  refine (specLotCost_any _ _ _ _ _ _ l k s h _ ((ho1.keep hb2).ints hil) (ho2.ints hjl)).mono ?_
  rintro e w3 ⟨rfl, q, rfl⟩
  have hb12 := below_drewN (below_on hb1 hb2) q
  unfold pairV
  go_wp2_with fail
  refine (toIntS_any _ _ _ l _ (hi.keep hb12)).mono ?_
  rintro e w3 ⟨A3, rfl, ho3, hb3⟩
  go_wp2_with fail
  have hb13 := below_on hb12 hb3
  refine (toIntS_any _ _ _ k _ (hj.keep hb13)).mono ?_
  rintro e w4 ⟨A4, rfl, ho4, hb4⟩
  have hb14 := below_on hb13 hb4
  go_wp2_with fail
  refine (implLotCost_any _ _ _ _ _ _ l k s h _ ((ho3.keep hb4).ints hil) (ho4.ints hjl)).mono ?_
  rintro e w5 ⟨rfl, q2, rfl⟩
  have hb15 := below_drewN hb14 q2
  unfold pairV
  go_wp2_with fail
  refine (toIntS_any _ _ _ l _ (hi.keep hb15)).mono ?_
  rintro e w5 ⟨A5, rfl, ho5, hb5⟩
  have hb16 := below_on hb15 hb5
  go_wp2_with fail
  refine (eqIntS_yes _ _ _ _ _ _ l _ (((ho3.keep (below_drewN hb4 q2)).keep hb5).ints hil) (ho5.ints hil)).mono ?_
  rintro e w6 ⟨rfl, q3, rfl⟩
  have hb17 := below_drewN hb16 q3
  go_wp2_with fail
  refine (toIntS_any _ _ _ k _ (hj.keep hb17)).mono ?_
  rintro e w6 ⟨A6, rfl, ho6, hb6⟩
  have hb18 := below_on hb17 hb6
  go_wp2_with fail
  refine (eqIntS_yes _ _ _ _ _ _ k _ ((((ho4.keep (below_drewN (Below.refl _ _) q2)).keep (below_drewN hb5 q3)).keep hb6).ints hjl) (ho6.ints hjl)).mono ?_
  rintro e w7 ⟨rfl, q4, rfl⟩
  go_wp2_with fail
  go_ret
  exact ⟨rfl, below_drewN hb18 _⟩
end Go.Proofs.Ytjndlahkmjpdcaa
