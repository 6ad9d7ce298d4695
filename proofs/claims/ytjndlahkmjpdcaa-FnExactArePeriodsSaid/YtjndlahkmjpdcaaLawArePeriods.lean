/- The law FnExactArePeriods: for every input it returns true, and no memory that was there is written. -/
import Derived.Test.YtjndlahkmjpdcaaLawKit
namespace Go.Proofs.Ytjndlahkmjpdcaa
open Go.ChangeShapes Go.WideShapes Go.ChangeAt Go.RowKit
theorem lawArePeriods {w : World} (A : Option Addr) (n c : Nat) (l : List Int) (hl : n ≤ 1048576 → IntsIn w A n l) (hn : n ≤ 9223372036854775807) (s : Int) (_ : (Lit.int .i64 s).wf = true) (h : Int) (_ : (Lit.int .i64 h).wf = true) :
    Calls Try.prog 3 #[.slice A n c, .int .i64 s, .int .i64 h] w fun e w' => e = .returned (.bool true) ∧ Below w.heap.size w w' := by
  by_cases hbig : 1048576 < n
  · go_enter Try.func3, Try.ntmps3
    go_wp2_with fail
    go_ret
    exact ⟨rfl, Below.refl _ _⟩
  have hi := hl (by omega)
  clear hl
  go_enter Try.func3, Try.ntmps3
  go_wp2_with fail
  refine (toIntS_any _ _ _ l _ hi).mono ?_
  rintro e w1 ⟨A1, rfl, ho1, hb1⟩
  go_wp2_with fail
  refine (specArePeriods_any _ _ _ l s h _ (ho1.ints (by have := hi.len; omega))).mono ?_
  rintro e w2 ⟨rfl, rfl⟩
  go_wp2_with fail
  refine (toIntS_any _ _ _ l _ (hi.keep hb1)).mono ?_
  rintro e w2 ⟨A2, rfl, ho2, hb2⟩
  go_wp2_with fail
  refine (implArePeriods_any _ _ _ l s h _ (ho2.ints (by have := hi.len; omega))).mono ?_
  rintro e w3 ⟨rfl, rfl⟩
  go_wp2_with fail
  refine (toIntS_any _ _ _ l _ ((hi.keep hb1).keep hb2)).mono ?_
  rintro e w3 ⟨A3, rfl, ho3, hb3⟩
  go_wp2_with fail
  refine (eqIntS_yes _ _ _ _ _ _ l _ ((ho2.keep hb3).ints (by have := hi.len; omega)) (ho3.ints (by have := hi.len; omega))).mono ?_
  rintro e w4 ⟨rfl, q, rfl⟩
  go_wp2_with fail
  go_ret
  exact ⟨rfl, below_drewN (below_on (below_on hb1 hb2) hb3) _⟩

namespace fnExactArePeriods
set_option maxRecDepth 100000 in
theorem lifted (os : Os) (started : os.Started) (H : Type) (enc : TypeId × Value → H) :
    ReturnsInHanded {} Try.checked os 3 .any (Rows.fnExactArePeriodsSpec.pre6 enc Try.prog Try.f3 Rows.fnExactArePeriodsRow.domain false) (Rows.fnExactArePeriodsSpec.post enc Try.prog Try.f3 false true false false) := by
  refine returnsInHanded_of_change (C := Try.checked) own started (by kernel_rfl) Try.func3
    (ChangeSpec.witness6 (enc := enc) (C := Try.checked) false ⟨#[], #[.slice none 0 0, .int .i64 0, .int .i64 0], []⟩ 8 (by kernel_rfl) (by kernel_rfl) (by kernel_rfl) (by kernel_rfl)) ?_
  intro W base args ds gs before hval0 hW hcnd _
  have hval : ∀ (j : Nat) t v, Try.f3.params[j]? = some t → args[j]? = some v → Value.okWide Try.prog W .any base t v := hval0
  have hW' := hW
  obtain ⟨p, q, hA0, hV, rfl, hfz, hnd⟩ := hW
  have hA : DataW.TrodAll enc Try.prog W 0 (fun _ => true) true Try.f3.params.toList args.toList ds p := hA0
  rw [Try.params3] at hA hval
  obtain ⟨v0, vs0, d0, ds0, p0, q0, hargs, rfl, rfl, h0, r0⟩ := trodAll_cons hA
  obtain ⟨v1, vs1, d1, ds1, p1, q1, rfl, rfl, rfl, h1, r1⟩ := trodAll_cons r0
  obtain ⟨v2, vs2, d2, ds2, p2, q2, rfl, rfl, rfl, h2, r2⟩ := trodAll_cons r1
  obtain ⟨rfl, rfl, rfl⟩ := trodAll_nil r2
  obtain rfl : args = #[v0, v1, v2] := by cases args; simp_all
  obtain ⟨rfl, rfl⟩ := trodVars_none hV
  have k0 := h0
  have lt0 : ∀ x ∈ p0, x.block < W.heap.size := by obtain ⟨m, hm⟩ := k0; exact DataW.trod_lt m _ _ _ hm
  obtain ⟨a0, len0, cap0, rfl⟩ := okWide_slice Try.underlying22 (hval 0 22 v0 rfl rfl)
  obtain ⟨m0, z0, w0⟩ := open_intsIn h0
  obtain ⟨a1, rfl, rfl, rfl, w1⟩ := open_int Try.underlying3 (hval 1 3 v1 rfl rfl) h1
  obtain ⟨a2, rfl, rfl, rfl, w2⟩ := open_int Try.underlying3 (hval 2 3 v2 rfl rfl) h2
  clear hA0 hval0
  refine (lawArePeriods a0 len0 cap0 z0 w0 m0 a1 w1 a2 w2).mono fun e W' ⟨he, bel⟩ => ?_
  subst he
  exact ⟨_, rfl, _, _, _, [], _, [], hW', trodAll_mk1 (shut_bool Try.underlying4 _), (trodAll_cons_mk (Below.trod laidOut (by kernel_rfl) (of_decide_eq_true (by kernel_rfl)) k0 bel lt0) (trodAll_cons_mk (shut_int Try.underlying3 w1) (trodAll_cons_mk (shut_int Try.underlying3 w2) trodAll_mk0))), rfl, bel.frame _, fun h => by cases h⟩
theorem over : Rows.fnExactArePeriodsRow.holds Try.pinned (OpenSpec.ofChange Rows.fnExactArePeriodsSpec) :=
  OpenClaim.holds_of_wide 3 Try.f3 rfl rfl rfl rfl rfl rfl rfl ⟨rfl, rfl, rfl, rfl, rfl⟩ rfl rfl rfl rfl rfl (by kernel_rfl) Try.func3 (by kernel_rfl)
    (of_decide_eq_true (by kernel_rfl)) (by unfold Func.isWrapper; first | (rw [if_pos (by decide +kernel)]; kernel_rfl) | (rw [if_neg (by decide +kernel)]; exact ⟨rfl, rfl⟩))
    (fun os started H enc _ => lifted os started H enc)
theorem proved : Rows.FnExactArePeriodsSaid := over
#print axioms proved
end fnExactArePeriods
end Go.Proofs.Ytjndlahkmjpdcaa
