/- How the law on dispatched jobs draws its inputs. -/
import Derived.Test.YtmkfinahbelpdaaDrawJobs
namespace Go.Proofs.Ytmkfinahbelpdaa
open Go.RowKit
set_option maxRecDepth 100000 in
set_option maxHeartbeats 1000000 in
theorem DrawDispatchJobs_any (A : Option Addr) (n c : Nat) (w : World) (hb : BytesAt w w.heap.size A n) : Calls Try.prog 12 #[.slice A n c] w fun e w' => ∃ (l : List Jb) (R : List JbR) (b c : Nat) (x : Int), e = .returned (.tuple #[.slice (some ⟨b, 0, none⟩) l.length c, .int .i64 x]) ∧ l.length ≤ 4 ∧ (∀ j ∈ l, okJb j ∧ j.2.2.length ≤ 4) ∧ OwnRows jbF 44 w' w.heap.size (some ⟨b, 0, none⟩) l.length c R ∧ JbsOwn w' w.heap.size R l ∧ Below w.heap.size w w' := by
  go_enter Try.func12, Try.ntmps12
  go_wp2_with fail
  refine (l1New_any _ _ _ _ hb).mono ?_
  rintro e w1 ⟨g, rfl, hg, hc1, hb1⟩
  have hz1 := hb1.size
  go_wp2_with fail
  refine (l22Jobs_any _ _ _ hc1).mono ?_
  rintro e w2 ⟨l, R, b, c2, rfl, hl4, hok, hr, hJ, hc2, HO2⟩
  have hgl := hc1.lt
  have hz2 := HO2.size
  go_wp2_with fail
  refine (l1Once_any _ _ _ _ (by omega) hc2).mono ?_
  rintro e w3 ⟨bb, rfl, hc3, HO3⟩
  have hr3 := hr.only HO3 (by omega)
  have hJ3 := hJ.only HO3 (by omega)
  have hz3 := HO3.size
  have hg3 := hc3.lt
  have hB3 := below_only (below_only hb1 HO2 hg hz1) HO3 hg (by omega)
  cases bb
  · go_wp2_with fail
    refine (l1Below_any _ _ _ _ (by omega) hc3).mono ?_
    rintro e w4 ⟨x, rfl, _, hc4, HO4⟩
    have hr4 := hr3.only HO4 (by omega)
    have hJ4 := hJ3.only HO4 (by omega)
    have hB4 := below_only hB3 HO4 hg (by omega)
    go_wp2_with fail
    go_ret2
    exact ⟨l, R, b, c2, x, rfl, hl4, hok, hr4.lower hz1, hJ4.lower hz1, hB4⟩
  · go_wp2_with fail
    refine (l1PickInt_any _ 2 _ [-1, 3] _ _ g (lit_ints rfl _ _ _ rfl rfl (by simp)) (by omega) (fun a ha => by have := Option.some.inj ha; rw [← this]; show w3.heap.size ≠ g; omega) (hc3.keep (below_alloc _ _) hg3)).mono ?_
    rintro e w4 ⟨x, rfl, _, hc4, HO4⟩
    have HO5 := (Only.of_below (lo := g) (hi := g + 1) (below_alloc w3 _)).trans HO4
    have hr4 := hr3.only HO5 (by omega)
    have hJ4 := hJ3.only HO5 (by omega)
    have hB4 := below_only hB3 HO5 hg (by omega)
    go_wp2_with fail
    go_ret2
    exact ⟨l, R, b, c2, x, rfl, hl4, hok, hr4.lower hz1, hJ4.lower hz1, hB4⟩
end Go.Proofs.Ytmkfinahbelpdaa
