/- How the law on lots draws its inputs. -/
import Derived.Test.YtdofhdelcendeaaDraw2
namespace Go.Proofs.Ytdofhdelcendeaa
open Go.RowKit
theorem CurAt.lt {w : World} {base g : Nat} (h : CurAt w base g) : g < w.heap.size := by obtain ⟨A, n, c, i, h, h1, h2, h3, _⟩ := h; exact h3
def DrawnTwo (w : World) (base g : Nat) (e : Ending) (w' : World) : Prop := ∃ x y : Int, e = .returned (.tuple #[.int .i64 x, .int .i64 y]) ∧ CurAt w' base g ∧ Only g (g + 1) w w'
set_option maxRecDepth 100000 in
set_option maxHeartbeats 1000000 in
theorem l15Draw_any (w : World) (base g : Nat) (hc : CurAt w base g) : Calls Try.prog 87 #[.pointer (some ⟨g, 0, none⟩)] w (DrawnTwo w base g) := by
  go_enter Try.func87, Try.ntmps87
  go_wp2_with fail
  refine (l1Once_any _ _ _ _ (by omega) hc).mono ?_
  rintro e w1 ⟨b, rfl, hc1, HO1⟩
  cases b
  · go_wp2_with fail
    refine (l1Below_any _ _ _ _ (by omega) hc1).mono ?_
    rintro e w2 ⟨x, rfl, ⟨x0, x1⟩, hc2, HO2⟩
    cases hx : (x == 0)
    · go_wp2_with fail
      refine (l1Below_any _ _ _ _ (by omega) hc2).mono ?_
      rintro e w3 ⟨y, rfl, ⟨y0, y1⟩, hc3, HO3⟩
      go_wp2_with fail
      go_ret2
      exact ⟨_, _, rfl, hc3, (HO1.trans HO2).trans HO3⟩
    · go_wp2_with fail
      go_ret2
      exact ⟨_, _, rfl, hc2, HO1.trans HO2⟩
  · go_wp2_with fail
    refine (l1Below_any _ _ _ _ (by omega) hc1).mono ?_
    rintro e w2 ⟨x, rfl, ⟨x0, x1⟩, hc2, HO2⟩
    have hg := hc2.lt
    go_wp2_with fail
    refine (l1PickInt_any _ 4 _ [0, -1, 1000, 1001] _ base g (lit_ints rfl _ _ _ rfl rfl (by simp)) (by omega) (fun a ha => by have := Option.some.inj ha; rw [← this]; show w2.heap.size ≠ g; omega) (hc2.keep (below_alloc _ _) hg)).mono ?_
    rintro e w3 ⟨y, rfl, _, hc3, HO3⟩
    go_wp2_with fail
    go_ret2
    exact ⟨_, _, rfl, hc3, ((HO1.trans HO2).trans (Only.of_below (below_alloc _ _))).trans HO3⟩
set_option maxRecDepth 100000 in
set_option maxHeartbeats 1000000 in
theorem DrawLotsFor_any (A : Option Addr) (n c : Nat) (w : World) (hb : BytesAt w w.heap.size A n) : Calls Try.prog 50 #[.slice A n c] w fun e w' => ∃ (x y : Int) (l : List Fl) (A : Option Addr) (c : Nat), e = .returned (.tuple #[.int .i64 x, .int .i64 y, .slice A l.length c]) ∧ l.length ≤ 6 ∧ OwnRows flF 51 w' w.heap.size A l.length c l ∧ Below w.heap.size w w' := by
  go_enter Try.func50, Try.ntmps50
  go_wp2_with fail
  refine (l1New_any _ _ _ _ hb).mono ?_
  rintro e w1 ⟨g, rfl, hg, hc1, hb1⟩
  go_wp2_with fail
  refine (l15Draw_any _ _ _ hc1).mono ?_
  rintro e w2 ⟨x, y, rfl, hc2, HO2⟩
  go_wp2_with fail
  refine (l14Flows_any _ _ _ hc2).mono ?_
  rintro e w3 ⟨b, A2, c2, rfl, l2, ho2, hc3, HO3⟩
  have hz1 := hb1.size
  have hz2 := HO2.size
  have hB := below_only (below_only hb1 HO2 hg hz1) HO3 hg (by omega)
  go_wp2_with fail
  refine bodyPost_ret (v := .tuple #[.int .i64 x, .int .i64 y, .slice A2 b.length c2]) (by simp [results, Try.results50, go_sem]) rfl ⟨x, y, b, A2, c2, rfl, l2, ho2.lower (by omega), hB⟩
end Go.Proofs.Ytdofhdelcendeaa
