/- How the law on net needs draws its inputs. -/
import Derived.Test.YtdofhdelcendeaaDrawLots
namespace Go.Proofs.Ytdofhdelcendeaa
open Go.RowKit
set_option maxRecDepth 100000 in
set_option maxHeartbeats 1000000 in
theorem l14Stock_any (w : World) (base g : Nat) (hc : CurAt w base g) : Calls Try.prog 85 #[.pointer (some ⟨g, 0, none⟩)] w (DrawnInt (fun _ => True) w base g) := by
  go_enter Try.func85, Try.ntmps85
  go_wp2_with fail
  refine (l1Once_any _ _ _ _ (by omega) hc).mono ?_
  rintro e w1 ⟨b, rfl, hc1, HO1⟩
  cases b
  · go_wp2_with fail
    refine (l1Below_any _ _ _ _ (by omega) hc1).mono ?_
    rintro e w2 ⟨x, rfl, ⟨x0, x1⟩, hc2, HO2⟩
    go_wp2_with fail
    go_ret
    exact ⟨_, rfl, trivial, hc2, HO1.trans HO2⟩
  · go_wp2_with fail
    refine (l1Odd_any _ _ _ hc1).mono ?_
    rintro e w2 ⟨x, rfl, _, hc2, HO2⟩
    go_wp2_with fail
    go_ret
    exact ⟨_, rfl, trivial, hc2, HO1.trans HO2⟩
set_option maxRecDepth 100000 in
set_option maxHeartbeats 1000000 in
theorem DrawNetNeeds_any (A : Option Addr) (n c : Nat) (w : World) (hb : BytesAt w w.heap.size A n) : Calls Try.prog 44 #[.slice A n c] w fun e w' => ∃ (x y : Int) (a b : List Fl) (A : Option Addr) (c : Nat) (B : Option Addr) (d : Nat), e = .returned (.tuple #[.int .i64 x, .int .i64 y, .slice A a.length c, .slice B b.length d]) ∧ a.length ≤ 6 ∧ b.length ≤ 6 ∧
    OwnRows flF 51 w' w.heap.size A a.length c a ∧ OwnRows flF 51 w' w.heap.size B b.length d b ∧ Below w.heap.size w w' := by
  go_enter Try.func44, Try.ntmps44
  go_wp2_with fail
  refine (l1New_any _ _ _ _ hb).mono ?_
  rintro e w1 ⟨g, rfl, hg, hc1, hb1⟩
  go_wp2_with fail
  refine (l14Stock_any _ _ _ hc1).mono ?_
  rintro e w2 ⟨x, rfl, _, hc2, HO2⟩
  go_wp2_with fail
  refine (l14Stock_any _ _ _ hc2).mono ?_
  rintro e w3 ⟨y, rfl, _, hc3, HO3⟩
  go_wp2_with fail
  refine (l14Flows_any _ _ _ hc3).mono ?_
  rintro e w4 ⟨a, A1, c1, rfl, l1, ho1, hc4, HO4⟩
  go_wp2_with fail
  refine (l14Flows_any _ _ _ hc4).mono ?_
  rintro e w5 ⟨b, A2, c2, rfl, l2, ho2, hc5, HO5⟩
  have hg3 := hc3.lt
  have ho3 := ho1.only HO5 (by omega)
  have hz1 := hb1.size
  have hz2 := HO2.size
  have hz3 := HO3.size
  have hz4 := HO4.size
  have hB := below_only (below_only (below_only (below_only hb1 HO2 hg hz1) HO3 hg (by omega)) HO4 hg (by omega)) HO5 hg (by omega)
  go_wp2_with fail
  refine bodyPost_ret (v := .tuple #[.int .i64 x, .int .i64 _, .slice A1 a.length c1, .slice A2 b.length c2]) (by simp [results, Try.results44, go_sem]; rfl) rfl ⟨x, _, a, b, A1, c1, A2, c2, rfl, l1, l2, ho3.lower (by omega), ho2.lower (by omega), hB⟩
end Go.Proofs.Ytdofhdelcendeaa
