/- How the law on promises draws its inputs. -/
import Derived.Test.YtdofhdelcendeaaDrawLots
import Derived.Test.YtdofhdelcendeaaPromiseNext
import Derived.Test.YtdofhdelcendeaaMerge
namespace Go.Proofs.Ytdofhdelcendeaa
open Go.RowKit
set_option maxRecDepth 100000 in
set_option maxHeartbeats 1000000 in
theorem l10Quantity_any (w : World) (base g : Nat) (hc : CurAt w base g) : Calls Try.prog 103 #[.pointer (some ⟨g, 0, none⟩)] w (DrawnInt (fun _ => True) w base g) := by
  go_enter Try.func103, Try.ntmps103
  go_wp2_with fail
  refine (l1Once_any _ _ _ _ (by omega) hc).mono ?_
  rintro e w1 ⟨b, rfl, hc1, HO1⟩
  cases b
  · go_wp2_with fail
    refine (l1Below_any _ _ _ _ (by omega) hc1).mono ?_
    rintro e w2 ⟨x, rfl, ⟨x0, x1⟩, hc2, HO2⟩
    go_wp2_with fail
    go_ret
    exact ⟨_, rfl, trivial, hc2, HO1.trans HO2⟩
  · have hg := hc1.lt
    go_wp2_with fail
    refine (l1PickInt_any _ 4 _ [-1, 0, 100000, 100001] _ base g (lit_ints rfl _ _ _ rfl rfl (by simp)) (by omega) (fun a ha => by have := Option.some.inj ha; rw [← this]; show w1.heap.size ≠ g; omega) (hc1.keep (below_alloc _ _) hg)).mono ?_
    rintro e w2 ⟨x, rfl, _, hc2, HO2⟩
    go_wp2_with fail
    go_ret
    exact ⟨_, rfl, trivial, hc2, (HO1.trans (Only.of_below (below_alloc _ _))).trans HO2⟩
set_option maxRecDepth 100000 in
set_option maxHeartbeats 1000000 in
theorem l4Day_any (w : World) (base g : Nat) (hc : CurAt w base g) : Calls Try.prog 104 #[.pointer (some ⟨g, 0, none⟩)] w (DrawnInt (fun _ => True) w base g) := by
  go_enter Try.func104, Try.ntmps104
  go_wp2_with fail
  refine (l1Once_any _ _ _ _ (by omega) hc).mono ?_
  rintro e w1 ⟨b, rfl, hc1, HO1⟩
  cases b
  · go_wp2_with fail
    refine (l1Below_any _ _ _ _ (by omega) hc1).mono ?_
    rintro e w2 ⟨x, rfl, ⟨x0, x1⟩, hc2, HO2⟩
    go_wp2_with fail
    go_ret
    exact ⟨_, rfl, trivial, hc2, HO1.trans HO2⟩
  · have hg := hc1.lt
    go_wp2_with fail
    refine (l1PickInt_any _ 6 _ [-1, 999, 1000, 998, -9223372036854775808, 9223372036854775807] _ base g (lit_ints rfl _ _ _ rfl rfl (by simp)) (by omega) (fun a ha => by have := Option.some.inj ha; rw [← this]; show w1.heap.size ≠ g; omega) (hc1.keep (below_alloc _ _) hg)).mono ?_
    rintro e w2 ⟨x, rfl, _, hc2, HO2⟩
    go_wp2_with fail
    go_ret
    exact ⟨_, rfl, trivial, hc2, (HO1.trans (Only.of_below (below_alloc _ _))).trans HO2⟩
def DrawnTwoFlows (w : World) (base g : Nat) (e : Ending) (w' : World) : Prop := ∃ (a b : List Fl) (A : Option Addr) (c : Nat) (B : Option Addr) (d : Nat), e = .returned (.tuple #[.slice A a.length c, .slice B b.length d]) ∧ a.length ≤ 6 ∧ b.length ≤ 16777216 ∧
  OwnRows flF 51 w' w.heap.size A a.length c a ∧ OwnRows flF 51 w' w.heap.size B b.length d b ∧ CurAt w' base g ∧ Only g (g + 1) w w'
theorem drawnTwoFlows_mk {w w' : World} {base g : Nat} {A : Option Addr} {c : Nat} {v : Value} {a b : List Fl} (ha : OwnRows flF 51 w' w.heap.size A a.length c a) (h : RowVal flF 51 w' w.heap.size v b) (la : a.length ≤ 6) (lb : b.length ≤ 16777216) (hc : CurAt w' base g) (ho : Only g (g + 1) w w') : DrawnTwoFlows w base g (.returned (.tuple #[.slice A a.length c, v])) w' := by
  obtain ⟨B, d, rfl, hr⟩ := h.form
  exact ⟨a, b, A, c, B, d, rfl, la, lb, ha, hr, hc, ho⟩
set_option maxRecDepth 100000 in
set_option maxHeartbeats 4000000 in
theorem l20Draw_any (w : World) (base g : Nat) (hc : CurAt w base g) : Calls Try.prog 102 #[.pointer (some ⟨g, 0, none⟩)] w (DrawnTwoFlows w base g) := by
  have hg := hc.lt
  go_enter Try.func102, Try.ntmps102
  go_wp2_with fail
  refine (l14Flows_any _ _ _ hc).mono ?_
  rintro e w1 ⟨a, A1, c1, rfl, l1, ho1, hc1, HO1⟩
  have hg1 := hc1.lt
  have hz1 := HO1.size
  have hc2 := hc1.keep (below_alloc w1 (.cells #[] 51)) hg1
  have hv2 : RowVal flF 51 (w1.alloc (.cells #[] 51)) w.heap.size (.slice (some ⟨w1.heap.size, 0, none⟩) 0 0) [] := empty_row rfl hz1
  have hO2 : Only g (g + 1) w (w1.alloc (.cells #[] 51)) := HO1.trans (Only.of_below (below_alloc _ _))
  have ho2 := ho1.keep (below_alloc w1 (.cells #[] 51))
  clear hc hc1 HO1 ho1
  go_wp2_with fail
  refine (l1Below_any _ _ _ _ (by omega) hc2).mono ?_
  rintro e w2 ⟨n, rfl, ⟨n0, n1⟩, hc3, HO3⟩
  obtain ⟨n, rfl⟩ : ∃ k : Nat, n = (k : Int) := ⟨_, (Int.toNat_of_nonneg n0).symm⟩
  have hv3 := hv2.only HO3 (by omega)
  have ho3 := ho2.only HO3 (by omega)
  have hO3 := hO2.trans HO3
  clear hc2 hv2 hO2 ho2 HO3
  go_wp2_with fail
  go_loopw [5, 6] (fun v i wr => ∃ (k : Nat) (p : List Fl), k ≤ 4 ∧ i = .int .i64 k ∧ p.length ≤ 16777216 ∧ RowVal flF 51 wr w.heap.size v p ∧ OwnRows flF 51 wr w.heap.size A1 a.length c1 a ∧ CurAt wr base g ∧ Only g (g + 1) w wr) (fun _ i _ => (intOf i).toNat)
  case atStart => exact ⟨n, [], by omega, rfl, by simp, hv3, ho3, hc3, hO3⟩
  case round =>
    clear hv3 ho3 hc3 hO3
    obtain ⟨k, p, hk, rfl, hpl, hrow, hso, hcur, HO⟩ := hrel
    by_cases hlt : 0 < (k : Int)
    · go_wp2_with fail
      refine (l1Below_any _ _ _ _ (by omega) hcur).mono ?_
      rintro e w3 ⟨q, rfl, ⟨q0, q1⟩, hc3, HO3⟩
      go_wp2_with fail
      refine (l1Below_any _ _ _ _ (by omega) hc3).mono ?_
      rintro e w4 ⟨f, rfl, ⟨f0, f1⟩, hc4, HO4⟩
      have hrow4 := (hrow.only HO3 (by omega)).only HO4 (by omega)
      have hso4 := (hso.only HO3 (by omega)).only HO4 (by omega)
      have hO4 := (HO.trans HO3).trans HO4
      have hz4 := hO4.size
      clear hrow hso HO HO3 HO4 hc3 hcur
      obtain ⟨B, d, rfl, hro⟩ := hrow4.form
      obtain ⟨k1, k2⟩ := own_cap hro
      unfold maxLen at k2
      obtain ⟨m, is, hM⟩ : ∃ m is, promiseNext a p (1 + q) f = (m, is) := ⟨_, _, rfl⟩
      have hml : m.length ≤ 16777216 := by have := promiseNext_len a p (1 + q) f; rw [hM] at this; exact this
      have K := specPromiseNext_any A1 B a.length p.length c1 d a p (1 + q) f w4 (hso4.rows (by omega)) (hro.rows (by omega)) k1 k2
      rw [hM] at K
      clear hM
      go_wp2_with fail
      refine K.mono ?_
      rintro e w5 ⟨X, C, rfl, oX, hb5⟩
      dsimp only at oX ⊢
      have hg4 := hc4.lt
      have hc5 := hc4.keep hb5 hg4
      have hO5 := hO4.trans (Only.of_below hb5)
      have hso5 := hso4.keep hb5
      cases is
      · have hrow5 := hrow4.keep hb5
        go_wp2_with fail
        go_roundw
        case rel => exact ⟨k - 1, p, by omega, by go_num, hpl, hrow5, hso5, hc5, hO5⟩
        case measure => simp [intOf]; omega
      · have hrow5 := (oX.lower hz4).val
        go_wp2_with fail
        go_roundw
        case rel => exact ⟨k - 1, m, by omega, by go_num, hml, hrow5, hso5, hc5, hO5⟩
        case measure => simp [intOf]; omega
    · obtain rfl : k = 0 := by omega
      go_wp2_with fail
      refine (l1Once_any _ _ _ _ (by omega) hcur).mono ?_
      rintro e w3 ⟨b, rfl, hc3, HO3⟩
      have hrow3 := hrow.only HO3 (by omega)
      have hso3 := hso.only HO3 (by omega)
      have HO3 := HO.trans HO3
      have hz3 := HO3.size
      cases b
      · go_wp2_with fail
        go_ret2
        exact drawnTwoFlows_mk hso3 hrow3 l1 hpl hc3 HO3
      · go_wp2_with fail
        refine (l14Flows_any _ _ _ hc3).mono ?_
        rintro e w4 ⟨b, A2, c2, rfl, l2, ho2, hc4, HO4⟩
        have hso4 := hso3.only HO4 (by omega)
        go_wp2_with fail
        go_ret2
        exact drawnTwoFlows_mk hso4 (ho2.lower hz3).val l1 (by omega) hc4 (HO3.trans HO4)
/-- The ending of a call that draws what is asked of promises. -/
def DrawnAsk (w : World) (e : Ending) (w' : World) : Prop := ∃ (a b : List Fl) (A : Option Addr) (c : Nat) (B : Option Addr) (d : Nat) (x y : Int), e = .returned (.tuple #[.slice A a.length c, .slice B b.length d, .int .i64 x, .int .i64 y]) ∧ a.length ≤ 6 ∧ b.length ≤ 16777216 ∧
  OwnRows flF 51 w' w.heap.size A a.length c a ∧ OwnRows flF 51 w' w.heap.size B b.length d b ∧ Below w.heap.size w w'
set_option maxRecDepth 100000 in
set_option maxHeartbeats 1000000 in
theorem l20Ask_any (A : Option Addr) (n c : Nat) (w : World) (hb : BytesAt w w.heap.size A n) : Calls Try.prog 89 #[.slice A n c] w (DrawnAsk w) := by
  go_enter Try.func89, Try.ntmps89
  go_wp2_with fail
  refine (l1New_any _ _ _ _ hb).mono ?_
  rintro e w1 ⟨g, rfl, hg, hc1, hb1⟩
  have hg1 := hc1.lt
  go_wp2_with fail
  refine (l20Draw_any _ _ _ hc1).mono ?_
  rintro e w2 ⟨a, b, A1, c1, A2, c2, rfl, l1, l2, ho1, ho2, hc2, HO2⟩
  go_wp2_with fail
  refine (l10Quantity_any _ _ _ hc2).mono ?_
  rintro e w3 ⟨x, rfl, _, hc3, HO3⟩
  go_wp2_with fail
  refine (l4Day_any _ _ _ hc3).mono ?_
  rintro e w4 ⟨y, rfl, _, hc4, HO4⟩
  have hz1 := hb1.size
  have hz2 := HO2.size
  have hz3 := HO3.size
  have hB := below_only (below_only (below_only hb1 HO2 hg hz1) HO3 hg (by omega)) HO4 hg (by omega)
  have hp1 := (ho1.only HO3 (by omega)).only HO4 (by omega)
  have hp2 := (ho2.only HO3 (by omega)).only HO4 (by omega)
  go_wp2_with fail
  exact bodyPost_ret (v := .tuple #[.slice A1 a.length c1, .slice A2 b.length c2, .int .i64 x, .int .i64 y]) (by simp [results, Try.results89, go_sem]) rfl ⟨a, b, A1, c1, A2, c2, x, y, rfl, l1, l2, hp1.lower hz1, hp2.lower hz1, hB⟩
set_option maxRecDepth 100000 in
set_option maxHeartbeats 1000000 in
theorem DrawPromiseNext_any (A : Option Addr) (n c : Nat) (w : World) (hb : BytesAt w w.heap.size A n) : Calls Try.prog 54 #[.slice A n c] w (DrawnAsk w) := by
  go_enter Try.func54, Try.ntmps54
  go_wp2_with fail
  refine (l20Ask_any _ _ _ _ hb).mono ?_
  rintro e w1 ⟨a, b, A1, c1, A2, c2, x, y, rfl, hx⟩
  go_wp2_with fail
  exact bodyPost_ret (v := .tuple #[.slice A1 a.length c1, .slice A2 b.length c2, .int .i64 x, .int .i64 y]) (by simp [results, Try.results54, go_sem]) rfl ⟨a, b, A1, c1, A2, c2, x, y, rfl, hx⟩
end Go.Proofs.Ytdofhdelcendeaa
