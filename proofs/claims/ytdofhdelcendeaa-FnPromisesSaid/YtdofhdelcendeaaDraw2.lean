/- How a law's flows are drawn. -/
import Derived.Test.YtdofhdelcendeaaDraw
namespace Go.Proofs.Ytdofhdelcendeaa
open Go.RowKit
theorem lit_ints {w : World} {H : Nat} (hH : w.heap.size = H) (cs : Array Value) (l : List Int) (n : Nat) (hn : n = l.length) (hcs : cs.toList = ints l) (hl : l.length ≤ 16777216) : IntsIn (w.alloc (.cells cs 3)) (some ⟨H, 0, none⟩) n l := by
  refine ⟨hn, by simp; omega, by omega, fun _ => ⟨H, 0, rfl, by simp; omega, fun j u hu => ?_⟩⟩
  have := news_at hH cs 3 j u (by rw [hcs]; exact hu)
  rwa [Addr.add_lit] at this
theorem RowVal.only {α : Type} {F : Flat α} {t : TypeId} {w w' : World} {lo a b : Nat} {v : Value} {l : List α} (h : RowVal F t w lo v l) (ho : Only a b w w') (hb : b ≤ lo) : RowVal F t w' lo v l := by
  refine ⟨h.1, ?_⟩
  rcases h.2 with h0 | ⟨g, cap, cur, hv, hlo, hg, hr⟩
  · exact .inl h0
  · refine .inr ⟨g, cap, cur, hv, hlo, ?_, hr⟩
    have hlt : g < w.heap.size := by
      rcases Nat.lt_or_ge g w.heap.size with h1 | h1
      · exact h1
      · rw [Array.getElem?_eq_none h1] at hg; cases hg
    rw [ho.block g hlt (by omega)]; exact hg
theorem OwnRows.only {α : Type} {F : Flat α} {t : TypeId} {w w' : World} {lo a b n c : Nat} {A : Option Addr} {l : List α} (h : OwnRows F t w lo A n c l) (ho : Only a b w w') (hb : b ≤ lo) : OwnRows F t w' lo A n c l := by
  obtain ⟨rfl, h⟩ := h
  exact ⟨rfl, RowVal.only (v := .slice A l.length c) h ho hb⟩
theorem only_below {lo hi : Nat} {w w1 w2 : World} (h : Only lo hi w w1) (k : Below w.heap.size w1 w2) : Only lo hi w w2 :=
  ⟨k.os.trans h.os, k.tape.trans h.tape, k.output.trans h.output, Nat.le_trans h.size k.size, fun i hi hn => (k.block i hi).trans (h.block i hi hn)⟩
set_option maxRecDepth 100000 in
set_option maxHeartbeats 4000000 in
theorem l1New_any (A : Option Addr) (n c : Nat) (w : World) (hb : BytesAt w w.heap.size A n) : Calls Try.prog 81 #[.slice A n c] w fun e w' => ∃ g, e = .returned (.pointer (some ⟨g, 0, none⟩)) ∧ w.heap.size ≤ g ∧ CurAt w' w.heap.size g ∧ Below w.heap.size w w' := by
  have hn := hb.1
  have HB := Lib.hid hb.2
  have hand : ∀ n, bits .and .i64 n 1073741823 = n % 1073741824 := i64_and30
  have hb0 := hb
  clear hb
  go_enter Try.func81, Try.ntmps81
  go_wp2
  go_loop [3, 4] (fun h i => ∃ (k : Nat) (x : Int), k ≤ n ∧ i = .int .i64 k ∧ h = .int .i64 x ∧ 0 ≤ x ∧ x ≤ 1100000000) (fun _ i => n - (intOf i).toNat)
  case atStart => exact ⟨0, _, by omega, rfl, rfl, by omega, by omega⟩
  case round =>
    obtain ⟨k, x, hk, rfl, rfl, x0, x1⟩ := hrel
    by_cases hlt : k < n
    · by_cases h4 : (k : Int) < 4000
      · obtain ⟨b, o, y, rfl, hbl, y0, y1, hc⟩ := HB.out k hlt
        go_wp2
        go_round
        case rel => exact ⟨k + 1, _, by omega, by go_num, rfl, by omega, by omega⟩
        case measure => simp [intOf]; omega
      · go_wp2
        go_ret
        exact ⟨_, rfl, Nat.le_refl _, ⟨A, n, c, 0, x, by omega, Nat.le_refl _, by simp, by simp [go_sem], by simp [go_sem], by simp [go_sem], by simp [go_sem], by simp [go_sem], hb0.keep (below_alloc _ _) (Nat.le_refl _)⟩, below_alloc _ _⟩
    · go_wp2
      go_ret
      exact ⟨_, rfl, Nat.le_refl _, ⟨A, n, c, 0, x, by omega, Nat.le_refl _, by simp, by simp [go_sem], by simp [go_sem], by simp [go_sem], by simp [go_sem], by simp [go_sem], hb0.keep (below_alloc _ _) (Nat.le_refl _)⟩, below_alloc _ _⟩
set_option maxRecDepth 100000 in
set_option maxHeartbeats 1000000 in
theorem l1Odd_any (w : World) (base g : Nat) (hc : CurAt w base g) : Calls Try.prog 101 #[.pointer (some ⟨g, 0, none⟩)] w (DrawnInt (fun _ => True) w base g) := by
  have hg : g < w.heap.size := by obtain ⟨A, n, c, i, h, h1, h2, h3, _⟩ := hc; exact h3
  go_enter Try.func101, Try.ntmps101
  go_wp2_with fail
  refine (l1PickInt_any _ 11 _ [0, 1, -1, 2, 1000000, 1000001, -1000001, 1000000000, 1000000001, 9223372036854775807, -9223372036854775808] _ base g (lit_ints rfl _ _ _ rfl rfl (by simp)) (by omega) (fun a ha => by have := Option.some.inj ha; rw [← this]; show w.heap.size ≠ g; omega) (hc.keep (below_alloc _ _) hg)).mono ?_
  rintro e w1 ⟨x, rfl, _, hc1, HO⟩
  go_wp2_with fail
  go_ret
  exact ⟨_, rfl, trivial, hc1, (Only.of_below (below_alloc _ _)).trans HO⟩
/-- The ending of a call that draws flows. -/
def DrawnFlows (w : World) (base g : Nat) (e : Ending) (w' : World) : Prop := ∃ (l : List Fl) (A : Option Addr) (c : Nat), e = .returned (.slice A l.length c) ∧ l.length ≤ 6 ∧ OwnRows flF 51 w' w.heap.size A l.length c l ∧ CurAt w' base g ∧ Only g (g + 1) w w'
theorem drawnFlows_mk {w w' : World} {base g : Nat} {v : Value} {l : List Fl} (h : RowVal flF 51 w' w.heap.size v l) (hl : l.length ≤ 6) (hc : CurAt w' base g) (ho : Only g (g + 1) w w') : DrawnFlows w base g (.returned v) w' := by
  obtain ⟨A, c, rfl, hr⟩ := h.form
  exact ⟨l, A, c, rfl, hl, hr, hc, ho⟩
set_option maxRecDepth 100000 in
set_option maxHeartbeats 4000000 in
theorem l14Flows_any (w : World) (base g : Nat) (hc : CurAt w base g) : Calls Try.prog 82 #[.pointer (some ⟨g, 0, none⟩)] w (DrawnFlows w base g) := by
  have hg : g < w.heap.size := by obtain ⟨A, n, c, i, h, h1, h2, h3, _⟩ := hc; exact h3
  have hc0 := hc.keep (below_alloc w (.cells #[] 51)) hg
  have hv0 : RowVal flF 51 (w.alloc (.cells #[] 51)) w.heap.size (.slice (some ⟨w.heap.size, 0, none⟩) 0 0) [] := empty_row rfl (Nat.le_refl _)
  have hO0 : Only g (g + 1) w (w.alloc (.cells #[] 51)) := Only.of_below (below_alloc _ _)
  clear hc
  go_enter Try.func82, Try.ntmps82
  go_wp2_with fail
  refine (l1Below_any _ _ _ _ (by omega) hc0).mono ?_
  rintro e w1 ⟨day, rfl, ⟨y0, y1⟩, hc1, HO1⟩
  go_wp2_with fail
  refine (l1Below_any _ _ _ _ (by omega) hc1).mono ?_
  rintro e w2 ⟨m, rfl, ⟨m0, m1⟩, hc2, HO2⟩
  obtain ⟨m, rfl⟩ : ∃ k : Nat, m = (k : Int) := ⟨_, (Int.toNat_of_nonneg m0).symm⟩
  have hv2 := (hv0.only HO1 (by omega)).only HO2 (by omega)
  have hO2 := (hO0.trans HO1).trans HO2
  clear hc0 hv0 hO0 hc1 HO1 HO2
  go_wp2_with fail
  go_loopw [3, 4, 5] (fun v d i wr => ∃ (k : Nat) (day : Int) (out : List Fl), k ≤ 5 ∧ i = .int .i64 k ∧ d = .int .i64 day ∧ 0 ≤ day ∧ day + 8 * k ≤ 43 ∧ out.length + k ≤ 5 ∧ RowVal flF 51 wr w.heap.size v out ∧ CurAt wr base g ∧ Only g (g + 1) w wr) (fun _ _ i _ => (intOf i).toNat)
  case atStart => exact ⟨m, day, [], by omega, rfl, rfl, by omega, by omega, by simp; omega, hv2, hc2, hO2⟩
  case round =>
    clear hv2 hc2 hO2
    obtain ⟨k, day, out, hk, rfl, rfl, d0, d1, hl, hrow, hcur, HO⟩ := hrel
    by_cases hlt : 0 < (k : Int)
    · go_wp2_with fail
      refine (l1Below_any _ _ _ _ (by omega) hcur).mono ?_
      rintro e w3 ⟨q, rfl, ⟨q0, q1⟩, hc3, HO3⟩
      have hrow3 := hrow.only HO3 (by omega)
      have HO3 := HO.trans HO3
      have hsz3 := HO3.size
      go_wp2_with (at_builtin; refine wpList_append_one flowElem rfl _ _ rfl rfl (l := out) hrow3 (by omega) (day, (1 + q)) #[.int .i64 day, .int .i64 (1 + q)] rfl (by simp [Value.oneCell']) w3.heap.size _ rfl rfl hsz3 ?_; intro v' w4 hrow4 hbl hgr)
      have hB := hbl w.heap.size (Nat.le_refl _) hsz3
      have hc4 := hc3.keep hB hg
      have HO4 := only_below HO3 hB
      refine (l1Below_any _ _ _ _ (by omega) hc4).mono ?_
      rintro e w5 ⟨s, rfl, ⟨s0, s1⟩, hc5, HO5⟩
      have hrow5 := hrow4.only HO5 (by omega)
      have HO6 := HO4.trans HO5
      go_wp2_with fail
      go_roundw
      case rel => exact ⟨k - 1, day + 1 + s, out ++ [(day, 1 + q)], by omega, by go_num, rfl, by omega, by omega, by simp; omega, hrow5, hc5, HO6⟩
      case measure => simp [intOf]; omega
    · obtain rfl : k = 0 := by omega
      go_wp2_with fail
      refine (l1Once_any _ _ _ _ (by omega) hcur).mono ?_
      rintro e w3 ⟨b, rfl, hc3, HO3⟩
      have hrow3 := hrow.only HO3 (by omega)
      have HO3 := HO.trans HO3
      have hsz3 := HO3.size
      cases b
      · go_wp2_with fail
        go_ret
        exact drawnFlows_mk hrow3 (by omega) hc3 HO3
      · go_wp2_with fail
        have hg3 : g < w3.heap.size := by omega
        refine (l1PickInt_any _ 3 _ [0, 999, 1000] _ base g (lit_ints rfl _ _ _ rfl rfl (by simp)) (by omega) (fun a ha => by have := Option.some.inj ha; rw [← this]; show w3.heap.size ≠ g; omega) (hc3.keep (below_alloc _ _) hg3)).mono ?_
        rintro e w4 ⟨x, rfl, _, hc4, HO4⟩
        have hrow4 := (hrow3.alloc (.cells #[.int .i64 0, .int .i64 999, .int .i64 1000] 3)).only HO4 (by omega)
        have HO4 := (HO3.trans (Only.of_below (below_alloc _ _))).trans HO4
        go_wp2_with fail
        refine (l1Odd_any _ base g hc4).mono ?_
        rintro e w5 ⟨y, rfl, _, hc5, HO5⟩
        have hrow5 := hrow4.only HO5 (by omega)
        have HO5 := HO4.trans HO5
        have hsz5 := HO5.size
        go_wp2_with (at_builtin; refine wpList_append_one flowElem rfl _ _ rfl rfl (l := out) hrow5 (by omega) (x, y) #[.int .i64 x, .int .i64 y] rfl (by simp [Value.oneCell']) w5.heap.size _ rfl rfl hsz5 ?_; intro v' w6 hrow6 hbl hgr)
        have hB := hbl w.heap.size (Nat.le_refl _) hsz5
        go_ret
        exact drawnFlows_mk hrow6 (by simp; omega) (hc5.keep hB hg) (only_below HO5 hB)
/-- The ending of a call that draws two rows of flows. -/
def TwoFlows (w : World) (e : Ending) (w' : World) : Prop := ∃ (a b : List Fl) (A : Option Addr) (c : Nat) (B : Option Addr) (d : Nat), e = .returned (.tuple #[.slice A a.length c, .slice B b.length d]) ∧ a.length ≤ 6 ∧ b.length ≤ 6 ∧
  OwnRows flF 51 w' w.heap.size A a.length c a ∧ OwnRows flF 51 w' w.heap.size B b.length d b ∧ Below w.heap.size w w'
set_option maxRecDepth 100000 in
set_option maxHeartbeats 1000000 in
theorem DrawMergeFlows_any (A : Option Addr) (n c : Nat) (w : World) (hb : BytesAt w w.heap.size A n) : Calls Try.prog 36 #[.slice A n c] w (TwoFlows w) := by
  go_enter Try.func36, Try.ntmps36
  go_wp2_with fail
  refine (l1New_any _ _ _ _ hb).mono ?_
  rintro e w1 ⟨g, rfl, hg, hc1, hb1⟩
  go_wp2_with fail
  refine (l14Flows_any _ _ _ hc1).mono ?_
  rintro e w2 ⟨a, A1, c1, rfl, l1, ho1, hc2, HO2⟩
  have hg1 : g < w1.heap.size := by obtain ⟨A, n, c, i, h, h1, h2, h3, _⟩ := hc1; exact h3
  go_wp2_with fail
  refine (l14Flows_any _ _ _ hc2).mono ?_
  rintro e w3 ⟨b, A2, c2, rfl, l2, ho2, hc3, HO3⟩
  have ho3 := ho1.only HO3 (by omega)
  have hz1 := hb1.size
  have hz2 := HO2.size
  have hB := below_only (below_only hb1 HO2 hg hz1) HO3 hg (by omega)
  go_wp2_with fail
  go_ret2
  exact ⟨a, b, A1, c1, A2, c2, rfl, l1, l2, ho3.lower hz1, ho2.lower (by omega), hB⟩
set_option maxRecDepth 100000 in
set_option maxHeartbeats 1000000 in
theorem l19Two_any (A : Option Addr) (n c : Nat) (w : World) (hb : BytesAt w w.heap.size A n) : Calls Try.prog 80 #[.slice A n c] w (TwoFlows w) := by
  go_enter Try.func80, Try.ntmps80
  go_wp2_with fail
  refine (l1New_any _ _ _ _ hb).mono ?_
  rintro e w1 ⟨g, rfl, hg, hc1, hb1⟩
  go_wp2_with fail
  refine (l14Flows_any _ _ _ hc1).mono ?_
  rintro e w2 ⟨a, A1, c1, rfl, l1, ho1, hc2, HO2⟩
  have hg1 : g < w1.heap.size := by obtain ⟨A, n, c, i, h, h1, h2, h3, _⟩ := hc1; exact h3
  go_wp2_with fail
  refine (l14Flows_any _ _ _ hc2).mono ?_
  rintro e w3 ⟨b, A2, c2, rfl, l2, ho2, hc3, HO3⟩
  have ho3 := ho1.only HO3 (by omega)
  have hz1 := hb1.size
  have hz2 := HO2.size
  have hB := below_only (below_only hb1 HO2 hg hz1) HO3 hg (by omega)
  go_wp2_with fail
  go_ret2
  exact ⟨a, b, A1, c1, A2, c2, rfl, l1, l2, ho3.lower hz1, ho2.lower (by omega), hB⟩
set_option maxRecDepth 100000 in
set_option maxHeartbeats 1000000 in
theorem DrawPegInOrder_any (A : Option Addr) (n c : Nat) (w : World) (hb : BytesAt w w.heap.size A n) : Calls Try.prog 42 #[.slice A n c] w (TwoFlows w) := by
  go_enter Try.func42, Try.ntmps42
  go_wp2_with fail
  refine (l19Two_any _ _ _ _ hb).mono ?_
  rintro e w1 ⟨a, b, A1, c1, A2, c2, rfl, hx⟩
  go_wp2_with fail
  go_ret2
  exact ⟨a, b, A1, c1, A2, c2, rfl, hx⟩
set_option maxRecDepth 100000 in
set_option maxHeartbeats 1000000 in
theorem DrawPegInTime_any (A : Option Addr) (n c : Nat) (w : World) (hb : BytesAt w w.heap.size A n) : Calls Try.prog 33 #[.slice A n c] w (TwoFlows w) := by
  go_enter Try.func33, Try.ntmps33
  go_wp2_with fail
  refine (l19Two_any _ _ _ _ hb).mono ?_
  rintro e w1 ⟨a, b, A1, c1, A2, c2, rfl, hx⟩
  go_wp2_with fail
  go_ret2
  exact ⟨a, b, A1, c1, A2, c2, rfl, hx⟩
end Go.Proofs.Ytdofhdelcendeaa
