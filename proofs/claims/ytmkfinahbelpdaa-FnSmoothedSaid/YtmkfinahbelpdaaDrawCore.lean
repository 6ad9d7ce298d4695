/- More on the cursor that draws a law's inputs: how it is made, odd numbers. -/
import Derived.Test.YtmkfinahbelpdaaDraw
namespace Go.Proofs.Ytmkfinahbelpdaa
open Go.RowKit
theorem lit_ints {w : World} {H : Nat} (hH : w.heap.size = H) (cs : Array Value) (l : List Int) (n : Nat) (hn : n = l.length) (hcs : cs.toList = ints l) (hl : l.length ≤ 16777216) : IntsIn (w.alloc (.cells cs 3)) (some ⟨H, 0, none⟩) n l := by
  refine ⟨hn, by simp; omega, by omega, fun _ => ⟨H, 0, rfl, by simp; omega, fun j u hu => ?_⟩⟩
  have := news_at hH cs 3 j u (by rw [hcs]; exact hu)
  rwa [Addr.add_lit] at this
theorem RowVal.only {α : Type} {F : Flat α} {t : TypeId} {w w' : World} {lo a b : Nat} {v : Value} {l : List α} (h : RowVal F t w lo v l) (ho : Only a b w w') (hb : b ≤ lo) : RowVal F t w' lo v l := by
  refine ⟨h.1, ?_⟩
  rcases h.2 with h0 | ⟨g, cap, cur, hv, hlo, hg, hr⟩
  · exact .inl h0
  · refine .inr ⟨g, cap, cur, hv, hlo, ?_, hr⟩
    have hlt : g < w.heap.size := by
      rcases Nat.lt_or_ge g w.heap.size with h1 | h1
      · exact h1
      · rw [Array.getElem?_eq_none h1] at hg; cases hg
    rw [ho.block g hlt (by omega)]; exact hg
theorem OwnRows.only {α : Type} {F : Flat α} {t : TypeId} {w w' : World} {lo a b n c : Nat} {A : Option Addr} {l : List α} (h : OwnRows F t w lo A n c l) (ho : Only a b w w') (hb : b ≤ lo) : OwnRows F t w' lo A n c l := by
  obtain ⟨rfl, h⟩ := h
  exact ⟨rfl, RowVal.only (v := .slice A l.length c) h ho hb⟩
theorem only_below {lo hi : Nat} {w w1 w2 : World} (h : Only lo hi w w1) (k : Below w.heap.size w1 w2) : Only lo hi w w2 :=
  ⟨k.os.trans h.os, k.tape.trans h.tape, k.output.trans h.output, Nat.le_trans h.size k.size, fun i hi hn => (k.block i hi).trans (h.block i hi hn)⟩
set_option maxRecDepth 100000 in
set_option maxHeartbeats 4000000 in
theorem l1New_any (A : Option Addr) (n c : Nat) (w : World) (hb : BytesAt w w.heap.size A n) : Calls Try.prog 32 #[.slice A n c] w fun e w' => ∃ g, e = .returned (.pointer (some ⟨g, 0, none⟩)) ∧ w.heap.size ≤ g ∧ CurAt w' w.heap.size g ∧ Below w.heap.size w w' := by
  have hn := hb.1
  have HB := Lib.hid hb.2
  have hand : ∀ n, bits .and .i64 n 1073741823 = n % 1073741824 := i64_and30
  have hb0 := hb
  clear hb
  go_enter Try.func32, Try.ntmps32
  go_wp2
  go_loop [3, 4] (fun h i => ∃ (k : Nat) (x : Int), k ≤ n ∧ i = .int .i64 k ∧ h = .int .i64 x ∧ 0 ≤ x ∧ x ≤ 1100000000) (fun _ i => n - (intOf i).toNat)
  case atStart => exact ⟨0, _, by omega, rfl, rfl, by omega, by omega⟩
  case round =>
    obtain ⟨k, x, hk, rfl, rfl, x0, x1⟩ := hrel
    by_cases hlt : k < n
    · by_cases h4 : (k : Int) < 4000
      · obtain ⟨b, o, y, rfl, hbl, y0, y1, hc⟩ := HB.out k hlt
        go_wp2
        go_round
        case rel => exact ⟨k + 1, _, by omega, by go_num, rfl, by omega, by omega⟩
        case measure => simp [intOf]; omega
      · go_wp2
        go_ret
        exact ⟨_, rfl, Nat.le_refl _, ⟨A, n, c, 0, x, by omega, Nat.le_refl _, by simp, by simp [go_sem], by simp [go_sem], by simp [go_sem], by simp [go_sem], by simp [go_sem], hb0.keep (below_alloc _ _) (Nat.le_refl _)⟩, below_alloc _ _⟩
    · go_wp2
      go_ret
      exact ⟨_, rfl, Nat.le_refl _, ⟨A, n, c, 0, x, by omega, Nat.le_refl _, by simp, by simp [go_sem], by simp [go_sem], by simp [go_sem], by simp [go_sem], by simp [go_sem], hb0.keep (below_alloc _ _) (Nat.le_refl _)⟩, below_alloc _ _⟩
set_option maxRecDepth 100000 in
set_option maxHeartbeats 1000000 in
theorem l1Odd_any (w : World) (base g : Nat) (hc : CurAt w base g) : Calls Try.prog 68 #[.pointer (some ⟨g, 0, none⟩)] w (DrawnInt (fun _ => True) w base g) := by
  have hg : g < w.heap.size := by obtain ⟨A, n, c, i, h, h1, h2, h3, _⟩ := hc; exact h3
  go_enter Try.func68, Try.ntmps68
  go_wp2_with fail
  refine (l1PickInt_any _ 11 _ [0, 1, -1, 2, 1000000, 1000001, -1000001, 1000000000, 1000000001, 9223372036854775807, -9223372036854775808] _ base g (lit_ints rfl _ _ _ rfl rfl (by simp)) (by omega) (fun a ha => by have := Option.some.inj ha; rw [← this]; show w.heap.size ≠ g; omega) (hc.keep (below_alloc _ _) hg)).mono ?_
  rintro e w1 ⟨x, rfl, _, hc1, HO⟩
  go_wp2_with fail
  go_ret
  exact ⟨_, rfl, trivial, hc1, (Only.of_below (below_alloc _ _)).trans HO⟩
end Go.Proofs.Ytmkfinahbelpdaa
