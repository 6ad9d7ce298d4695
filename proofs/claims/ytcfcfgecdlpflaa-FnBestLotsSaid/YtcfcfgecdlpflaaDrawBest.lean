/- How the law on best lots draws its inputs. -/
import Derived.Test.YtcfcfgecdlpflaaDrawCore
import Derived.Test.YtcfcfgecdlpflaaNums
namespace Go.Proofs.Ytcfcfgecdlpflaa
open Go.RowKit
theorem CurAt.lt {w : World} {base g : Nat} (h : CurAt w base g) : g < w.heap.size := by obtain ⟨A, n, c, i, h, h1, h2, h3, _⟩ := h; exact h3
theorem NumRow.only {w w' : World} {lo a b g n c : Nat} {l : List Int} (h : NumRow w lo g n c l) (ho : Only a b w w') (hb : b ≤ lo) : NumRow w' lo g n c l := by
  obtain ⟨rfl, h⟩ := h
  have h2 : RowVal intF 3 w lo (.slice (some ⟨g, 0, none⟩) l.length c) l := by unfold RowVal; rw [intF_flat]; exact h
  have h3 := h2.only ho hb
  refine ⟨rfl, ?_⟩
  unfold RowVal at h3
  rw [intF_flat] at h3
  exact h3
set_option maxRecDepth 100000 in
set_option maxHeartbeats 1000000 in
theorem l16Charge_any (w : World) (base g : Nat) (hc : CurAt w base g) : Calls Try.prog 96 #[.pointer (some ⟨g, 0, none⟩)] w (DrawnInt (fun _ => True) w base g) := by
  go_enter Try.func96, Try.ntmps96
  go_wp2_with fail
  refine (l1Once_any _ _ _ _ (by omega) hc).mono ?_
  rintro e w1 ⟨b, rfl, hc1, HO1⟩
  have hg := hc1.lt
  cases b
  · go_wp2_with fail
    refine (l1PickInt_any _ 6 _ [0, 1, 2, 10, 100, 500] _ base g (lit_ints rfl _ _ _ rfl rfl (by simp)) (by omega) (fun a ha => by have := Option.some.inj ha; rw [← this]; show w1.heap.size ≠ g; omega) (hc1.keep (below_alloc _ _) hg)).mono ?_
    rintro e w2 ⟨x, rfl, _, hc2, HO⟩
    go_wp2_with fail
    go_ret
    exact ⟨_, rfl, trivial, hc2, (HO1.trans (Only.of_below (below_alloc _ _))).trans HO⟩
  · go_wp2_with fail
    refine (l1PickInt_any _ 3 _ [-1, 10000, 10001] _ base g (lit_ints rfl _ _ _ rfl rfl (by simp)) (by omega) (fun a ha => by have := Option.some.inj ha; rw [← this]; show w1.heap.size ≠ g; omega) (hc1.keep (below_alloc _ _) hg)).mono ?_
    rintro e w2 ⟨x, rfl, _, hc2, HO⟩
    go_wp2_with fail
    go_ret
    exact ⟨_, rfl, trivial, hc2, (HO1.trans (Only.of_below (below_alloc _ _))).trans HO⟩
/-- The ending of a call that draws a row of numbers. -/
def DrawnNums (w : World) (base g : Nat) (e : Ending) (w' : World) : Prop := ∃ (l : List Int) (b c : Nat), e = .returned (.slice (some ⟨b, 0, none⟩) l.length c) ∧ l.length ≤ c ∧ l.length ≤ 8 ∧ NumRow w' w.heap.size b l.length c l ∧ CurAt w' base g ∧ Only g (g + 1) w w'
theorem numRow_cap {w : World} {lo g n c : Nat} {l : List Int} (h : NumRow w lo g n c l) : n ≤ c := by
  rcases h.2.2 with ⟨hv, _⟩ | ⟨g2, cap, cur, hv, _, _, hr⟩
  · cases hv
  · have : c = cap := by injection hv
    subst this
    exact hr.1
set_option maxRecDepth 100000 in
set_option maxHeartbeats 2000000 in
theorem l16Needs_any (w : World) (base g : Nat) (hc : CurAt w base g) : Calls Try.prog 95 #[.pointer (some ⟨g, 0, none⟩)] w (DrawnNums w base g) := by
  have hg := hc.lt
  have hb0 := below_alloc w (.cells #[] 3)
  have hr0 := numRow_empty (w := w) rfl (Nat.le_refl _)
  have hc0 := hc.keep hb0 hg
  have HO0 : Only g (g + 1) w (w.alloc (.cells #[] 3)) := Only.of_below hb0
  have hz0 : w.heap.size < (w.alloc (.cells #[] 3)).heap.size := by simp
  go_enter Try.func95, Try.ntmps95
  go_wp2_with fail
  generalize w.alloc (.cells #[] 3) = w0 at *
  refine (l1Below_any _ _ _ _ (by omega) hc0).mono ?_
  rintro e w1 ⟨n, rfl, ⟨n0, n1⟩, hc1, HO1⟩
  have hr1 := hr0.only HO1 (by omega)
  have hz1 : w.heap.size ≤ w1.heap.size := by have := HO1.size; omega
  have HOa := HO0.trans HO1
  clear hr0 hc0 HO0 hz0 HO1 hc
  go_wp2_with fail
  go_loopw [3, 4] (fun v t wr => ∃ (k : Int) (l : List Int) (b c : Nat), t = .int .i64 k ∧ 0 ≤ k ∧ k ≤ n ∧ v = .slice (some ⟨b, 0, none⟩) l.length c ∧ (l.length : Int) + k = n ∧ NumRow wr w.heap.size b l.length c l ∧ CurAt wr base g ∧ w.heap.size ≤ wr.heap.size ∧ Only g (g + 1) w wr) (fun _ t _ => (intOf t).toNat)
  case atStart => exact ⟨n, [], _, _, rfl, n0, by omega, rfl, by simp, hr1, hc1, hz1, HOa⟩
  case round =>
    clear hr1 hc1 hz1 HOa
    obtain ⟨k, l, b, c, rfl, k0, k1, rfl, hlk, hr, hc1, hz, HO⟩ := hrel
    have hll : l.length ≤ 16777216 := by omega
    have hg1 := hc1.lt
    by_cases hpos : 0 < k
    · go_wp2_with fail
      refine (l1PickInt_any _ 8 _ [0, 0, 1, 5, 10, 20, 40, 100] _ base g (lit_ints rfl _ _ _ rfl rfl (by simp)) (by omega) (fun a ha => by have := Option.some.inj ha; rw [← this]; show wr.heap.size ≠ g; omega) (hc1.keep (below_alloc _ _) hg1)).mono ?_
      rintro e w2 ⟨x, rfl, _, hc2, HO2⟩
      have hr2 := (hr.keep (below_alloc wr _)).only HO2 (by omega)
      have hz2 : w.heap.size ≤ w2.heap.size := by have := HO2.size; simp at this; omega
      have HOb := (HO.trans (Only.of_below (below_alloc wr _))).trans HO2
      have hg2 := hc2.lt
      clear hr HO hz hc1 HO2
      go_wp2_with (at_builtin; refine wpList_append_num rfl _ _ rfl rfl hr2 hll x (w2.heap.size) _ rfl rfl hz2 ?_; intro b' c' w9 hnum2 hbl2 hgr2)
      have hbB := hbl2 w.heap.size (Nat.le_refl _) hz2
      go_roundw
      case rel => exact ⟨k - 1, l ++ [x], b', c', rfl, by omega, by omega, by simp, by simp; omega, by rw [List.length_append]; exact hnum2, hc2.keep hbB hg, by omega, only_below HOb hbB⟩
      case measure => simp [intOf]; omega
    · obtain rfl : k = 0 := by omega
      go_wp2_with fail
      refine (l1Once_any _ _ _ _ (by omega) hc1).mono ?_
      rintro e w2 ⟨bb, rfl, hc2, HO2⟩
      have hr2 := hr.only HO2 (by omega)
      have hz2 : w.heap.size ≤ w2.heap.size := by have := HO2.size; omega
      have HOb := HO.trans HO2
      have hg2 := hc2.lt
      clear hr HO hz hc1 HO2
      cases bb
      · go_wp2_with fail
        go_ret
        exact ⟨l, b, c, rfl, numRow_cap hr2, by omega, hr2, hc2, HOb⟩
      · go_wp2_with fail
        refine (l1PickInt_any _ 3 _ [-1, 1000, 1001] _ base g (lit_ints rfl _ _ _ rfl rfl (by simp)) (by omega) (fun a ha => by have := Option.some.inj ha; rw [← this]; show w2.heap.size ≠ g; omega) (hc2.keep (below_alloc _ _) hg2)).mono ?_
        rintro e w3 ⟨x, rfl, _, hc3, HO3⟩
        have hr3 := (hr2.keep (below_alloc w2 _)).only HO3 (by omega)
        have hz3 : w.heap.size ≤ w3.heap.size := by have := HO3.size; simp at this; omega
        have HOc := (HOb.trans (Only.of_below (below_alloc w2 _))).trans HO3
        clear hr2 HOb hz2 hc2 HO3
        go_wp2_with (at_builtin; refine wpList_append_num rfl _ _ rfl rfl hr3 hll x (w3.heap.size) _ rfl rfl hz3 ?_; intro b' c' w9 hnum2 hbl2 hgr2)
        have hbB := hbl2 w.heap.size (Nat.le_refl _) hz3
        have hnum3 : NumRow w9 w.heap.size b' (l ++ [x]).length c' (l ++ [x]) := by rw [List.length_append]; exact hnum2
        have hlen : (l ++ [x]).length = l.length + 1 := by simp
        go_ret
        exact ⟨l ++ [x], b', c', by rw [hlen]; rfl, numRow_cap hnum3, by rw [hlen]; omega, hnum3, hc3.keep hbB hg, only_below HOc hbB⟩
set_option maxRecDepth 100000 in
set_option maxHeartbeats 1000000 in
theorem l16Draw_any (A : Option Addr) (n c : Nat) (w : World) (hb : BytesAt w w.heap.size A n) : Calls Try.prog 64 #[.slice A n c] w fun e w' => ∃ (l : List Int) (x y : Int) (b c : Nat), e = .returned (.tuple #[.slice (some ⟨b, 0, none⟩) l.length c, .int .i64 x, .int .i64 y]) ∧ l.length ≤ c ∧ l.length ≤ 8 ∧ NumRow w' w.heap.size b l.length c l ∧ Below w.heap.size w w' := by
  go_enter Try.func64, Try.ntmps64
  go_wp2_with fail
  refine (l1New_any _ _ _ _ hb).mono ?_
  rintro e w1 ⟨g, rfl, hg, hc1, hb1⟩
  have hz1 := hb1.size
  go_wp2_with fail
  refine (l16Needs_any _ _ _ hc1).mono ?_
  rintro e w2 ⟨l, b, c2, rfl, hlc, hl8, hr, hc2, HO2⟩
  have hgl := hc1.lt
  have hz2 := HO2.size
  go_wp2_with fail
  refine (l16Charge_any _ _ _ hc2).mono ?_
  rintro e w3 ⟨x, rfl, _, hc3, HO3⟩
  have hr3 := hr.only HO3 (by omega)
  have hz3 := HO3.size
  go_wp2_with fail
  refine (l16Charge_any _ _ _ hc3).mono ?_
  rintro e w4 ⟨y, rfl, _, hc4, HO4⟩
  have hr4 := hr3.only HO4 (by omega)
  have hB := below_only (below_only (below_only hb1 HO2 hg hz1) HO3 hg (by omega)) HO4 hg (by omega)
  go_wp2_with fail
  go_ret3
  exact ⟨l, x, y, b, c2, rfl, hlc, hl8, hr4.lower hz1, hB⟩
set_option maxRecDepth 100000 in
set_option maxHeartbeats 1000000 in
theorem DrawBestLots_any (A : Option Addr) (n c : Nat) (w : World) (hb : BytesAt w w.heap.size A n) : Calls Try.prog 24 #[.slice A n c] w fun e w' => ∃ (l : List Int) (x y : Int) (b c : Nat), e = .returned (.tuple #[.slice (some ⟨b, 0, none⟩) l.length c, .int .i64 x, .int .i64 y]) ∧ l.length ≤ c ∧ l.length ≤ 8 ∧ NumRow w' w.heap.size b l.length c l ∧ Below w.heap.size w w' := by
  go_enter Try.func24, Try.ntmps24
  go_wp2_with fail
  refine (l16Draw_any _ _ _ _ hb).mono ?_
  rintro e w1 ⟨l, x, y, b, c2, rfl, h1, h2, h3, h4⟩
  go_wp2_with fail
  go_ret3
  exact ⟨l, x, y, b, c2, rfl, h1, h2, h3, h4⟩
end Go.Proofs.Ytcfcfgecdlpflaa
