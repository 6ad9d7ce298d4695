/- How loads and machines are drawn, and the inputs of the law on smoothing. -/
import Derived.Test.YtmkfinahbelpdaaDrawCal
namespace Go.Proofs.Ytmkfinahbelpdaa
open Go.RowKit
/-- The ending of a call that draws loads. -/
def DrawnLoads (w : World) (base g : Nat) (e : Ending) (w' : World) : Prop := ∃ (l : List Ld) (A : Option Addr) (c : Nat), e = .returned (.slice A l.length c) ∧ l.length ≤ 6 ∧ (∀ x ∈ l, okLd x) ∧ OwnRows ldF 34 w' w.heap.size A l.length c l ∧ CurAt w' base g ∧ Only g (g + 1) w w'
theorem drawnLoads_mk {w w' : World} {base g : Nat} {v : Value} {l : List Ld} (h : RowVal ldF 34 w' w.heap.size v l) (hl : l.length ≤ 6) (hok : ∀ x ∈ l, okLd x) (hc : CurAt w' base g) (ho : Only g (g + 1) w w') : DrawnLoads w base g (.returned v) w' := by
  obtain ⟨A, c, rfl, hr⟩ := h.form
  exact ⟨l, A, c, rfl, hl, hok, hr, hc, ho⟩
theorem okLd_snoc {l : List Ld} {x : Ld} (h : ∀ y ∈ l, okLd y) (hx : okLd x) : ∀ y ∈ l ++ [x], okLd y := fun y hy => by
  rcases List.mem_append.1 hy with hy | hy
  · exact h y hy
  · simp only [List.mem_singleton] at hy
    subst hy; exact hx
set_option maxRecDepth 100000 in
set_option maxHeartbeats 1000000 in
theorem l4Day_any (w : World) (base g : Nat) (hc : CurAt w base g) : Calls Try.prog 67 #[.pointer (some ⟨g, 0, none⟩)] w (DrawnInt (fun _ => True) w base g) := by
  go_enter Try.func67, Try.ntmps67
  go_wp2_with fail
  refine (l1Once_any _ _ _ _ (by omega) hc).mono ?_
  rintro e w1 ⟨b, rfl, hc1, HO1⟩
  have hg := hc1.lt
  cases b
  · go_wp2_with fail
    refine (l1Below_any _ _ _ _ (by omega) hc1).mono ?_
    rintro e w2 ⟨x, rfl, _, hc2, HO⟩
    go_wp2_with fail
    go_ret
    exact ⟨_, rfl, trivial, hc2, HO1.trans HO⟩
  · go_wp2_with fail
    refine (l1PickInt_any _ 6 _ [-1, 999, 1000, 998, -9223372036854775808, 9223372036854775807] _ base g (lit_ints rfl _ _ _ rfl rfl (by simp)) (by omega) (fun a ha => by have := Option.some.inj ha; rw [← this]; show w1.heap.size ≠ g; omega) (hc1.keep (below_alloc _ _) hg)).mono ?_
    rintro e w2 ⟨x, rfl, _, hc2, HO⟩
    go_wp2_with fail
    go_ret
    exact ⟨_, rfl, trivial, hc2, (HO1.trans (Only.of_below (below_alloc _ _))).trans HO⟩
set_option maxRecDepth 100000 in
set_option maxHeartbeats 1000000 in
theorem l21Machines_any (w : World) (base g : Nat) (hc : CurAt w base g) : Calls Try.prog 35 #[.pointer (some ⟨g, 0, none⟩)] w (DrawnInt (fun _ => True) w base g) := by
  go_enter Try.func35, Try.ntmps35
  go_wp2_with fail
  refine (l1Once_any _ _ _ _ (by omega) hc).mono ?_
  rintro e w1 ⟨b, rfl, hc1, HO1⟩
  have hg := hc1.lt
  cases b
  · go_wp2_with fail
    refine (l1Below_any _ _ _ _ (by omega) hc1).mono ?_
    rintro e w2 ⟨x, rfl, _, hc2, HO⟩
    go_wp2_with fail
    go_ret
    exact ⟨_, rfl, trivial, hc2, HO1.trans HO⟩
  · go_wp2_with fail
    refine (l1PickInt_any _ 3 _ [-1, 20, 21] _ base g (lit_ints rfl _ _ _ rfl rfl (by simp)) (by omega) (fun a ha => by have := Option.some.inj ha; rw [← this]; show w1.heap.size ≠ g; omega) (hc1.keep (below_alloc _ _) hg)).mono ?_
    rintro e w2 ⟨x, rfl, _, hc2, HO⟩
    go_wp2_with fail
    go_ret
    exact ⟨_, rfl, trivial, hc2, (HO1.trans (Only.of_below (below_alloc _ _))).trans HO⟩
set_option maxRecDepth 100000 in
set_option maxHeartbeats 4000000 in
theorem l21Loads_any (w : World) (base g : Nat) (hc : CurAt w base g) : Calls Try.prog 33 #[.pointer (some ⟨g, 0, none⟩)] w (DrawnLoads w base g) := by
  have hg : g < w.heap.size := hc.lt
  have hc0 := hc.keep (below_alloc w (.cells #[] 34)) hg
  have hv0 : RowVal ldF 34 (w.alloc (.cells #[] 34)) w.heap.size (.slice (some ⟨w.heap.size, 0, none⟩) 0 0) [] := empty_row rfl (Nat.le_refl _)
  have hO0 : Only g (g + 1) w (w.alloc (.cells #[] 34)) := Only.of_below (below_alloc _ _)
  clear hc
  go_enter Try.func33, Try.ntmps33
  go_wp2_with fail
  refine (l1Below_any _ _ _ _ (by omega) hc0).mono ?_
  rintro e w1 ⟨day, rfl, ⟨y0, y1⟩, hc1, HO1⟩
  go_wp2_with fail
  refine (l1Below_any _ _ _ _ (by omega) hc1).mono ?_
  rintro e w2 ⟨m, rfl, ⟨m0, m1⟩, hc2, HO2⟩
  obtain ⟨m, rfl⟩ : ∃ k : Nat, m = (k : Int) := ⟨_, (Int.toNat_of_nonneg m0).symm⟩
  have hv2 := (hv0.only HO1 (by omega)).only HO2 (by omega)
  have hO2 := (hO0.trans HO1).trans HO2
  clear hc0 hv0 hO0 hc1 HO1 HO2
  go_wp2_with fail
  go_loopw [3, 4, 5] (fun v d i wr => ∃ (k : Nat) (day : Int) (out : List Ld), k ≤ 5 ∧ i = .int .i64 k ∧ d = .int .i64 day ∧ 0 ≤ day ∧ day + 4 * k ≤ 43 ∧ out.length + k ≤ 5 ∧ Hid (∀ x ∈ out, okLd x) ∧ RowVal ldF 34 wr w.heap.size v out ∧ CurAt wr base g ∧ Only g (g + 1) w wr) (fun _ _ i _ => (intOf i).toNat)
  case atStart => exact ⟨m, day, [], by omega, rfl, rfl, by omega, by omega, by simp; omega, Lib.hid (by simp), hv2, hc2, hO2⟩
  case round =>
    clear hv2 hc2 hO2
    obtain ⟨k, day, out, hk, rfl, rfl, d0, d1, hl, HOK, hrow, hcur, HO⟩ := hrel
    by_cases hlt : 0 < (k : Int)
    · go_wp2_with fail
      refine (l1Below_any _ _ _ _ (by omega) hcur).mono ?_
      rintro e w3 ⟨q, rfl, ⟨q0, q1⟩, hc3, HO3⟩
      have hrow3 := hrow.only HO3 (by omega)
      have HO3 := HO.trans HO3
      have hsz3 := HO3.size
      go_wp2_with (at_builtin; refine wpList_append_one loadElem rfl _ _ rfl rfl (l := out) hrow3 (by omega) (⟨#[83, 65, 87]⟩, day, q * 5) #[.string ⟨#[83, 65, 87]⟩, .int .i64 day, .int .i64 (q * 5)] rfl (by simp [Value.oneCell']) w3.heap.size _ rfl rfl hsz3 ?_; intro v' w4 hrow4 hbl hgr)
      have hB := hbl w.heap.size (Nat.le_refl _) hsz3
      have hc4 := hc3.keep hB hg
      have HO4 := only_below HO3 hB
      refine (l1Below_any _ _ _ _ (by omega) hc4).mono ?_
      rintro e w5 ⟨s, rfl, ⟨s0, s1⟩, hc5, HO5⟩
      have hrow5 := hrow4.only HO5 (by omega)
      have HO6 := HO4.trans HO5
      go_wp2_with fail
      go_roundw
      case rel => exact ⟨k - 1, day + 1 + s, out ++ [(⟨#[83, 65, 87]⟩, day, q * 5)], by omega, by go_num, rfl, by omega, by omega, by simp; omega, Lib.hid (okLd_snoc HOK.out (by simp [okLd, ByteArray.size])), hrow5, hc5, HO6⟩
      case measure => simp [intOf]; omega
    · obtain rfl : k = 0 := by omega
      go_wp2_with fail
      refine (l1Once_any _ _ _ _ (by omega) hcur).mono ?_
      rintro e w3 ⟨b, rfl, hc3, HO3⟩
      have hrow3 := hrow.only HO3 (by omega)
      have HO3 := HO.trans HO3
      have hsz3 := HO3.size
      cases b
      · go_wp2_with fail
        go_ret
        exact drawnLoads_mk hrow3 (by omega) HOK.out hc3 HO3
      · go_wp2_with fail
        have hg3 : g < w3.heap.size := by omega
        refine (l1Pick_any _ 2 _ [⟨#[83, 65, 87]⟩, ⟨#[77, 73, 76, 76]⟩] _ base g (lit_strs rfl #[.string ⟨#[83, 65, 87]⟩, .string ⟨#[77, 73, 76, 76]⟩] [⟨#[83, 65, 87]⟩, ⟨#[77, 73, 76, 76]⟩] 2 rfl rfl (by simp)) (by omega) (fun a ha => by have := Option.some.inj ha; rw [← this]; show w3.heap.size ≠ g; omega) (hc3.keep (below_alloc _ _) hg3)).mono ?_
        rintro e w4 ⟨x, rfl, hx, hc4, HO4⟩
        have hx2 : okLd (x, 0, 0) := by
          simp only [List.mem_cons, List.not_mem_nil, or_false] at hx
          rcases hx with rfl | rfl <;> simp [okLd, ByteArray.size]
        have HX := Lib.hid hx2
        clear hx hx2
        have hrow4 := (hrow3.alloc (.cells #[.string ⟨#[83, 65, 87]⟩, .string ⟨#[77, 73, 76, 76]⟩] 9)).only HO4 (by omega)
        have HO4 := (HO3.trans (Only.of_below (below_alloc _ _))).trans HO4
        go_wp2_with fail
        refine (l4Day_any _ base g hc4).mono ?_
        rintro e w5 ⟨y, rfl, _, hc5, HO5⟩
        have hrow5 := hrow4.only HO5 (by omega)
        have HO5 := HO4.trans HO5
        go_wp2_with fail
        refine (l1Odd_any _ base g hc5).mono ?_
        rintro e w6 ⟨z, rfl, _, hc6, HO6⟩
        have hrow6 := hrow5.only HO6 (by omega)
        have HO6 := HO5.trans HO6
        have hsz6 := HO6.size
        go_wp2_with (at_builtin; refine wpList_append_one loadElem rfl _ _ rfl rfl (l := out) hrow6 (by omega) (x, y, z) #[.string x, .int .i64 y, .int .i64 z] rfl (by simp [Value.oneCell']) w6.heap.size _ rfl rfl hsz6 ?_; intro v' w7 hrow7 hbl hgr)
        have hB := hbl w.heap.size (Nat.le_refl _) hsz6
        go_ret
        exact drawnLoads_mk hrow7 (by simp; omega) (okLd_snoc HOK.out HX.out) (hc6.keep hB hg) (only_below HO6 hB)
theorem own_onlyG {w w' : World} {lo a b : Nat} {e : TypeId} {sz n c : Nat} {A : Option Addr} {xs : List Value} (h : w.ownsRow lo e sz (.slice A n c) n xs) (ho : Only a b w w') (hb : b ≤ lo) : w'.ownsRow lo e sz (.slice A n c) n xs := by
  refine ⟨h.1, ?_⟩
  rcases h.2 with h0 | ⟨g, cap, cur, hv, hlo, hg, hr⟩
  · exact .inl h0
  · refine .inr ⟨g, cap, cur, hv, hlo, ?_, hr⟩
    have hlt : g < w.heap.size := by
      rcases Nat.lt_or_ge g w.heap.size with h1 | h1
      · exact h1
      · rw [Array.getElem?_eq_none h1] at hg; cases hg
    rw [ho.block g hlt (by omega)]; exact hg
/-- The ending of the call that draws the law's inputs. -/
def DrawnSmooth (w : World) (e : Ending) (w' : World) : Prop := ∃ (l : List Ld) (wk : List Int) (ex : List Ex) (q : Int) (A C B : Option Addr) (c n2 c2 m d : Nat), e = .returned (.tuple #[.slice A l.length c, .agg #[.slice C n2 c2, .slice B m d], .int .i64 q]) ∧ l.length ≤ 6 ∧ (∀ x ∈ l, okLd x) ∧ LoadsIn w' A l.length l ∧ IntsIn w' C n2 wk ∧ ExsIn w' B m ex ∧ Below w.heap.size w w'
set_option maxRecDepth 100000 in
set_option maxHeartbeats 2000000 in
theorem DrawSmoothLoads_any (A : Option Addr) (n c : Nat) (w : World) (hb : BytesAt w w.heap.size A n) : Calls Try.prog 8 #[.slice A n c] w (DrawnSmooth w) := by
  have hs := below_alloc w (.cells #[.slice none 0 0, .slice none 0 0] 28)
  have r0 : (w.alloc (.cells #[.slice none 0 0, .slice none 0 0] 28)).cell? ⟨w.heap.size, 0, none⟩ = some (.slice none 0 0) := by simp [go_sem]
  have r1 : (w.alloc (.cells #[.slice none 0 0, .slice none 0 0] 28)).cell? ⟨w.heap.size, 1, none⟩ = some (.slice none 0 0) := by simp [go_sem]
  have hz : w.heap.size < (w.alloc (.cells #[.slice none 0 0, .slice none 0 0] 28)).heap.size := by simp
  have f0 : ∀ j, (w.alloc (.cells #[.slice none 0 0, .slice none 0 0] 28)).frozen? ⟨w.heap.size, j, none⟩ = false := fun j => by simp [go_sem]
  go_enter Try.func8, Try.ntmps8
  go_wp2_with fail
  have hb0 : BytesAt (w.alloc (.cells #[.slice none 0 0, .slice none 0 0] 28)) (w.alloc (.cells #[.slice none 0 0, .slice none 0 0] 28)).heap.size A n := by
    have h1 := hb.keep hs (Nat.le_refl _)
    exact ⟨h1.1, fun k hk => by
      obtain ⟨b, o, x, e, hlt, h2, h3, h4⟩ := h1.2 k hk
      exact ⟨b, o, x, e, by omega, h2, h3, h4⟩⟩
  generalize w.alloc (.cells #[.slice none 0 0, .slice none 0 0] 28) = w0 at *
  generalize hN : w.heap.size = N at *
  refine (l1New_any _ _ _ _ hb0).mono ?_
  rintro e w1 ⟨g, rfl, hg, hc1, hb1⟩
  have hz1 := hb1.size
  clear hb0 hb
  go_wp2_with fail
  refine (l21Loads_any _ _ _ hc1).mono ?_
  rintro e w2 ⟨l, A2, c2, rfl, hl6, hok, hr, hc2, HO2⟩
  have HOK := Lib.hid hok
  have hg1 := hc1.lt
  have hz2 := HO2.size
  clear hok hc1
  go_wp2_with fail
  refine (l4Calendar_any _ _ _ hc2).mono ?_
  rintro e w3 ⟨wk, ex, A3, B3, n3, c3, m3, d3, rfl, h8, h5, hi, hx, hc3, HO3⟩
  have hz3 := HO3.size
  clear hc2
  go_wp2_with fail
  refine (l21Machines_any _ _ _ hc3).mono ?_
  rintro e w4 ⟨q, rfl, _, hc4, HO4⟩
  have hz4 := HO4.size
  clear hc3 hc4
  have b4 : w4.heap[N]? = w0.heap[N]? := (HO4.block N (by omega) (by omega)).trans ((HO3.block N (by omega) (by omega)).trans ((HO2.block N (by omega) (by omega)).trans (hb1.block N hz)))
  have q0 := (World.cell?_of_block b4).trans r0
  have q1 := (World.cell?_of_block b4).trans r1
  have q2 := (World.frozen?_of_block b4).trans (f0 0)
  have q3 := (World.frozen?_of_block b4).trans (f0 1)
  have hr4 := (hr.only HO3 (by omega)).only HO4 (by omega)
  have hi4 : OwnInts w4 w2.heap.size A3 n3 c3 wk := ⟨hi.1, own_onlyG hi.2 HO4 (by omega)⟩
  have hx4 := hx.only HO4 (by omega)
  have hB : Below N w w4 := below_only (below_only (below_only (hs.trans (hb1.mono (by omega))) HO2 (by omega) (by omega)) HO3 (by omega) (by omega)) HO4 (by omega) (by omega)
  clear r0 r1 f0 hr hi hx b4
  go_wp2_with fail
  have hrF := (hr4.far (p := ⟨N, 0, none⟩) (by show N < w1.heap.size; omega) (.slice A3 n3 c3)).far (p := ⟨N, 1, none⟩) (by show N < w1.heap.size; omega) (.slice B3 m3 d3)
  have hiF := (hi4.far (p := ⟨N, 0, none⟩) (by show N < w2.heap.size; omega) (.slice A3 n3 c3)).far (p := ⟨N, 1, none⟩) (by show N < w2.heap.size; omega) (.slice B3 m3 d3)
  have hxF := (hx4.far (p := ⟨N, 0, none⟩) (by show N < w2.heap.size; omega) (.slice A3 n3 c3)).far (p := ⟨N, 1, none⟩) (by show N < w2.heap.size; omega) (.slice B3 m3 d3)
  have HF : Below N w ((w4.setCell ⟨N, 0, none⟩ (.slice A3 n3 c3)).setCell ⟨N, 1, none⟩ (.slice B3 m3 d3)) := (hB.setCell (p := ⟨N, 0, none⟩) (Nat.le_refl _) _).setCell (p := ⟨N, 1, none⟩) (Nat.le_refl _) _
  refine bodyPost_ret (v := .tuple #[.slice A2 l.length c2, .agg #[.slice A3 n3 c3, .slice B3 m3 d3], .int .i64 q]) (by simp [results, Try.results8, go_sem, q0, q1, q2, q3]) rfl ?_
  subst hN
  exact ⟨l, wk, ex, q, A2, A3, B3, c2, n3, c3, m3, d3, rfl, hl6, HOK.out, hrF.rows (by omega), hiF.ints (by omega), hxF.rows (by omega), HF⟩
end Go.Proofs.Ytmkfinahbelpdaa
