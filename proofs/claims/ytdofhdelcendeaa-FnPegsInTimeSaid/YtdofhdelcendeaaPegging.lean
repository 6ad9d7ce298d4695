/- The walks of IsPegging. -/
import Derived.Test.YtdofhdelcendeaaPeggingPlain
import Derived.Test.YtdofhdelcendeaaNums
import Derived.Test.YtdofhdelcendeaaFlow
import Derived.StillTailTactics
namespace Go.Proofs.Ytdofhdelcendeaa
open Go.RowKit
def takes (g : Pg → Int) (l : List Pg) (n : Nat) : List Int := (List.range n).map (took g l)
theorem takes_len (g : Pg → Int) (l : List Pg) (n : Nat) : (takes g l n).length = n := by simp [takes]
theorem takes_at (g : Pg → Int) (l : List Pg) (n i : Nat) (h : i < (takes g l n).length) : (takes g l n)[i] = took g l i := by simp [takes]
theorem takes_zero (g : Pg → Int) (n : Nat) : takes g [] n = List.replicate n 0 := by
  apply List.ext_getElem
  · simp [takes]
  · intro i h1 h2
    rw [takes_at]; simp [took]
theorem takes_set (g : Pg → Int) (l : List Pg) (n k x : Nat) (hk : k < l.length) (hx : g l[k] = (x : Int)) : (takes g (l.take k) n).set x (took g (l.take k) x + l[k].2.2) = takes g (l.take (k + 1)) n := by
  apply List.ext_getElem
  · simp [takes]
  · intro i h1 h2
    rw [List.getElem_set, takes_at, takes_at, took_take g l k i hk, hx]
    split
    · rename_i h; subst h; rw [if_pos rfl]
    · rename_i h; rw [if_neg (by omega)]; omega
theorem isPegging_no {dem sup : List Fl} {l : List Pg} (h : (areFlows dem && (areFlows sup && decide ((l.length : Int) ≤ 80))) = false) : isPegging dem sup l = false := by unfold isPegging; rw [h]; rfl
theorem isPegging_bad {dem sup : List Fl} {l : List Pg} {k : Nat} (hk : k < l.length) (h : okPeg dem.length sup.length l[k] = false) : isPegging dem sup l = false := by
  unfold isPegging
  rw [all_false l _ k hk h, Bool.false_and, Bool.and_false]
theorem isPegging_overD {dem sup : List Fl} {l : List Pg} {i k : Nat} (hi : i < dem.length) (h : dem[i].2 < took (·.1) (l.take k) i) : isPegging dem sup l = false := by
  unfold isPegging
  cases ho : l.all (okPeg dem.length sup.length)
  · rw [Bool.false_and, Bool.and_false]
  · have hm := took_mono (·.1) dem.length sup.length l i k (List.all_eq_true.1 ho)
    have : ((List.range dem.length).all fun i => decide (took (·.1) l i ≤ (dem.getD i (0, 0)).2)) = false := by
      rw [List.all_eq_false]
      exact ⟨i, by simpa using hi, by rw [getD_at _ _ _ hi]; simp; omega⟩
    rw [this, Bool.false_and, Bool.and_false, Bool.and_false]
theorem isPegging_overS {dem sup : List Fl} {l : List Pg} {i k : Nat} (hi : i < sup.length) (h : sup[i].2 < took (·.2.1) (l.take k) i) : isPegging dem sup l = false := by
  unfold isPegging
  cases ho : l.all (okPeg dem.length sup.length)
  · rw [Bool.false_and, Bool.and_false]
  · have hm := took_mono (·.2.1) dem.length sup.length l i k (List.all_eq_true.1 ho)
    have : ((List.range sup.length).all fun i => decide (took (·.2.1) l i ≤ (sup.getD i (0, 0)).2)) = false := by
      rw [List.all_eq_false]
      exact ⟨i, by simpa using hi, by rw [getD_at _ _ _ hi]; simp; omega⟩
    rw [this, Bool.and_false, Bool.and_false, Bool.and_false]
theorem isPegging_yes {dem sup : List Fl} {l : List Pg} (h1 : areFlows dem = true) (h2 : areFlows sup = true) (h3 : (l.length : Int) ≤ 80) (h4 : ∀ j (hj : j < l.length), okPeg dem.length sup.length l[j] = true)
    (h5 : ∀ i (hi : i < dem.length), took (·.1) l i ≤ dem[i].2) (h6 : ∀ i (hi : i < sup.length), took (·.2.1) l i ≤ sup[i].2) : isPegging dem sup l = true := by
  unfold isPegging
  have e1 : l.all (okPeg dem.length sup.length) = true := by
    rw [List.all_eq_true]
    intro p hp
    obtain ⟨j, hj, rfl⟩ := List.mem_iff_getElem.1 hp
    exact h4 j hj
  have e2 : ((List.range dem.length).all fun i => decide (took (·.1) l i ≤ (dem.getD i (0, 0)).2)) = true := by
    rw [List.all_eq_true]
    intro k hk
    rw [List.mem_range] at hk
    rw [getD_at _ _ _ hk]
    exact decide_eq_true (h5 k hk)
  have e3 : ((List.range sup.length).all fun i => decide (took (·.2.1) l i ≤ (sup.getD i (0, 0)).2)) = true := by
    rw [List.all_eq_true]
    intro k hk
    rw [List.mem_range] at hk
    rw [getD_at _ _ _ hk]
    exact decide_eq_true (h6 k hk)
  rw [h1, h2, decide_eq_true h3, e1, e2, e3]; rfl
theorem okPeg_of {nd ns : Nat} {p : Pg} (h1 : inB p.1 0 ((nd : Int) - 1) = true) (h2 : inB p.2.1 0 ((ns : Int) - 1) = true) (h3 : inB p.2.2 1 1000000000 = true) : okPeg nd ns p = true := by unfold okPeg; rw [h1, h2, h3]; rfl
/-- What a round of the reference's loop leaves. -/
theorem took_bd80 {nd ns : Nat} {l : List Pg} {k : Nat} (g : Pg → Int) (hl : (l.length : Int) ≤ 80) (hk : k ≤ l.length) (h : ∀ j (hj : j < l.length), j < k → okPeg nd ns l[j] = true) (i : Nat) : 0 ≤ took g (l.take k) i ∧ took g (l.take k) i ≤ 80000000000 := by
  have h2 := took_bd g nd ns (l.take k) i (fun p hp => by
    obtain ⟨j, hj, rfl⟩ := List.mem_iff_getElem.1 hp
    rw [List.getElem_take]
    exact h j (by simp at hj; omega) (by simp at hj; omega))
  have h3 : (l.take k).length ≤ 80 := by simp; omega
  omega
theorem took_room {dem : List Fl} {g : Pg → Int} {l : List Pg} {k x : Nat} (hk : k < l.length) (hx : g l[k] = (x : Int)) (h : ∀ i (hi : i < dem.length), took g (l.take k) i ≤ dem[i].2) (hn : ∀ hx2 : x < dem.length, took g (l.take k) x + l[k].2.2 ≤ dem[x].2) :
    ∀ i (hi : i < dem.length), took g (l.take (k + 1)) i ≤ dem[i].2 := by
  intro i hi
  rw [took_take g l k i hk, hx]
  by_cases he : (x : Int) = (i : Int)
  · have : x = i := by omega
    subst this
    rw [if_pos rfl]; exact hn hi
  · rw [if_neg he]; have := h i hi; omega
set_option maxRecDepth 100000 in
set_option maxHeartbeats 4000000 in
theorem specIsPegging_any (A B C : Option Addr) (n m q c c2 c3 : Nat) (dem sup : List Fl) (l : List Pg) (w : World) (ha : FlowsIn w A n dem) (hm : FlowsIn w B m sup) (hl : PegsIn w C q l) :
    Calls Try.prog 16 #[.slice A n c, .slice B m c2, .slice C q c3] w fun e w' => e = .returned (.bool (isPegging dem sup l)) ∧ Below w.heap.size w w' := by
  have hn1 := ha.len
  have hn2 := hm.len
  have hn3 := hl.len
  obtain rfl := ha.1
  obtain rfl := hm.1
  obtain rfl := hl.1
  have hb : Below w.heap.size w w := Below.refl _ _
  go_enter Try.func16, Try.ntmps16
  go_wp2_with fail
  refine (specAreFlows_any _ _ _ dem _ (ha.keep hb)).mono ?_
  rintro e u1 ⟨rfl, hs⟩
  replace hb := below_on hb (hs.below _)
  clear hs
  cases g1 : areFlows dem
  · go_wp2_with fail
    go_ret
    exact ⟨ret_bool (isPegging_no (by simp [g1])).symm, hb⟩
  go_wp2_with fail
  refine (specAreFlows_any _ _ _ sup _ (hm.keep hb)).mono ?_
  rintro e u2 ⟨rfl, hs⟩
  replace hb := below_on hb (hs.below _)
  clear hs
  cases g2 : areFlows sup
  · go_wp2_with fail
    go_ret
    exact ⟨ret_bool (isPegging_no (by simp [g2])).symm, hb⟩
  by_cases h80 : 80 < (l.length : Int)
  · go_wp2_with fail
    go_ret
    exact ⟨ret_bool (isPegging_no (by rw [g1, g2, decide_eq_false (by omega)]; rfl)).symm, hb⟩
  have hsz := hb.size
  go_wp2_with (at_make; first | (refine wpList_make_nums rfl (.tmp 25) (.tmp 25) rfl w.heap.size dem.length rfl rfl rfl rfl (by omega) hsz ?_; intro w1 hA hA2 hA3) | (refine wpList_make_nums rfl (.tmp 28) (.tmp 28) rfl w.heap.size sup.length rfl rfl rfl rfl (by omega) (by omega) ?_; intro w2 hB hB2 hB3))
  replace hA := hA.keep hB2
  have hg : u2.heap.size < w1.heap.size := hA3
  rw [← takes_zero (·.1)] at hA
  rw [← takes_zero (·.2.1)] at hB
  have HB : Below w.heap.size w w2 := below_on (below_on hb hA2) hB2
  generalize u2.heap.size = ga at *
  generalize w1.heap.size = gb at *
  have hne : ga ≠ gb := by omega
  have hga : w.heap.size ≤ ga := hA.lt.1
  have hgb : w.heap.size ≤ gb := hB.lt.1
  clear hA2 hB2 hA3 hB3 hb hsz
  go_loopw [9] (fun i wr => ∃ k : Nat, k ≤ l.length ∧ i = .int .i64 k ∧ Hid (∀ j (hj : j < l.length), j < k → okPeg dem.length sup.length l[j] = true) ∧ NumRow wr w.heap.size ga dem.length dem.length (takes (·.1) (l.take k) dem.length) ∧ NumRow wr w.heap.size gb sup.length sup.length (takes (·.2.1) (l.take k) sup.length) ∧
    Hid (∀ i (hi : i < dem.length), took (·.1) (l.take k) i ≤ dem[i].2) ∧ Hid (∀ i (hi : i < sup.length), took (·.2.1) (l.take k) i ≤ sup[i].2) ∧ Below w.heap.size w wr) (fun i _ => l.length - (intOf i).toNat)
  case atStart => exact ⟨0, by omega, rfl, fun j _ h => absurd h (by omega), hA, hB, fun i hi => by have := (areFlows_mem g1 _ (List.getElem_mem hi)).2; simp [took]; omega, fun i hi => by have := (areFlows_mem g2 _ (List.getElem_mem hi)).2; simp [took]; omega, HB⟩
  case round =>
    clear hA hB HB
    obtain ⟨k, hk, rfl, HI, hA, hB, HD1, HD2, HR⟩ := hrel
    by_cases hlt : k < l.length
    · obtain ⟨b, o, rfl, hbl, hc0, hc1, hc2⟩ := peg_at (hl.keep HR) hlt
      have hsz := HR.size
      cases d1 : inB l[k].1 0 ((dem.length : Int) - 1)
      · go_wp2_with (go_at_call 68; refine (l1In_any _ _ _ _).mono ?_; rintro e w' ⟨rfl, rfl⟩)
        go_ret
        exact ⟨ret_bool (isPegging_bad hlt (by unfold okPeg; rw [d1]; rfl)).symm, HR.alloc hsz _⟩
      cases d2 : inB l[k].2.1 0 ((sup.length : Int) - 1)
      · go_wp2_with (go_at_call 68; refine (l1In_any _ _ _ _).mono ?_; rintro e w' ⟨rfl, rfl⟩)
        go_ret
        exact ⟨ret_bool (isPegging_bad hlt (by unfold okPeg; rw [d1, d2]; rfl)).symm, HR.alloc hsz _⟩
      cases d3 : inB l[k].2.2 1 1000000000
      · go_wp2_with (go_at_call 68; refine (l1In_any _ _ _ _).mono ?_; rintro e w' ⟨rfl, rfl⟩)
        go_ret
        exact ⟨ret_bool (isPegging_bad hlt (by unfold okPeg; rw [d1, d2, d3]; rfl)).symm, HR.alloc hsz _⟩
      go_wp2_with (go_at_call 68; refine (l1In_any _ _ _ _).mono ?_; rintro e w' ⟨rfl, rfl⟩)
      have ho := okPeg_of d1 d2 d3
      have HX : Hid (∀ j (hj : j < l.length), j < k + 1 → okPeg dem.length sup.length l[j] = true) := fun j hj hjk => by
        rcases Nat.lt_or_ge j k with h1 | h1
        · exact HI.out j hj h1
        · obtain rfl : j = k := by omega
          exact ho
      have HOK := Lib.hid ho
      clear ho
      obtain ⟨e1, e2⟩ := inB_iff.1 d1
      obtain ⟨e3, e4⟩ := inB_iff.1 d2
      obtain ⟨e5, e6⟩ := inB_iff.1 d3
      clear d1 d2 d3
      obtain ⟨x, hx⟩ : ∃ x : Nat, l[k].1 = (x : Int) := ⟨_, (Int.toNat_of_nonneg e1).symm⟩
      obtain ⟨y, hy⟩ : ∃ y : Nat, l[k].2.1 = (y : Int) := ⟨_, (Int.toNat_of_nonneg e3).symm⟩
      have hxd : x < dem.length := by omega
      have hyd : y < sup.length := by omega
      obtain ⟨t1, t2⟩ := took_bd80 (·.1) h80 hk (fun j hj hjk => HI.out j hj hjk) x
      obtain ⟨t3, t4⟩ := took_bd80 (·.2.1) h80 hk (fun j hj hjk => HI.out j hj hjk) y
      have S1 := Lib.hid (takes_set (·.1) l dem.length k x hlt hx)
      have S2 := Lib.hid (takes_set (·.2.1) l sup.length k y hlt hy)
      have R1 : Hid ((∀ hx2 : x < dem.length, took (·.1) (l.take k) x + l[k].2.2 ≤ dem[x].2) → ∀ i (hi : i < dem.length), took (·.1) (l.take (k + 1)) i ≤ dem[i].2) := fun h => took_room hlt hx HD1.out h
      have R2 : Hid ((∀ hx2 : y < sup.length, took (·.2.1) (l.take k) y + l[k].2.2 ≤ sup[y].2) → ∀ i (hi : i < sup.length), took (·.2.1) (l.take (k + 1)) i ≤ sup[i].2) := fun h => took_room hlt hy HD2.out h
      have V1 : Hid (∀ hi : x < dem.length, dem[x].2 < took (·.1) (l.take k) x + l[k].2.2 → isPegging dem sup l = false) := fun hi h => isPegging_overD (k := k + 1) hi (by rw [took_take _ _ _ _ hlt, if_pos hx]; exact h)
      have V2 : Hid (∀ hi : y < sup.length, sup[y].2 < took (·.2.1) (l.take k) y + l[k].2.2 → isPegging dem sup l = false) := fun hi h => isPegging_overS (k := k + 1) hi (by rw [took_take _ _ _ _ hlt, if_pos hy]; exact h)
      have c1 : ∀ W, NumRow W w.heap.size ga dem.length dem.length (takes (·.1) (l.take k) dem.length) → W.cell? ⟨ga, x, none⟩ = some (.int .i64 (took (·.1) (l.take k) x)) := fun W h => by
        rw [h.cell (j := x) (by rw [takes_len]; exact hxd), takes_at]
      have c2 : ∀ W, NumRow W w.heap.size gb sup.length sup.length (takes (·.2.1) (l.take k) sup.length) → W.cell? ⟨gb, y, none⟩ = some (.int .i64 (took (·.2.1) (l.take k) y)) := fun W h => by
        rw [h.cell (j := y) (by rw [takes_len]; exact hyd), takes_at]
      have T1 : Hid (took (·.1) (l.take (k + 1)) x = took (·.1) (l.take k) x + l[k].2.2) := by show _ = _; rw [took_take _ _ _ _ hlt, if_pos hx]
      have T2 : Hid (took (·.2.1) (l.take (k + 1)) y = took (·.2.1) (l.take k) y + l[k].2.2) := by show _ = _; rw [took_take _ _ _ _ hlt, if_pos hy]
      have C1 := Lib.hid c1
      have C2 := Lib.hid c2
      clear c1 c2 HI HD1 HD2
      have hqq : l[k].2.2 = l[k].2.2 := rfl
      generalize l[k].2.2 = q at *
      rw [hx, hy]
      clear hx hy hqq e1 e2 e3 e4 hc0 hc1 hc2
      generalize took (·.1) (l.take k) x = tx at *
      generalize took (·.2.1) (l.take k) y = ty at *
      have x0 : (wr.alloc (.cells #[.int .i64 x, .int .i64 y, .int .i64 q] 49)).cell? ⟨wr.heap.size, 0, none⟩ = some (.int .i64 x) := by simp [go_sem]
      have x1 : (wr.alloc (.cells #[.int .i64 x, .int .i64 y, .int .i64 q] 49)).cell? ⟨wr.heap.size, 1, none⟩ = some (.int .i64 y) := by simp [go_sem]
      have x2 : (wr.alloc (.cells #[.int .i64 x, .int .i64 y, .int .i64 q] 49)).cell? ⟨wr.heap.size, 2, none⟩ = some (.int .i64 q) := by simp [go_sem]
      have hA1 := hA.keep (below_alloc wr (.cells #[.int .i64 x, .int .i64 y, .int .i64 q] 49))
      have hB1 := hB.keep (below_alloc wr (.cells #[.int .i64 x, .int .i64 y, .int .i64 q] 49))
      have hR1 := HR.alloc hsz (.cells #[.int .i64 x, .int .i64 y, .int .i64 q] 49)
      have hga2 : ga < wr.heap.size := hA.lt.2
      have hgb2 : gb < wr.heap.size := hB.lt.2
      clear HR hA hB hsz hbl
      generalize (wr.alloc (.cells #[.int .i64 x, .int .i64 y, .int .i64 q] 49)) = W1 at *
      generalize wr.heap.size = H at *
      have m1 := C1.out _ hA1
      have m2 := hA1.frozen x
      have m3 : IntKind.i64.wrap (tx + q) = tx + q := IntWalk.i64_in _ (by omega)
      go_still_tail 12, (by kernel_rfl)
      change wpList _ _ _ _ _ W1.drew
      replace hA1 := hA1.drew
      replace hB1 := hB1.drew
      replace hR1 := hR1.drew
      change W1.drew.cell? _ = _ at x0 x1 x2 m1
      change W1.drew.frozen? _ = _ at m2
      generalize W1.drew = W2 at *
      clear m3
      go_wp2
      have hA2 := hA1.set x (tx + q)
      rw [S1.out] at hA2
      have hB2 := hB1.far (p := ⟨ga, x, none⟩) (v := .int .i64 (tx + q)) hne
      have hR2 := hR1.setCell (p := ⟨ga, x, none⟩) hga (.int .i64 (tx + q))
      have y0 := (cell_far (w := W2) (g := ga) (i := x) (b := H) (j := 0) (v := .int .i64 (tx + q)) (by omega)).trans x0
      have y1 := (cell_far (w := W2) (g := ga) (i := x) (b := H) (j := 1) (v := .int .i64 (tx + q)) (by omega)).trans x1
      have y2 := (cell_far (w := W2) (g := ga) (i := x) (b := H) (j := 2) (v := .int .i64 (tx + q)) (by omega)).trans x2
      clear hA1 hB1 hR1 x0 x1 x2 m1 m2
      generalize W2.setCell ⟨ga, x, none⟩ (.int .i64 (tx + q)) = W3 at *
      have m1 := C2.out _ hB2
      have m2 := hB2.frozen y
      have m3 : IntKind.i64.wrap (ty + q) = ty + q := IntWalk.i64_in _ (by omega)
      go_still_tail 12, (by kernel_rfl)
      change wpList _ _ _ _ _ W3.drew
      replace hA2 := hA2.drew
      replace hB2 := hB2.drew
      replace hR2 := hR2.drew
      change W3.drew.cell? _ = _ at y0 y1 y2 m1
      change W3.drew.frozen? _ = _ at m2
      generalize W3.drew = W4 at *
      clear m3
      go_wp2
      have hA3 := hA2.far (p := ⟨gb, y, none⟩) (v := .int .i64 (ty + q)) (fun e => hne e.symm)
      have hB3 := hB2.set y (ty + q)
      rw [S2.out] at hB3
      have hR3 := hR2.setCell (p := ⟨gb, y, none⟩) hgb (.int .i64 (ty + q))
      have z0 := (cell_far (w := W4) (g := gb) (i := y) (b := H) (j := 0) (v := .int .i64 (ty + q)) (by omega)).trans y0
      have z1 := (cell_far (w := W4) (g := gb) (i := y) (b := H) (j := 1) (v := .int .i64 (ty + q)) (by omega)).trans y1
      have z2 := (cell_far (w := W4) (g := gb) (i := y) (b := H) (j := 2) (v := .int .i64 (ty + q)) (by omega)).trans y2
      clear hA2 hB2 hR2 y0 y1 y2 m1 m2 C1 C2
      generalize W4.setCell ⟨gb, y, none⟩ (.int .i64 (ty + q)) = W5 at *
      have m1 : W5.cell? ⟨ga, x, none⟩ = some (.int .i64 (tx + q)) := by
        have h := hA3.cell (j := x) (by rw [takes_len]; exact hxd)
        rw [takes_at, T1.out] at h
        exact h
      have m2 : W5.cell? ⟨gb, y, none⟩ = some (.int .i64 (ty + q)) := by
        have h := hB3.cell (j := y) (by rw [takes_len]; exact hyd)
        rw [takes_at, T2.out] at h
        exact h
      obtain ⟨bd, od, rfl, _, _, hdq⟩ := flow_at (ha.keep hR3) hxd
      obtain ⟨bs, os, rfl, _, _, hsq⟩ := flow_at (hm.keep hR3) hyd
      by_cases hod : dem[x].2 < tx + q
      · have hz1 : decide (dem[x].2 < tx + q) = true := by simpa using hod
        go_wp2_with fail
        go_quiet (fail)
        go_wp2
        go_ret
        exact ⟨ret_bool (V1.out hxd hod).symm, below_drewN hR3 _⟩
      have hz1 : decide (dem[x].2 < tx + q) = false := by simpa using hod
      by_cases hos : sup[y].2 < ty + q
      · have hz2 : decide (sup[y].2 < ty + q) = true := by simpa using hos
        go_wp2_with fail
        go_quiet (fail)
        go_wp2
        go_ret
        exact ⟨ret_bool (V2.out hyd hos).symm, below_drewN hR3 _⟩
      have hz2 : decide (sup[y].2 < ty + q) = false := by simpa using hos
      go_wp2_with fail
      go_quiet (fail)
      go_wp2
      go_roundw
      case rel => exact ⟨k + 1, by omega, by go_num, HX.out, hA3.drewN _, hB3.drewN _, R1.out (fun _ => by omega), R2.out (fun _ => by omega), below_drewN hR3 _⟩
      case measure => simp [intOf]; omega
    · obtain rfl : k = l.length := by omega
      go_wp2
      go_ret
      have h4 := HI.out
      have h5 := HD1.out
      have h6 := HD2.out
      rw [List.take_length] at h5 h6
      exact ⟨ret_bool (isPegging_yes g1 g2 h80 (fun j hj => h4 j hj hj) h5 h6).symm, HR⟩
set_option maxRecDepth 100000 in
set_option maxHeartbeats 4000000 in
theorem implIsPegging_any (A B C : Option Addr) (n m q c c2 c3 : Nat) (dem sup : List Fl) (l : List Pg) (w : World) (ha : FlowsIn w A n dem) (hm : FlowsIn w B m sup) (hl : PegsIn w C q l) :
    Calls Try.prog 19 #[.slice A n c, .slice B m c2, .slice C q c3] w fun e w' => e = .returned (.bool (isPegging dem sup l)) ∧ Below w.heap.size w w' := by
  have hn1 := ha.len
  have hn2 := hm.len
  have hn3 := hl.len
  obtain rfl := ha.1
  obtain rfl := hm.1
  obtain rfl := hl.1
  have hb : Below w.heap.size w w := Below.refl _ _
  go_enter Try.func19, Try.ntmps19
  go_wp2_with fail
  refine (implAreFlows_any _ _ _ dem _ (ha.keep hb)).mono ?_
  rintro e u1 ⟨rfl, hs⟩
  replace hb := below_on hb hs
  clear hs
  cases g1 : areFlows dem
  · go_wp2_with fail
    go_ret
    exact ⟨ret_bool (isPegging_no (by simp [g1])).symm, hb⟩
  go_wp2_with fail
  refine (implAreFlows_any _ _ _ sup _ (hm.keep hb)).mono ?_
  rintro e u2 ⟨rfl, hs⟩
  replace hb := below_on hb hs
  clear hs
  cases g2 : areFlows sup
  · go_wp2_with fail
    go_ret
    exact ⟨ret_bool (isPegging_no (by simp [g2])).symm, hb⟩
  by_cases h80 : 80 < (l.length : Int)
  · go_wp2_with fail
    go_ret
    exact ⟨ret_bool (isPegging_no (by rw [g1, g2, decide_eq_false (by omega)]; rfl)).symm, hb⟩
  have hsz := hb.size
  go_wp2_with (at_make; first | (refine wpList_make_nums rfl (.tmp 27) (.tmp 27) rfl w.heap.size dem.length rfl rfl rfl rfl (by omega) hsz ?_; intro w1 hA hA2 hA3) | (refine wpList_make_nums rfl (.tmp 30) (.tmp 30) rfl w.heap.size sup.length rfl rfl rfl rfl (by omega) (by omega) ?_; intro w2 hB hB2 hB3))
  replace hA := hA.keep hB2
  have hg : u2.heap.size < w1.heap.size := hA3
  rw [← takes_zero (·.1)] at hA
  rw [← takes_zero (·.2.1)] at hB
  have HB : Below w.heap.size w w2 := below_on (below_on hb hA2) hB2
  generalize u2.heap.size = ga at *
  generalize w1.heap.size = gb at *
  have hne : ga ≠ gb := by omega
  have hga : w.heap.size ≤ ga := hA.lt.1
  have hgb : w.heap.size ≤ gb := hB.lt.1
  clear hA2 hB2 hA3 hB3 hb hsz
  go_loopw [34] (fun i wr => ∃ k : Nat, k ≤ l.length ∧ i = .int .i64 k ∧ Hid (∀ j (hj : j < l.length), j < k → okPeg dem.length sup.length l[j] = true) ∧ NumRow wr w.heap.size ga dem.length dem.length (takes (·.1) (l.take k) dem.length) ∧ NumRow wr w.heap.size gb sup.length sup.length (takes (·.2.1) (l.take k) sup.length) ∧ Below w.heap.size w wr) (fun i _ => l.length - (intOf i).toNat)
  case atStart => exact ⟨0, by omega, rfl, fun j _ h => absurd h (by omega), hA, hB, HB⟩
  case round =>
    clear hA hB HB
    obtain ⟨k, hk, rfl, HI, hA, hB, HR⟩ := hrel
    by_cases hlt : k < l.length
    · obtain ⟨b, o, rfl, hbl, hc0, hc1, hc2⟩ := peg_at (hl.keep HR) hlt
      have hsz := HR.size
      cases d1 : inB l[k].1 0 ((dem.length : Int) - 1)
      · go_wp2_with (go_at_call 72; refine (in_any _ _ _ _).mono ?_; rintro e w' ⟨rfl, rfl⟩)
        go_ret
        exact ⟨ret_bool (isPegging_bad hlt (by unfold okPeg; rw [d1]; rfl)).symm, HR.alloc hsz _⟩
      cases d2 : inB l[k].2.1 0 ((sup.length : Int) - 1)
      · go_wp2_with (go_at_call 72; refine (in_any _ _ _ _).mono ?_; rintro e w' ⟨rfl, rfl⟩)
        go_ret
        exact ⟨ret_bool (isPegging_bad hlt (by unfold okPeg; rw [d1, d2]; rfl)).symm, HR.alloc hsz _⟩
      cases d3 : inB l[k].2.2 1 1000000000
      · go_wp2_with (go_at_call 72; refine (in_any _ _ _ _).mono ?_; rintro e w' ⟨rfl, rfl⟩)
        go_ret
        exact ⟨ret_bool (isPegging_bad hlt (by unfold okPeg; rw [d1, d2, d3]; rfl)).symm, HR.alloc hsz _⟩
      go_wp2_with (go_at_call 72; refine (in_any _ _ _ _).mono ?_; rintro e w' ⟨rfl, rfl⟩)
      have ho := okPeg_of d1 d2 d3
      have HX : Hid (∀ j (hj : j < l.length), j < k + 1 → okPeg dem.length sup.length l[j] = true) := fun j hj hjk => by
        rcases Nat.lt_or_ge j k with h1 | h1
        · exact HI.out j hj h1
        · obtain rfl : j = k := by omega
          exact ho
      clear ho
      obtain ⟨e1, e2⟩ := inB_iff.1 d1
      obtain ⟨e3, e4⟩ := inB_iff.1 d2
      obtain ⟨e5, e6⟩ := inB_iff.1 d3
      clear d1 d2 d3
      obtain ⟨x, hx⟩ : ∃ x : Nat, l[k].1 = (x : Int) := ⟨_, (Int.toNat_of_nonneg e1).symm⟩
      obtain ⟨y, hy⟩ : ∃ y : Nat, l[k].2.1 = (y : Int) := ⟨_, (Int.toNat_of_nonneg e3).symm⟩
      have hxd : x < dem.length := by omega
      have hyd : y < sup.length := by omega
      obtain ⟨t1, t2⟩ := took_bd80 (·.1) h80 hk (fun j hj hjk => HI.out j hj hjk) x
      obtain ⟨t3, t4⟩ := took_bd80 (·.2.1) h80 hk (fun j hj hjk => HI.out j hj hjk) y
      have S1 := Lib.hid (takes_set (·.1) l dem.length k x hlt hx)
      have S2 := Lib.hid (takes_set (·.2.1) l sup.length k y hlt hy)
      have c1 : ∀ W, NumRow W w.heap.size ga dem.length dem.length (takes (·.1) (l.take k) dem.length) → W.cell? ⟨ga, x, none⟩ = some (.int .i64 (took (·.1) (l.take k) x)) := fun W h => by
        rw [h.cell (j := x) (by rw [takes_len]; exact hxd), takes_at]
      have c2 : ∀ W, NumRow W w.heap.size gb sup.length sup.length (takes (·.2.1) (l.take k) sup.length) → W.cell? ⟨gb, y, none⟩ = some (.int .i64 (took (·.2.1) (l.take k) y)) := fun W h => by
        rw [h.cell (j := y) (by rw [takes_len]; exact hyd), takes_at]
      have C1 := Lib.hid c1
      have C2 := Lib.hid c2
      clear c1 c2 HI
      have hqq : l[k].2.2 = l[k].2.2 := rfl
      generalize l[k].2.2 = q at *
      rw [hx, hy]
      clear hx hy hqq e1 e2 e3 e4 hc0 hc1 hc2
      generalize took (·.1) (l.take k) x = tx at *
      generalize took (·.2.1) (l.take k) y = ty at *
      have x0 : (wr.alloc (.cells #[.int .i64 x, .int .i64 y, .int .i64 q] 49)).cell? ⟨wr.heap.size, 0, none⟩ = some (.int .i64 x) := by simp [go_sem]
      have x1 : (wr.alloc (.cells #[.int .i64 x, .int .i64 y, .int .i64 q] 49)).cell? ⟨wr.heap.size, 1, none⟩ = some (.int .i64 y) := by simp [go_sem]
      have x2 : (wr.alloc (.cells #[.int .i64 x, .int .i64 y, .int .i64 q] 49)).cell? ⟨wr.heap.size, 2, none⟩ = some (.int .i64 q) := by simp [go_sem]
      have hA1 := hA.keep (below_alloc wr (.cells #[.int .i64 x, .int .i64 y, .int .i64 q] 49))
      have hB1 := hB.keep (below_alloc wr (.cells #[.int .i64 x, .int .i64 y, .int .i64 q] 49))
      have hR1 := HR.alloc hsz (.cells #[.int .i64 x, .int .i64 y, .int .i64 q] 49)
      have hga2 : ga < wr.heap.size := hA.lt.2
      have hgb2 : gb < wr.heap.size := hB.lt.2
      clear HR hA hB hsz hbl
      generalize (wr.alloc (.cells #[.int .i64 x, .int .i64 y, .int .i64 q] 49)) = W1 at *
      generalize wr.heap.size = H at *
      have m1 := C1.out _ hA1
      have m2 := hA1.frozen x
      have m3 : IntKind.i64.wrap (tx + q) = tx + q := IntWalk.i64_in _ (by omega)
      go_still_tail 9, (by kernel_rfl)
      change wpList _ _ _ _ _ W1.drew
      replace hA1 := hA1.drew
      replace hB1 := hB1.drew
      replace hR1 := hR1.drew
      change W1.drew.cell? _ = _ at x0 x1 x2 m1
      change W1.drew.frozen? _ = _ at m2
      generalize W1.drew = W2 at *
      clear m3
      go_wp2
      have hA2 := hA1.set x (tx + q)
      rw [S1.out] at hA2
      have hB2 := hB1.far (p := ⟨ga, x, none⟩) (v := .int .i64 (tx + q)) hne
      have hR2 := hR1.setCell (p := ⟨ga, x, none⟩) hga (.int .i64 (tx + q))
      have y1 := (cell_far (w := W2) (g := ga) (i := x) (b := H) (j := 1) (v := .int .i64 (tx + q)) (by omega)).trans x1
      have y2 := (cell_far (w := W2) (g := ga) (i := x) (b := H) (j := 2) (v := .int .i64 (tx + q)) (by omega)).trans x2
      clear hA1 hB1 hR1 x0 x1 x2 m1 m2
      generalize W2.setCell ⟨ga, x, none⟩ (.int .i64 (tx + q)) = W3 at *
      have m1 := C2.out _ hB2
      have m2 := hB2.frozen y
      have m3 : IntKind.i64.wrap (ty + q) = ty + q := IntWalk.i64_in _ (by omega)
      go_still_tail 9, (by kernel_rfl)
      change wpList _ _ _ _ _ W3.drew
      replace hA2 := hA2.drew
      replace hB2 := hB2.drew
      replace hR2 := hR2.drew
      change W3.drew.cell? _ = _ at y1 y2 m1
      change W3.drew.frozen? _ = _ at m2
      generalize W3.drew = W4 at *
      clear m3
      go_wp2
      have hA3 := hA2.far (p := ⟨gb, y, none⟩) (v := .int .i64 (ty + q)) (fun e => hne e.symm)
      have hB3 := hB2.set y (ty + q)
      rw [S2.out] at hB3
      have hR3 := hR2.setCell (p := ⟨gb, y, none⟩) hgb (.int .i64 (ty + q))
      go_roundw
      case rel => exact ⟨k + 1, by omega, by go_num, HX.out, hA3, hB3, hR3⟩
      case measure => simp [intOf]; omega
    · obtain rfl : k = l.length := by omega
      rw [List.take_length] at hA hB
      have HO : Hid (∀ j (hj : j < l.length), okPeg dem.length sup.length l[j] = true) := fun j hj => HI.out j hj hj
      have HT1 : Hid (∀ i, i < dem.length → 0 ≤ took (·.1) l i ∧ took (·.1) l i ≤ 80000000000) := fun i _ => by
        have := took_bd80 (·.1) h80 (Nat.le_refl _) (fun j hj hjk => HI.out j hj hjk) i
        rwa [List.take_length] at this
      have HT2 : Hid (∀ i, i < sup.length → 0 ≤ took (·.2.1) l i ∧ took (·.2.1) l i ≤ 80000000000) := fun i _ => by
        have := took_bd80 (·.2.1) h80 (Nat.le_refl _) (fun j hj hjk => HI.out j hj hjk) i
        rwa [List.take_length] at this
      have V1 : Hid (∀ i (hi : i < dem.length), dem[i].2 < took (·.1) l i → isPegging dem sup l = false) := fun i hi h => isPegging_overD (k := l.length) hi (by rw [List.take_length]; exact h)
      have V2 : Hid (∀ i (hi : i < sup.length), sup[i].2 < took (·.2.1) l i → isPegging dem sup l = false) := fun i hi h => isPegging_overS (k := l.length) hi (by rw [List.take_length]; exact h)
      clear HI
      go_wp2
      go_loopw [81] (fun i wr => ∃ k : Nat, k ≤ dem.length ∧ i = .int .i64 k ∧ Hid (∀ i (hi : i < dem.length), i < k → took (·.1) l i ≤ dem[i].2) ∧ NumRow wr w.heap.size ga dem.length dem.length (takes (·.1) l dem.length) ∧ NumRow wr w.heap.size gb sup.length sup.length (takes (·.2.1) l sup.length) ∧ Below w.heap.size w wr) (fun i _ => dem.length - (intOf i).toNat)
      case atStart => exact ⟨0, by omega, rfl, fun j _ h => absurd h (by omega), hA, hB, HR⟩
      case round =>
        clear hA hB HR
        obtain ⟨k, hk, rfl, HI, hA, hB, HR⟩ := hrel
        by_cases hlt : k < dem.length
        · obtain ⟨bd, od, rfl, _, _, hdq⟩ := flow_at (ha.keep HR) hlt
          have hc : wr.cell? ⟨ga, k, none⟩ = some (.int .i64 (took (·.1) l k)) := by rw [hA.cell (j := k) (by rw [takes_len]; exact hlt), takes_at]
          by_cases hod : dem[k].2 < took (·.1) l k
          · have hz1 : decide (dem[k].2 < took (·.1) l k) = true := by simpa using hod
            go_wp2_with fail
            go_quiet (fail)
            go_wp2
            go_ret
            exact ⟨ret_bool (V1.out k hlt hod).symm, below_drewN HR _⟩
          · have hz1 : decide (dem[k].2 < took (·.1) l k) = false := by simpa using hod
            have HX : Hid (∀ i (hi : i < dem.length), i < k + 1 → took (·.1) l i ≤ dem[i].2) := fun j hj hjk => by
              rcases Nat.lt_or_ge j k with h1 | h1
              · exact HI.out j hj h1
              · obtain rfl : j = k := by omega
                omega
            go_wp2_with fail
            go_quiet (fail)
            go_wp2
            go_roundw
            case rel => exact ⟨k + 1, by omega, by go_num, HX.out, hA.drewN _, hB.drewN _, below_drewN HR _⟩
            case measure => simp [intOf]; omega
        · obtain rfl : k = dem.length := by omega
          have HD : Hid (∀ i (hi : i < dem.length), took (·.1) l i ≤ dem[i].2) := fun i hi => HI.out i hi hi
          clear HI
          go_wp2
          go_loopw [97] (fun i wr => ∃ k : Nat, k ≤ sup.length ∧ i = .int .i64 k ∧ Hid (∀ i (hi : i < sup.length), i < k → took (·.2.1) l i ≤ sup[i].2) ∧ NumRow wr w.heap.size gb sup.length sup.length (takes (·.2.1) l sup.length) ∧ Below w.heap.size w wr) (fun i _ => sup.length - (intOf i).toNat)
          case atStart => exact ⟨0, by omega, rfl, fun j _ h => absurd h (by omega), hB, HR⟩
          case round =>
            clear hA hB HR
            obtain ⟨k, hk, rfl, HI, hB, HR⟩ := hrel
            by_cases hlt : k < sup.length
            · obtain ⟨bd, od, rfl, _, _, hdq⟩ := flow_at (hm.keep HR) hlt
              have hc : wr.cell? ⟨gb, k, none⟩ = some (.int .i64 (took (·.2.1) l k)) := by rw [hB.cell (j := k) (by rw [takes_len]; exact hlt), takes_at]
              by_cases hod : sup[k].2 < took (·.2.1) l k
              · have hz1 : decide (sup[k].2 < took (·.2.1) l k) = true := by simpa using hod
                go_wp2_with fail
                go_quiet (fail)
                go_wp2
                go_ret
                exact ⟨ret_bool (V2.out k hlt hod).symm, below_drewN HR _⟩
              · have hz1 : decide (sup[k].2 < took (·.2.1) l k) = false := by simpa using hod
                have HX : Hid (∀ i (hi : i < sup.length), i < k + 1 → took (·.2.1) l i ≤ sup[i].2) := fun j hj hjk => by
                  rcases Nat.lt_or_ge j k with h1 | h1
                  · exact HI.out j hj h1
                  · obtain rfl : j = k := by omega
                    omega
                go_wp2_with fail
                go_quiet (fail)
                go_wp2
                go_roundw
                case rel => exact ⟨k + 1, by omega, by go_num, HX.out, hB.drewN _, below_drewN HR _⟩
                case measure => simp [intOf]; omega
            · obtain rfl : k = sup.length := by omega
              have h6 := HI.out
              go_wp2
              go_ret
              exact ⟨ret_bool (isPegging_yes g1 g2 h80 HO.out HD.out (fun i hi => h6 i hi hi)).symm, HR⟩
end Go.Proofs.Ytdofhdelcendeaa
