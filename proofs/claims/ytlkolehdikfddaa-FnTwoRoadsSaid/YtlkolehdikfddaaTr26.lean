/- Part 26 of the texts of this claim: How plants are drawn. -/
import Derived.Test.YtlkolehdikfddaaTr24
import Derived.Test.YtlkolehdikfddaaTr25
import Derived.Deep.CutRange
/- How plants are drawn. -/
namespace Go.Proofs.Ytlkolehdikfddaa
open Go.RowKit
/-- The ending of a call that draws a plant. -/
def DrawnPlant (w : World) (base g : Nat) (e : Ending) (w' : World) : Prop := ∃ (r : PtR) (p : Pt), e = .returned r.v ∧ okPt p ∧ 1 ≤ p.it.length ∧ p.it.length ≤ 6 ∧ (∀ a, r.i.a = some a → w.heap.size ≤ a.block) ∧ CurAt w' base g ∧ Only g (g + 1) w w' ∧ ∀ w'', (∀ k, w.heap.size ≤ k → k < w'.heap.size → w''.heap[k]? = w'.heap[k]?) → PlantIn w'' r p
set_option maxRecDepth 100000 in
set_option maxHeartbeats 32000000 in
theorem l17Plant_any (w : World) (base g : Nat) (hc : CurAt w base g) : Calls Try.prog 31 #[.pointer (some ⟨g, 0, none⟩)] w (DrawnPlant w base g) := by
  have hg := hc.lt
  have hs := below_alloc w (.cells #[.slice none 0 0, .slice none 0 0, .slice none 0 0, .slice none 0 0, .slice none 0 0, .slice none 0 0, .slice none 0 0] 34)
  have CN : CellsAt (w.alloc (.cells #[.slice none 0 0, .slice none 0 0, .slice none 0 0, .slice none 0 0, .slice none 0 0, .slice none 0 0, .slice none 0 0] 34)) w.heap.size [.slice none 0 0, .slice none 0 0, .slice none 0 0, .slice none 0 0, .slice none 0 0, .slice none 0 0, .slice none 0 0] := CellsAt.new w #[.slice none 0 0, .slice none 0 0, .slice none 0 0, .slice none 0 0, .slice none 0 0, .slice none 0 0, .slice none 0 0] 34
  have hz0 : (w.alloc (.cells #[.slice none 0 0, .slice none 0 0, .slice none 0 0, .slice none 0 0, .slice none 0 0, .slice none 0 0, .slice none 0 0] 34)).heap.size = w.heap.size + 1 := by simp
  have hc0 := hc.keep hs hg
  have H : Only g (g + 1) w (w.alloc (.cells #[.slice none 0 0, .slice none 0 0, .slice none 0 0, .slice none 0 0, .slice none 0 0, .slice none 0 0, .slice none 0 0] 34)) := Only.of_below hs
  go_enter Try.func31, Try.ntmps31
  go_wp2_with fail
  generalize (w.alloc (.cells #[.slice none 0 0, .slice none 0 0, .slice none 0 0, .slice none 0 0, .slice none 0 0, .slice none 0 0, .slice none 0 0] 34)) = w0 at *
  generalize hN : w.heap.size = N at *
  clear hs hc
  refine (l8Catalog_any _ _ _ hc0).mono ?_
  rintro e w1 ⟨it, bi, ci, rfl, hit1, hit6, hoki, hown, hc1, HO1⟩
  rw [hz0] at hown
  have hz1 := HO1.size
  rw [hz0] at hz1
  replace CN := CN.only HO1 (by omega)
  replace H := H.trans HO1
  have HOKI := Lib.hid hoki
  clear hc0 HO1 hz0 hoki
  go_wp2_with fail
  refine (l4Calendar_any _ _ _ hc1).mono ?_
  rintro e w2 ⟨wk, ex, aw, ae, nw, cw, ne, ce, rfl, hwk8, hex5, hwk, hex, hc2, HO2⟩
  have hnw := hwk.1
  subst hnw
  have hne := hex.1
  subst hne
  have hwkR := (ints_row hwk).low hz1
  have hexR : RowVal exF 122 w2 (N + 1) (.slice ae ex.length ce) ex := hex.val.low hz1
  replace hown := hown.only HO2 (by omega)
  replace CN := CN.only HO2 (by omega)
  replace H := H.trans HO2
  have hz2 := Nat.le_trans hz1 HO2.size
  clear hc1 HO2 hwk hex hz1
  go_wp2_with fail
  refine (l6Choice_any _ _ _ hc2).mono ?_
  rintro e w3 ⟨ch, vc, rfl, hch3, hokch, hch, hc3, HO3⟩
  obtain ⟨ac, cc, rfl, hcho⟩ := hch.form
  have hchR : RowVal pkF 118 w3 (N + 1) (.slice ac ch.length cc) ch := hcho.val.low hz2
  have hitR : RowVal itF 47 w3 (N + 1) (.slice (some ⟨bi, 0, none⟩) it.length ci) it := (hown.only HO3 (by omega)).val
  replace hwkR := hwkR.only HO3 (by omega)
  replace hexR := hexR.only HO3 (by omega)
  replace CN := CN.only HO3 (by omega)
  replace H := H.trans HO3
  have hz3 := Nat.le_trans hz2 HO3.size
  have HOKC := Lib.hid hokch
  have hg3 := hc3.lt
  clear hc2 HO3 hch hcho hown hz2 hokch
  have bit : ∀ k, (Value.slice (some ⟨bi, 0, none⟩) it.length ci).ownBlock = some k → k < w3.heap.size := RowVal.blt hitR
  have bwk := RowVal.blt hwkR
  have bex := RowVal.blt hexR
  have bch := RowVal.blt hchR
  have hs4 := below_alloc w3 (.cells #[.slice (some ⟨bi, 0, none⟩) it.length ci, .slice none 0 0, .slice aw wk.length cw, .slice ae ex.length ce, .slice ac ch.length cc, .slice none 0 0, .slice none 0 0] 34)
  have CP : CellsAt (w3.alloc (.cells #[.slice (some ⟨bi, 0, none⟩) it.length ci, .slice none 0 0, .slice aw wk.length cw, .slice ae ex.length ce, .slice ac ch.length cc, .slice none 0 0, .slice none 0 0] 34)) w3.heap.size [.slice (some ⟨bi, 0, none⟩) it.length ci, .slice none 0 0, .slice aw wk.length cw, .slice ae ex.length ce, .slice ac ch.length cc, .slice none 0 0, .slice none 0 0] := CellsAt.new w3 #[.slice (some ⟨bi, 0, none⟩) it.length ci, .slice none 0 0, .slice aw wk.length cw, .slice ae ex.length ce, .slice ac ch.length cc, .slice none 0 0, .slice none 0 0] 34
  have hz4 : (w3.alloc (.cells #[.slice (some ⟨bi, 0, none⟩) it.length ci, .slice none 0 0, .slice aw wk.length cw, .slice ae ex.length ce, .slice ac ch.length cc, .slice none 0 0, .slice none 0 0] 34)).heap.size = w3.heap.size + 1 := by simp
  replace hitR := hitR.keep hs4
  replace hwkR := hwkR.keep hs4
  replace hexR := hexR.keep hs4
  replace hchR := hchR.keep hs4
  replace CN := CN.keep hs4 (by omega)
  replace H := H.trans (Only.of_below (lo := g) (hi := g + 1) hs4)
  have hc4 := hc3.keep hs4 hg3
  clear hs4 hc3
  go_upto_region 2 with fail
  generalize (w3.alloc (.cells #[.slice (some ⟨bi, 0, none⟩) it.length ci, .slice none 0 0, .slice aw wk.length cw, .slice ae ex.length ce, .slice ac ch.length cc, .slice none 0 0, .slice none 0 0] 34)) = w4 at *
  generalize hP : w3.heap.size = P at *
  have hgi : ∀ a, (some (⟨bi, 0, none⟩ : Addr)) = some a → a.block ≠ g := fun a ha => by
    have h1 := Option.some.inj ha
    have h2 := own_block hitR bi rfl
    rw [← h1]; show bi ≠ g; omega
  have y0 : w4.cell? ⟨P, 0, none⟩ = some (.slice (some ⟨bi, 0, none⟩) it.length ci) := CP.2.1 0 _ rfl
  go_wp2_with fail
  refine (l9Bills_any (some ⟨bi, 0, none⟩) it.length ci it _ _ _ (hitR.rows (by omega)) hgi HOKI.out (by omega) hc4).mono ?_
  rintro e w5 ⟨ls, RR, vl, rfl, hls9, hokls, hlsr, hcs, hc5, HO5⟩
  rw [hz4] at hlsr hcs
  obtain ⟨al, cl, rfl, _⟩ := hlsr.form
  replace hitR := hitR.only HO5 (by omega)
  replace hwkR := hwkR.only HO5 (by omega)
  replace hexR := hexR.only HO5 (by omega)
  replace hchR := hchR.only HO5 (by omega)
  replace CN := CN.only HO5 (by omega)
  replace CP := CP.only HO5 (by omega)
  replace H := H.trans HO5
  have HOKL := Lib.hid hokls
  clear hc4 HO5 y0 hz4 hgi hokls
  have k1 := CP.2.1 1 _ rfl
  have k2 := CP.2.2 1
  have hoth : ∀ k, k ≠ P → (w5.setCell ⟨P, 1, none⟩ (.slice al RR.length cl)).heap[k]? = w5.heap[k]? := fun k hk => heap_setCell_other w5 ⟨P, 1, none⟩ k (.slice al RR.length cl) hk
  have HB : Below N w5 (w5.setCell ⟨P, 1, none⟩ (.slice al RR.length cl)) := (Below.refl N w5).setCell (p := ⟨P, 1, none⟩) (by show N ≤ P; omega) _
  have hst : PlSt w base g N P (⟨⟨some ⟨bi, 0, none⟩, it.length, ci⟩, ⟨al, RR.length, cl⟩, ⟨aw, wk.length, cw⟩, ⟨ae, ex.length, ce⟩, ⟨ac, ch.length, cc⟩, ⟨none, 0, 0⟩, ⟨none, 0, 0⟩⟩ : PtR) (⟨it, ls, wk, ex, ch, [], []⟩ : Pt) RR (.slice none 0 0) (.slice none 0 0) [] [] (w5.setCell ⟨P, 1, none⟩ (.slice al RR.length cl)) :=
    ⟨hc5.keep HB hg, only_below H (by rw [hN]; exact HB), hg, by omega, hN, CP.put 1 _ (by simp), CN.far (p := ⟨P, 1, none⟩) (by show P ≠ N; omega) _,
      hitR.blk (fun k e _ => hoth k (by have := bit k e; omega)), hwkR.blk (fun k e _ => hoth k (by have := bwk k e; omega)), hexR.blk (fun k e _ => hoth k (by have := bex k e; omega)), hchR.blk (fun k e _ => hoth k (by have := bch k e; omega)), bit, bwk, bex, bch,
      hlsr.far (p := ⟨P, 1, none⟩) (by show P < P + 1; omega) _, hcs.imp fun _ _ _ ⟨c, h1, h2⟩ => ⟨c, h1.far (p := ⟨P, 1, none⟩) (by show P < P + 1; omega) _, h2⟩, RowVal.nil _ _, RowVal.nil _ _⟩
  clear hitR hwkR hexR hchR CN CP H hlsr hcs hc5 hoth HB bit bwk bex bch
  go_upto_region 3 with fail
  clear k1 k2
  generalize w5.setCell ⟨P, 1, none⟩ (.slice al RR.length cl) = w6 at *
  have hNP : N < P := hst.NP
  clear hz3 hP hg3
  go_wp2_with fail
  go_loopw [4] (fun t wr => ∃ (k : Nat) (vs vr : Value) (st : List Nd) (rc : List Rc), t = .int .i64 k ∧ k ≤ it.length ∧ st.length ≤ k ∧ rc.length ≤ k ∧ Hid (∀ x ∈ st, okNd x) ∧ Hid (∀ x ∈ rc, okRc x) ∧ PlSt w base g N P (⟨⟨some ⟨bi, 0, none⟩, it.length, ci⟩, ⟨al, RR.length, cl⟩, ⟨aw, wk.length, cw⟩, ⟨ae, ex.length, ce⟩, ⟨ac, ch.length, cc⟩, ⟨none, 0, 0⟩, ⟨none, 0, 0⟩⟩ : PtR) (⟨it, ls, wk, ex, ch, [], []⟩ : Pt) RR vs vr st rc wr) (fun t _ => it.length - (intOf t).toNat)
  case atStart => exact ⟨0, _, _, [], [], rfl, by omega, by simp, by simp, Lib.hid (by simp), Lib.hid (by simp), hst⟩
  case round =>
    clear hst
    obtain ⟨k, vs, vr, st, rc, rfl, hk, hls, hlr, HOS, HOR, hst⟩ := hrel
    have y0 : wr.cell? ⟨P, 0, none⟩ = some (.slice (some ⟨bi, 0, none⟩) it.length ci) := hst.cp.2.1 0 _ rfl
    have hg1 := hst.cur.lt
    by_cases hlt : k < it.length
    case pos =>
      have ki : (k : Int) < (it.length : Int) := by omega
      have hsz := (HOKI.out _ (List.getElem_mem hlt)).1
      go_wp2_with fail
      refine (l1Once_any _ _ _ _ (by omega) hst.cur).mono ?_
      rintro e w7 ⟨b1, rfl, hc7, HO7⟩
      replace hst := hst.call hc7 HO7
      clear hc7 HO7 y0 hg1
      go_upto_if 25 with fail
      go_cut [] from 26 to 39 (fun wx => ∃ (vs2 : Value) (st2 : List Nd), st2.length ≤ k + 1 ∧ Hid (∀ x ∈ st2, okNd x) ∧ PlSt w base g N P (⟨⟨some ⟨bi, 0, none⟩, it.length, ci⟩, ⟨al, RR.length, cl⟩, ⟨aw, wk.length, cw⟩, ⟨ae, ex.length, ce⟩, ⟨ac, ch.length, cc⟩, ⟨none, 0, 0⟩, ⟨none, 0, 0⟩⟩ : PtR) (⟨it, ls, wk, ex, ch, [], []⟩ : Pt) RR vs2 vr st2 rc wx)
      case first =>
        cases b1
        case false =>
          go_wp2_with fail
          go_meet
          case rel => exact ⟨vs, st, by omega, HOS, hst⟩
        go_upto_region 7 with fail
        have y0 : w7.cell? ⟨P, 0, none⟩ = some (.slice (some ⟨bi, 0, none⟩) it.length ci) := hst.cp.2.1 0 _ rfl
        have hitA : RowsIn itF w7 (some ⟨bi, 0, none⟩) it.length it := hst.it.rows (by show it.length ≤ _; omega)
        obtain ⟨_, _, e9, hbl, t0, _⟩ := item_at hitA hlt
        injection e9 with e9
        injection e9 with e1 e2
        subst e1 e2
        rw [Nat.zero_add] at t0
        have hbP : bi < P := hst.itb bi rfl
        have hbN : N + 1 ≤ bi := own_block hst.it bi rfl
        clear hitA
        generalize it[k].1 = sc at *
        refine wp_region_held_drew (S := fun w' => (CurAt w' base g ∧ Only g (g + 1) w w') ∧ (w'.cell? ⟨P, 0, none⟩ = some (.slice (some ⟨bi, 0, none⟩) it.length ci) ∧ w'.cell? ⟨bi, k * 8, none⟩ = some (.string sc) ∧ P < w'.heap.size ∧ bi < w'.heap.size)) (by kernel_rfl) (⟨⟨hst.cur, only_drewN hst.only 1⟩, y0, t0, hst.cp.1, hbl⟩) (fun hHeld => ?_)
        replace hst := hst.drew
        refine held1 0 (some 26) hHeld ?_
        refine held1 2 (some 28) hHeld ?_
        refine held1 3 (some 29) hHeld ?_
        refine held1 4 (some 30) hHeld ?_
        refine held1 5 (some 31) hHeld ?_
        refine held1 6 (some 32) hHeld ?_
        refine held1 7 (some 33) hHeld ?_
        refine held1 8 (some 34) hHeld ?_
        refine wpAnyH_ready (rs := [1, 9]) (by kernel_rfl) (by simp) ?_
        refine AllReadyH.cons rfl (fun K hK => ?_) (AllReadyH.cons rfl (fun K hK => ?_) (AllReadyH.nil))
        · skip
          have yr := hst.cp.2.1 5 _ rfl
          go_simp
          refine hK.out _ _ (hHeld) (fun hHeld => ?_)
          clear hK K
          try simp only [Act.put, List.setIfInBounds_toArray, List.set_cons_zero, List.set_cons_succ]
          clear yr
          refine held_do 9 fun K hK => ?_
          go_simp
          go_at_call 35
          refine (l1Below_any _ _ _ _ (by omega) hst.cur).mono ?_
          rintro e wp ⟨qs, rfl, ⟨q0, q1⟩, hcp, HOp⟩
          replace hst := hst.call hcp HOp
          go_simp
          refine hK.out _ _ (⟨⟨hcp, hHeld.1.2.trans HOp⟩, only_cell HOp hHeld.2.2.2.1 (by omega) hHeld.2.1, only_cell HOp hHeld.2.2.2.2 (by omega) hHeld.2.2.1, Nat.lt_of_lt_of_le hHeld.2.2.2.1 HOp.size, Nat.lt_of_lt_of_le hHeld.2.2.2.2 HOp.size⟩) (fun hHeld => ?_)
          clear hK K
          refine held1 10 (some 36) hHeld ?_
          refine held_do 11 fun K hK => ?_
          go_simp
          refine hK.out _ _ (⟨⟨hHeld.1.1.keep (below_alloc _ (.cells #[.string sc, .int .i64 qs] 70)) hHeld.1.1.lt, hHeld.1.2.trans (Only.of_below (below_alloc _ (.cells #[.string sc, .int .i64 qs] 70)))⟩, alloc_cell hHeld.2.1 (.cells #[.string sc, .int .i64 qs] 70), alloc_cell hHeld.2.2.1 (.cells #[.string sc, .int .i64 qs] 70), by have := hHeld.2.2.2.1; simp at this ⊢; omega, by have := hHeld.2.2.2.2; simp at this ⊢; omega⟩) (fun hHeld => ?_)
          clear hK K
          try simp only [Act.put, List.setIfInBounds_toArray, List.set_cons_zero, List.set_cons_succ]
          replace hst := hst.alloc (.cells #[.string sc, .int .i64 qs] 70)
          refine held_do 12 fun K hK => ?_
          refine step_append_rows needElem ndOne rfl (.tmp 27) (.tmp 37) rfl _ (lo := P + 1) (l := st) rfl hst.st (by omega) rfl (lit_row (F := ndF) (by simp) #[.string sc, .int .i64 qs] (sc, qs) rfl) (by have := hst.cp.1; simp at this ⊢; omega) ?_
          intro v9 w9 hr9 hg9
          obtain ⟨b9, c9, rfl⟩ := hr9.some_of (n := st.length) (by simp)
          have hB9 := RowVal.below hst.st hg9 (Nat.le_refl _) (by have := hst.cp.1; simp at this ⊢; omega)
          obtain ⟨hst9, c5, f5⟩ := hst.putS hg9 hr9
          have hCur9 := hHeld.1.1.keep hB9 (by omega)
          have hOnl9 := only_below hHeld.1.2 (hB9.mono (show w.heap.size ≤ P + 1 by omega))
          refine hK.out _ _ (⟨⟨hCur9, hOnl9⟩, (hB9.cell (p := ⟨P, 0, none⟩) (Nat.lt_succ_self P)).trans hHeld.2.1, (hB9.cell (p := ⟨bi, k * 8, none⟩) (by show bi < P + 1; omega)).trans hHeld.2.2.1, Nat.lt_of_lt_of_le hHeld.2.2.2.1 hB9.size, Nat.lt_of_lt_of_le hHeld.2.2.2.2 hB9.size⟩) (fun hHeld => ?_)
          clear hK K
          try simp only [Act.put, List.setIfInBounds_toArray]
          refine held_on 13 (some 39) rfl rfl (by kernel_rfl) (by kernel_rfl) (by kernel_rfl) (fun _ _ _ h => h) (by rfl) hHeld (v := ?v10) ?y10 ?r10
          case y10 => intro w hSw; (try dsimp only at hSw); go_simp; (try with_reducible rfl)
          try simp only [Act.put]
          refine held_do 14 fun K hK => ?_
          go_simp
          refine hK.out _ _ (⟨⟨hst9.cur, hst9.only⟩, hst9.cp.2.1 0 _ rfl, (World.cell?_setCell_far w9 ⟨P, 5, none⟩ ⟨bi, k * 8, none⟩ (.slice (some ⟨b9, 0, none⟩) (st.length + 1) c9) (by show P ≠ bi; omega)).trans hHeld.2.2.1, hst9.cp.1, by have := hHeld.2.2.2.2; simpa using this⟩) (fun hHeld => ?_)
          clear hK K
          try simp only [Act.put, List.setIfInBounds_toArray, List.set_cons_zero, List.set_cons_succ]
          refine wpAnyH_done (by kernel_rfl) ?_ _
          go_wp2_with fail
          go_meet
          case rel => exact ⟨_, st ++ [(sc, qs)], by simp; omega, all_snoc HOS.out hsz, hst9⟩
        · skip
          go_simp
          go_at_call 35
          refine (l1Below_any _ _ _ _ (by omega) hst.cur).mono ?_
          rintro e wp ⟨qs, rfl, ⟨q0, q1⟩, hcp, HOp⟩
          replace hst := hst.call hcp HOp
          go_simp
          refine hK.out _ _ (⟨⟨hcp, hHeld.1.2.trans HOp⟩, only_cell HOp hHeld.2.2.2.1 (by omega) hHeld.2.1, only_cell HOp hHeld.2.2.2.2 (by omega) hHeld.2.2.1, Nat.lt_of_lt_of_le hHeld.2.2.2.1 HOp.size, Nat.lt_of_lt_of_le hHeld.2.2.2.2 HOp.size⟩) (fun hHeld => ?_)
          clear hK K
          refine held1 10 (some 36) hHeld ?_
          refine wpAnyH_ready (rs := [1, 11]) (by kernel_rfl) (by simp) ?_
          refine AllReadyH.cons rfl (fun K hK => ?_) (AllReadyH.cons rfl (fun K hK => ?_) (AllReadyH.nil))
          · skip
            have yr := hst.cp.2.1 5 _ rfl
            go_simp
            refine hK.out _ _ (hHeld) (fun hHeld => ?_)
            clear hK K
            try simp only [Act.put, List.setIfInBounds_toArray, List.set_cons_zero, List.set_cons_succ]
            clear yr
            refine held_do 11 fun K hK => ?_
            go_simp
            refine hK.out _ _ (⟨⟨hHeld.1.1.keep (below_alloc _ (.cells #[.string sc, .int .i64 qs] 70)) hHeld.1.1.lt, hHeld.1.2.trans (Only.of_below (below_alloc _ (.cells #[.string sc, .int .i64 qs] 70)))⟩, alloc_cell hHeld.2.1 (.cells #[.string sc, .int .i64 qs] 70), alloc_cell hHeld.2.2.1 (.cells #[.string sc, .int .i64 qs] 70), by have := hHeld.2.2.2.1; simp at this ⊢; omega, by have := hHeld.2.2.2.2; simp at this ⊢; omega⟩) (fun hHeld => ?_)
            clear hK K
            try simp only [Act.put, List.setIfInBounds_toArray, List.set_cons_zero, List.set_cons_succ]
            replace hst := hst.alloc (.cells #[.string sc, .int .i64 qs] 70)
            refine held_do 12 fun K hK => ?_
            refine step_append_rows needElem ndOne rfl (.tmp 27) (.tmp 37) rfl _ (lo := P + 1) (l := st) rfl hst.st (by omega) rfl (lit_row (F := ndF) (by simp) #[.string sc, .int .i64 qs] (sc, qs) rfl) (by have := hst.cp.1; simp at this ⊢; omega) ?_
            intro v9 w9 hr9 hg9
            obtain ⟨b9, c9, rfl⟩ := hr9.some_of (n := st.length) (by simp)
            have hB9 := RowVal.below hst.st hg9 (Nat.le_refl _) (by have := hst.cp.1; simp at this ⊢; omega)
            obtain ⟨hst9, c5, f5⟩ := hst.putS hg9 hr9
            have hCur9 := hHeld.1.1.keep hB9 (by omega)
            have hOnl9 := only_below hHeld.1.2 (hB9.mono (show w.heap.size ≤ P + 1 by omega))
            refine hK.out _ _ (⟨⟨hCur9, hOnl9⟩, (hB9.cell (p := ⟨P, 0, none⟩) (Nat.lt_succ_self P)).trans hHeld.2.1, (hB9.cell (p := ⟨bi, k * 8, none⟩) (by show bi < P + 1; omega)).trans hHeld.2.2.1, Nat.lt_of_lt_of_le hHeld.2.2.2.1 hB9.size, Nat.lt_of_lt_of_le hHeld.2.2.2.2 hB9.size⟩) (fun hHeld => ?_)
            clear hK K
            try simp only [Act.put, List.setIfInBounds_toArray]
            refine held_on 13 (some 39) rfl rfl (by kernel_rfl) (by kernel_rfl) (by kernel_rfl) (fun _ _ _ h => h) (by rfl) hHeld (v := ?v12) ?y12 ?r12
            case y12 => intro w hSw; (try dsimp only at hSw); go_simp; (try with_reducible rfl)
            try simp only [Act.put]
            refine held_do 14 fun K hK => ?_
            go_simp
            refine hK.out _ _ (⟨⟨hst9.cur, hst9.only⟩, hst9.cp.2.1 0 _ rfl, (World.cell?_setCell_far w9 ⟨P, 5, none⟩ ⟨bi, k * 8, none⟩ (.slice (some ⟨b9, 0, none⟩) (st.length + 1) c9) (by show P ≠ bi; omega)).trans hHeld.2.2.1, hst9.cp.1, by have := hHeld.2.2.2.2; simpa using this⟩) (fun hHeld => ?_)
            clear hK K
            try simp only [Act.put, List.setIfInBounds_toArray, List.set_cons_zero, List.set_cons_succ]
            refine wpAnyH_done (by kernel_rfl) ?_ _
            go_wp2_with fail
            go_meet
            case rel => exact ⟨_, st ++ [(sc, qs)], by simp; omega, all_snoc HOS.out hsz, hst9⟩
          · skip
            go_simp
            refine hK.out _ _ (⟨⟨hHeld.1.1.keep (below_alloc _ (.cells #[.string sc, .int .i64 qs] 70)) hHeld.1.1.lt, hHeld.1.2.trans (Only.of_below (below_alloc _ (.cells #[.string sc, .int .i64 qs] 70)))⟩, alloc_cell hHeld.2.1 (.cells #[.string sc, .int .i64 qs] 70), alloc_cell hHeld.2.2.1 (.cells #[.string sc, .int .i64 qs] 70), by have := hHeld.2.2.2.1; simp at this ⊢; omega, by have := hHeld.2.2.2.2; simp at this ⊢; omega⟩) (fun hHeld => ?_)
            clear hK K
            try simp only [Act.put, List.setIfInBounds_toArray, List.set_cons_zero, List.set_cons_succ]
            replace hst := hst.alloc (.cells #[.string sc, .int .i64 qs] 70)
            refine held_do 1 fun K hK => ?_
            have yr := hst.cp.2.1 5 _ rfl
            go_simp
            refine hK.out _ _ (hHeld) (fun hHeld => ?_)
            clear hK K
            try simp only [Act.put, List.setIfInBounds_toArray, List.set_cons_zero, List.set_cons_succ]
            clear yr
            refine held_do 12 fun K hK => ?_
            refine step_append_rows needElem ndOne rfl (.tmp 27) (.tmp 37) rfl _ (lo := P + 1) (l := st) rfl hst.st (by omega) rfl (lit_row (F := ndF) (by simp) #[.string sc, .int .i64 qs] (sc, qs) rfl) (by have := hst.cp.1; simp at this ⊢; omega) ?_
            intro v9 w9 hr9 hg9
            obtain ⟨b9, c9, rfl⟩ := hr9.some_of (n := st.length) (by simp)
            have hB9 := RowVal.below hst.st hg9 (Nat.le_refl _) (by have := hst.cp.1; simp at this ⊢; omega)
            obtain ⟨hst9, c5, f5⟩ := hst.putS hg9 hr9
            have hCur9 := hHeld.1.1.keep hB9 (by omega)
            have hOnl9 := only_below hHeld.1.2 (hB9.mono (show w.heap.size ≤ P + 1 by omega))
            refine hK.out _ _ (⟨⟨hCur9, hOnl9⟩, (hB9.cell (p := ⟨P, 0, none⟩) (Nat.lt_succ_self P)).trans hHeld.2.1, (hB9.cell (p := ⟨bi, k * 8, none⟩) (by show bi < P + 1; omega)).trans hHeld.2.2.1, Nat.lt_of_lt_of_le hHeld.2.2.2.1 hB9.size, Nat.lt_of_lt_of_le hHeld.2.2.2.2 hB9.size⟩) (fun hHeld => ?_)
            clear hK K
            try simp only [Act.put, List.setIfInBounds_toArray]
            refine held_on 13 (some 39) rfl rfl (by kernel_rfl) (by kernel_rfl) (by kernel_rfl) (fun _ _ _ h => h) (by rfl) hHeld (v := ?v13) ?y13 ?r13
            case y13 => intro w hSw; (try dsimp only at hSw); go_simp; (try with_reducible rfl)
            try simp only [Act.put]
            refine held_do 14 fun K hK => ?_
            go_simp
            refine hK.out _ _ (⟨⟨hst9.cur, hst9.only⟩, hst9.cp.2.1 0 _ rfl, (World.cell?_setCell_far w9 ⟨P, 5, none⟩ ⟨bi, k * 8, none⟩ (.slice (some ⟨b9, 0, none⟩) (st.length + 1) c9) (by show P ≠ bi; omega)).trans hHeld.2.2.1, hst9.cp.1, by have := hHeld.2.2.2.2; simpa using this⟩) (fun hHeld => ?_)
            clear hK K
            try simp only [Act.put, List.setIfInBounds_toArray, List.set_cons_zero, List.set_cons_succ]
            refine wpAnyH_done (by kernel_rfl) ?_ _
            go_wp2_with fail
            go_meet
            case rel => exact ⟨_, st ++ [(sc, qs)], by simp; omega, all_snoc HOS.out hsz, hst9⟩
      case rest =>
        obtain ⟨vs2, st2, hls2, HOS2, hst2⟩ := hcut
        clear hst HOS hls
        go_wp2_with fail
        refine (l1Once_any _ _ _ _ (by omega) hst2.cur).mono ?_
        rintro e w8 ⟨b2, rfl, hc8, HO8⟩
        have hst := hst2.call hc8 HO8
        clear hc8 HO8 hst2
        cases b2
        case false =>
          go_wp2_with fail
          go_roundw
          case rel => exact ⟨k + 1, vs2, vr, st2, rc, by go_num, by omega, hls2, by omega, HOS2, HOR, hst⟩
          case measure => simp [intOf]; omega
        go_upto_region 9 with fail
        have y0 : w8.cell? ⟨P, 0, none⟩ = some (.slice (some ⟨bi, 0, none⟩) it.length ci) := hst.cp.2.1 0 _ rfl
        have hitA : RowsIn itF w8 (some ⟨bi, 0, none⟩) it.length it := hst.it.rows (by show it.length ≤ _; omega)
        obtain ⟨_, _, e9, hbl, t0, _⟩ := item_at hitA hlt
        injection e9 with e9
        injection e9 with e1 e2
        subst e1 e2
        rw [Nat.zero_add] at t0
        have hbP : bi < P := hst.itb bi rfl
        have hbN : N + 1 ≤ bi := own_block hst.it bi rfl
        clear hitA
        generalize it[k].1 = sc at *
        refine wp_region_held_drew (S := fun w' => (CurAt w' base g ∧ Only g (g + 1) w w') ∧ (w'.cell? ⟨P, 0, none⟩ = some (.slice (some ⟨bi, 0, none⟩) it.length ci) ∧ w'.cell? ⟨bi, k * 8, none⟩ = some (.string sc) ∧ P < w'.heap.size ∧ bi < w'.heap.size)) (by kernel_rfl) (⟨⟨hst.cur, only_drewN hst.only 1⟩, y0, t0, hst.cp.1, hbl⟩) (fun hHeld => ?_)
        replace hst := hst.drew
        refine held1 0 (some 42) hHeld ?_
        refine held1 2 (some 44) hHeld ?_
        refine held1 3 (some 45) hHeld ?_
        refine held1 4 (some 46) hHeld ?_
        refine held1 5 (some 47) hHeld ?_
        refine held1 6 (some 48) hHeld ?_
        refine held1 7 (some 49) hHeld ?_
        refine held1 8 (some 50) hHeld ?_
        refine held1 10 (some 52) hHeld ?_
        refine wpAnyH_ready (rs := [1, 9]) (by kernel_rfl) (by simp) ?_
        refine AllReadyH.cons rfl (fun K hK => ?_) (AllReadyH.cons rfl (fun K hK => ?_) (AllReadyH.nil))
        · skip
          have yr := hst.cp.2.1 6 _ rfl
          go_simp
          refine hK.out _ _ (hHeld) (fun hHeld => ?_)
          clear hK K
          try simp only [Act.put, List.setIfInBounds_toArray, List.set_cons_zero, List.set_cons_succ]
          clear yr
          refine held_do 9 fun K hK => ?_
          go_simp
          go_at_call 35
          refine (l1Below_any _ _ _ _ (by omega) hst.cur).mono ?_
          rintro e wp ⟨dy, rfl, ⟨dy0, dy1⟩, hcp, HOp⟩
          replace hst := hst.call hcp HOp
          go_simp
          refine hK.out _ _ (⟨⟨hcp, hHeld.1.2.trans HOp⟩, only_cell HOp hHeld.2.2.2.1 (by omega) hHeld.2.1, only_cell HOp hHeld.2.2.2.2 (by omega) hHeld.2.2.1, Nat.lt_of_lt_of_le hHeld.2.2.2.1 HOp.size, Nat.lt_of_lt_of_le hHeld.2.2.2.2 HOp.size⟩) (fun hHeld => ?_)
          clear hK K
          try simp only [Act.put, List.setIfInBounds_toArray, List.set_cons_zero, List.set_cons_succ]
          refine held_do 11 fun K hK => ?_
          go_simp
          go_at_call 35
          refine (l1Below_any _ _ _ _ (by omega) hst.cur).mono ?_
          rintro e wp2 ⟨qs, rfl, ⟨q0, q1⟩, hcp, HOp⟩
          have hwq : IntKind.i64.wrap (1 + qs) = 1 + qs := IntWalk.i64_in _ (by omega)
          replace hst := hst.call hcp HOp
          go_simp
          refine hK.out _ _ (⟨⟨hcp, hHeld.1.2.trans HOp⟩, only_cell HOp hHeld.2.2.2.1 (by omega) hHeld.2.1, only_cell HOp hHeld.2.2.2.2 (by omega) hHeld.2.2.1, Nat.lt_of_lt_of_le hHeld.2.2.2.1 HOp.size, Nat.lt_of_lt_of_le hHeld.2.2.2.2 HOp.size⟩) (fun hHeld => ?_)
          clear hK K
          refine held1 12 (some 54) hHeld ?_
          refine held1 13 (some 55) hHeld ?_
          refine held_do 14 fun K hK => ?_
          go_simp
          refine hK.out _ _ (⟨⟨hHeld.1.1.keep (below_alloc _ (.cells #[.string sc, .int .i64 dy, .int .i64 (1 + qs)] 100)) hHeld.1.1.lt, hHeld.1.2.trans (Only.of_below (below_alloc _ (.cells #[.string sc, .int .i64 dy, .int .i64 (1 + qs)] 100)))⟩, alloc_cell hHeld.2.1 (.cells #[.string sc, .int .i64 dy, .int .i64 (1 + qs)] 100), alloc_cell hHeld.2.2.1 (.cells #[.string sc, .int .i64 dy, .int .i64 (1 + qs)] 100), by have := hHeld.2.2.2.1; simp at this ⊢; omega, by have := hHeld.2.2.2.2; simp at this ⊢; omega⟩) (fun hHeld => ?_)
          clear hK K
          try simp only [Act.put, List.setIfInBounds_toArray, List.set_cons_zero, List.set_cons_succ]
          replace hst := hst.alloc (.cells #[.string sc, .int .i64 dy, .int .i64 (1 + qs)] 100)
          refine held_do 15 fun K hK => ?_
          refine step_append_rows receiptElem rcOne rfl (.tmp 43) (.tmp 56) rfl _ (lo := P + 1) (l := rc) rfl hst.rc (by omega) rfl (lit_row (F := rcF) (by simp) #[.string sc, .int .i64 dy, .int .i64 (1 + qs)] (sc, dy, 1 + qs) rfl) (by have := hst.cp.1; simp at this ⊢; omega) ?_
          intro v9 w9 hr9 hg9
          obtain ⟨b9, c9, rfl⟩ := hr9.some_of (n := rc.length) (by simp)
          have hB9 := RowVal.below hst.rc hg9 (Nat.le_refl _) (by have := hst.cp.1; simp at this ⊢; omega)
          obtain ⟨hst9, c5, f5⟩ := hst.putR hg9 hr9
          have hCur9 := hHeld.1.1.keep hB9 (by omega)
          have hOnl9 := only_below hHeld.1.2 (hB9.mono (show w.heap.size ≤ P + 1 by omega))
          refine hK.out _ _ (⟨⟨hCur9, hOnl9⟩, (hB9.cell (p := ⟨P, 0, none⟩) (Nat.lt_succ_self P)).trans hHeld.2.1, (hB9.cell (p := ⟨bi, k * 8, none⟩) (by show bi < P + 1; omega)).trans hHeld.2.2.1, Nat.lt_of_lt_of_le hHeld.2.2.2.1 hB9.size, Nat.lt_of_lt_of_le hHeld.2.2.2.2 hB9.size⟩) (fun hHeld => ?_)
          clear hK K
          try simp only [Act.put, List.setIfInBounds_toArray]
          refine held_on 16 (some 58) rfl rfl (by kernel_rfl) (by kernel_rfl) (by kernel_rfl) (fun _ _ _ h => h) (by rfl) hHeld (v := ?v25) ?y25 ?r25
          case y25 => intro w hSw; (try dsimp only at hSw); go_simp; (try with_reducible rfl)
          try simp only [Act.put]
          refine held_do 17 fun K hK => ?_
          go_simp
          refine hK.out _ _ (⟨⟨hst9.cur, hst9.only⟩, hst9.cp.2.1 0 _ rfl, (World.cell?_setCell_far w9 ⟨P, 6, none⟩ ⟨bi, k * 8, none⟩ (.slice (some ⟨b9, 0, none⟩) (rc.length + 1) c9) (by show P ≠ bi; omega)).trans hHeld.2.2.1, hst9.cp.1, by have := hHeld.2.2.2.2; simpa using this⟩) (fun hHeld => ?_)
          clear hK K
          try simp only [Act.put, List.setIfInBounds_toArray, List.set_cons_zero, List.set_cons_succ]
          refine wpAnyH_done (by kernel_rfl) ?_ _
          go_wp2_with fail
          go_roundw
          case rel => exact ⟨k + 1, vs2, _, st2, rc ++ [(sc, dy, 1 + qs)], by go_num, by omega, hls2, by simp; omega, HOS2, all_snoc HOR.out hsz, hst9⟩
          case measure => simp [intOf]; omega
        · skip
          go_simp
          go_at_call 35
          refine (l1Below_any _ _ _ _ (by omega) hst.cur).mono ?_
          rintro e wp ⟨dy, rfl, ⟨dy0, dy1⟩, hcp, HOp⟩
          replace hst := hst.call hcp HOp
          go_simp
          refine hK.out _ _ (⟨⟨hcp, hHeld.1.2.trans HOp⟩, only_cell HOp hHeld.2.2.2.1 (by omega) hHeld.2.1, only_cell HOp hHeld.2.2.2.2 (by omega) hHeld.2.2.1, Nat.lt_of_lt_of_le hHeld.2.2.2.1 HOp.size, Nat.lt_of_lt_of_le hHeld.2.2.2.2 HOp.size⟩) (fun hHeld => ?_)
          clear hK K
          try simp only [Act.put, List.setIfInBounds_toArray, List.set_cons_zero, List.set_cons_succ]
          refine wpAnyH_ready (rs := [1, 11]) (by kernel_rfl) (by simp) ?_
          refine AllReadyH.cons rfl (fun K hK => ?_) (AllReadyH.cons rfl (fun K hK => ?_) (AllReadyH.nil))
          · skip
            have yr := hst.cp.2.1 6 _ rfl
            go_simp
            refine hK.out _ _ (hHeld) (fun hHeld => ?_)
            clear hK K
            try simp only [Act.put, List.setIfInBounds_toArray, List.set_cons_zero, List.set_cons_succ]
            clear yr
            refine held_do 11 fun K hK => ?_
            go_simp
            go_at_call 35
            refine (l1Below_any _ _ _ _ (by omega) hst.cur).mono ?_
            rintro e wp2 ⟨qs, rfl, ⟨q0, q1⟩, hcp, HOp⟩
            have hwq : IntKind.i64.wrap (1 + qs) = 1 + qs := IntWalk.i64_in _ (by omega)
            replace hst := hst.call hcp HOp
            go_simp
            refine hK.out _ _ (⟨⟨hcp, hHeld.1.2.trans HOp⟩, only_cell HOp hHeld.2.2.2.1 (by omega) hHeld.2.1, only_cell HOp hHeld.2.2.2.2 (by omega) hHeld.2.2.1, Nat.lt_of_lt_of_le hHeld.2.2.2.1 HOp.size, Nat.lt_of_lt_of_le hHeld.2.2.2.2 HOp.size⟩) (fun hHeld => ?_)
            clear hK K
            refine held1 12 (some 54) hHeld ?_
            refine held1 13 (some 55) hHeld ?_
            refine held_do 14 fun K hK => ?_
            go_simp
            refine hK.out _ _ (⟨⟨hHeld.1.1.keep (below_alloc _ (.cells #[.string sc, .int .i64 dy, .int .i64 (1 + qs)] 100)) hHeld.1.1.lt, hHeld.1.2.trans (Only.of_below (below_alloc _ (.cells #[.string sc, .int .i64 dy, .int .i64 (1 + qs)] 100)))⟩, alloc_cell hHeld.2.1 (.cells #[.string sc, .int .i64 dy, .int .i64 (1 + qs)] 100), alloc_cell hHeld.2.2.1 (.cells #[.string sc, .int .i64 dy, .int .i64 (1 + qs)] 100), by have := hHeld.2.2.2.1; simp at this ⊢; omega, by have := hHeld.2.2.2.2; simp at this ⊢; omega⟩) (fun hHeld => ?_)
            clear hK K
            try simp only [Act.put, List.setIfInBounds_toArray, List.set_cons_zero, List.set_cons_succ]
            replace hst := hst.alloc (.cells #[.string sc, .int .i64 dy, .int .i64 (1 + qs)] 100)
            refine held_do 15 fun K hK => ?_
            refine step_append_rows receiptElem rcOne rfl (.tmp 43) (.tmp 56) rfl _ (lo := P + 1) (l := rc) rfl hst.rc (by omega) rfl (lit_row (F := rcF) (by simp) #[.string sc, .int .i64 dy, .int .i64 (1 + qs)] (sc, dy, 1 + qs) rfl) (by have := hst.cp.1; simp at this ⊢; omega) ?_
            intro v9 w9 hr9 hg9
            obtain ⟨b9, c9, rfl⟩ := hr9.some_of (n := rc.length) (by simp)
            have hB9 := RowVal.below hst.rc hg9 (Nat.le_refl _) (by have := hst.cp.1; simp at this ⊢; omega)
            obtain ⟨hst9, c5, f5⟩ := hst.putR hg9 hr9
            have hCur9 := hHeld.1.1.keep hB9 (by omega)
            have hOnl9 := only_below hHeld.1.2 (hB9.mono (show w.heap.size ≤ P + 1 by omega))
            refine hK.out _ _ (⟨⟨hCur9, hOnl9⟩, (hB9.cell (p := ⟨P, 0, none⟩) (Nat.lt_succ_self P)).trans hHeld.2.1, (hB9.cell (p := ⟨bi, k * 8, none⟩) (by show bi < P + 1; omega)).trans hHeld.2.2.1, Nat.lt_of_lt_of_le hHeld.2.2.2.1 hB9.size, Nat.lt_of_lt_of_le hHeld.2.2.2.2 hB9.size⟩) (fun hHeld => ?_)
            clear hK K
            try simp only [Act.put, List.setIfInBounds_toArray]
            refine held_on 16 (some 58) rfl rfl (by kernel_rfl) (by kernel_rfl) (by kernel_rfl) (fun _ _ _ h => h) (by rfl) hHeld (v := ?v28) ?y28 ?r28
            case y28 => intro w hSw; (try dsimp only at hSw); go_simp; (try with_reducible rfl)
            try simp only [Act.put]
            refine held_do 17 fun K hK => ?_
            go_simp
            refine hK.out _ _ (⟨⟨hst9.cur, hst9.only⟩, hst9.cp.2.1 0 _ rfl, (World.cell?_setCell_far w9 ⟨P, 6, none⟩ ⟨bi, k * 8, none⟩ (.slice (some ⟨b9, 0, none⟩) (rc.length + 1) c9) (by show P ≠ bi; omega)).trans hHeld.2.2.1, hst9.cp.1, by have := hHeld.2.2.2.2; simpa using this⟩) (fun hHeld => ?_)
            clear hK K
            try simp only [Act.put, List.setIfInBounds_toArray, List.set_cons_zero, List.set_cons_succ]
            refine wpAnyH_done (by kernel_rfl) ?_ _
            go_wp2_with fail
            go_roundw
            case rel => exact ⟨k + 1, vs2, _, st2, rc ++ [(sc, dy, 1 + qs)], by go_num, by omega, hls2, by simp; omega, HOS2, all_snoc HOR.out hsz, hst9⟩
            case measure => simp [intOf]; omega
          · skip
            go_simp
            go_at_call 35
            refine (l1Below_any _ _ _ _ (by omega) hst.cur).mono ?_
            rintro e wp2 ⟨qs, rfl, ⟨q0, q1⟩, hcp, HOp⟩
            have hwq : IntKind.i64.wrap (1 + qs) = 1 + qs := IntWalk.i64_in _ (by omega)
            replace hst := hst.call hcp HOp
            go_simp
            refine hK.out _ _ (⟨⟨hcp, hHeld.1.2.trans HOp⟩, only_cell HOp hHeld.2.2.2.1 (by omega) hHeld.2.1, only_cell HOp hHeld.2.2.2.2 (by omega) hHeld.2.2.1, Nat.lt_of_lt_of_le hHeld.2.2.2.1 HOp.size, Nat.lt_of_lt_of_le hHeld.2.2.2.2 HOp.size⟩) (fun hHeld => ?_)
            clear hK K
            refine held1 12 (some 54) hHeld ?_
            refine held1 13 (some 55) hHeld ?_
            refine wpAnyH_ready (rs := [1, 14]) (by kernel_rfl) (by simp) ?_
            refine AllReadyH.cons rfl (fun K hK => ?_) (AllReadyH.cons rfl (fun K hK => ?_) (AllReadyH.nil))
            · skip
              have yr := hst.cp.2.1 6 _ rfl
              go_simp
              refine hK.out _ _ (hHeld) (fun hHeld => ?_)
              clear hK K
              try simp only [Act.put, List.setIfInBounds_toArray, List.set_cons_zero, List.set_cons_succ]
              clear yr
              refine held_do 14 fun K hK => ?_
              go_simp
              refine hK.out _ _ (⟨⟨hHeld.1.1.keep (below_alloc _ (.cells #[.string sc, .int .i64 dy, .int .i64 (1 + qs)] 100)) hHeld.1.1.lt, hHeld.1.2.trans (Only.of_below (below_alloc _ (.cells #[.string sc, .int .i64 dy, .int .i64 (1 + qs)] 100)))⟩, alloc_cell hHeld.2.1 (.cells #[.string sc, .int .i64 dy, .int .i64 (1 + qs)] 100), alloc_cell hHeld.2.2.1 (.cells #[.string sc, .int .i64 dy, .int .i64 (1 + qs)] 100), by have := hHeld.2.2.2.1; simp at this ⊢; omega, by have := hHeld.2.2.2.2; simp at this ⊢; omega⟩) (fun hHeld => ?_)
              clear hK K
              try simp only [Act.put, List.setIfInBounds_toArray, List.set_cons_zero, List.set_cons_succ]
              replace hst := hst.alloc (.cells #[.string sc, .int .i64 dy, .int .i64 (1 + qs)] 100)
              refine held_do 15 fun K hK => ?_
              refine step_append_rows receiptElem rcOne rfl (.tmp 43) (.tmp 56) rfl _ (lo := P + 1) (l := rc) rfl hst.rc (by omega) rfl (lit_row (F := rcF) (by simp) #[.string sc, .int .i64 dy, .int .i64 (1 + qs)] (sc, dy, 1 + qs) rfl) (by have := hst.cp.1; simp at this ⊢; omega) ?_
              intro v9 w9 hr9 hg9
              obtain ⟨b9, c9, rfl⟩ := hr9.some_of (n := rc.length) (by simp)
              have hB9 := RowVal.below hst.rc hg9 (Nat.le_refl _) (by have := hst.cp.1; simp at this ⊢; omega)
              obtain ⟨hst9, c5, f5⟩ := hst.putR hg9 hr9
              have hCur9 := hHeld.1.1.keep hB9 (by omega)
              have hOnl9 := only_below hHeld.1.2 (hB9.mono (show w.heap.size ≤ P + 1 by omega))
              refine hK.out _ _ (⟨⟨hCur9, hOnl9⟩, (hB9.cell (p := ⟨P, 0, none⟩) (Nat.lt_succ_self P)).trans hHeld.2.1, (hB9.cell (p := ⟨bi, k * 8, none⟩) (by show bi < P + 1; omega)).trans hHeld.2.2.1, Nat.lt_of_lt_of_le hHeld.2.2.2.1 hB9.size, Nat.lt_of_lt_of_le hHeld.2.2.2.2 hB9.size⟩) (fun hHeld => ?_)
              clear hK K
              try simp only [Act.put, List.setIfInBounds_toArray]
              refine held_on 16 (some 58) rfl rfl (by kernel_rfl) (by kernel_rfl) (by kernel_rfl) (fun _ _ _ h => h) (by rfl) hHeld (v := ?v31) ?y31 ?r31
              case y31 => intro w hSw; (try dsimp only at hSw); go_simp; (try with_reducible rfl)
              try simp only [Act.put]
              refine held_do 17 fun K hK => ?_
              go_simp
              refine hK.out _ _ (⟨⟨hst9.cur, hst9.only⟩, hst9.cp.2.1 0 _ rfl, (World.cell?_setCell_far w9 ⟨P, 6, none⟩ ⟨bi, k * 8, none⟩ (.slice (some ⟨b9, 0, none⟩) (rc.length + 1) c9) (by show P ≠ bi; omega)).trans hHeld.2.2.1, hst9.cp.1, by have := hHeld.2.2.2.2; simpa using this⟩) (fun hHeld => ?_)
              clear hK K
              try simp only [Act.put, List.setIfInBounds_toArray, List.set_cons_zero, List.set_cons_succ]
              refine wpAnyH_done (by kernel_rfl) ?_ _
              go_wp2_with fail
              go_roundw
              case rel => exact ⟨k + 1, vs2, _, st2, rc ++ [(sc, dy, 1 + qs)], by go_num, by omega, hls2, by simp; omega, HOS2, all_snoc HOR.out hsz, hst9⟩
              case measure => simp [intOf]; omega
            · skip
              go_simp
              refine hK.out _ _ (⟨⟨hHeld.1.1.keep (below_alloc _ (.cells #[.string sc, .int .i64 dy, .int .i64 (1 + qs)] 100)) hHeld.1.1.lt, hHeld.1.2.trans (Only.of_below (below_alloc _ (.cells #[.string sc, .int .i64 dy, .int .i64 (1 + qs)] 100)))⟩, alloc_cell hHeld.2.1 (.cells #[.string sc, .int .i64 dy, .int .i64 (1 + qs)] 100), alloc_cell hHeld.2.2.1 (.cells #[.string sc, .int .i64 dy, .int .i64 (1 + qs)] 100), by have := hHeld.2.2.2.1; simp at this ⊢; omega, by have := hHeld.2.2.2.2; simp at this ⊢; omega⟩) (fun hHeld => ?_)
              clear hK K
              try simp only [Act.put, List.setIfInBounds_toArray, List.set_cons_zero, List.set_cons_succ]
              replace hst := hst.alloc (.cells #[.string sc, .int .i64 dy, .int .i64 (1 + qs)] 100)
              refine held_do 1 fun K hK => ?_
              have yr := hst.cp.2.1 6 _ rfl
              go_simp
              refine hK.out _ _ (hHeld) (fun hHeld => ?_)
              clear hK K
              try simp only [Act.put, List.setIfInBounds_toArray, List.set_cons_zero, List.set_cons_succ]
              clear yr
              refine held_do 15 fun K hK => ?_
              refine step_append_rows receiptElem rcOne rfl (.tmp 43) (.tmp 56) rfl _ (lo := P + 1) (l := rc) rfl hst.rc (by omega) rfl (lit_row (F := rcF) (by simp) #[.string sc, .int .i64 dy, .int .i64 (1 + qs)] (sc, dy, 1 + qs) rfl) (by have := hst.cp.1; simp at this ⊢; omega) ?_
              intro v9 w9 hr9 hg9
              obtain ⟨b9, c9, rfl⟩ := hr9.some_of (n := rc.length) (by simp)
              have hB9 := RowVal.below hst.rc hg9 (Nat.le_refl _) (by have := hst.cp.1; simp at this ⊢; omega)
              obtain ⟨hst9, c5, f5⟩ := hst.putR hg9 hr9
              have hCur9 := hHeld.1.1.keep hB9 (by omega)
              have hOnl9 := only_below hHeld.1.2 (hB9.mono (show w.heap.size ≤ P + 1 by omega))
              refine hK.out _ _ (⟨⟨hCur9, hOnl9⟩, (hB9.cell (p := ⟨P, 0, none⟩) (Nat.lt_succ_self P)).trans hHeld.2.1, (hB9.cell (p := ⟨bi, k * 8, none⟩) (by show bi < P + 1; omega)).trans hHeld.2.2.1, Nat.lt_of_lt_of_le hHeld.2.2.2.1 hB9.size, Nat.lt_of_lt_of_le hHeld.2.2.2.2 hB9.size⟩) (fun hHeld => ?_)
              clear hK K
              try simp only [Act.put, List.setIfInBounds_toArray]
              refine held_on 16 (some 58) rfl rfl (by kernel_rfl) (by kernel_rfl) (by kernel_rfl) (fun _ _ _ h => h) (by rfl) hHeld (v := ?v32) ?y32 ?r32
              case y32 => intro w hSw; (try dsimp only at hSw); go_simp; (try with_reducible rfl)
              try simp only [Act.put]
              refine held_do 17 fun K hK => ?_
              go_simp
              refine hK.out _ _ (⟨⟨hst9.cur, hst9.only⟩, hst9.cp.2.1 0 _ rfl, (World.cell?_setCell_far w9 ⟨P, 6, none⟩ ⟨bi, k * 8, none⟩ (.slice (some ⟨b9, 0, none⟩) (rc.length + 1) c9) (by show P ≠ bi; omega)).trans hHeld.2.2.1, hst9.cp.1, by have := hHeld.2.2.2.2; simpa using this⟩) (fun hHeld => ?_)
              clear hK K
              try simp only [Act.put, List.setIfInBounds_toArray, List.set_cons_zero, List.set_cons_succ]
              refine wpAnyH_done (by kernel_rfl) ?_ _
              go_wp2_with fail
              go_roundw
              case rel => exact ⟨k + 1, vs2, _, st2, rc ++ [(sc, dy, 1 + qs)], by go_num, by omega, hls2, by simp; omega, HOS2, all_snoc HOR.out hsz, hst9⟩
              case measure => simp [intOf]; omega
    obtain rfl : k = it.length := by omega
    go_wp2_with fail
    refine (l1Below_any _ _ _ _ (by omega) hst.cur).mono ?_
    rintro e w7 ⟨y, rfl, ⟨y0', y1'⟩, hc7, HO7⟩
    replace hst := hst.call hc7 HO7
    clear hc7 HO7 y0 hg1
    have h3 : (y = 0 ∨ y = 1) ∨ 1 < y := by omega
    rcases h3 with (rfl | rfl) | h3
    · go_upto_region 12 with fail
      obtain ⟨ax, cx, rfl, _⟩ := hst.st.form
      refine wp_region_held_drew (S := fun w' => CurAt w' base g ∧ Only g (g + 1) w w') (by kernel_rfl) (⟨hst.cur, only_drewN hst.only 1⟩) (fun hHeld => ?_)
      replace hst := hst.drew
      refine held1 0 (some 63) hHeld ?_
      refine held1 2 (some 65) hHeld ?_
      refine held1 4 (some 67) hHeld ?_
      refine held1 6 (some 69) hHeld ?_
      refine wpAnyH_ready (rs := [1, 3]) (by kernel_rfl) (by simp) ?_
      refine AllReadyH.cons rfl (fun K hK => ?_) (AllReadyH.cons rfl (fun K hK => ?_) (AllReadyH.nil))
      · skip
        have yr := hst.cp.2.1 6 _ rfl
        go_simp
        refine hK.out _ _ (hHeld) (fun hHeld => ?_)
        clear hK K
        try simp only [Act.put, List.setIfInBounds_toArray, List.set_cons_zero, List.set_cons_succ]
        clear yr
        refine held_do 3 fun K hK => ?_
        go_simp
        go_at_call 14
        refine (l1Code_any _ _ _ hst.cur).mono ?_
        rintro e wp1 ⟨sc, rfl, hsc, hcp, HOp⟩
        replace hst := hst.call hcp HOp
        go_simp
        refine hK.out _ _ (⟨hcp, hHeld.2.trans HOp⟩) (fun hHeld => ?_)
        clear hK K
        try simp only [Act.put, List.setIfInBounds_toArray, List.set_cons_zero, List.set_cons_succ]
        refine held_do 5 fun K hK => ?_
        go_simp
        go_at_call 15
        refine (l4Day_any _ _ _ hst.cur).mono ?_
        rintro e wp2 ⟨dy, rfl, _, hcp, HOp⟩
        replace hst := hst.call hcp HOp
        go_simp
        refine hK.out _ _ (⟨hcp, hHeld.2.trans HOp⟩) (fun hHeld => ?_)
        clear hK K
        try simp only [Act.put, List.setIfInBounds_toArray, List.set_cons_zero, List.set_cons_succ]
        refine held_do 7 fun K hK => ?_
        go_simp
        go_at_call 55
        refine (l1Odd_any _ _ _ hst.cur).mono ?_
        rintro e wp3 ⟨qs, rfl, _, hcp, HOp⟩
        replace hst := hst.call hcp HOp
        go_simp
        refine hK.out _ _ (⟨hcp, hHeld.2.trans HOp⟩) (fun hHeld => ?_)
        clear hK K
        refine held1 8 (some 71) hHeld ?_
        refine held_do 9 fun K hK => ?_
        go_simp
        refine hK.out _ _ (⟨hHeld.1.keep (below_alloc _ (.cells #[.string sc, .int .i64 dy, .int .i64 qs] 100)) hHeld.1.lt, hHeld.2.trans (Only.of_below (below_alloc _ (.cells #[.string sc, .int .i64 dy, .int .i64 qs] 100)))⟩) (fun hHeld => ?_)
        clear hK K
        try simp only [Act.put, List.setIfInBounds_toArray, List.set_cons_zero, List.set_cons_succ]
        replace hst := hst.alloc (.cells #[.string sc, .int .i64 dy, .int .i64 qs] 100)
        refine held_do 10 fun K hK => ?_
        refine step_append_rows receiptElem rcOne rfl (.tmp 64) (.tmp 72) rfl _ (lo := P + 1) (l := rc) rfl hst.rc (by omega) rfl (lit_row (F := rcF) (by simp) #[.string sc, .int .i64 dy, .int .i64 qs] (sc, dy, qs) rfl) (by have := hst.cp.1; simp at this ⊢; omega) ?_
        intro v9 w9 hr9 hg9
        obtain ⟨b9, c9, rfl⟩ := hr9.some_of (n := rc.length) (by simp)
        have hB9 := RowVal.below hst.rc hg9 (Nat.le_refl _) (by have := hst.cp.1; simp at this ⊢; omega)
        obtain ⟨hst9, c5, f5⟩ := hst.putR hg9 hr9
        have hCur9 := hHeld.1.keep hB9 (by omega)
        have hOnl9 := only_below hHeld.2 (hB9.mono (show w.heap.size ≤ P + 1 by omega))
        refine hK.out _ _ (⟨hCur9, hOnl9⟩) (fun hHeld => ?_)
        clear hK K
        try simp only [Act.put, List.setIfInBounds_toArray]
        refine held_on 11 (some 74) rfl rfl (by kernel_rfl) (by kernel_rfl) (by kernel_rfl) (fun _ _ _ h => h) (by rfl) hHeld (v := ?v38) ?y38 ?r38
        case y38 => intro w hSw; (try dsimp only at hSw); go_simp; (try with_reducible rfl)
        try simp only [Act.put]
        refine held_do 12 fun K hK => ?_
        go_simp
        refine hK.out _ _ (⟨hst9.cur, hst9.only⟩) (fun hHeld => ?_)
        clear hK K
        try simp only [Act.put, List.setIfInBounds_toArray, List.set_cons_zero, List.set_cons_succ]
        refine wpAnyH_done (by kernel_rfl) ?_ _
        generalize (w9.setCell ⟨P, 6, none⟩ (.slice (some ⟨b9, 0, none⟩) (rc.length + 1) c9)) = wF at *
        clear c5 f5 hB9 hr9 hg9 hCur9 hOnl9 hHeld hst
        have hF : PlSt w base g N P (⟨⟨some ⟨bi, 0, none⟩, it.length, ci⟩, ⟨al, RR.length, cl⟩, ⟨aw, wk.length, cw⟩, ⟨ae, ex.length, ce⟩, ⟨ac, ch.length, cc⟩, ⟨ax, st.length, cx⟩, ⟨(some ⟨b9, 0, none⟩), (rc.length + 1), c9⟩⟩ : PtR) (⟨it, ls, wk, ex, ch, st, (rc ++ [(sc, dy, qs)])⟩ : Pt) RR (.slice ax st.length cx) (.slice (some ⟨b9, 0, none⟩) (rc.length + 1) c9) st (rc ++ [(sc, dy, qs)]) wF := ⟨hst9.cur, hst9.only, hst9.gN, hst9.NP, hst9.sz, hst9.cp, hst9.cn, hst9.it, hst9.wk, hst9.ex, hst9.ch, hst9.itb, hst9.wkb, hst9.exb, hst9.chb, hst9.ls, hst9.cs, hst9.st, hst9.rc⟩
        have b0 : wF.cell? ⟨P, 0, none⟩ = some (.slice (some ⟨bi, 0, none⟩) it.length ci) := hst9.cp.2.1 0 _ rfl
        have q0 := hst9.cn.2.1 0 _ rfl
        have f0 := hst9.cn.2.2 0
        have b1 : wF.cell? ⟨P, 1, none⟩ = some (.slice al RR.length cl) := hst9.cp.2.1 1 _ rfl
        have q1 := hst9.cn.2.1 1 _ rfl
        have f1 := hst9.cn.2.2 1
        have b2 : wF.cell? ⟨P, 2, none⟩ = some (.slice aw wk.length cw) := hst9.cp.2.1 2 _ rfl
        have q2 := hst9.cn.2.1 2 _ rfl
        have f2 := hst9.cn.2.2 2
        have b3 : wF.cell? ⟨P, 3, none⟩ = some (.slice ae ex.length ce) := hst9.cp.2.1 3 _ rfl
        have q3 := hst9.cn.2.1 3 _ rfl
        have f3 := hst9.cn.2.2 3
        have b4 : wF.cell? ⟨P, 4, none⟩ = some (.slice ac ch.length cc) := hst9.cp.2.1 4 _ rfl
        have q4 := hst9.cn.2.1 4 _ rfl
        have f4 := hst9.cn.2.2 4
        have b5 : wF.cell? ⟨P, 5, none⟩ = some (.slice ax st.length cx) := hst9.cp.2.1 5 _ rfl
        have q5 := hst9.cn.2.1 5 _ rfl
        have f5 := hst9.cn.2.2 5
        have b6 : wF.cell? ⟨P, 6, none⟩ = some (.slice (some ⟨b9, 0, none⟩) (rc.length + 1) c9) := hst9.cp.2.1 6 _ rfl
        have q6 := hst9.cn.2.1 6 _ rfl
        have f6 := hst9.cn.2.2 6
        have HBF : Below N (wF) (((((((wF.setCell ⟨N, 0, none⟩ (.slice (some ⟨bi, 0, none⟩) it.length ci)).setCell ⟨N, 1, none⟩ (.slice al RR.length cl)).setCell ⟨N, 2, none⟩ (.slice aw wk.length cw)).setCell ⟨N, 3, none⟩ (.slice ae ex.length ce)).setCell ⟨N, 4, none⟩ (.slice ac ch.length cc)).setCell ⟨N, 5, none⟩ (.slice ax st.length cx)).setCell ⟨N, 6, none⟩ (.slice (some ⟨b9, 0, none⟩) (rc.length + 1) c9)) := below_setFrom (B := N) (b := N) (Nat.le_refl _) [.slice (some ⟨bi, 0, none⟩) it.length ci, .slice al RR.length cl, .slice aw wk.length cw, .slice ae ex.length ce, .slice ac ch.length cc, .slice ax st.length cx, .slice (some ⟨b9, 0, none⟩) (rc.length + 1) c9] 0 wF
        have hoF : ∀ k, k ≠ N → (((((((wF.setCell ⟨N, 0, none⟩ (.slice (some ⟨bi, 0, none⟩) it.length ci)).setCell ⟨N, 1, none⟩ (.slice al RR.length cl)).setCell ⟨N, 2, none⟩ (.slice aw wk.length cw)).setCell ⟨N, 3, none⟩ (.slice ae ex.length ce)).setCell ⟨N, 4, none⟩ (.slice ac ch.length cc)).setCell ⟨N, 5, none⟩ (.slice ax st.length cx)).setCell ⟨N, 6, none⟩ (.slice (some ⟨b9, 0, none⟩) (rc.length + 1) c9)).heap[k]? = (wF).heap[k]? := fun k hk => heap_setFrom_other N k (Ne.symm hk) [.slice (some ⟨bi, 0, none⟩) it.length ci, .slice al RR.length cl, .slice aw wk.length cw, .slice ae ex.length ce, .slice ac ch.length cc, .slice ax st.length cx, .slice (some ⟨b9, 0, none⟩) (rc.length + 1) c9] 0 wF
        have hcF := hst9.cur.keep HBF hg
        have HF := only_below hst9.only (by rw [hN]; exact HBF)
        have hPF : ∀ w'', (∀ k, w.heap.size ≤ k → k < (((((((wF.setCell ⟨N, 0, none⟩ (.slice (some ⟨bi, 0, none⟩) it.length ci)).setCell ⟨N, 1, none⟩ (.slice al RR.length cl)).setCell ⟨N, 2, none⟩ (.slice aw wk.length cw)).setCell ⟨N, 3, none⟩ (.slice ae ex.length ce)).setCell ⟨N, 4, none⟩ (.slice ac ch.length cc)).setCell ⟨N, 5, none⟩ (.slice ax st.length cx)).setCell ⟨N, 6, none⟩ (.slice (some ⟨b9, 0, none⟩) (rc.length + 1) c9)).heap.size → w''.heap[k]? = (((((((wF.setCell ⟨N, 0, none⟩ (.slice (some ⟨bi, 0, none⟩) it.length ci)).setCell ⟨N, 1, none⟩ (.slice al RR.length cl)).setCell ⟨N, 2, none⟩ (.slice aw wk.length cw)).setCell ⟨N, 3, none⟩ (.slice ae ex.length ce)).setCell ⟨N, 4, none⟩ (.slice ac ch.length cc)).setCell ⟨N, 5, none⟩ (.slice ax st.length cx)).setCell ⟨N, 6, none⟩ (.slice (some ⟨b9, 0, none⟩) (rc.length + 1) c9)).heap[k]?) → PlantIn w'' (⟨⟨some ⟨bi, 0, none⟩, it.length, ci⟩, ⟨al, RR.length, cl⟩, ⟨aw, wk.length, cw⟩, ⟨ae, ex.length, ce⟩, ⟨ac, ch.length, cc⟩, ⟨ax, st.length, cx⟩, ⟨(some ⟨b9, 0, none⟩), (rc.length + 1), c9⟩⟩ : PtR) (⟨it, ls, wk, ex, ch, st, (rc ++ [(sc, dy, qs)])⟩ : Pt) := fun w'' ho => hF.plant2 (fun k hk hl => (ho k (by omega) (Nat.lt_of_lt_of_le hl HBF.size)).trans (hoF k (by omega))) (by show it.length ≤ 100; omega) (by show ls.length ≤ 100; omega) (by show wk.length ≤ 100; omega) (by show ex.length ≤ 100; omega) (by show ch.length ≤ 100; omega) (by show (st : List Nd).length ≤ 100; omega) (by show ((rc ++ [(sc, dy, qs)]) : List Rc).length ≤ 100; simp; omega)
        have hbiN : N + 1 ≤ bi := own_block hst9.it bi rfl
        have hLo : ∀ a, (some (⟨bi, 0, none⟩ : Addr)) = some a → w.heap.size ≤ a.block := fun a ha => by have h1 := Option.some.inj ha; rw [← h1]; show w.heap.size ≤ bi; omega
        clear hF hoF HBF hst9
        go_wp2_with fail
        refine bodyPost_ret (v := .agg #[.slice (some ⟨bi, 0, none⟩) it.length ci, .slice al RR.length cl, .slice aw wk.length cw, .slice ae ex.length ce, .slice ac ch.length cc, .slice ax st.length cx, .slice (some ⟨b9, 0, none⟩) (rc.length + 1) c9]) (by simp [results, Try.results31, go_sem, q0, q1, q2, q3, q4, q5, q6]) rfl ?_
        exact ⟨(⟨⟨some ⟨bi, 0, none⟩, it.length, ci⟩, ⟨al, RR.length, cl⟩, ⟨aw, wk.length, cw⟩, ⟨ae, ex.length, ce⟩, ⟨ac, ch.length, cc⟩, ⟨ax, st.length, cx⟩, ⟨(some ⟨b9, 0, none⟩), (rc.length + 1), c9⟩⟩ : PtR), (⟨it, ls, wk, ex, ch, st, (rc ++ [(sc, dy, qs)])⟩ : Pt), rfl, ⟨HOKI.out, HOKL.out, HOKC.out, HOS.out, all_snoc HOR.out hsc⟩, hit1, hit6, hLo, hcF, HF, hPF⟩
      · skip
        go_simp
        go_at_call 14
        refine (l1Code_any _ _ _ hst.cur).mono ?_
        rintro e wp1 ⟨sc, rfl, hsc, hcp, HOp⟩
        replace hst := hst.call hcp HOp
        go_simp
        refine hK.out _ _ (⟨hcp, hHeld.2.trans HOp⟩) (fun hHeld => ?_)
        clear hK K
        try simp only [Act.put, List.setIfInBounds_toArray, List.set_cons_zero, List.set_cons_succ]
        refine wpAnyH_ready (rs := [1, 5]) (by kernel_rfl) (by simp) ?_
        refine AllReadyH.cons rfl (fun K hK => ?_) (AllReadyH.cons rfl (fun K hK => ?_) (AllReadyH.nil))
        · skip
          have yr := hst.cp.2.1 6 _ rfl
          go_simp
          refine hK.out _ _ (hHeld) (fun hHeld => ?_)
          clear hK K
          try simp only [Act.put, List.setIfInBounds_toArray, List.set_cons_zero, List.set_cons_succ]
          clear yr
          refine held_do 5 fun K hK => ?_
          go_simp
          go_at_call 15
          refine (l4Day_any _ _ _ hst.cur).mono ?_
          rintro e wp2 ⟨dy, rfl, _, hcp, HOp⟩
          replace hst := hst.call hcp HOp
          go_simp
          refine hK.out _ _ (⟨hcp, hHeld.2.trans HOp⟩) (fun hHeld => ?_)
          clear hK K
          try simp only [Act.put, List.setIfInBounds_toArray, List.set_cons_zero, List.set_cons_succ]
          refine held_do 7 fun K hK => ?_
          go_simp
          go_at_call 55
          refine (l1Odd_any _ _ _ hst.cur).mono ?_
          rintro e wp3 ⟨qs, rfl, _, hcp, HOp⟩
          replace hst := hst.call hcp HOp
          go_simp
          refine hK.out _ _ (⟨hcp, hHeld.2.trans HOp⟩) (fun hHeld => ?_)
          clear hK K
          refine held1 8 (some 71) hHeld ?_
          refine held_do 9 fun K hK => ?_
          go_simp
          refine hK.out _ _ (⟨hHeld.1.keep (below_alloc _ (.cells #[.string sc, .int .i64 dy, .int .i64 qs] 100)) hHeld.1.lt, hHeld.2.trans (Only.of_below (below_alloc _ (.cells #[.string sc, .int .i64 dy, .int .i64 qs] 100)))⟩) (fun hHeld => ?_)
          clear hK K
          try simp only [Act.put, List.setIfInBounds_toArray, List.set_cons_zero, List.set_cons_succ]
          replace hst := hst.alloc (.cells #[.string sc, .int .i64 dy, .int .i64 qs] 100)
          refine held_do 10 fun K hK => ?_
          refine step_append_rows receiptElem rcOne rfl (.tmp 64) (.tmp 72) rfl _ (lo := P + 1) (l := rc) rfl hst.rc (by omega) rfl (lit_row (F := rcF) (by simp) #[.string sc, .int .i64 dy, .int .i64 qs] (sc, dy, qs) rfl) (by have := hst.cp.1; simp at this ⊢; omega) ?_
          intro v9 w9 hr9 hg9
          obtain ⟨b9, c9, rfl⟩ := hr9.some_of (n := rc.length) (by simp)
          have hB9 := RowVal.below hst.rc hg9 (Nat.le_refl _) (by have := hst.cp.1; simp at this ⊢; omega)
          obtain ⟨hst9, c5, f5⟩ := hst.putR hg9 hr9
          have hCur9 := hHeld.1.keep hB9 (by omega)
          have hOnl9 := only_below hHeld.2 (hB9.mono (show w.heap.size ≤ P + 1 by omega))
          refine hK.out _ _ (⟨hCur9, hOnl9⟩) (fun hHeld => ?_)
          clear hK K
          try simp only [Act.put, List.setIfInBounds_toArray]
          refine held_on 11 (some 74) rfl rfl (by kernel_rfl) (by kernel_rfl) (by kernel_rfl) (fun _ _ _ h => h) (by rfl) hHeld (v := ?v40) ?y40 ?r40
          case y40 => intro w hSw; (try dsimp only at hSw); go_simp; (try with_reducible rfl)
          try simp only [Act.put]
          refine held_do 12 fun K hK => ?_
          go_simp
          refine hK.out _ _ (⟨hst9.cur, hst9.only⟩) (fun hHeld => ?_)
          clear hK K
          try simp only [Act.put, List.setIfInBounds_toArray, List.set_cons_zero, List.set_cons_succ]
          refine wpAnyH_done (by kernel_rfl) ?_ _
          generalize (w9.setCell ⟨P, 6, none⟩ (.slice (some ⟨b9, 0, none⟩) (rc.length + 1) c9)) = wF at *
          clear c5 f5 hB9 hr9 hg9 hCur9 hOnl9 hHeld hst
          have hF : PlSt w base g N P (⟨⟨some ⟨bi, 0, none⟩, it.length, ci⟩, ⟨al, RR.length, cl⟩, ⟨aw, wk.length, cw⟩, ⟨ae, ex.length, ce⟩, ⟨ac, ch.length, cc⟩, ⟨ax, st.length, cx⟩, ⟨(some ⟨b9, 0, none⟩), (rc.length + 1), c9⟩⟩ : PtR) (⟨it, ls, wk, ex, ch, st, (rc ++ [(sc, dy, qs)])⟩ : Pt) RR (.slice ax st.length cx) (.slice (some ⟨b9, 0, none⟩) (rc.length + 1) c9) st (rc ++ [(sc, dy, qs)]) wF := ⟨hst9.cur, hst9.only, hst9.gN, hst9.NP, hst9.sz, hst9.cp, hst9.cn, hst9.it, hst9.wk, hst9.ex, hst9.ch, hst9.itb, hst9.wkb, hst9.exb, hst9.chb, hst9.ls, hst9.cs, hst9.st, hst9.rc⟩
          have b0 : wF.cell? ⟨P, 0, none⟩ = some (.slice (some ⟨bi, 0, none⟩) it.length ci) := hst9.cp.2.1 0 _ rfl
          have q0 := hst9.cn.2.1 0 _ rfl
          have f0 := hst9.cn.2.2 0
          have b1 : wF.cell? ⟨P, 1, none⟩ = some (.slice al RR.length cl) := hst9.cp.2.1 1 _ rfl
          have q1 := hst9.cn.2.1 1 _ rfl
          have f1 := hst9.cn.2.2 1
          have b2 : wF.cell? ⟨P, 2, none⟩ = some (.slice aw wk.length cw) := hst9.cp.2.1 2 _ rfl
          have q2 := hst9.cn.2.1 2 _ rfl
          have f2 := hst9.cn.2.2 2
          have b3 : wF.cell? ⟨P, 3, none⟩ = some (.slice ae ex.length ce) := hst9.cp.2.1 3 _ rfl
          have q3 := hst9.cn.2.1 3 _ rfl
          have f3 := hst9.cn.2.2 3
          have b4 : wF.cell? ⟨P, 4, none⟩ = some (.slice ac ch.length cc) := hst9.cp.2.1 4 _ rfl
          have q4 := hst9.cn.2.1 4 _ rfl
          have f4 := hst9.cn.2.2 4
          have b5 : wF.cell? ⟨P, 5, none⟩ = some (.slice ax st.length cx) := hst9.cp.2.1 5 _ rfl
          have q5 := hst9.cn.2.1 5 _ rfl
          have f5 := hst9.cn.2.2 5
          have b6 : wF.cell? ⟨P, 6, none⟩ = some (.slice (some ⟨b9, 0, none⟩) (rc.length + 1) c9) := hst9.cp.2.1 6 _ rfl
          have q6 := hst9.cn.2.1 6 _ rfl
          have f6 := hst9.cn.2.2 6
          have HBF : Below N (wF) (((((((wF.setCell ⟨N, 0, none⟩ (.slice (some ⟨bi, 0, none⟩) it.length ci)).setCell ⟨N, 1, none⟩ (.slice al RR.length cl)).setCell ⟨N, 2, none⟩ (.slice aw wk.length cw)).setCell ⟨N, 3, none⟩ (.slice ae ex.length ce)).setCell ⟨N, 4, none⟩ (.slice ac ch.length cc)).setCell ⟨N, 5, none⟩ (.slice ax st.length cx)).setCell ⟨N, 6, none⟩ (.slice (some ⟨b9, 0, none⟩) (rc.length + 1) c9)) := below_setFrom (B := N) (b := N) (Nat.le_refl _) [.slice (some ⟨bi, 0, none⟩) it.length ci, .slice al RR.length cl, .slice aw wk.length cw, .slice ae ex.length ce, .slice ac ch.length cc, .slice ax st.length cx, .slice (some ⟨b9, 0, none⟩) (rc.length + 1) c9] 0 wF
          have hoF : ∀ k, k ≠ N → (((((((wF.setCell ⟨N, 0, none⟩ (.slice (some ⟨bi, 0, none⟩) it.length ci)).setCell ⟨N, 1, none⟩ (.slice al RR.length cl)).setCell ⟨N, 2, none⟩ (.slice aw wk.length cw)).setCell ⟨N, 3, none⟩ (.slice ae ex.length ce)).setCell ⟨N, 4, none⟩ (.slice ac ch.length cc)).setCell ⟨N, 5, none⟩ (.slice ax st.length cx)).setCell ⟨N, 6, none⟩ (.slice (some ⟨b9, 0, none⟩) (rc.length + 1) c9)).heap[k]? = (wF).heap[k]? := fun k hk => heap_setFrom_other N k (Ne.symm hk) [.slice (some ⟨bi, 0, none⟩) it.length ci, .slice al RR.length cl, .slice aw wk.length cw, .slice ae ex.length ce, .slice ac ch.length cc, .slice ax st.length cx, .slice (some ⟨b9, 0, none⟩) (rc.length + 1) c9] 0 wF
          have hcF := hst9.cur.keep HBF hg
          have HF := only_below hst9.only (by rw [hN]; exact HBF)
          have hPF : ∀ w'', (∀ k, w.heap.size ≤ k → k < (((((((wF.setCell ⟨N, 0, none⟩ (.slice (some ⟨bi, 0, none⟩) it.length ci)).setCell ⟨N, 1, none⟩ (.slice al RR.length cl)).setCell ⟨N, 2, none⟩ (.slice aw wk.length cw)).setCell ⟨N, 3, none⟩ (.slice ae ex.length ce)).setCell ⟨N, 4, none⟩ (.slice ac ch.length cc)).setCell ⟨N, 5, none⟩ (.slice ax st.length cx)).setCell ⟨N, 6, none⟩ (.slice (some ⟨b9, 0, none⟩) (rc.length + 1) c9)).heap.size → w''.heap[k]? = (((((((wF.setCell ⟨N, 0, none⟩ (.slice (some ⟨bi, 0, none⟩) it.length ci)).setCell ⟨N, 1, none⟩ (.slice al RR.length cl)).setCell ⟨N, 2, none⟩ (.slice aw wk.length cw)).setCell ⟨N, 3, none⟩ (.slice ae ex.length ce)).setCell ⟨N, 4, none⟩ (.slice ac ch.length cc)).setCell ⟨N, 5, none⟩ (.slice ax st.length cx)).setCell ⟨N, 6, none⟩ (.slice (some ⟨b9, 0, none⟩) (rc.length + 1) c9)).heap[k]?) → PlantIn w'' (⟨⟨some ⟨bi, 0, none⟩, it.length, ci⟩, ⟨al, RR.length, cl⟩, ⟨aw, wk.length, cw⟩, ⟨ae, ex.length, ce⟩, ⟨ac, ch.length, cc⟩, ⟨ax, st.length, cx⟩, ⟨(some ⟨b9, 0, none⟩), (rc.length + 1), c9⟩⟩ : PtR) (⟨it, ls, wk, ex, ch, st, (rc ++ [(sc, dy, qs)])⟩ : Pt) := fun w'' ho => hF.plant2 (fun k hk hl => (ho k (by omega) (Nat.lt_of_lt_of_le hl HBF.size)).trans (hoF k (by omega))) (by show it.length ≤ 100; omega) (by show ls.length ≤ 100; omega) (by show wk.length ≤ 100; omega) (by show ex.length ≤ 100; omega) (by show ch.length ≤ 100; omega) (by show (st : List Nd).length ≤ 100; omega) (by show ((rc ++ [(sc, dy, qs)]) : List Rc).length ≤ 100; simp; omega)
          have hbiN : N + 1 ≤ bi := own_block hst9.it bi rfl
          have hLo : ∀ a, (some (⟨bi, 0, none⟩ : Addr)) = some a → w.heap.size ≤ a.block := fun a ha => by have h1 := Option.some.inj ha; rw [← h1]; show w.heap.size ≤ bi; omega
          clear hF hoF HBF hst9
          go_wp2_with fail
          refine bodyPost_ret (v := .agg #[.slice (some ⟨bi, 0, none⟩) it.length ci, .slice al RR.length cl, .slice aw wk.length cw, .slice ae ex.length ce, .slice ac ch.length cc, .slice ax st.length cx, .slice (some ⟨b9, 0, none⟩) (rc.length + 1) c9]) (by simp [results, Try.results31, go_sem, q0, q1, q2, q3, q4, q5, q6]) rfl ?_
          exact ⟨(⟨⟨some ⟨bi, 0, none⟩, it.length, ci⟩, ⟨al, RR.length, cl⟩, ⟨aw, wk.length, cw⟩, ⟨ae, ex.length, ce⟩, ⟨ac, ch.length, cc⟩, ⟨ax, st.length, cx⟩, ⟨(some ⟨b9, 0, none⟩), (rc.length + 1), c9⟩⟩ : PtR), (⟨it, ls, wk, ex, ch, st, (rc ++ [(sc, dy, qs)])⟩ : Pt), rfl, ⟨HOKI.out, HOKL.out, HOKC.out, HOS.out, all_snoc HOR.out hsc⟩, hit1, hit6, hLo, hcF, HF, hPF⟩
        · skip
          go_simp
          go_at_call 15
          refine (l4Day_any _ _ _ hst.cur).mono ?_
          rintro e wp2 ⟨dy, rfl, _, hcp, HOp⟩
          replace hst := hst.call hcp HOp
          go_simp
          refine hK.out _ _ (⟨hcp, hHeld.2.trans HOp⟩) (fun hHeld => ?_)
          clear hK K
          try simp only [Act.put, List.setIfInBounds_toArray, List.set_cons_zero, List.set_cons_succ]
          refine wpAnyH_ready (rs := [1, 7]) (by kernel_rfl) (by simp) ?_
          refine AllReadyH.cons rfl (fun K hK => ?_) (AllReadyH.cons rfl (fun K hK => ?_) (AllReadyH.nil))
          · skip
            have yr := hst.cp.2.1 6 _ rfl
            go_simp
            refine hK.out _ _ (hHeld) (fun hHeld => ?_)
            clear hK K
            try simp only [Act.put, List.setIfInBounds_toArray, List.set_cons_zero, List.set_cons_succ]
            clear yr
            refine held_do 7 fun K hK => ?_
            go_simp
            go_at_call 55
            refine (l1Odd_any _ _ _ hst.cur).mono ?_
            rintro e wp3 ⟨qs, rfl, _, hcp, HOp⟩
            replace hst := hst.call hcp HOp
            go_simp
            refine hK.out _ _ (⟨hcp, hHeld.2.trans HOp⟩) (fun hHeld => ?_)
            clear hK K
            refine held1 8 (some 71) hHeld ?_
            refine held_do 9 fun K hK => ?_
            go_simp
            refine hK.out _ _ (⟨hHeld.1.keep (below_alloc _ (.cells #[.string sc, .int .i64 dy, .int .i64 qs] 100)) hHeld.1.lt, hHeld.2.trans (Only.of_below (below_alloc _ (.cells #[.string sc, .int .i64 dy, .int .i64 qs] 100)))⟩) (fun hHeld => ?_)
            clear hK K
            try simp only [Act.put, List.setIfInBounds_toArray, List.set_cons_zero, List.set_cons_succ]
            replace hst := hst.alloc (.cells #[.string sc, .int .i64 dy, .int .i64 qs] 100)
            refine held_do 10 fun K hK => ?_
            refine step_append_rows receiptElem rcOne rfl (.tmp 64) (.tmp 72) rfl _ (lo := P + 1) (l := rc) rfl hst.rc (by omega) rfl (lit_row (F := rcF) (by simp) #[.string sc, .int .i64 dy, .int .i64 qs] (sc, dy, qs) rfl) (by have := hst.cp.1; simp at this ⊢; omega) ?_
            intro v9 w9 hr9 hg9
            obtain ⟨b9, c9, rfl⟩ := hr9.some_of (n := rc.length) (by simp)
            have hB9 := RowVal.below hst.rc hg9 (Nat.le_refl _) (by have := hst.cp.1; simp at this ⊢; omega)
            obtain ⟨hst9, c5, f5⟩ := hst.putR hg9 hr9
            have hCur9 := hHeld.1.keep hB9 (by omega)
            have hOnl9 := only_below hHeld.2 (hB9.mono (show w.heap.size ≤ P + 1 by omega))
            refine hK.out _ _ (⟨hCur9, hOnl9⟩) (fun hHeld => ?_)
            clear hK K
            try simp only [Act.put, List.setIfInBounds_toArray]
            refine held_on 11 (some 74) rfl rfl (by kernel_rfl) (by kernel_rfl) (by kernel_rfl) (fun _ _ _ h => h) (by rfl) hHeld (v := ?v42) ?y42 ?r42
            case y42 => intro w hSw; (try dsimp only at hSw); go_simp; (try with_reducible rfl)
            try simp only [Act.put]
            refine held_do 12 fun K hK => ?_
            go_simp
            refine hK.out _ _ (⟨hst9.cur, hst9.only⟩) (fun hHeld => ?_)
            clear hK K
            try simp only [Act.put, List.setIfInBounds_toArray, List.set_cons_zero, List.set_cons_succ]
            refine wpAnyH_done (by kernel_rfl) ?_ _
            generalize (w9.setCell ⟨P, 6, none⟩ (.slice (some ⟨b9, 0, none⟩) (rc.length + 1) c9)) = wF at *
            clear c5 f5 hB9 hr9 hg9 hCur9 hOnl9 hHeld hst
            have hF : PlSt w base g N P (⟨⟨some ⟨bi, 0, none⟩, it.length, ci⟩, ⟨al, RR.length, cl⟩, ⟨aw, wk.length, cw⟩, ⟨ae, ex.length, ce⟩, ⟨ac, ch.length, cc⟩, ⟨ax, st.length, cx⟩, ⟨(some ⟨b9, 0, none⟩), (rc.length + 1), c9⟩⟩ : PtR) (⟨it, ls, wk, ex, ch, st, (rc ++ [(sc, dy, qs)])⟩ : Pt) RR (.slice ax st.length cx) (.slice (some ⟨b9, 0, none⟩) (rc.length + 1) c9) st (rc ++ [(sc, dy, qs)]) wF := ⟨hst9.cur, hst9.only, hst9.gN, hst9.NP, hst9.sz, hst9.cp, hst9.cn, hst9.it, hst9.wk, hst9.ex, hst9.ch, hst9.itb, hst9.wkb, hst9.exb, hst9.chb, hst9.ls, hst9.cs, hst9.st, hst9.rc⟩
            have b0 : wF.cell? ⟨P, 0, none⟩ = some (.slice (some ⟨bi, 0, none⟩) it.length ci) := hst9.cp.2.1 0 _ rfl
            have q0 := hst9.cn.2.1 0 _ rfl
            have f0 := hst9.cn.2.2 0
            have b1 : wF.cell? ⟨P, 1, none⟩ = some (.slice al RR.length cl) := hst9.cp.2.1 1 _ rfl
            have q1 := hst9.cn.2.1 1 _ rfl
            have f1 := hst9.cn.2.2 1
            have b2 : wF.cell? ⟨P, 2, none⟩ = some (.slice aw wk.length cw) := hst9.cp.2.1 2 _ rfl
            have q2 := hst9.cn.2.1 2 _ rfl
            have f2 := hst9.cn.2.2 2
            have b3 : wF.cell? ⟨P, 3, none⟩ = some (.slice ae ex.length ce) := hst9.cp.2.1 3 _ rfl
            have q3 := hst9.cn.2.1 3 _ rfl
            have f3 := hst9.cn.2.2 3
            have b4 : wF.cell? ⟨P, 4, none⟩ = some (.slice ac ch.length cc) := hst9.cp.2.1 4 _ rfl
            have q4 := hst9.cn.2.1 4 _ rfl
            have f4 := hst9.cn.2.2 4
            have b5 : wF.cell? ⟨P, 5, none⟩ = some (.slice ax st.length cx) := hst9.cp.2.1 5 _ rfl
            have q5 := hst9.cn.2.1 5 _ rfl
            have f5 := hst9.cn.2.2 5
            have b6 : wF.cell? ⟨P, 6, none⟩ = some (.slice (some ⟨b9, 0, none⟩) (rc.length + 1) c9) := hst9.cp.2.1 6 _ rfl
            have q6 := hst9.cn.2.1 6 _ rfl
            have f6 := hst9.cn.2.2 6
            have HBF : Below N (wF) (((((((wF.setCell ⟨N, 0, none⟩ (.slice (some ⟨bi, 0, none⟩) it.length ci)).setCell ⟨N, 1, none⟩ (.slice al RR.length cl)).setCell ⟨N, 2, none⟩ (.slice aw wk.length cw)).setCell ⟨N, 3, none⟩ (.slice ae ex.length ce)).setCell ⟨N, 4, none⟩ (.slice ac ch.length cc)).setCell ⟨N, 5, none⟩ (.slice ax st.length cx)).setCell ⟨N, 6, none⟩ (.slice (some ⟨b9, 0, none⟩) (rc.length + 1) c9)) := below_setFrom (B := N) (b := N) (Nat.le_refl _) [.slice (some ⟨bi, 0, none⟩) it.length ci, .slice al RR.length cl, .slice aw wk.length cw, .slice ae ex.length ce, .slice ac ch.length cc, .slice ax st.length cx, .slice (some ⟨b9, 0, none⟩) (rc.length + 1) c9] 0 wF
            have hoF : ∀ k, k ≠ N → (((((((wF.setCell ⟨N, 0, none⟩ (.slice (some ⟨bi, 0, none⟩) it.length ci)).setCell ⟨N, 1, none⟩ (.slice al RR.length cl)).setCell ⟨N, 2, none⟩ (.slice aw wk.length cw)).setCell ⟨N, 3, none⟩ (.slice ae ex.length ce)).setCell ⟨N, 4, none⟩ (.slice ac ch.length cc)).setCell ⟨N, 5, none⟩ (.slice ax st.length cx)).setCell ⟨N, 6, none⟩ (.slice (some ⟨b9, 0, none⟩) (rc.length + 1) c9)).heap[k]? = (wF).heap[k]? := fun k hk => heap_setFrom_other N k (Ne.symm hk) [.slice (some ⟨bi, 0, none⟩) it.length ci, .slice al RR.length cl, .slice aw wk.length cw, .slice ae ex.length ce, .slice ac ch.length cc, .slice ax st.length cx, .slice (some ⟨b9, 0, none⟩) (rc.length + 1) c9] 0 wF
            have hcF := hst9.cur.keep HBF hg
            have HF := only_below hst9.only (by rw [hN]; exact HBF)
            have hPF : ∀ w'', (∀ k, w.heap.size ≤ k → k < (((((((wF.setCell ⟨N, 0, none⟩ (.slice (some ⟨bi, 0, none⟩) it.length ci)).setCell ⟨N, 1, none⟩ (.slice al RR.length cl)).setCell ⟨N, 2, none⟩ (.slice aw wk.length cw)).setCell ⟨N, 3, none⟩ (.slice ae ex.length ce)).setCell ⟨N, 4, none⟩ (.slice ac ch.length cc)).setCell ⟨N, 5, none⟩ (.slice ax st.length cx)).setCell ⟨N, 6, none⟩ (.slice (some ⟨b9, 0, none⟩) (rc.length + 1) c9)).heap.size → w''.heap[k]? = (((((((wF.setCell ⟨N, 0, none⟩ (.slice (some ⟨bi, 0, none⟩) it.length ci)).setCell ⟨N, 1, none⟩ (.slice al RR.length cl)).setCell ⟨N, 2, none⟩ (.slice aw wk.length cw)).setCell ⟨N, 3, none⟩ (.slice ae ex.length ce)).setCell ⟨N, 4, none⟩ (.slice ac ch.length cc)).setCell ⟨N, 5, none⟩ (.slice ax st.length cx)).setCell ⟨N, 6, none⟩ (.slice (some ⟨b9, 0, none⟩) (rc.length + 1) c9)).heap[k]?) → PlantIn w'' (⟨⟨some ⟨bi, 0, none⟩, it.length, ci⟩, ⟨al, RR.length, cl⟩, ⟨aw, wk.length, cw⟩, ⟨ae, ex.length, ce⟩, ⟨ac, ch.length, cc⟩, ⟨ax, st.length, cx⟩, ⟨(some ⟨b9, 0, none⟩), (rc.length + 1), c9⟩⟩ : PtR) (⟨it, ls, wk, ex, ch, st, (rc ++ [(sc, dy, qs)])⟩ : Pt) := fun w'' ho => hF.plant2 (fun k hk hl => (ho k (by omega) (Nat.lt_of_lt_of_le hl HBF.size)).trans (hoF k (by omega))) (by show it.length ≤ 100; omega) (by show ls.length ≤ 100; omega) (by show wk.length ≤ 100; omega) (by show ex.length ≤ 100; omega) (by show ch.length ≤ 100; omega) (by show (st : List Nd).length ≤ 100; omega) (by show ((rc ++ [(sc, dy, qs)]) : List Rc).length ≤ 100; simp; omega)
            have hbiN : N + 1 ≤ bi := own_block hst9.it bi rfl
            have hLo : ∀ a, (some (⟨bi, 0, none⟩ : Addr)) = some a → w.heap.size ≤ a.block := fun a ha => by have h1 := Option.some.inj ha; rw [← h1]; show w.heap.size ≤ bi; omega
            clear hF hoF HBF hst9
            go_wp2_with fail
            refine bodyPost_ret (v := .agg #[.slice (some ⟨bi, 0, none⟩) it.length ci, .slice al RR.length cl, .slice aw wk.length cw, .slice ae ex.length ce, .slice ac ch.length cc, .slice ax st.length cx, .slice (some ⟨b9, 0, none⟩) (rc.length + 1) c9]) (by simp [results, Try.results31, go_sem, q0, q1, q2, q3, q4, q5, q6]) rfl ?_
            exact ⟨(⟨⟨some ⟨bi, 0, none⟩, it.length, ci⟩, ⟨al, RR.length, cl⟩, ⟨aw, wk.length, cw⟩, ⟨ae, ex.length, ce⟩, ⟨ac, ch.length, cc⟩, ⟨ax, st.length, cx⟩, ⟨(some ⟨b9, 0, none⟩), (rc.length + 1), c9⟩⟩ : PtR), (⟨it, ls, wk, ex, ch, st, (rc ++ [(sc, dy, qs)])⟩ : Pt), rfl, ⟨HOKI.out, HOKL.out, HOKC.out, HOS.out, all_snoc HOR.out hsc⟩, hit1, hit6, hLo, hcF, HF, hPF⟩
          · skip
            go_simp
            go_at_call 55
            refine (l1Odd_any _ _ _ hst.cur).mono ?_
            rintro e wp3 ⟨qs, rfl, _, hcp, HOp⟩
            replace hst := hst.call hcp HOp
            go_simp
            refine hK.out _ _ (⟨hcp, hHeld.2.trans HOp⟩) (fun hHeld => ?_)
            clear hK K
            refine held1 8 (some 71) hHeld ?_
            refine wpAnyH_ready (rs := [1, 9]) (by kernel_rfl) (by simp) ?_
            refine AllReadyH.cons rfl (fun K hK => ?_) (AllReadyH.cons rfl (fun K hK => ?_) (AllReadyH.nil))
            · skip
              have yr := hst.cp.2.1 6 _ rfl
              go_simp
              refine hK.out _ _ (hHeld) (fun hHeld => ?_)
              clear hK K
              try simp only [Act.put, List.setIfInBounds_toArray, List.set_cons_zero, List.set_cons_succ]
              clear yr
              refine held_do 9 fun K hK => ?_
              go_simp
              refine hK.out _ _ (⟨hHeld.1.keep (below_alloc _ (.cells #[.string sc, .int .i64 dy, .int .i64 qs] 100)) hHeld.1.lt, hHeld.2.trans (Only.of_below (below_alloc _ (.cells #[.string sc, .int .i64 dy, .int .i64 qs] 100)))⟩) (fun hHeld => ?_)
              clear hK K
              try simp only [Act.put, List.setIfInBounds_toArray, List.set_cons_zero, List.set_cons_succ]
              replace hst := hst.alloc (.cells #[.string sc, .int .i64 dy, .int .i64 qs] 100)
              refine held_do 10 fun K hK => ?_
              refine step_append_rows receiptElem rcOne rfl (.tmp 64) (.tmp 72) rfl _ (lo := P + 1) (l := rc) rfl hst.rc (by omega) rfl (lit_row (F := rcF) (by simp) #[.string sc, .int .i64 dy, .int .i64 qs] (sc, dy, qs) rfl) (by have := hst.cp.1; simp at this ⊢; omega) ?_
              intro v9 w9 hr9 hg9
              obtain ⟨b9, c9, rfl⟩ := hr9.some_of (n := rc.length) (by simp)
              have hB9 := RowVal.below hst.rc hg9 (Nat.le_refl _) (by have := hst.cp.1; simp at this ⊢; omega)
              obtain ⟨hst9, c5, f5⟩ := hst.putR hg9 hr9
              have hCur9 := hHeld.1.keep hB9 (by omega)
              have hOnl9 := only_below hHeld.2 (hB9.mono (show w.heap.size ≤ P + 1 by omega))
              refine hK.out _ _ (⟨hCur9, hOnl9⟩) (fun hHeld => ?_)
              clear hK K
              try simp only [Act.put, List.setIfInBounds_toArray]
              refine held_on 11 (some 74) rfl rfl (by kernel_rfl) (by kernel_rfl) (by kernel_rfl) (fun _ _ _ h => h) (by rfl) hHeld (v := ?v44) ?y44 ?r44
              case y44 => intro w hSw; (try dsimp only at hSw); go_simp; (try with_reducible rfl)
              try simp only [Act.put]
              refine held_do 12 fun K hK => ?_
              go_simp
              refine hK.out _ _ (⟨hst9.cur, hst9.only⟩) (fun hHeld => ?_)
              clear hK K
              try simp only [Act.put, List.setIfInBounds_toArray, List.set_cons_zero, List.set_cons_succ]
              refine wpAnyH_done (by kernel_rfl) ?_ _
              generalize (w9.setCell ⟨P, 6, none⟩ (.slice (some ⟨b9, 0, none⟩) (rc.length + 1) c9)) = wF at *
              clear c5 f5 hB9 hr9 hg9 hCur9 hOnl9 hHeld hst
              have hF : PlSt w base g N P (⟨⟨some ⟨bi, 0, none⟩, it.length, ci⟩, ⟨al, RR.length, cl⟩, ⟨aw, wk.length, cw⟩, ⟨ae, ex.length, ce⟩, ⟨ac, ch.length, cc⟩, ⟨ax, st.length, cx⟩, ⟨(some ⟨b9, 0, none⟩), (rc.length + 1), c9⟩⟩ : PtR) (⟨it, ls, wk, ex, ch, st, (rc ++ [(sc, dy, qs)])⟩ : Pt) RR (.slice ax st.length cx) (.slice (some ⟨b9, 0, none⟩) (rc.length + 1) c9) st (rc ++ [(sc, dy, qs)]) wF := ⟨hst9.cur, hst9.only, hst9.gN, hst9.NP, hst9.sz, hst9.cp, hst9.cn, hst9.it, hst9.wk, hst9.ex, hst9.ch, hst9.itb, hst9.wkb, hst9.exb, hst9.chb, hst9.ls, hst9.cs, hst9.st, hst9.rc⟩
              have b0 : wF.cell? ⟨P, 0, none⟩ = some (.slice (some ⟨bi, 0, none⟩) it.length ci) := hst9.cp.2.1 0 _ rfl
              have q0 := hst9.cn.2.1 0 _ rfl
              have f0 := hst9.cn.2.2 0
              have b1 : wF.cell? ⟨P, 1, none⟩ = some (.slice al RR.length cl) := hst9.cp.2.1 1 _ rfl
              have q1 := hst9.cn.2.1 1 _ rfl
              have f1 := hst9.cn.2.2 1
              have b2 : wF.cell? ⟨P, 2, none⟩ = some (.slice aw wk.length cw) := hst9.cp.2.1 2 _ rfl
              have q2 := hst9.cn.2.1 2 _ rfl
              have f2 := hst9.cn.2.2 2
              have b3 : wF.cell? ⟨P, 3, none⟩ = some (.slice ae ex.length ce) := hst9.cp.2.1 3 _ rfl
              have q3 := hst9.cn.2.1 3 _ rfl
              have f3 := hst9.cn.2.2 3
              have b4 : wF.cell? ⟨P, 4, none⟩ = some (.slice ac ch.length cc) := hst9.cp.2.1 4 _ rfl
              have q4 := hst9.cn.2.1 4 _ rfl
              have f4 := hst9.cn.2.2 4
              have b5 : wF.cell? ⟨P, 5, none⟩ = some (.slice ax st.length cx) := hst9.cp.2.1 5 _ rfl
              have q5 := hst9.cn.2.1 5 _ rfl
              have f5 := hst9.cn.2.2 5
              have b6 : wF.cell? ⟨P, 6, none⟩ = some (.slice (some ⟨b9, 0, none⟩) (rc.length + 1) c9) := hst9.cp.2.1 6 _ rfl
              have q6 := hst9.cn.2.1 6 _ rfl
              have f6 := hst9.cn.2.2 6
              have HBF : Below N (wF) (((((((wF.setCell ⟨N, 0, none⟩ (.slice (some ⟨bi, 0, none⟩) it.length ci)).setCell ⟨N, 1, none⟩ (.slice al RR.length cl)).setCell ⟨N, 2, none⟩ (.slice aw wk.length cw)).setCell ⟨N, 3, none⟩ (.slice ae ex.length ce)).setCell ⟨N, 4, none⟩ (.slice ac ch.length cc)).setCell ⟨N, 5, none⟩ (.slice ax st.length cx)).setCell ⟨N, 6, none⟩ (.slice (some ⟨b9, 0, none⟩) (rc.length + 1) c9)) := below_setFrom (B := N) (b := N) (Nat.le_refl _) [.slice (some ⟨bi, 0, none⟩) it.length ci, .slice al RR.length cl, .slice aw wk.length cw, .slice ae ex.length ce, .slice ac ch.length cc, .slice ax st.length cx, .slice (some ⟨b9, 0, none⟩) (rc.length + 1) c9] 0 wF
              have hoF : ∀ k, k ≠ N → (((((((wF.setCell ⟨N, 0, none⟩ (.slice (some ⟨bi, 0, none⟩) it.length ci)).setCell ⟨N, 1, none⟩ (.slice al RR.length cl)).setCell ⟨N, 2, none⟩ (.slice aw wk.length cw)).setCell ⟨N, 3, none⟩ (.slice ae ex.length ce)).setCell ⟨N, 4, none⟩ (.slice ac ch.length cc)).setCell ⟨N, 5, none⟩ (.slice ax st.length cx)).setCell ⟨N, 6, none⟩ (.slice (some ⟨b9, 0, none⟩) (rc.length + 1) c9)).heap[k]? = (wF).heap[k]? := fun k hk => heap_setFrom_other N k (Ne.symm hk) [.slice (some ⟨bi, 0, none⟩) it.length ci, .slice al RR.length cl, .slice aw wk.length cw, .slice ae ex.length ce, .slice ac ch.length cc, .slice ax st.length cx, .slice (some ⟨b9, 0, none⟩) (rc.length + 1) c9] 0 wF
              have hcF := hst9.cur.keep HBF hg
              have HF := only_below hst9.only (by rw [hN]; exact HBF)
              have hPF : ∀ w'', (∀ k, w.heap.size ≤ k → k < (((((((wF.setCell ⟨N, 0, none⟩ (.slice (some ⟨bi, 0, none⟩) it.length ci)).setCell ⟨N, 1, none⟩ (.slice al RR.length cl)).setCell ⟨N, 2, none⟩ (.slice aw wk.length cw)).setCell ⟨N, 3, none⟩ (.slice ae ex.length ce)).setCell ⟨N, 4, none⟩ (.slice ac ch.length cc)).setCell ⟨N, 5, none⟩ (.slice ax st.length cx)).setCell ⟨N, 6, none⟩ (.slice (some ⟨b9, 0, none⟩) (rc.length + 1) c9)).heap.size → w''.heap[k]? = (((((((wF.setCell ⟨N, 0, none⟩ (.slice (some ⟨bi, 0, none⟩) it.length ci)).setCell ⟨N, 1, none⟩ (.slice al RR.length cl)).setCell ⟨N, 2, none⟩ (.slice aw wk.length cw)).setCell ⟨N, 3, none⟩ (.slice ae ex.length ce)).setCell ⟨N, 4, none⟩ (.slice ac ch.length cc)).setCell ⟨N, 5, none⟩ (.slice ax st.length cx)).setCell ⟨N, 6, none⟩ (.slice (some ⟨b9, 0, none⟩) (rc.length + 1) c9)).heap[k]?) → PlantIn w'' (⟨⟨some ⟨bi, 0, none⟩, it.length, ci⟩, ⟨al, RR.length, cl⟩, ⟨aw, wk.length, cw⟩, ⟨ae, ex.length, ce⟩, ⟨ac, ch.length, cc⟩, ⟨ax, st.length, cx⟩, ⟨(some ⟨b9, 0, none⟩), (rc.length + 1), c9⟩⟩ : PtR) (⟨it, ls, wk, ex, ch, st, (rc ++ [(sc, dy, qs)])⟩ : Pt) := fun w'' ho => hF.plant2 (fun k hk hl => (ho k (by omega) (Nat.lt_of_lt_of_le hl HBF.size)).trans (hoF k (by omega))) (by show it.length ≤ 100; omega) (by show ls.length ≤ 100; omega) (by show wk.length ≤ 100; omega) (by show ex.length ≤ 100; omega) (by show ch.length ≤ 100; omega) (by show (st : List Nd).length ≤ 100; omega) (by show ((rc ++ [(sc, dy, qs)]) : List Rc).length ≤ 100; simp; omega)
              have hbiN : N + 1 ≤ bi := own_block hst9.it bi rfl
              have hLo : ∀ a, (some (⟨bi, 0, none⟩ : Addr)) = some a → w.heap.size ≤ a.block := fun a ha => by have h1 := Option.some.inj ha; rw [← h1]; show w.heap.size ≤ bi; omega
              clear hF hoF HBF hst9
              go_wp2_with fail
              refine bodyPost_ret (v := .agg #[.slice (some ⟨bi, 0, none⟩) it.length ci, .slice al RR.length cl, .slice aw wk.length cw, .slice ae ex.length ce, .slice ac ch.length cc, .slice ax st.length cx, .slice (some ⟨b9, 0, none⟩) (rc.length + 1) c9]) (by simp [results, Try.results31, go_sem, q0, q1, q2, q3, q4, q5, q6]) rfl ?_
              exact ⟨(⟨⟨some ⟨bi, 0, none⟩, it.length, ci⟩, ⟨al, RR.length, cl⟩, ⟨aw, wk.length, cw⟩, ⟨ae, ex.length, ce⟩, ⟨ac, ch.length, cc⟩, ⟨ax, st.length, cx⟩, ⟨(some ⟨b9, 0, none⟩), (rc.length + 1), c9⟩⟩ : PtR), (⟨it, ls, wk, ex, ch, st, (rc ++ [(sc, dy, qs)])⟩ : Pt), rfl, ⟨HOKI.out, HOKL.out, HOKC.out, HOS.out, all_snoc HOR.out hsc⟩, hit1, hit6, hLo, hcF, HF, hPF⟩
            · skip
              go_simp
              refine hK.out _ _ (⟨hHeld.1.keep (below_alloc _ (.cells #[.string sc, .int .i64 dy, .int .i64 qs] 100)) hHeld.1.lt, hHeld.2.trans (Only.of_below (below_alloc _ (.cells #[.string sc, .int .i64 dy, .int .i64 qs] 100)))⟩) (fun hHeld => ?_)
              clear hK K
              try simp only [Act.put, List.setIfInBounds_toArray, List.set_cons_zero, List.set_cons_succ]
              replace hst := hst.alloc (.cells #[.string sc, .int .i64 dy, .int .i64 qs] 100)
              refine held_do 1 fun K hK => ?_
              have yr := hst.cp.2.1 6 _ rfl
              go_simp
              refine hK.out _ _ (hHeld) (fun hHeld => ?_)
              clear hK K
              try simp only [Act.put, List.setIfInBounds_toArray, List.set_cons_zero, List.set_cons_succ]
              clear yr
              refine held_do 10 fun K hK => ?_
              refine step_append_rows receiptElem rcOne rfl (.tmp 64) (.tmp 72) rfl _ (lo := P + 1) (l := rc) rfl hst.rc (by omega) rfl (lit_row (F := rcF) (by simp) #[.string sc, .int .i64 dy, .int .i64 qs] (sc, dy, qs) rfl) (by have := hst.cp.1; simp at this ⊢; omega) ?_
              intro v9 w9 hr9 hg9
              obtain ⟨b9, c9, rfl⟩ := hr9.some_of (n := rc.length) (by simp)
              have hB9 := RowVal.below hst.rc hg9 (Nat.le_refl _) (by have := hst.cp.1; simp at this ⊢; omega)
              obtain ⟨hst9, c5, f5⟩ := hst.putR hg9 hr9
              have hCur9 := hHeld.1.keep hB9 (by omega)
              have hOnl9 := only_below hHeld.2 (hB9.mono (show w.heap.size ≤ P + 1 by omega))
              refine hK.out _ _ (⟨hCur9, hOnl9⟩) (fun hHeld => ?_)
              clear hK K
              try simp only [Act.put, List.setIfInBounds_toArray]
              refine held_on 11 (some 74) rfl rfl (by kernel_rfl) (by kernel_rfl) (by kernel_rfl) (fun _ _ _ h => h) (by rfl) hHeld (v := ?v45) ?y45 ?r45
              case y45 => intro w hSw; (try dsimp only at hSw); go_simp; (try with_reducible rfl)
              try simp only [Act.put]
              refine held_do 12 fun K hK => ?_
              go_simp
              refine hK.out _ _ (⟨hst9.cur, hst9.only⟩) (fun hHeld => ?_)
              clear hK K
              try simp only [Act.put, List.setIfInBounds_toArray, List.set_cons_zero, List.set_cons_succ]
              refine wpAnyH_done (by kernel_rfl) ?_ _
              generalize (w9.setCell ⟨P, 6, none⟩ (.slice (some ⟨b9, 0, none⟩) (rc.length + 1) c9)) = wF at *
              clear c5 f5 hB9 hr9 hg9 hCur9 hOnl9 hHeld hst
              have hF : PlSt w base g N P (⟨⟨some ⟨bi, 0, none⟩, it.length, ci⟩, ⟨al, RR.length, cl⟩, ⟨aw, wk.length, cw⟩, ⟨ae, ex.length, ce⟩, ⟨ac, ch.length, cc⟩, ⟨ax, st.length, cx⟩, ⟨(some ⟨b9, 0, none⟩), (rc.length + 1), c9⟩⟩ : PtR) (⟨it, ls, wk, ex, ch, st, (rc ++ [(sc, dy, qs)])⟩ : Pt) RR (.slice ax st.length cx) (.slice (some ⟨b9, 0, none⟩) (rc.length + 1) c9) st (rc ++ [(sc, dy, qs)]) wF := ⟨hst9.cur, hst9.only, hst9.gN, hst9.NP, hst9.sz, hst9.cp, hst9.cn, hst9.it, hst9.wk, hst9.ex, hst9.ch, hst9.itb, hst9.wkb, hst9.exb, hst9.chb, hst9.ls, hst9.cs, hst9.st, hst9.rc⟩
              have b0 : wF.cell? ⟨P, 0, none⟩ = some (.slice (some ⟨bi, 0, none⟩) it.length ci) := hst9.cp.2.1 0 _ rfl
              have q0 := hst9.cn.2.1 0 _ rfl
              have f0 := hst9.cn.2.2 0
              have b1 : wF.cell? ⟨P, 1, none⟩ = some (.slice al RR.length cl) := hst9.cp.2.1 1 _ rfl
              have q1 := hst9.cn.2.1 1 _ rfl
              have f1 := hst9.cn.2.2 1
              have b2 : wF.cell? ⟨P, 2, none⟩ = some (.slice aw wk.length cw) := hst9.cp.2.1 2 _ rfl
              have q2 := hst9.cn.2.1 2 _ rfl
              have f2 := hst9.cn.2.2 2
              have b3 : wF.cell? ⟨P, 3, none⟩ = some (.slice ae ex.length ce) := hst9.cp.2.1 3 _ rfl
              have q3 := hst9.cn.2.1 3 _ rfl
              have f3 := hst9.cn.2.2 3
              have b4 : wF.cell? ⟨P, 4, none⟩ = some (.slice ac ch.length cc) := hst9.cp.2.1 4 _ rfl
              have q4 := hst9.cn.2.1 4 _ rfl
              have f4 := hst9.cn.2.2 4
              have b5 : wF.cell? ⟨P, 5, none⟩ = some (.slice ax st.length cx) := hst9.cp.2.1 5 _ rfl
              have q5 := hst9.cn.2.1 5 _ rfl
              have f5 := hst9.cn.2.2 5
              have b6 : wF.cell? ⟨P, 6, none⟩ = some (.slice (some ⟨b9, 0, none⟩) (rc.length + 1) c9) := hst9.cp.2.1 6 _ rfl
              have q6 := hst9.cn.2.1 6 _ rfl
              have f6 := hst9.cn.2.2 6
              have HBF : Below N (wF) (((((((wF.setCell ⟨N, 0, none⟩ (.slice (some ⟨bi, 0, none⟩) it.length ci)).setCell ⟨N, 1, none⟩ (.slice al RR.length cl)).setCell ⟨N, 2, none⟩ (.slice aw wk.length cw)).setCell ⟨N, 3, none⟩ (.slice ae ex.length ce)).setCell ⟨N, 4, none⟩ (.slice ac ch.length cc)).setCell ⟨N, 5, none⟩ (.slice ax st.length cx)).setCell ⟨N, 6, none⟩ (.slice (some ⟨b9, 0, none⟩) (rc.length + 1) c9)) := below_setFrom (B := N) (b := N) (Nat.le_refl _) [.slice (some ⟨bi, 0, none⟩) it.length ci, .slice al RR.length cl, .slice aw wk.length cw, .slice ae ex.length ce, .slice ac ch.length cc, .slice ax st.length cx, .slice (some ⟨b9, 0, none⟩) (rc.length + 1) c9] 0 wF
              have hoF : ∀ k, k ≠ N → (((((((wF.setCell ⟨N, 0, none⟩ (.slice (some ⟨bi, 0, none⟩) it.length ci)).setCell ⟨N, 1, none⟩ (.slice al RR.length cl)).setCell ⟨N, 2, none⟩ (.slice aw wk.length cw)).setCell ⟨N, 3, none⟩ (.slice ae ex.length ce)).setCell ⟨N, 4, none⟩ (.slice ac ch.length cc)).setCell ⟨N, 5, none⟩ (.slice ax st.length cx)).setCell ⟨N, 6, none⟩ (.slice (some ⟨b9, 0, none⟩) (rc.length + 1) c9)).heap[k]? = (wF).heap[k]? := fun k hk => heap_setFrom_other N k (Ne.symm hk) [.slice (some ⟨bi, 0, none⟩) it.length ci, .slice al RR.length cl, .slice aw wk.length cw, .slice ae ex.length ce, .slice ac ch.length cc, .slice ax st.length cx, .slice (some ⟨b9, 0, none⟩) (rc.length + 1) c9] 0 wF
              have hcF := hst9.cur.keep HBF hg
              have HF := only_below hst9.only (by rw [hN]; exact HBF)
              have hPF : ∀ w'', (∀ k, w.heap.size ≤ k → k < (((((((wF.setCell ⟨N, 0, none⟩ (.slice (some ⟨bi, 0, none⟩) it.length ci)).setCell ⟨N, 1, none⟩ (.slice al RR.length cl)).setCell ⟨N, 2, none⟩ (.slice aw wk.length cw)).setCell ⟨N, 3, none⟩ (.slice ae ex.length ce)).setCell ⟨N, 4, none⟩ (.slice ac ch.length cc)).setCell ⟨N, 5, none⟩ (.slice ax st.length cx)).setCell ⟨N, 6, none⟩ (.slice (some ⟨b9, 0, none⟩) (rc.length + 1) c9)).heap.size → w''.heap[k]? = (((((((wF.setCell ⟨N, 0, none⟩ (.slice (some ⟨bi, 0, none⟩) it.length ci)).setCell ⟨N, 1, none⟩ (.slice al RR.length cl)).setCell ⟨N, 2, none⟩ (.slice aw wk.length cw)).setCell ⟨N, 3, none⟩ (.slice ae ex.length ce)).setCell ⟨N, 4, none⟩ (.slice ac ch.length cc)).setCell ⟨N, 5, none⟩ (.slice ax st.length cx)).setCell ⟨N, 6, none⟩ (.slice (some ⟨b9, 0, none⟩) (rc.length + 1) c9)).heap[k]?) → PlantIn w'' (⟨⟨some ⟨bi, 0, none⟩, it.length, ci⟩, ⟨al, RR.length, cl⟩, ⟨aw, wk.length, cw⟩, ⟨ae, ex.length, ce⟩, ⟨ac, ch.length, cc⟩, ⟨ax, st.length, cx⟩, ⟨(some ⟨b9, 0, none⟩), (rc.length + 1), c9⟩⟩ : PtR) (⟨it, ls, wk, ex, ch, st, (rc ++ [(sc, dy, qs)])⟩ : Pt) := fun w'' ho => hF.plant2 (fun k hk hl => (ho k (by omega) (Nat.lt_of_lt_of_le hl HBF.size)).trans (hoF k (by omega))) (by show it.length ≤ 100; omega) (by show ls.length ≤ 100; omega) (by show wk.length ≤ 100; omega) (by show ex.length ≤ 100; omega) (by show ch.length ≤ 100; omega) (by show (st : List Nd).length ≤ 100; omega) (by show ((rc ++ [(sc, dy, qs)]) : List Rc).length ≤ 100; simp; omega)
              have hbiN : N + 1 ≤ bi := own_block hst9.it bi rfl
              have hLo : ∀ a, (some (⟨bi, 0, none⟩ : Addr)) = some a → w.heap.size ≤ a.block := fun a ha => by have h1 := Option.some.inj ha; rw [← h1]; show w.heap.size ≤ bi; omega
              clear hF hoF HBF hst9
              go_wp2_with fail
              refine bodyPost_ret (v := .agg #[.slice (some ⟨bi, 0, none⟩) it.length ci, .slice al RR.length cl, .slice aw wk.length cw, .slice ae ex.length ce, .slice ac ch.length cc, .slice ax st.length cx, .slice (some ⟨b9, 0, none⟩) (rc.length + 1) c9]) (by simp [results, Try.results31, go_sem, q0, q1, q2, q3, q4, q5, q6]) rfl ?_
              exact ⟨(⟨⟨some ⟨bi, 0, none⟩, it.length, ci⟩, ⟨al, RR.length, cl⟩, ⟨aw, wk.length, cw⟩, ⟨ae, ex.length, ce⟩, ⟨ac, ch.length, cc⟩, ⟨ax, st.length, cx⟩, ⟨(some ⟨b9, 0, none⟩), (rc.length + 1), c9⟩⟩ : PtR), (⟨it, ls, wk, ex, ch, st, (rc ++ [(sc, dy, qs)])⟩ : Pt), rfl, ⟨HOKI.out, HOKL.out, HOKC.out, HOS.out, all_snoc HOR.out hsc⟩, hit1, hit6, hLo, hcF, HF, hPF⟩
    · go_upto_region 14 with fail
      obtain ⟨ar, cr, rfl, _⟩ := hst.rc.form
      refine wp_region_held_drew (S := fun w' => CurAt w' base g ∧ Only g (g + 1) w w') (by kernel_rfl) (⟨hst.cur, only_drewN hst.only 1⟩) (fun hHeld => ?_)
      replace hst := hst.drew
      refine held1 0 (some 77) hHeld ?_
      refine held1 2 (some 79) hHeld ?_
      refine wpAnyH_ready (rs := [1, 3]) (by kernel_rfl) (by simp) ?_
      refine AllReadyH.cons rfl (fun K hK => ?_) (AllReadyH.cons rfl (fun K hK => ?_) (AllReadyH.nil))
      · skip
        have yr := hst.cp.2.1 5 _ rfl
        go_simp
        refine hK.out _ _ (hHeld) (fun hHeld => ?_)
        clear hK K
        try simp only [Act.put, List.setIfInBounds_toArray, List.set_cons_zero, List.set_cons_succ]
        clear yr
        refine held_do 3 fun K hK => ?_
        go_simp
        go_at_call 14
        refine (l1Code_any _ _ _ hst.cur).mono ?_
        rintro e wp1 ⟨sc, rfl, hsc, hcp, HOp⟩
        replace hst := hst.call hcp HOp
        go_simp
        refine hK.out _ _ (⟨hcp, hHeld.2.trans HOp⟩) (fun hHeld => ?_)
        clear hK K
        refine held1 4 (some 81) hHeld ?_
        refine held_do 5 fun K hK => ?_
        go_simp
        refine hK.out _ _ (⟨hHeld.1.keep (below_alloc _ (.cells #[.string sc, .int .i64 4] 70)) hHeld.1.lt, hHeld.2.trans (Only.of_below (below_alloc _ (.cells #[.string sc, .int .i64 4] 70)))⟩) (fun hHeld => ?_)
        clear hK K
        try simp only [Act.put, List.setIfInBounds_toArray, List.set_cons_zero, List.set_cons_succ]
        replace hst := hst.alloc (.cells #[.string sc, .int .i64 4] 70)
        refine held_do 6 fun K hK => ?_
        refine step_append_rows needElem ndOne rfl (.tmp 78) (.tmp 82) rfl _ (lo := P + 1) (l := st) rfl hst.st (by omega) rfl (lit_row (F := ndF) (by simp) #[.string sc, .int .i64 4] (sc, 4) rfl) (by have := hst.cp.1; simp at this ⊢; omega) ?_
        intro v9 w9 hr9 hg9
        obtain ⟨b9, c9, rfl⟩ := hr9.some_of (n := st.length) (by simp)
        have hB9 := RowVal.below hst.st hg9 (Nat.le_refl _) (by have := hst.cp.1; simp at this ⊢; omega)
        obtain ⟨hst9, c5, f5⟩ := hst.putS hg9 hr9
        have hCur9 := hHeld.1.keep hB9 (by omega)
        have hOnl9 := only_below hHeld.2 (hB9.mono (show w.heap.size ≤ P + 1 by omega))
        refine hK.out _ _ (⟨hCur9, hOnl9⟩) (fun hHeld => ?_)
        clear hK K
        try simp only [Act.put, List.setIfInBounds_toArray]
        refine held_on 7 (some 84) rfl rfl (by kernel_rfl) (by kernel_rfl) (by kernel_rfl) (fun _ _ _ h => h) (by rfl) hHeld (v := ?v49) ?y49 ?r49
        case y49 => intro w hSw; (try dsimp only at hSw); go_simp; (try with_reducible rfl)
        try simp only [Act.put]
        refine held_do 8 fun K hK => ?_
        go_simp
        refine hK.out _ _ (⟨hst9.cur, hst9.only⟩) (fun hHeld => ?_)
        clear hK K
        try simp only [Act.put, List.setIfInBounds_toArray, List.set_cons_zero, List.set_cons_succ]
        refine wpAnyH_done (by kernel_rfl) ?_ _
        generalize (w9.setCell ⟨P, 5, none⟩ (.slice (some ⟨b9, 0, none⟩) (st.length + 1) c9)) = wF at *
        clear c5 f5 hB9 hr9 hg9 hCur9 hOnl9 hHeld hst
        have hF : PlSt w base g N P (⟨⟨some ⟨bi, 0, none⟩, it.length, ci⟩, ⟨al, RR.length, cl⟩, ⟨aw, wk.length, cw⟩, ⟨ae, ex.length, ce⟩, ⟨ac, ch.length, cc⟩, ⟨(some ⟨b9, 0, none⟩), (st.length + 1), c9⟩, ⟨ar, rc.length, cr⟩⟩ : PtR) (⟨it, ls, wk, ex, ch, (st ++ [(sc, 4)]), rc⟩ : Pt) RR (.slice (some ⟨b9, 0, none⟩) (st.length + 1) c9) (.slice ar rc.length cr) (st ++ [(sc, 4)]) rc wF := ⟨hst9.cur, hst9.only, hst9.gN, hst9.NP, hst9.sz, hst9.cp, hst9.cn, hst9.it, hst9.wk, hst9.ex, hst9.ch, hst9.itb, hst9.wkb, hst9.exb, hst9.chb, hst9.ls, hst9.cs, hst9.st, hst9.rc⟩
        have b0 : wF.cell? ⟨P, 0, none⟩ = some (.slice (some ⟨bi, 0, none⟩) it.length ci) := hst9.cp.2.1 0 _ rfl
        have q0 := hst9.cn.2.1 0 _ rfl
        have f0 := hst9.cn.2.2 0
        have b1 : wF.cell? ⟨P, 1, none⟩ = some (.slice al RR.length cl) := hst9.cp.2.1 1 _ rfl
        have q1 := hst9.cn.2.1 1 _ rfl
        have f1 := hst9.cn.2.2 1
        have b2 : wF.cell? ⟨P, 2, none⟩ = some (.slice aw wk.length cw) := hst9.cp.2.1 2 _ rfl
        have q2 := hst9.cn.2.1 2 _ rfl
        have f2 := hst9.cn.2.2 2
        have b3 : wF.cell? ⟨P, 3, none⟩ = some (.slice ae ex.length ce) := hst9.cp.2.1 3 _ rfl
        have q3 := hst9.cn.2.1 3 _ rfl
        have f3 := hst9.cn.2.2 3
        have b4 : wF.cell? ⟨P, 4, none⟩ = some (.slice ac ch.length cc) := hst9.cp.2.1 4 _ rfl
        have q4 := hst9.cn.2.1 4 _ rfl
        have f4 := hst9.cn.2.2 4
        have b5 : wF.cell? ⟨P, 5, none⟩ = some (.slice (some ⟨b9, 0, none⟩) (st.length + 1) c9) := hst9.cp.2.1 5 _ rfl
        have q5 := hst9.cn.2.1 5 _ rfl
        have f5 := hst9.cn.2.2 5
        have b6 : wF.cell? ⟨P, 6, none⟩ = some (.slice ar rc.length cr) := hst9.cp.2.1 6 _ rfl
        have q6 := hst9.cn.2.1 6 _ rfl
        have f6 := hst9.cn.2.2 6
        have HBF : Below N (wF) (((((((wF.setCell ⟨N, 0, none⟩ (.slice (some ⟨bi, 0, none⟩) it.length ci)).setCell ⟨N, 1, none⟩ (.slice al RR.length cl)).setCell ⟨N, 2, none⟩ (.slice aw wk.length cw)).setCell ⟨N, 3, none⟩ (.slice ae ex.length ce)).setCell ⟨N, 4, none⟩ (.slice ac ch.length cc)).setCell ⟨N, 5, none⟩ (.slice (some ⟨b9, 0, none⟩) (st.length + 1) c9)).setCell ⟨N, 6, none⟩ (.slice ar rc.length cr)) := below_setFrom (B := N) (b := N) (Nat.le_refl _) [.slice (some ⟨bi, 0, none⟩) it.length ci, .slice al RR.length cl, .slice aw wk.length cw, .slice ae ex.length ce, .slice ac ch.length cc, .slice (some ⟨b9, 0, none⟩) (st.length + 1) c9, .slice ar rc.length cr] 0 wF
        have hoF : ∀ k, k ≠ N → (((((((wF.setCell ⟨N, 0, none⟩ (.slice (some ⟨bi, 0, none⟩) it.length ci)).setCell ⟨N, 1, none⟩ (.slice al RR.length cl)).setCell ⟨N, 2, none⟩ (.slice aw wk.length cw)).setCell ⟨N, 3, none⟩ (.slice ae ex.length ce)).setCell ⟨N, 4, none⟩ (.slice ac ch.length cc)).setCell ⟨N, 5, none⟩ (.slice (some ⟨b9, 0, none⟩) (st.length + 1) c9)).setCell ⟨N, 6, none⟩ (.slice ar rc.length cr)).heap[k]? = (wF).heap[k]? := fun k hk => heap_setFrom_other N k (Ne.symm hk) [.slice (some ⟨bi, 0, none⟩) it.length ci, .slice al RR.length cl, .slice aw wk.length cw, .slice ae ex.length ce, .slice ac ch.length cc, .slice (some ⟨b9, 0, none⟩) (st.length + 1) c9, .slice ar rc.length cr] 0 wF
        have hcF := hst9.cur.keep HBF hg
        have HF := only_below hst9.only (by rw [hN]; exact HBF)
        have hPF : ∀ w'', (∀ k, w.heap.size ≤ k → k < (((((((wF.setCell ⟨N, 0, none⟩ (.slice (some ⟨bi, 0, none⟩) it.length ci)).setCell ⟨N, 1, none⟩ (.slice al RR.length cl)).setCell ⟨N, 2, none⟩ (.slice aw wk.length cw)).setCell ⟨N, 3, none⟩ (.slice ae ex.length ce)).setCell ⟨N, 4, none⟩ (.slice ac ch.length cc)).setCell ⟨N, 5, none⟩ (.slice (some ⟨b9, 0, none⟩) (st.length + 1) c9)).setCell ⟨N, 6, none⟩ (.slice ar rc.length cr)).heap.size → w''.heap[k]? = (((((((wF.setCell ⟨N, 0, none⟩ (.slice (some ⟨bi, 0, none⟩) it.length ci)).setCell ⟨N, 1, none⟩ (.slice al RR.length cl)).setCell ⟨N, 2, none⟩ (.slice aw wk.length cw)).setCell ⟨N, 3, none⟩ (.slice ae ex.length ce)).setCell ⟨N, 4, none⟩ (.slice ac ch.length cc)).setCell ⟨N, 5, none⟩ (.slice (some ⟨b9, 0, none⟩) (st.length + 1) c9)).setCell ⟨N, 6, none⟩ (.slice ar rc.length cr)).heap[k]?) → PlantIn w'' (⟨⟨some ⟨bi, 0, none⟩, it.length, ci⟩, ⟨al, RR.length, cl⟩, ⟨aw, wk.length, cw⟩, ⟨ae, ex.length, ce⟩, ⟨ac, ch.length, cc⟩, ⟨(some ⟨b9, 0, none⟩), (st.length + 1), c9⟩, ⟨ar, rc.length, cr⟩⟩ : PtR) (⟨it, ls, wk, ex, ch, (st ++ [(sc, 4)]), rc⟩ : Pt) := fun w'' ho => hF.plant2 (fun k hk hl => (ho k (by omega) (Nat.lt_of_lt_of_le hl HBF.size)).trans (hoF k (by omega))) (by show it.length ≤ 100; omega) (by show ls.length ≤ 100; omega) (by show wk.length ≤ 100; omega) (by show ex.length ≤ 100; omega) (by show ch.length ≤ 100; omega) (by show ((st ++ [(sc, 4)]) : List Nd).length ≤ 100; simp; omega) (by show (rc : List Rc).length ≤ 100; omega)
        have hbiN : N + 1 ≤ bi := own_block hst9.it bi rfl
        have hLo : ∀ a, (some (⟨bi, 0, none⟩ : Addr)) = some a → w.heap.size ≤ a.block := fun a ha => by have h1 := Option.some.inj ha; rw [← h1]; show w.heap.size ≤ bi; omega
        clear hF hoF HBF hst9
        go_wp2_with fail
        refine bodyPost_ret (v := .agg #[.slice (some ⟨bi, 0, none⟩) it.length ci, .slice al RR.length cl, .slice aw wk.length cw, .slice ae ex.length ce, .slice ac ch.length cc, .slice (some ⟨b9, 0, none⟩) (st.length + 1) c9, .slice ar rc.length cr]) (by simp [results, Try.results31, go_sem, q0, q1, q2, q3, q4, q5, q6]) rfl ?_
        exact ⟨(⟨⟨some ⟨bi, 0, none⟩, it.length, ci⟩, ⟨al, RR.length, cl⟩, ⟨aw, wk.length, cw⟩, ⟨ae, ex.length, ce⟩, ⟨ac, ch.length, cc⟩, ⟨(some ⟨b9, 0, none⟩), (st.length + 1), c9⟩, ⟨ar, rc.length, cr⟩⟩ : PtR), (⟨it, ls, wk, ex, ch, (st ++ [(sc, 4)]), rc⟩ : Pt), rfl, ⟨HOKI.out, HOKL.out, HOKC.out, all_snoc HOS.out hsc, HOR.out⟩, hit1, hit6, hLo, hcF, HF, hPF⟩
      · skip
        go_simp
        go_at_call 14
        refine (l1Code_any _ _ _ hst.cur).mono ?_
        rintro e wp1 ⟨sc, rfl, hsc, hcp, HOp⟩
        replace hst := hst.call hcp HOp
        go_simp
        refine hK.out _ _ (⟨hcp, hHeld.2.trans HOp⟩) (fun hHeld => ?_)
        clear hK K
        refine held1 4 (some 81) hHeld ?_
        refine wpAnyH_ready (rs := [1, 5]) (by kernel_rfl) (by simp) ?_
        refine AllReadyH.cons rfl (fun K hK => ?_) (AllReadyH.cons rfl (fun K hK => ?_) (AllReadyH.nil))
        · skip
          have yr := hst.cp.2.1 5 _ rfl
          go_simp
          refine hK.out _ _ (hHeld) (fun hHeld => ?_)
          clear hK K
          try simp only [Act.put, List.setIfInBounds_toArray, List.set_cons_zero, List.set_cons_succ]
          clear yr
          refine held_do 5 fun K hK => ?_
          go_simp
          refine hK.out _ _ (⟨hHeld.1.keep (below_alloc _ (.cells #[.string sc, .int .i64 4] 70)) hHeld.1.lt, hHeld.2.trans (Only.of_below (below_alloc _ (.cells #[.string sc, .int .i64 4] 70)))⟩) (fun hHeld => ?_)
          clear hK K
          try simp only [Act.put, List.setIfInBounds_toArray, List.set_cons_zero, List.set_cons_succ]
          replace hst := hst.alloc (.cells #[.string sc, .int .i64 4] 70)
          refine held_do 6 fun K hK => ?_
          refine step_append_rows needElem ndOne rfl (.tmp 78) (.tmp 82) rfl _ (lo := P + 1) (l := st) rfl hst.st (by omega) rfl (lit_row (F := ndF) (by simp) #[.string sc, .int .i64 4] (sc, 4) rfl) (by have := hst.cp.1; simp at this ⊢; omega) ?_
          intro v9 w9 hr9 hg9
          obtain ⟨b9, c9, rfl⟩ := hr9.some_of (n := st.length) (by simp)
          have hB9 := RowVal.below hst.st hg9 (Nat.le_refl _) (by have := hst.cp.1; simp at this ⊢; omega)
          obtain ⟨hst9, c5, f5⟩ := hst.putS hg9 hr9
          have hCur9 := hHeld.1.keep hB9 (by omega)
          have hOnl9 := only_below hHeld.2 (hB9.mono (show w.heap.size ≤ P + 1 by omega))
          refine hK.out _ _ (⟨hCur9, hOnl9⟩) (fun hHeld => ?_)
          clear hK K
          try simp only [Act.put, List.setIfInBounds_toArray]
          refine held_on 7 (some 84) rfl rfl (by kernel_rfl) (by kernel_rfl) (by kernel_rfl) (fun _ _ _ h => h) (by rfl) hHeld (v := ?v51) ?y51 ?r51
          case y51 => intro w hSw; (try dsimp only at hSw); go_simp; (try with_reducible rfl)
          try simp only [Act.put]
          refine held_do 8 fun K hK => ?_
          go_simp
          refine hK.out _ _ (⟨hst9.cur, hst9.only⟩) (fun hHeld => ?_)
          clear hK K
          try simp only [Act.put, List.setIfInBounds_toArray, List.set_cons_zero, List.set_cons_succ]
          refine wpAnyH_done (by kernel_rfl) ?_ _
          generalize (w9.setCell ⟨P, 5, none⟩ (.slice (some ⟨b9, 0, none⟩) (st.length + 1) c9)) = wF at *
          clear c5 f5 hB9 hr9 hg9 hCur9 hOnl9 hHeld hst
          have hF : PlSt w base g N P (⟨⟨some ⟨bi, 0, none⟩, it.length, ci⟩, ⟨al, RR.length, cl⟩, ⟨aw, wk.length, cw⟩, ⟨ae, ex.length, ce⟩, ⟨ac, ch.length, cc⟩, ⟨(some ⟨b9, 0, none⟩), (st.length + 1), c9⟩, ⟨ar, rc.length, cr⟩⟩ : PtR) (⟨it, ls, wk, ex, ch, (st ++ [(sc, 4)]), rc⟩ : Pt) RR (.slice (some ⟨b9, 0, none⟩) (st.length + 1) c9) (.slice ar rc.length cr) (st ++ [(sc, 4)]) rc wF := ⟨hst9.cur, hst9.only, hst9.gN, hst9.NP, hst9.sz, hst9.cp, hst9.cn, hst9.it, hst9.wk, hst9.ex, hst9.ch, hst9.itb, hst9.wkb, hst9.exb, hst9.chb, hst9.ls, hst9.cs, hst9.st, hst9.rc⟩
          have b0 : wF.cell? ⟨P, 0, none⟩ = some (.slice (some ⟨bi, 0, none⟩) it.length ci) := hst9.cp.2.1 0 _ rfl
          have q0 := hst9.cn.2.1 0 _ rfl
          have f0 := hst9.cn.2.2 0
          have b1 : wF.cell? ⟨P, 1, none⟩ = some (.slice al RR.length cl) := hst9.cp.2.1 1 _ rfl
          have q1 := hst9.cn.2.1 1 _ rfl
          have f1 := hst9.cn.2.2 1
          have b2 : wF.cell? ⟨P, 2, none⟩ = some (.slice aw wk.length cw) := hst9.cp.2.1 2 _ rfl
          have q2 := hst9.cn.2.1 2 _ rfl
          have f2 := hst9.cn.2.2 2
          have b3 : wF.cell? ⟨P, 3, none⟩ = some (.slice ae ex.length ce) := hst9.cp.2.1 3 _ rfl
          have q3 := hst9.cn.2.1 3 _ rfl
          have f3 := hst9.cn.2.2 3
          have b4 : wF.cell? ⟨P, 4, none⟩ = some (.slice ac ch.length cc) := hst9.cp.2.1 4 _ rfl
          have q4 := hst9.cn.2.1 4 _ rfl
          have f4 := hst9.cn.2.2 4
          have b5 : wF.cell? ⟨P, 5, none⟩ = some (.slice (some ⟨b9, 0, none⟩) (st.length + 1) c9) := hst9.cp.2.1 5 _ rfl
          have q5 := hst9.cn.2.1 5 _ rfl
          have f5 := hst9.cn.2.2 5
          have b6 : wF.cell? ⟨P, 6, none⟩ = some (.slice ar rc.length cr) := hst9.cp.2.1 6 _ rfl
          have q6 := hst9.cn.2.1 6 _ rfl
          have f6 := hst9.cn.2.2 6
          have HBF : Below N (wF) (((((((wF.setCell ⟨N, 0, none⟩ (.slice (some ⟨bi, 0, none⟩) it.length ci)).setCell ⟨N, 1, none⟩ (.slice al RR.length cl)).setCell ⟨N, 2, none⟩ (.slice aw wk.length cw)).setCell ⟨N, 3, none⟩ (.slice ae ex.length ce)).setCell ⟨N, 4, none⟩ (.slice ac ch.length cc)).setCell ⟨N, 5, none⟩ (.slice (some ⟨b9, 0, none⟩) (st.length + 1) c9)).setCell ⟨N, 6, none⟩ (.slice ar rc.length cr)) := below_setFrom (B := N) (b := N) (Nat.le_refl _) [.slice (some ⟨bi, 0, none⟩) it.length ci, .slice al RR.length cl, .slice aw wk.length cw, .slice ae ex.length ce, .slice ac ch.length cc, .slice (some ⟨b9, 0, none⟩) (st.length + 1) c9, .slice ar rc.length cr] 0 wF
          have hoF : ∀ k, k ≠ N → (((((((wF.setCell ⟨N, 0, none⟩ (.slice (some ⟨bi, 0, none⟩) it.length ci)).setCell ⟨N, 1, none⟩ (.slice al RR.length cl)).setCell ⟨N, 2, none⟩ (.slice aw wk.length cw)).setCell ⟨N, 3, none⟩ (.slice ae ex.length ce)).setCell ⟨N, 4, none⟩ (.slice ac ch.length cc)).setCell ⟨N, 5, none⟩ (.slice (some ⟨b9, 0, none⟩) (st.length + 1) c9)).setCell ⟨N, 6, none⟩ (.slice ar rc.length cr)).heap[k]? = (wF).heap[k]? := fun k hk => heap_setFrom_other N k (Ne.symm hk) [.slice (some ⟨bi, 0, none⟩) it.length ci, .slice al RR.length cl, .slice aw wk.length cw, .slice ae ex.length ce, .slice ac ch.length cc, .slice (some ⟨b9, 0, none⟩) (st.length + 1) c9, .slice ar rc.length cr] 0 wF
          have hcF := hst9.cur.keep HBF hg
          have HF := only_below hst9.only (by rw [hN]; exact HBF)
          have hPF : ∀ w'', (∀ k, w.heap.size ≤ k → k < (((((((wF.setCell ⟨N, 0, none⟩ (.slice (some ⟨bi, 0, none⟩) it.length ci)).setCell ⟨N, 1, none⟩ (.slice al RR.length cl)).setCell ⟨N, 2, none⟩ (.slice aw wk.length cw)).setCell ⟨N, 3, none⟩ (.slice ae ex.length ce)).setCell ⟨N, 4, none⟩ (.slice ac ch.length cc)).setCell ⟨N, 5, none⟩ (.slice (some ⟨b9, 0, none⟩) (st.length + 1) c9)).setCell ⟨N, 6, none⟩ (.slice ar rc.length cr)).heap.size → w''.heap[k]? = (((((((wF.setCell ⟨N, 0, none⟩ (.slice (some ⟨bi, 0, none⟩) it.length ci)).setCell ⟨N, 1, none⟩ (.slice al RR.length cl)).setCell ⟨N, 2, none⟩ (.slice aw wk.length cw)).setCell ⟨N, 3, none⟩ (.slice ae ex.length ce)).setCell ⟨N, 4, none⟩ (.slice ac ch.length cc)).setCell ⟨N, 5, none⟩ (.slice (some ⟨b9, 0, none⟩) (st.length + 1) c9)).setCell ⟨N, 6, none⟩ (.slice ar rc.length cr)).heap[k]?) → PlantIn w'' (⟨⟨some ⟨bi, 0, none⟩, it.length, ci⟩, ⟨al, RR.length, cl⟩, ⟨aw, wk.length, cw⟩, ⟨ae, ex.length, ce⟩, ⟨ac, ch.length, cc⟩, ⟨(some ⟨b9, 0, none⟩), (st.length + 1), c9⟩, ⟨ar, rc.length, cr⟩⟩ : PtR) (⟨it, ls, wk, ex, ch, (st ++ [(sc, 4)]), rc⟩ : Pt) := fun w'' ho => hF.plant2 (fun k hk hl => (ho k (by omega) (Nat.lt_of_lt_of_le hl HBF.size)).trans (hoF k (by omega))) (by show it.length ≤ 100; omega) (by show ls.length ≤ 100; omega) (by show wk.length ≤ 100; omega) (by show ex.length ≤ 100; omega) (by show ch.length ≤ 100; omega) (by show ((st ++ [(sc, 4)]) : List Nd).length ≤ 100; simp; omega) (by show (rc : List Rc).length ≤ 100; omega)
          have hbiN : N + 1 ≤ bi := own_block hst9.it bi rfl
          have hLo : ∀ a, (some (⟨bi, 0, none⟩ : Addr)) = some a → w.heap.size ≤ a.block := fun a ha => by have h1 := Option.some.inj ha; rw [← h1]; show w.heap.size ≤ bi; omega
          clear hF hoF HBF hst9
          go_wp2_with fail
          refine bodyPost_ret (v := .agg #[.slice (some ⟨bi, 0, none⟩) it.length ci, .slice al RR.length cl, .slice aw wk.length cw, .slice ae ex.length ce, .slice ac ch.length cc, .slice (some ⟨b9, 0, none⟩) (st.length + 1) c9, .slice ar rc.length cr]) (by simp [results, Try.results31, go_sem, q0, q1, q2, q3, q4, q5, q6]) rfl ?_
          exact ⟨(⟨⟨some ⟨bi, 0, none⟩, it.length, ci⟩, ⟨al, RR.length, cl⟩, ⟨aw, wk.length, cw⟩, ⟨ae, ex.length, ce⟩, ⟨ac, ch.length, cc⟩, ⟨(some ⟨b9, 0, none⟩), (st.length + 1), c9⟩, ⟨ar, rc.length, cr⟩⟩ : PtR), (⟨it, ls, wk, ex, ch, (st ++ [(sc, 4)]), rc⟩ : Pt), rfl, ⟨HOKI.out, HOKL.out, HOKC.out, all_snoc HOS.out hsc, HOR.out⟩, hit1, hit6, hLo, hcF, HF, hPF⟩
        · skip
          go_simp
          refine hK.out _ _ (⟨hHeld.1.keep (below_alloc _ (.cells #[.string sc, .int .i64 4] 70)) hHeld.1.lt, hHeld.2.trans (Only.of_below (below_alloc _ (.cells #[.string sc, .int .i64 4] 70)))⟩) (fun hHeld => ?_)
          clear hK K
          try simp only [Act.put, List.setIfInBounds_toArray, List.set_cons_zero, List.set_cons_succ]
          replace hst := hst.alloc (.cells #[.string sc, .int .i64 4] 70)
          refine held_do 1 fun K hK => ?_
          have yr := hst.cp.2.1 5 _ rfl
          go_simp
          refine hK.out _ _ (hHeld) (fun hHeld => ?_)
          clear hK K
          try simp only [Act.put, List.setIfInBounds_toArray, List.set_cons_zero, List.set_cons_succ]
          clear yr
          refine held_do 6 fun K hK => ?_
          refine step_append_rows needElem ndOne rfl (.tmp 78) (.tmp 82) rfl _ (lo := P + 1) (l := st) rfl hst.st (by omega) rfl (lit_row (F := ndF) (by simp) #[.string sc, .int .i64 4] (sc, 4) rfl) (by have := hst.cp.1; simp at this ⊢; omega) ?_
          intro v9 w9 hr9 hg9
          obtain ⟨b9, c9, rfl⟩ := hr9.some_of (n := st.length) (by simp)
          have hB9 := RowVal.below hst.st hg9 (Nat.le_refl _) (by have := hst.cp.1; simp at this ⊢; omega)
          obtain ⟨hst9, c5, f5⟩ := hst.putS hg9 hr9
          have hCur9 := hHeld.1.keep hB9 (by omega)
          have hOnl9 := only_below hHeld.2 (hB9.mono (show w.heap.size ≤ P + 1 by omega))
          refine hK.out _ _ (⟨hCur9, hOnl9⟩) (fun hHeld => ?_)
          clear hK K
          try simp only [Act.put, List.setIfInBounds_toArray]
          refine held_on 7 (some 84) rfl rfl (by kernel_rfl) (by kernel_rfl) (by kernel_rfl) (fun _ _ _ h => h) (by rfl) hHeld (v := ?v52) ?y52 ?r52
          case y52 => intro w hSw; (try dsimp only at hSw); go_simp; (try with_reducible rfl)
          try simp only [Act.put]
          refine held_do 8 fun K hK => ?_
          go_simp
          refine hK.out _ _ (⟨hst9.cur, hst9.only⟩) (fun hHeld => ?_)
          clear hK K
          try simp only [Act.put, List.setIfInBounds_toArray, List.set_cons_zero, List.set_cons_succ]
          refine wpAnyH_done (by kernel_rfl) ?_ _
          generalize (w9.setCell ⟨P, 5, none⟩ (.slice (some ⟨b9, 0, none⟩) (st.length + 1) c9)) = wF at *
          clear c5 f5 hB9 hr9 hg9 hCur9 hOnl9 hHeld hst
          have hF : PlSt w base g N P (⟨⟨some ⟨bi, 0, none⟩, it.length, ci⟩, ⟨al, RR.length, cl⟩, ⟨aw, wk.length, cw⟩, ⟨ae, ex.length, ce⟩, ⟨ac, ch.length, cc⟩, ⟨(some ⟨b9, 0, none⟩), (st.length + 1), c9⟩, ⟨ar, rc.length, cr⟩⟩ : PtR) (⟨it, ls, wk, ex, ch, (st ++ [(sc, 4)]), rc⟩ : Pt) RR (.slice (some ⟨b9, 0, none⟩) (st.length + 1) c9) (.slice ar rc.length cr) (st ++ [(sc, 4)]) rc wF := ⟨hst9.cur, hst9.only, hst9.gN, hst9.NP, hst9.sz, hst9.cp, hst9.cn, hst9.it, hst9.wk, hst9.ex, hst9.ch, hst9.itb, hst9.wkb, hst9.exb, hst9.chb, hst9.ls, hst9.cs, hst9.st, hst9.rc⟩
          have b0 : wF.cell? ⟨P, 0, none⟩ = some (.slice (some ⟨bi, 0, none⟩) it.length ci) := hst9.cp.2.1 0 _ rfl
          have q0 := hst9.cn.2.1 0 _ rfl
          have f0 := hst9.cn.2.2 0
          have b1 : wF.cell? ⟨P, 1, none⟩ = some (.slice al RR.length cl) := hst9.cp.2.1 1 _ rfl
          have q1 := hst9.cn.2.1 1 _ rfl
          have f1 := hst9.cn.2.2 1
          have b2 : wF.cell? ⟨P, 2, none⟩ = some (.slice aw wk.length cw) := hst9.cp.2.1 2 _ rfl
          have q2 := hst9.cn.2.1 2 _ rfl
          have f2 := hst9.cn.2.2 2
          have b3 : wF.cell? ⟨P, 3, none⟩ = some (.slice ae ex.length ce) := hst9.cp.2.1 3 _ rfl
          have q3 := hst9.cn.2.1 3 _ rfl
          have f3 := hst9.cn.2.2 3
          have b4 : wF.cell? ⟨P, 4, none⟩ = some (.slice ac ch.length cc) := hst9.cp.2.1 4 _ rfl
          have q4 := hst9.cn.2.1 4 _ rfl
          have f4 := hst9.cn.2.2 4
          have b5 : wF.cell? ⟨P, 5, none⟩ = some (.slice (some ⟨b9, 0, none⟩) (st.length + 1) c9) := hst9.cp.2.1 5 _ rfl
          have q5 := hst9.cn.2.1 5 _ rfl
          have f5 := hst9.cn.2.2 5
          have b6 : wF.cell? ⟨P, 6, none⟩ = some (.slice ar rc.length cr) := hst9.cp.2.1 6 _ rfl
          have q6 := hst9.cn.2.1 6 _ rfl
          have f6 := hst9.cn.2.2 6
          have HBF : Below N (wF) (((((((wF.setCell ⟨N, 0, none⟩ (.slice (some ⟨bi, 0, none⟩) it.length ci)).setCell ⟨N, 1, none⟩ (.slice al RR.length cl)).setCell ⟨N, 2, none⟩ (.slice aw wk.length cw)).setCell ⟨N, 3, none⟩ (.slice ae ex.length ce)).setCell ⟨N, 4, none⟩ (.slice ac ch.length cc)).setCell ⟨N, 5, none⟩ (.slice (some ⟨b9, 0, none⟩) (st.length + 1) c9)).setCell ⟨N, 6, none⟩ (.slice ar rc.length cr)) := below_setFrom (B := N) (b := N) (Nat.le_refl _) [.slice (some ⟨bi, 0, none⟩) it.length ci, .slice al RR.length cl, .slice aw wk.length cw, .slice ae ex.length ce, .slice ac ch.length cc, .slice (some ⟨b9, 0, none⟩) (st.length + 1) c9, .slice ar rc.length cr] 0 wF
          have hoF : ∀ k, k ≠ N → (((((((wF.setCell ⟨N, 0, none⟩ (.slice (some ⟨bi, 0, none⟩) it.length ci)).setCell ⟨N, 1, none⟩ (.slice al RR.length cl)).setCell ⟨N, 2, none⟩ (.slice aw wk.length cw)).setCell ⟨N, 3, none⟩ (.slice ae ex.length ce)).setCell ⟨N, 4, none⟩ (.slice ac ch.length cc)).setCell ⟨N, 5, none⟩ (.slice (some ⟨b9, 0, none⟩) (st.length + 1) c9)).setCell ⟨N, 6, none⟩ (.slice ar rc.length cr)).heap[k]? = (wF).heap[k]? := fun k hk => heap_setFrom_other N k (Ne.symm hk) [.slice (some ⟨bi, 0, none⟩) it.length ci, .slice al RR.length cl, .slice aw wk.length cw, .slice ae ex.length ce, .slice ac ch.length cc, .slice (some ⟨b9, 0, none⟩) (st.length + 1) c9, .slice ar rc.length cr] 0 wF
          have hcF := hst9.cur.keep HBF hg
          have HF := only_below hst9.only (by rw [hN]; exact HBF)
          have hPF : ∀ w'', (∀ k, w.heap.size ≤ k → k < (((((((wF.setCell ⟨N, 0, none⟩ (.slice (some ⟨bi, 0, none⟩) it.length ci)).setCell ⟨N, 1, none⟩ (.slice al RR.length cl)).setCell ⟨N, 2, none⟩ (.slice aw wk.length cw)).setCell ⟨N, 3, none⟩ (.slice ae ex.length ce)).setCell ⟨N, 4, none⟩ (.slice ac ch.length cc)).setCell ⟨N, 5, none⟩ (.slice (some ⟨b9, 0, none⟩) (st.length + 1) c9)).setCell ⟨N, 6, none⟩ (.slice ar rc.length cr)).heap.size → w''.heap[k]? = (((((((wF.setCell ⟨N, 0, none⟩ (.slice (some ⟨bi, 0, none⟩) it.length ci)).setCell ⟨N, 1, none⟩ (.slice al RR.length cl)).setCell ⟨N, 2, none⟩ (.slice aw wk.length cw)).setCell ⟨N, 3, none⟩ (.slice ae ex.length ce)).setCell ⟨N, 4, none⟩ (.slice ac ch.length cc)).setCell ⟨N, 5, none⟩ (.slice (some ⟨b9, 0, none⟩) (st.length + 1) c9)).setCell ⟨N, 6, none⟩ (.slice ar rc.length cr)).heap[k]?) → PlantIn w'' (⟨⟨some ⟨bi, 0, none⟩, it.length, ci⟩, ⟨al, RR.length, cl⟩, ⟨aw, wk.length, cw⟩, ⟨ae, ex.length, ce⟩, ⟨ac, ch.length, cc⟩, ⟨(some ⟨b9, 0, none⟩), (st.length + 1), c9⟩, ⟨ar, rc.length, cr⟩⟩ : PtR) (⟨it, ls, wk, ex, ch, (st ++ [(sc, 4)]), rc⟩ : Pt) := fun w'' ho => hF.plant2 (fun k hk hl => (ho k (by omega) (Nat.lt_of_lt_of_le hl HBF.size)).trans (hoF k (by omega))) (by show it.length ≤ 100; omega) (by show ls.length ≤ 100; omega) (by show wk.length ≤ 100; omega) (by show ex.length ≤ 100; omega) (by show ch.length ≤ 100; omega) (by show ((st ++ [(sc, 4)]) : List Nd).length ≤ 100; simp; omega) (by show (rc : List Rc).length ≤ 100; omega)
          have hbiN : N + 1 ≤ bi := own_block hst9.it bi rfl
          have hLo : ∀ a, (some (⟨bi, 0, none⟩ : Addr)) = some a → w.heap.size ≤ a.block := fun a ha => by have h1 := Option.some.inj ha; rw [← h1]; show w.heap.size ≤ bi; omega
          clear hF hoF HBF hst9
          go_wp2_with fail
          refine bodyPost_ret (v := .agg #[.slice (some ⟨bi, 0, none⟩) it.length ci, .slice al RR.length cl, .slice aw wk.length cw, .slice ae ex.length ce, .slice ac ch.length cc, .slice (some ⟨b9, 0, none⟩) (st.length + 1) c9, .slice ar rc.length cr]) (by simp [results, Try.results31, go_sem, q0, q1, q2, q3, q4, q5, q6]) rfl ?_
          exact ⟨(⟨⟨some ⟨bi, 0, none⟩, it.length, ci⟩, ⟨al, RR.length, cl⟩, ⟨aw, wk.length, cw⟩, ⟨ae, ex.length, ce⟩, ⟨ac, ch.length, cc⟩, ⟨(some ⟨b9, 0, none⟩), (st.length + 1), c9⟩, ⟨ar, rc.length, cr⟩⟩ : PtR), (⟨it, ls, wk, ex, ch, (st ++ [(sc, 4)]), rc⟩ : Pt), rfl, ⟨HOKI.out, HOKL.out, HOKC.out, all_snoc HOS.out hsc, HOR.out⟩, hit1, hit6, hLo, hcF, HF, hPF⟩
    · have d0 : decide (y = 0) = false := decide_eq_false (by omega)
      have d1 : decide (y = 1) = false := decide_eq_false (by omega)
      have n0 : ¬ y = 0 := by omega
      have n1 : ¬ y = 1 := by omega
      obtain ⟨ax, cx, rfl, _⟩ := hst.st.form
      obtain ⟨ar, cr, rfl, _⟩ := hst.rc.form
      have hst9 := hst
      clear hst
      have hF : PlSt w base g N P (⟨⟨some ⟨bi, 0, none⟩, it.length, ci⟩, ⟨al, RR.length, cl⟩, ⟨aw, wk.length, cw⟩, ⟨ae, ex.length, ce⟩, ⟨ac, ch.length, cc⟩, ⟨ax, st.length, cx⟩, ⟨ar, rc.length, cr⟩⟩ : PtR) (⟨it, ls, wk, ex, ch, st, rc⟩ : Pt) RR (.slice ax st.length cx) (.slice ar rc.length cr) st rc w7 := ⟨hst9.cur, hst9.only, hst9.gN, hst9.NP, hst9.sz, hst9.cp, hst9.cn, hst9.it, hst9.wk, hst9.ex, hst9.ch, hst9.itb, hst9.wkb, hst9.exb, hst9.chb, hst9.ls, hst9.cs, hst9.st, hst9.rc⟩
      have b0 : w7.cell? ⟨P, 0, none⟩ = some (.slice (some ⟨bi, 0, none⟩) it.length ci) := hst9.cp.2.1 0 _ rfl
      have q0 := hst9.cn.2.1 0 _ rfl
      have f0 := hst9.cn.2.2 0
      have b1 : w7.cell? ⟨P, 1, none⟩ = some (.slice al RR.length cl) := hst9.cp.2.1 1 _ rfl
      have q1 := hst9.cn.2.1 1 _ rfl
      have f1 := hst9.cn.2.2 1
      have b2 : w7.cell? ⟨P, 2, none⟩ = some (.slice aw wk.length cw) := hst9.cp.2.1 2 _ rfl
      have q2 := hst9.cn.2.1 2 _ rfl
      have f2 := hst9.cn.2.2 2
      have b3 : w7.cell? ⟨P, 3, none⟩ = some (.slice ae ex.length ce) := hst9.cp.2.1 3 _ rfl
      have q3 := hst9.cn.2.1 3 _ rfl
      have f3 := hst9.cn.2.2 3
      have b4 : w7.cell? ⟨P, 4, none⟩ = some (.slice ac ch.length cc) := hst9.cp.2.1 4 _ rfl
      have q4 := hst9.cn.2.1 4 _ rfl
      have f4 := hst9.cn.2.2 4
      have b5 : w7.cell? ⟨P, 5, none⟩ = some (.slice ax st.length cx) := hst9.cp.2.1 5 _ rfl
      have q5 := hst9.cn.2.1 5 _ rfl
      have f5 := hst9.cn.2.2 5
      have b6 : w7.cell? ⟨P, 6, none⟩ = some (.slice ar rc.length cr) := hst9.cp.2.1 6 _ rfl
      have q6 := hst9.cn.2.1 6 _ rfl
      have f6 := hst9.cn.2.2 6
      have HBF : Below N (w7) (((((((w7.setCell ⟨N, 0, none⟩ (.slice (some ⟨bi, 0, none⟩) it.length ci)).setCell ⟨N, 1, none⟩ (.slice al RR.length cl)).setCell ⟨N, 2, none⟩ (.slice aw wk.length cw)).setCell ⟨N, 3, none⟩ (.slice ae ex.length ce)).setCell ⟨N, 4, none⟩ (.slice ac ch.length cc)).setCell ⟨N, 5, none⟩ (.slice ax st.length cx)).setCell ⟨N, 6, none⟩ (.slice ar rc.length cr)) := below_setFrom (B := N) (b := N) (Nat.le_refl _) [.slice (some ⟨bi, 0, none⟩) it.length ci, .slice al RR.length cl, .slice aw wk.length cw, .slice ae ex.length ce, .slice ac ch.length cc, .slice ax st.length cx, .slice ar rc.length cr] 0 w7
      have hoF : ∀ k, k ≠ N → (((((((w7.setCell ⟨N, 0, none⟩ (.slice (some ⟨bi, 0, none⟩) it.length ci)).setCell ⟨N, 1, none⟩ (.slice al RR.length cl)).setCell ⟨N, 2, none⟩ (.slice aw wk.length cw)).setCell ⟨N, 3, none⟩ (.slice ae ex.length ce)).setCell ⟨N, 4, none⟩ (.slice ac ch.length cc)).setCell ⟨N, 5, none⟩ (.slice ax st.length cx)).setCell ⟨N, 6, none⟩ (.slice ar rc.length cr)).heap[k]? = (w7).heap[k]? := fun k hk => heap_setFrom_other N k (Ne.symm hk) [.slice (some ⟨bi, 0, none⟩) it.length ci, .slice al RR.length cl, .slice aw wk.length cw, .slice ae ex.length ce, .slice ac ch.length cc, .slice ax st.length cx, .slice ar rc.length cr] 0 w7
      have hcF := hst9.cur.keep HBF hg
      have HF := only_below hst9.only (by rw [hN]; exact HBF)
      have hPF : ∀ w'', (∀ k, w.heap.size ≤ k → k < (((((((w7.setCell ⟨N, 0, none⟩ (.slice (some ⟨bi, 0, none⟩) it.length ci)).setCell ⟨N, 1, none⟩ (.slice al RR.length cl)).setCell ⟨N, 2, none⟩ (.slice aw wk.length cw)).setCell ⟨N, 3, none⟩ (.slice ae ex.length ce)).setCell ⟨N, 4, none⟩ (.slice ac ch.length cc)).setCell ⟨N, 5, none⟩ (.slice ax st.length cx)).setCell ⟨N, 6, none⟩ (.slice ar rc.length cr)).heap.size → w''.heap[k]? = (((((((w7.setCell ⟨N, 0, none⟩ (.slice (some ⟨bi, 0, none⟩) it.length ci)).setCell ⟨N, 1, none⟩ (.slice al RR.length cl)).setCell ⟨N, 2, none⟩ (.slice aw wk.length cw)).setCell ⟨N, 3, none⟩ (.slice ae ex.length ce)).setCell ⟨N, 4, none⟩ (.slice ac ch.length cc)).setCell ⟨N, 5, none⟩ (.slice ax st.length cx)).setCell ⟨N, 6, none⟩ (.slice ar rc.length cr)).heap[k]?) → PlantIn w'' (⟨⟨some ⟨bi, 0, none⟩, it.length, ci⟩, ⟨al, RR.length, cl⟩, ⟨aw, wk.length, cw⟩, ⟨ae, ex.length, ce⟩, ⟨ac, ch.length, cc⟩, ⟨ax, st.length, cx⟩, ⟨ar, rc.length, cr⟩⟩ : PtR) (⟨it, ls, wk, ex, ch, st, rc⟩ : Pt) := fun w'' ho => hF.plant2 (fun k hk hl => (ho k (by omega) (Nat.lt_of_lt_of_le hl HBF.size)).trans (hoF k (by omega))) (by show it.length ≤ 100; omega) (by show ls.length ≤ 100; omega) (by show wk.length ≤ 100; omega) (by show ex.length ≤ 100; omega) (by show ch.length ≤ 100; omega) (by show (st : List Nd).length ≤ 100; omega) (by show (rc : List Rc).length ≤ 100; omega)
      have hbiN : N + 1 ≤ bi := own_block hst9.it bi rfl
      have hLo : ∀ a, (some (⟨bi, 0, none⟩ : Addr)) = some a → w.heap.size ≤ a.block := fun a ha => by have h1 := Option.some.inj ha; rw [← h1]; show w.heap.size ≤ bi; omega
      clear hF hoF HBF hst9
      go_wp2_with fail
      refine bodyPost_ret (v := .agg #[.slice (some ⟨bi, 0, none⟩) it.length ci, .slice al RR.length cl, .slice aw wk.length cw, .slice ae ex.length ce, .slice ac ch.length cc, .slice ax st.length cx, .slice ar rc.length cr]) (by simp [results, Try.results31, go_sem, q0, q1, q2, q3, q4, q5, q6]) rfl ?_
      exact ⟨(⟨⟨some ⟨bi, 0, none⟩, it.length, ci⟩, ⟨al, RR.length, cl⟩, ⟨aw, wk.length, cw⟩, ⟨ae, ex.length, ce⟩, ⟨ac, ch.length, cc⟩, ⟨ax, st.length, cx⟩, ⟨ar, rc.length, cr⟩⟩ : PtR), (⟨it, ls, wk, ex, ch, st, rc⟩ : Pt), rfl, ⟨HOKI.out, HOKL.out, HOKC.out, HOS.out, HOR.out⟩, hit1, hit6, hLo, hcF, HF, hPF⟩
end Go.Proofs.Ytlkolehdikfddaa
