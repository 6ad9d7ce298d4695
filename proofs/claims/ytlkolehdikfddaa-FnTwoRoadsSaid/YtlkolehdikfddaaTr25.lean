/- Part 25 of the texts of this claim: How calendars are drawn. -/
import Derived.Test.YtlkolehdikfddaaTr24
/- How calendars are drawn. -/
namespace Go.Proofs.Ytlkolehdikfddaa
open Go.RowKit
set_option maxRecDepth 100000 in
set_option maxHeartbeats 8000000 in
theorem l4Calendar_any (w : World) (base g : Nat) (hc : CurAt w base g) : Calls Try.prog 52 #[.pointer (some ⟨g, 0, none⟩)] w (DrawnCal w base g) := by
  have hg := hc.lt
  have hb1 := below_alloc w (.cells #[.slice none 0 0, .slice none 0 0] 29)
  have hb2 := below_on hb1 (below_alloc (w.alloc (.cells #[.slice none 0 0, .slice none 0 0] 29)) (.cells #[.int .i64 8, .int .i64 8, .int .i64 8, .int .i64 8, .int .i64 8, .int .i64 0, .int .i64 0] 3))
  have hb3 := below_on hb2 (below_alloc ((w.alloc (.cells #[.slice none 0 0, .slice none 0 0] 29)).alloc (.cells #[.int .i64 8, .int .i64 8, .int .i64 8, .int .i64 8, .int .i64 8, .int .i64 0, .int .i64 0] 3)) (.cells #[.slice (some ⟨w.heap.size + 1, 0, none⟩) 7 7, .slice none 0 0] 29))
  have st3 : CalSt (((w.alloc (.cells #[.slice none 0 0, .slice none 0 0] 29)).alloc (.cells #[.int .i64 8, .int .i64 8, .int .i64 8, .int .i64 8, .int .i64 8, .int .i64 0, .int .i64 0] 3)).alloc (.cells #[.slice (some ⟨w.heap.size + 1, 0, none⟩) 7 7, .slice none 0 0] 29)) w.heap.size (.slice (some ⟨w.heap.size + 1, 0, none⟩) 7 7) (.slice none 0 0) [8, 8, 8, 8, 8, 0, 0] [] :=
    ⟨by simp [go_sem], by simp [go_sem], by simp [go_sem], by simp [go_sem], by simp [go_sem], by simp [go_sem], by simp [go_sem], by simp [go_sem], RowVal.alloc (lit_num (by simp) #[.int .i64 8, .int .i64 8, .int .i64 8, .int .i64 8, .int .i64 8, .int .i64 0, .int .i64 0] [8, 8, 8, 8, 8, 0, 0] rfl rfl (by simp) (Nat.le_refl _)) _, by simp [Value.ownBlock], RowVal.nil _ _, by simp⟩
  have hc3 := hc.keep hb3 hg
  have HO3 : Only g (g + 1) w _ := Only.of_below hb3
  clear hb1 hb2 hb3 hc
  go_enter Try.func52, Try.ntmps52
  go_wp2_with fail
  generalize (((w.alloc (.cells #[.slice none 0 0, .slice none 0 0] 29)).alloc (.cells #[.int .i64 8, .int .i64 8, .int .i64 8, .int .i64 8, .int .i64 8, .int .i64 0, .int .i64 0] 3)).alloc (.cells #[.slice (some ⟨w.heap.size + 1, 0, none⟩) 7 7, .slice none 0 0] 29)) = w3 at *
  generalize hN : w.heap.size = N at *
  refine (l1Below_any _ _ _ _ (by omega) hc3).mono ?_
  rintro e w4 ⟨x, rfl, ⟨x0, x1⟩, hc4, HO4⟩
  have st4 := st3.only HO4 hg
  have HOa := HO3.trans HO4
  clear st3 HO3 HO4 hc3
  have hl4 := st4.lt
  by_cases hx0 : x = 0
  · subst hx0
    obtain ⟨st5, q0, q1⟩ := st4.push0 (w9 := w4.alloc (.cells #[.int .i64 0, .int .i64 4, .int .i64 0, .int .i64 24, .int .i64 0, .int .i64 0, .int .i64 1] 3)) (v9 := .slice (some ⟨w4.heap.size, 0, none⟩) 7 7) (by simp) (fun k hk _ => (below_alloc w4 _).block k hk) (lit_num rfl #[.int .i64 0, .int .i64 4, .int .i64 0, .int .i64 24, .int .i64 0, .int .i64 0, .int .i64 1] [0, 4, 0, 24, 0, 0, 1] rfl rfl (by simp) (by omega)) (by simp [Value.ownBlock]; omega)
    have HS : Below N w4 ((w4.alloc (.cells #[.int .i64 0, .int .i64 4, .int .i64 0, .int .i64 24, .int .i64 0, .int .i64 0, .int .i64 1] 3)).setCell ⟨N + 1 + 1, 0, none⟩ (.slice (some ⟨w4.heap.size, 0, none⟩) 7 7)) := ((Below.refl N w4).alloc (by omega) _).setCell (p := ⟨N + 1 + 1, 0, none⟩) (by show N ≤ N + 1 + 1; omega) _
    have hc5 := hc4.keep HS hg
    have HO5 := only_below HOa (by rw [hN]; exact HS)
    have hsw : (w4.alloc (.cells #[.int .i64 0, .int .i64 4, .int .i64 0, .int .i64 24, .int .i64 0, .int .i64 0, .int .i64 1] 3)).setCell ⟨N + 1 + 1, 0, none⟩ (.slice (some ⟨w4.heap.size, 0, none⟩) 7 7) = (w4.setCell ⟨N + 1 + 1, 0, none⟩ (.slice (some ⟨w4.heap.size, 0, none⟩) 7 7)).alloc (.cells #[.int .i64 0, .int .i64 4, .int .i64 0, .int .i64 24, .int .i64 0, .int .i64 0, .int .i64 1] 3) := by simp [go_sem, hl4]
    rw [hsw] at st5 hc5 HO5
    clear st4 hc4 HOa HS hsw
    go_wp2_with fail
    generalize (w4.setCell ⟨N + 1 + 1, 0, none⟩ (.slice (some ⟨w4.heap.size, 0, none⟩) 7 7)).alloc (.cells #[.int .i64 0, .int .i64 4, .int .i64 0, .int .i64 24, .int .i64 0, .int .i64 0, .int .i64 1] 3) = w5 at *
    generalize w4.heap.size = B0 at *
    clear q0 q1
    refine (l1Below_any _ _ _ _ (by omega) hc5).mono ?_
    rintro e w6 ⟨n, rfl, ⟨n0, n1⟩, hc6, HO6⟩
    have st6 := st5.only HO6 hg
    have HO7 := HO5.trans HO6
    clear st5 hc5 HO5 HO6
    go_wp2_with fail
    go_loopw [4, 5] (fun dv t wr => ∃ (dy j : Int) (v1 : Value) (ex : List Ex), dv = .int .i64 dy ∧ t = .int .i64 j ∧ 0 ≤ dy ∧ dy ≤ 9 * (3 - j) ∧ 0 ≤ j ∧ j ≤ n ∧ (ex.length : Int) + j = n ∧ CalSt wr N (.slice (some ⟨B0, 0, none⟩) 7 7) v1 [0, 4, 0, 24, 0, 0, 1] ex ∧ CurAt wr base g ∧ Only g (g + 1) w wr) (fun _ t _ => (intOf t).toNat)
    case atStart => exact ⟨0, n, _, [], rfl, rfl, by omega, by omega, n0, by omega, by simp, st6, hc6, HO7⟩
    case round =>
      clear st6 hc6 HO7
      obtain ⟨dy, j, v1, ex, rfl, rfl, dy0, dy1, j0, j1, hxl, st6, hc6, HO7⟩ := hrel
      have hgl := st6.lt
      by_cases hjp : 0 < j
      · go_wp2_with fail
        refine (l1Below_any _ _ _ _ (by omega) hc6).mono ?_
        rintro e w7 ⟨y, rfl, ⟨y0, y1⟩, hc7, HO8⟩
        have st7 := st6.only HO8 hg
        have HO9 := HO7.trans HO8
        clear st6 hc6 HO7 HO8 hgl
        have hg7 := hc7.lt
        have hl7 := st7.lt
        go_wp2_with fail
        obtain ⟨dz, hdz⟩ : ∃ dz : Int, dy + 1 + y = dz := ⟨_, rfl⟩
        rw [hdz]
        have hdz0 : 0 ≤ dz ∧ dz ≤ 9 * (3 - (j - 1)) := by omega
        clear hdz
        have hpick := l1PickInt_any _ 4 4 [0, 0, 12, 24] _ base g ((lit_ints (w := w7) (H := w7.heap.size) rfl #[.int .i64 0, .int .i64 0, .int .i64 12, .int .i64 24] [0, 0, 12, 24] 4 rfl rfl (by simp)).keep (Below.refl _ _).drew) (by omega) (fun a ha => by have := Option.some.inj ha; rw [← this]; show w7.heap.size ≠ g; omega) (hc7.keep ((below_alloc _ _).drew) hg7)
        have xa1 : (w7.alloc (.cells #[.int .i64 0, .int .i64 0, .int .i64 12, .int .i64 24] 3)).drew.cell? ⟨N + 1 + 1, 1, none⟩ = some v1 := ((below_alloc w7 _).drew.cell (p := ⟨N + 1 + 1, 1, none⟩) hl7).trans st7.c1
        have xb1 := st7.c1
        go_region_law (first
          | (go_simp; go_at_call 37; refine hpick.mono ?_; rintro e wp ⟨h, rfl, _, hcp, HOp⟩; have HP : Only g (g + 1) w7 wp := (Only.of_below ((below_alloc w7 _).drew)).trans HOp; have stp := st7.only HP hg; have xp1 := stp.c1; have xpf := stp.f1; have hvp := stp.h1; have hlp := stp.lt; have xr1 : (wp.alloc (.cells #[.int .i64 dz, .int .i64 h] 122)).cell? ⟨N + 1 + 1, 1, none⟩ = some v1 := ((below_alloc wp _).cell (p := ⟨N + 1 + 1, 1, none⟩) hlp).trans xp1)
          | (refine step_append_rows excElem exOne rfl (.tmp 30) (.tmp 36) rfl (wp.alloc (.cells #[.int .i64 dz, .int .i64 h] 122)) (lo := N + 1 + 1 + 1) (v := v1) (l := ex) rfl (hvp.alloc _) (by omega) rfl (lit_row (F := exF) rfl #[.int .i64 dz, .int .i64 h] (dz, h) rfl) (by simp; omega) ?_; intro v9 w9 hr9 hg9; obtain ⟨b9, c9, rfl⟩ := hr9.some_of (n := ex.length) (by simp); have hk9 : ∀ k, k < wp.heap.size → v1.ownBlock ≠ some k → w9.heap[k]? = wp.heap[k]? := fun k hk hkn => ((hg9.block k (by simp; omega) (Ne.symm hkn)).trans ((below_alloc wp _).block k hk)); have hz9 : wp.heap.size ≤ w9.heap.size := (by have := hg9.size; simp at this; omega); obtain ⟨st9, x9, f9⟩ := stp.push1 hz9 hk9 hr9))
        all_goals
          have hB9 : Below N wp w9 := ((Below.refl N wp).alloc (by omega) _).trans (RowVal.below (hvp.alloc _) hg9 (by omega) (by simp; omega))
          have HS : Below N wp (w9.setCell ⟨N + 1 + 1, 1, none⟩ (.slice (some ⟨b9, 0, none⟩) (ex.length + 1) c9)) := hB9.setCell (p := ⟨N + 1 + 1, 1, none⟩) (by show N ≤ N + 1 + 1; omega) _
          have hc9' := hcp.keep HS hg
          have HO9' := only_below (HO9.trans HP) (by rw [hN]; exact HS)
          clear hB9 HS hk9 hr9 hg9 stp xp1 xpf hvp xr1
          go_wp2_with fail
          go_roundw
          case rel => exact ⟨dz, j - 1, _, ex ++ [(dz, h)], rfl, rfl, hdz0.1, hdz0.2, by omega, by omega, by simp; omega, st9, hc9', HO9'⟩
          case measure => simp [intOf]; omega
      · obtain rfl : j = 0 := by omega
        have hx3 : ex.length ≤ 3 := by omega
        obtain ⟨A1, d1, rfl, _⟩ := st6.h1.form
        clear hjp dy0 dy1 j0 j1 hxl
        go_wp2_with fail
        refine (l1Below_any _ _ _ _ (by omega) hc6).mono ?_
        rintro e w7 ⟨z, rfl, ⟨z0, z1⟩, hc7, HO8⟩
        have st7 := st6.only HO8 hg
        have HO9 := HO7.trans HO8
        clear st6 hc6 HO7 HO8 hgl
        have hg7 := hc7.lt
        have hl7 := st7.lt
        by_cases hz0 : z = 0
        · subst hz0
          have hpick := l1PickInt_any _ 2 2 [-1, 25] _ base g ((lit_ints (w := w7) (H := w7.heap.size) rfl #[.int .i64 (-1), .int .i64 25] [-1, 25] 2 rfl rfl (by simp)).keep (Below.refl _ _).drew) (by omega) (fun a ha => by have := Option.some.inj ha; rw [← this]; show w7.heap.size ≠ g; omega) (hc7.keep ((below_alloc _ _).drew) hg7)
          have xa0 : (w7.alloc (.cells #[.int .i64 (-1), .int .i64 25] 3)).drew.cell? ⟨N + 1 + 1, 0, none⟩ = some (.slice (some ⟨B0, 0, none⟩) 7 7) := ((below_alloc w7 _).drew.cell (p := ⟨N + 1 + 1, 0, none⟩) hl7).trans st7.c0
          have xb0 := st7.c0
          go_wp2_with fail
          go_region_law (go_simp; go_at_call 37; refine hpick.mono ?_; rintro e wp ⟨h, rfl, _, hcp, HOp⟩; have HP : Only g (g + 1) w7 wp := (Only.of_below ((below_alloc w7 _).drew)).trans HOp; have stp := st7.only HP hg; have xp0 := stp.c0; obtain ⟨xw, xwf⟩ := stp.cell3 rfl 3 (by decide))
          all_goals
            have st9 := stp.week rfl 3 h
            have hlo9 := own_block stp.h0 _ rfl
            have HS : Below N wp (wp.setCell ⟨B0, 3, none⟩ (.int .i64 h)) := (Below.refl N wp).setCell (p := ⟨B0, 3, none⟩) (by show N ≤ B0; omega) _
            have hc9 := hcp.keep HS hg
            have HO9' := only_below (HO9.trans HP) (by rw [hN]; exact HS)
            clear stp xp0 xw xwf HS
            generalize wp.setCell ⟨B0, 3, none⟩ (.int .i64 h) = W9 at *
            have q0 := st9.c0; have q1 := st9.c1; have q2 := st9.r0; have q3 := st9.r1; have q4 := st9.s0; have q5 := st9.s1
            go_wp2_with fail
            have qi := (OwnInts.of_row_n st9.h0 (by simp)).lower (show N ≤ N + 1 by omega)
            have qx := (RowVal.own_n st9.h1 (by simp)).lower (show N ≤ N + 1 + 1 + 1 by omega)
            have qi2 := ((OwnInts.of_row_n st9.h0 (by simp)).far (p := ⟨N, 0, none⟩) (Nat.lt_succ_self N) (.slice (some ⟨B0, 0, none⟩) 7 7)).far (p := ⟨N, 1, none⟩) (Nat.lt_succ_self N) (.slice A1 ex.length d1)
            have qx2 := ((RowVal.own_n st9.h1 (by simp)).far (p := ⟨N, 0, none⟩) (by show N < N + 1 + 1 + 1; omega) (.slice (some ⟨B0, 0, none⟩) 7 7)).far (p := ⟨N, 1, none⟩) (by show N < N + 1 + 1 + 1; omega) (.slice A1 ex.length d1)
            have HF : Below N (W9) (((W9).setCell ⟨N, 0, none⟩ (.slice (some ⟨B0, 0, none⟩) 7 7)).setCell ⟨N, 1, none⟩ (.slice A1 ex.length d1)) := ((Below.refl N _).setCell (p := ⟨N, 0, none⟩) (Nat.le_refl _) _).setCell (p := ⟨N, 1, none⟩) (Nat.le_refl _) _
            refine bodyPost_ret (v := .agg #[.slice (some ⟨B0, 0, none⟩) 7 7, .slice A1 ex.length d1]) (by simp [results, Try.results52, go_sem, q2, q3, q4, q5]) rfl ?_
            have qa := qi2.lower (show N ≤ N + 1 by omega)
            have qb := qx2.lower (show N ≤ N + 1 + 1 + 1 by omega)
            subst hN
            refine ⟨_, _, _, _, _, _, _, _, rfl, ?_, ?_, qa, qb, hc9.keep HF hg, only_below HO9' HF⟩
            · first | omega | (simp; done) | (simp; omega)
            · first | omega | (simp; done) | (simp; omega)
        by_cases hz1 : z = 1
        · subst hz1
          have xb0 := st7.c0
          go_wp2_with (at_builtin; refine wpList_append_both intElem rfl _ _ rfl rfl st7.h0 (by simp) 1 #[.int .i64 1] rfl (intOne 1) w7.heap.size _ rfl rfl (by omega) ?_; intro v9 w9 hr9 hb9 hs9 hk9 hn9; obtain ⟨b9, c9, rfl⟩ := hr9.some_of (n := 7) (by simp); obtain ⟨st9, x9, f9⟩ := st7.push0 (by omega) hk9 hr9 (hn9 (N + 1 + 1) hl7 st7.n0); have q0 := st9.c0; have q1 := st9.c1; have q2 := st9.r0; have q3 := st9.r1; have q4 := st9.s0; have q5 := st9.s1)
          have HS : Below N w7 (w9.setCell ⟨N + 1 + 1, 0, none⟩ (.slice (some ⟨b9, 0, none⟩) (7 + 1) c9)) := (hb9 N (by omega) (by omega)).setCell (p := ⟨N + 1 + 1, 0, none⟩) (by show N ≤ N + 1 + 1; omega) _
          have hc9 := hc7.keep HS hg
          have HO9' := only_below HO9 (by rw [hN]; exact HS)
          clear HS hb9 hk9 hn9 hr9 x9 f9 st7
          have qi := (OwnInts.of_row_n st9.h0 (by simp)).lower (show N ≤ N + 1 by omega)
          have qx := (RowVal.own_n st9.h1 (by simp)).lower (show N ≤ N + 1 + 1 + 1 by omega)
          have qi2 := ((OwnInts.of_row_n st9.h0 (by simp)).far (p := ⟨N, 0, none⟩) (Nat.lt_succ_self N) (.slice (some ⟨b9, 0, none⟩) (7 + 1) c9)).far (p := ⟨N, 1, none⟩) (Nat.lt_succ_self N) (.slice A1 ex.length d1)
          have qx2 := ((RowVal.own_n st9.h1 (by simp)).far (p := ⟨N, 0, none⟩) (by show N < N + 1 + 1 + 1; omega) (.slice (some ⟨b9, 0, none⟩) (7 + 1) c9)).far (p := ⟨N, 1, none⟩) (by show N < N + 1 + 1 + 1; omega) (.slice A1 ex.length d1)
          have HF : Below N (w9.setCell ⟨N + 1 + 1, 0, none⟩ (Value.slice (some ⟨b9, 0, none⟩) (7 + 1) c9)) (((w9.setCell ⟨N + 1 + 1, 0, none⟩ (Value.slice (some ⟨b9, 0, none⟩) (7 + 1) c9)).setCell ⟨N, 0, none⟩ (.slice (some ⟨b9, 0, none⟩) (7 + 1) c9)).setCell ⟨N, 1, none⟩ (.slice A1 ex.length d1)) := ((Below.refl N _).setCell (p := ⟨N, 0, none⟩) (Nat.le_refl _) _).setCell (p := ⟨N, 1, none⟩) (Nat.le_refl _) _
          refine bodyPost_ret (v := .agg #[.slice (some ⟨b9, 0, none⟩) (7 + 1) c9, .slice A1 ex.length d1]) (by simp [results, Try.results52, go_sem, q2, q3, q4, q5]) rfl ?_
          have qa := qi2.lower (show N ≤ N + 1 by omega)
          have qb := qx2.lower (show N ≤ N + 1 + 1 + 1 by omega)
          subst hN
          refine ⟨_, _, _, _, _, _, _, _, rfl, ?_, ?_, qa, qb, hc9.keep HF hg, only_below HO9' HF⟩
          · first | omega | (simp; done) | (simp; omega)
          · first | omega | (simp; done) | (simp; omega)
        by_cases hz2 : z = 2
        · subst hz2
          have hpick := l1PickInt_any _ 3 3 [0, 999, 1000] _ base g ((lit_ints (w := w7) (H := w7.heap.size) rfl #[.int .i64 0, .int .i64 999, .int .i64 1000] [0, 999, 1000] 3 rfl rfl (by simp)).keep (Below.refl _ _).drew) (by omega) (fun a ha => by have := Option.some.inj ha; rw [← this]; show w7.heap.size ≠ g; omega) (hc7.keep ((below_alloc _ _).drew) hg7)
          have xa1 : (w7.alloc (.cells #[.int .i64 0, .int .i64 999, .int .i64 1000] 3)).drew.cell? ⟨N + 1 + 1, 1, none⟩ = some (.slice A1 ex.length d1) := ((below_alloc w7 _).drew.cell (p := ⟨N + 1 + 1, 1, none⟩) hl7).trans st7.c1
          have xb1 := st7.c1
          go_wp2_with fail
          go_region_law (first
            | (go_simp; go_at_call 37; refine hpick.mono ?_; rintro e wp ⟨h, rfl, _, hcp, HOp⟩; have HP : Only g (g + 1) w7 wp := (Only.of_below ((below_alloc w7 _).drew)).trans HOp; have stp := st7.only HP hg; have xp1 := stp.c1; have xpf := stp.f1; have hvp := stp.h1; have hlp := stp.lt; have xr1 : (wp.alloc (.cells #[.int .i64 h, .int .i64 3] 122)).cell? ⟨N + 1 + 1, 1, none⟩ = some (.slice A1 ex.length d1) := ((below_alloc wp _).cell (p := ⟨N + 1 + 1, 1, none⟩) hlp).trans xp1)
            | (refine step_append_rows excElem exOne rfl (.tmp 59) (.tmp 64) rfl (wp.alloc (.cells #[.int .i64 h, .int .i64 3] 122)) (lo := N + 1 + 1 + 1) (v := .slice A1 ex.length d1) (l := ex) rfl (hvp.alloc _) (by omega) rfl (lit_row (F := exF) rfl #[.int .i64 h, .int .i64 3] (h, 3) rfl) (by simp; omega) ?_; intro v9 w9 hr9 hg9; obtain ⟨b9, c9, rfl⟩ := hr9.some_of (n := ex.length) (by simp); have hk9 : ∀ k, k < wp.heap.size → (Value.slice A1 ex.length d1).ownBlock ≠ some k → w9.heap[k]? = wp.heap[k]? := fun k hk hkn => ((hg9.block k (by simp; omega) (Ne.symm hkn)).trans ((below_alloc wp _).block k hk)); have hz9 : wp.heap.size ≤ w9.heap.size := (by have := hg9.size; simp at this; omega); obtain ⟨st9, x9, f9⟩ := stp.push1 hz9 hk9 hr9))
          all_goals
            have hB9 : Below N wp w9 := ((Below.refl N wp).alloc (by omega) _).trans (RowVal.below (hvp.alloc _) hg9 (by omega) (by simp; omega))
            have HS : Below N wp (w9.setCell ⟨N + 1 + 1, 1, none⟩ (.slice (some ⟨b9, 0, none⟩) (ex.length + 1) c9)) := hB9.setCell (p := ⟨N + 1 + 1, 1, none⟩) (by show N ≤ N + 1 + 1; omega) _
            have hc9 := hcp.keep HS hg
            have HO9' := only_below (HO9.trans HP) (by rw [hN]; exact HS)
            clear hB9 HS hk9 hr9 hg9 stp xp1 xpf hvp xr1
            generalize w9.setCell ⟨N + 1 + 1, 1, none⟩ (.slice (some ⟨b9, 0, none⟩) (ex.length + 1) c9) = W9 at *
            have q0 := st9.c0; have q1 := st9.c1; have q2 := st9.r0; have q3 := st9.r1; have q4 := st9.s0; have q5 := st9.s1
            go_wp2_with fail
            have qi := (OwnInts.of_row_n st9.h0 (by simp)).lower (show N ≤ N + 1 by omega)
            have qx := (RowVal.own_n st9.h1 (by simp)).lower (show N ≤ N + 1 + 1 + 1 by omega)
            have qi2 := ((OwnInts.of_row_n st9.h0 (by simp)).far (p := ⟨N, 0, none⟩) (Nat.lt_succ_self N) (.slice (some ⟨B0, 0, none⟩) 7 7)).far (p := ⟨N, 1, none⟩) (Nat.lt_succ_self N) (.slice (some ⟨b9, 0, none⟩) (ex.length + 1) c9)
            have qx2 := ((RowVal.own_n st9.h1 (by simp)).far (p := ⟨N, 0, none⟩) (by show N < N + 1 + 1 + 1; omega) (.slice (some ⟨B0, 0, none⟩) 7 7)).far (p := ⟨N, 1, none⟩) (by show N < N + 1 + 1 + 1; omega) (.slice (some ⟨b9, 0, none⟩) (ex.length + 1) c9)
            have HF : Below N (W9) (((W9).setCell ⟨N, 0, none⟩ (.slice (some ⟨B0, 0, none⟩) 7 7)).setCell ⟨N, 1, none⟩ (.slice (some ⟨b9, 0, none⟩) (ex.length + 1) c9)) := ((Below.refl N _).setCell (p := ⟨N, 0, none⟩) (Nat.le_refl _) _).setCell (p := ⟨N, 1, none⟩) (Nat.le_refl _) _
            refine bodyPost_ret (v := .agg #[.slice (some ⟨B0, 0, none⟩) 7 7, .slice (some ⟨b9, 0, none⟩) (ex.length + 1) c9]) (by simp [results, Try.results52, go_sem, q2, q3, q4, q5]) rfl ?_
            have qa := qi2.lower (show N ≤ N + 1 by omega)
            have qb := qx2.lower (show N ≤ N + 1 + 1 + 1 by omega)
            subst hN
            refine ⟨_, _, _, _, _, _, _, _, rfl, ?_, ?_, qa, qb, hc9.keep HF hg, only_below HO9' HF⟩
            · first | omega | (simp; done) | (simp; omega)
            · first | omega | (simp; done) | (simp; omega)
        have st9 := st7
        have hc9 := hc7
        clear st7 hc7
        have q0 := st9.c0; have q1 := st9.c1; have q2 := st9.r0; have q3 := st9.r1; have q4 := st9.s0; have q5 := st9.s1
        go_wp2_with fail
        have qi := (OwnInts.of_row_n st9.h0 (by simp)).lower (show N ≤ N + 1 by omega)
        have qx := (RowVal.own_n st9.h1 (by simp)).lower (show N ≤ N + 1 + 1 + 1 by omega)
        have qi2 := ((OwnInts.of_row_n st9.h0 (by simp)).far (p := ⟨N, 0, none⟩) (Nat.lt_succ_self N) (.slice (some ⟨B0, 0, none⟩) 7 7)).far (p := ⟨N, 1, none⟩) (Nat.lt_succ_self N) (.slice A1 ex.length d1)
        have qx2 := ((RowVal.own_n st9.h1 (by simp)).far (p := ⟨N, 0, none⟩) (by show N < N + 1 + 1 + 1; omega) (.slice (some ⟨B0, 0, none⟩) 7 7)).far (p := ⟨N, 1, none⟩) (by show N < N + 1 + 1 + 1; omega) (.slice A1 ex.length d1)
        have HF : Below N (w7) (((w7).setCell ⟨N, 0, none⟩ (.slice (some ⟨B0, 0, none⟩) 7 7)).setCell ⟨N, 1, none⟩ (.slice A1 ex.length d1)) := ((Below.refl N _).setCell (p := ⟨N, 0, none⟩) (Nat.le_refl _) _).setCell (p := ⟨N, 1, none⟩) (Nat.le_refl _) _
        refine bodyPost_ret (v := .agg #[.slice (some ⟨B0, 0, none⟩) 7 7, .slice A1 ex.length d1]) (by simp [results, Try.results52, go_sem, q2, q3, q4, q5]) rfl ?_
        have qa := qi2.lower (show N ≤ N + 1 by omega)
        have qb := qx2.lower (show N ≤ N + 1 + 1 + 1 by omega)
        subst hN
        refine ⟨_, _, _, _, _, _, _, _, rfl, ?_, ?_, qa, qb, hc9.keep HF hg, only_below HO9 HF⟩
        · first | omega | (simp; done) | (simp; omega)
        · first | omega | (simp; done) | (simp; omega)
  by_cases hx1 : x = 1
  · subst hx1
    obtain ⟨st5, q0, q1⟩ := st4.push0 (w9 := w4.alloc (.cells #[.int .i64 1, .int .i64 1, .int .i64 1, .int .i64 1, .int .i64 1, .int .i64 1, .int .i64 1] 3)) (v9 := .slice (some ⟨w4.heap.size, 0, none⟩) 7 7) (by simp) (fun k hk _ => (below_alloc w4 _).block k hk) (lit_num rfl #[.int .i64 1, .int .i64 1, .int .i64 1, .int .i64 1, .int .i64 1, .int .i64 1, .int .i64 1] [1, 1, 1, 1, 1, 1, 1] rfl rfl (by simp) (by omega)) (by simp [Value.ownBlock]; omega)
    have HS : Below N w4 ((w4.alloc (.cells #[.int .i64 1, .int .i64 1, .int .i64 1, .int .i64 1, .int .i64 1, .int .i64 1, .int .i64 1] 3)).setCell ⟨N + 1 + 1, 0, none⟩ (.slice (some ⟨w4.heap.size, 0, none⟩) 7 7)) := ((Below.refl N w4).alloc (by omega) _).setCell (p := ⟨N + 1 + 1, 0, none⟩) (by show N ≤ N + 1 + 1; omega) _
    have hc5 := hc4.keep HS hg
    have HO5 := only_below HOa (by rw [hN]; exact HS)
    have hsw : (w4.alloc (.cells #[.int .i64 1, .int .i64 1, .int .i64 1, .int .i64 1, .int .i64 1, .int .i64 1, .int .i64 1] 3)).setCell ⟨N + 1 + 1, 0, none⟩ (.slice (some ⟨w4.heap.size, 0, none⟩) 7 7) = (w4.setCell ⟨N + 1 + 1, 0, none⟩ (.slice (some ⟨w4.heap.size, 0, none⟩) 7 7)).alloc (.cells #[.int .i64 1, .int .i64 1, .int .i64 1, .int .i64 1, .int .i64 1, .int .i64 1, .int .i64 1] 3) := by simp [go_sem, hl4]
    rw [hsw] at st5 hc5 HO5
    clear st4 hc4 HOa HS hsw
    go_wp2_with fail
    generalize (w4.setCell ⟨N + 1 + 1, 0, none⟩ (.slice (some ⟨w4.heap.size, 0, none⟩) 7 7)).alloc (.cells #[.int .i64 1, .int .i64 1, .int .i64 1, .int .i64 1, .int .i64 1, .int .i64 1, .int .i64 1] 3) = w5 at *
    generalize w4.heap.size = B0 at *
    clear q0 q1
    refine (l1Below_any _ _ _ _ (by omega) hc5).mono ?_
    rintro e w6 ⟨n, rfl, ⟨n0, n1⟩, hc6, HO6⟩
    have st6 := st5.only HO6 hg
    have HO7 := HO5.trans HO6
    clear st5 hc5 HO5 HO6
    go_wp2_with fail
    go_loopw [4, 5] (fun dv t wr => ∃ (dy j : Int) (v1 : Value) (ex : List Ex), dv = .int .i64 dy ∧ t = .int .i64 j ∧ 0 ≤ dy ∧ dy ≤ 9 * (3 - j) ∧ 0 ≤ j ∧ j ≤ n ∧ (ex.length : Int) + j = n ∧ CalSt wr N (.slice (some ⟨B0, 0, none⟩) 7 7) v1 [1, 1, 1, 1, 1, 1, 1] ex ∧ CurAt wr base g ∧ Only g (g + 1) w wr) (fun _ t _ => (intOf t).toNat)
    case atStart => exact ⟨0, n, _, [], rfl, rfl, by omega, by omega, n0, by omega, by simp, st6, hc6, HO7⟩
    case round =>
      clear st6 hc6 HO7
      obtain ⟨dy, j, v1, ex, rfl, rfl, dy0, dy1, j0, j1, hxl, st6, hc6, HO7⟩ := hrel
      have hgl := st6.lt
      by_cases hjp : 0 < j
      · go_wp2_with fail
        refine (l1Below_any _ _ _ _ (by omega) hc6).mono ?_
        rintro e w7 ⟨y, rfl, ⟨y0, y1⟩, hc7, HO8⟩
        have st7 := st6.only HO8 hg
        have HO9 := HO7.trans HO8
        clear st6 hc6 HO7 HO8 hgl
        have hg7 := hc7.lt
        have hl7 := st7.lt
        go_wp2_with fail
        obtain ⟨dz, hdz⟩ : ∃ dz : Int, dy + 1 + y = dz := ⟨_, rfl⟩
        rw [hdz]
        have hdz0 : 0 ≤ dz ∧ dz ≤ 9 * (3 - (j - 1)) := by omega
        clear hdz
        have hpick := l1PickInt_any _ 4 4 [0, 0, 12, 24] _ base g ((lit_ints (w := w7) (H := w7.heap.size) rfl #[.int .i64 0, .int .i64 0, .int .i64 12, .int .i64 24] [0, 0, 12, 24] 4 rfl rfl (by simp)).keep (Below.refl _ _).drew) (by omega) (fun a ha => by have := Option.some.inj ha; rw [← this]; show w7.heap.size ≠ g; omega) (hc7.keep ((below_alloc _ _).drew) hg7)
        have xa1 : (w7.alloc (.cells #[.int .i64 0, .int .i64 0, .int .i64 12, .int .i64 24] 3)).drew.cell? ⟨N + 1 + 1, 1, none⟩ = some v1 := ((below_alloc w7 _).drew.cell (p := ⟨N + 1 + 1, 1, none⟩) hl7).trans st7.c1
        have xb1 := st7.c1
        go_region_law (first
          | (go_simp; go_at_call 37; refine hpick.mono ?_; rintro e wp ⟨h, rfl, _, hcp, HOp⟩; have HP : Only g (g + 1) w7 wp := (Only.of_below ((below_alloc w7 _).drew)).trans HOp; have stp := st7.only HP hg; have xp1 := stp.c1; have xpf := stp.f1; have hvp := stp.h1; have hlp := stp.lt; have xr1 : (wp.alloc (.cells #[.int .i64 dz, .int .i64 h] 122)).cell? ⟨N + 1 + 1, 1, none⟩ = some v1 := ((below_alloc wp _).cell (p := ⟨N + 1 + 1, 1, none⟩) hlp).trans xp1)
          | (refine step_append_rows excElem exOne rfl (.tmp 30) (.tmp 36) rfl (wp.alloc (.cells #[.int .i64 dz, .int .i64 h] 122)) (lo := N + 1 + 1 + 1) (v := v1) (l := ex) rfl (hvp.alloc _) (by omega) rfl (lit_row (F := exF) rfl #[.int .i64 dz, .int .i64 h] (dz, h) rfl) (by simp; omega) ?_; intro v9 w9 hr9 hg9; obtain ⟨b9, c9, rfl⟩ := hr9.some_of (n := ex.length) (by simp); have hk9 : ∀ k, k < wp.heap.size → v1.ownBlock ≠ some k → w9.heap[k]? = wp.heap[k]? := fun k hk hkn => ((hg9.block k (by simp; omega) (Ne.symm hkn)).trans ((below_alloc wp _).block k hk)); have hz9 : wp.heap.size ≤ w9.heap.size := (by have := hg9.size; simp at this; omega); obtain ⟨st9, x9, f9⟩ := stp.push1 hz9 hk9 hr9))
        all_goals
          have hB9 : Below N wp w9 := ((Below.refl N wp).alloc (by omega) _).trans (RowVal.below (hvp.alloc _) hg9 (by omega) (by simp; omega))
          have HS : Below N wp (w9.setCell ⟨N + 1 + 1, 1, none⟩ (.slice (some ⟨b9, 0, none⟩) (ex.length + 1) c9)) := hB9.setCell (p := ⟨N + 1 + 1, 1, none⟩) (by show N ≤ N + 1 + 1; omega) _
          have hc9' := hcp.keep HS hg
          have HO9' := only_below (HO9.trans HP) (by rw [hN]; exact HS)
          clear hB9 HS hk9 hr9 hg9 stp xp1 xpf hvp xr1
          go_wp2_with fail
          go_roundw
          case rel => exact ⟨dz, j - 1, _, ex ++ [(dz, h)], rfl, rfl, hdz0.1, hdz0.2, by omega, by omega, by simp; omega, st9, hc9', HO9'⟩
          case measure => simp [intOf]; omega
      · obtain rfl : j = 0 := by omega
        have hx3 : ex.length ≤ 3 := by omega
        obtain ⟨A1, d1, rfl, _⟩ := st6.h1.form
        clear hjp dy0 dy1 j0 j1 hxl
        go_wp2_with fail
        refine (l1Below_any _ _ _ _ (by omega) hc6).mono ?_
        rintro e w7 ⟨z, rfl, ⟨z0, z1⟩, hc7, HO8⟩
        have st7 := st6.only HO8 hg
        have HO9 := HO7.trans HO8
        clear st6 hc6 HO7 HO8 hgl
        have hg7 := hc7.lt
        have hl7 := st7.lt
        by_cases hz0 : z = 0
        · subst hz0
          have hpick := l1PickInt_any _ 2 2 [-1, 25] _ base g ((lit_ints (w := w7) (H := w7.heap.size) rfl #[.int .i64 (-1), .int .i64 25] [-1, 25] 2 rfl rfl (by simp)).keep (Below.refl _ _).drew) (by omega) (fun a ha => by have := Option.some.inj ha; rw [← this]; show w7.heap.size ≠ g; omega) (hc7.keep ((below_alloc _ _).drew) hg7)
          have xa0 : (w7.alloc (.cells #[.int .i64 (-1), .int .i64 25] 3)).drew.cell? ⟨N + 1 + 1, 0, none⟩ = some (.slice (some ⟨B0, 0, none⟩) 7 7) := ((below_alloc w7 _).drew.cell (p := ⟨N + 1 + 1, 0, none⟩) hl7).trans st7.c0
          have xb0 := st7.c0
          go_wp2_with fail
          go_region_law (go_simp; go_at_call 37; refine hpick.mono ?_; rintro e wp ⟨h, rfl, _, hcp, HOp⟩; have HP : Only g (g + 1) w7 wp := (Only.of_below ((below_alloc w7 _).drew)).trans HOp; have stp := st7.only HP hg; have xp0 := stp.c0; obtain ⟨xw, xwf⟩ := stp.cell3 rfl 3 (by decide))
          all_goals
            have st9 := stp.week rfl 3 h
            have hlo9 := own_block stp.h0 _ rfl
            have HS : Below N wp (wp.setCell ⟨B0, 3, none⟩ (.int .i64 h)) := (Below.refl N wp).setCell (p := ⟨B0, 3, none⟩) (by show N ≤ B0; omega) _
            have hc9 := hcp.keep HS hg
            have HO9' := only_below (HO9.trans HP) (by rw [hN]; exact HS)
            clear stp xp0 xw xwf HS
            generalize wp.setCell ⟨B0, 3, none⟩ (.int .i64 h) = W9 at *
            have q0 := st9.c0; have q1 := st9.c1; have q2 := st9.r0; have q3 := st9.r1; have q4 := st9.s0; have q5 := st9.s1
            go_wp2_with fail
            have qi := (OwnInts.of_row_n st9.h0 (by simp)).lower (show N ≤ N + 1 by omega)
            have qx := (RowVal.own_n st9.h1 (by simp)).lower (show N ≤ N + 1 + 1 + 1 by omega)
            have qi2 := ((OwnInts.of_row_n st9.h0 (by simp)).far (p := ⟨N, 0, none⟩) (Nat.lt_succ_self N) (.slice (some ⟨B0, 0, none⟩) 7 7)).far (p := ⟨N, 1, none⟩) (Nat.lt_succ_self N) (.slice A1 ex.length d1)
            have qx2 := ((RowVal.own_n st9.h1 (by simp)).far (p := ⟨N, 0, none⟩) (by show N < N + 1 + 1 + 1; omega) (.slice (some ⟨B0, 0, none⟩) 7 7)).far (p := ⟨N, 1, none⟩) (by show N < N + 1 + 1 + 1; omega) (.slice A1 ex.length d1)
            have HF : Below N (W9) (((W9).setCell ⟨N, 0, none⟩ (.slice (some ⟨B0, 0, none⟩) 7 7)).setCell ⟨N, 1, none⟩ (.slice A1 ex.length d1)) := ((Below.refl N _).setCell (p := ⟨N, 0, none⟩) (Nat.le_refl _) _).setCell (p := ⟨N, 1, none⟩) (Nat.le_refl _) _
            refine bodyPost_ret (v := .agg #[.slice (some ⟨B0, 0, none⟩) 7 7, .slice A1 ex.length d1]) (by simp [results, Try.results52, go_sem, q2, q3, q4, q5]) rfl ?_
            have qa := qi2.lower (show N ≤ N + 1 by omega)
            have qb := qx2.lower (show N ≤ N + 1 + 1 + 1 by omega)
            subst hN
            refine ⟨_, _, _, _, _, _, _, _, rfl, ?_, ?_, qa, qb, hc9.keep HF hg, only_below HO9' HF⟩
            · first | omega | (simp; done) | (simp; omega)
            · first | omega | (simp; done) | (simp; omega)
        by_cases hz1 : z = 1
        · subst hz1
          have xb0 := st7.c0
          go_wp2_with (at_builtin; refine wpList_append_both intElem rfl _ _ rfl rfl st7.h0 (by simp) 1 #[.int .i64 1] rfl (intOne 1) w7.heap.size _ rfl rfl (by omega) ?_; intro v9 w9 hr9 hb9 hs9 hk9 hn9; obtain ⟨b9, c9, rfl⟩ := hr9.some_of (n := 7) (by simp); obtain ⟨st9, x9, f9⟩ := st7.push0 (by omega) hk9 hr9 (hn9 (N + 1 + 1) hl7 st7.n0); have q0 := st9.c0; have q1 := st9.c1; have q2 := st9.r0; have q3 := st9.r1; have q4 := st9.s0; have q5 := st9.s1)
          have HS : Below N w7 (w9.setCell ⟨N + 1 + 1, 0, none⟩ (.slice (some ⟨b9, 0, none⟩) (7 + 1) c9)) := (hb9 N (by omega) (by omega)).setCell (p := ⟨N + 1 + 1, 0, none⟩) (by show N ≤ N + 1 + 1; omega) _
          have hc9 := hc7.keep HS hg
          have HO9' := only_below HO9 (by rw [hN]; exact HS)
          clear HS hb9 hk9 hn9 hr9 x9 f9 st7
          have qi := (OwnInts.of_row_n st9.h0 (by simp)).lower (show N ≤ N + 1 by omega)
          have qx := (RowVal.own_n st9.h1 (by simp)).lower (show N ≤ N + 1 + 1 + 1 by omega)
          have qi2 := ((OwnInts.of_row_n st9.h0 (by simp)).far (p := ⟨N, 0, none⟩) (Nat.lt_succ_self N) (.slice (some ⟨b9, 0, none⟩) (7 + 1) c9)).far (p := ⟨N, 1, none⟩) (Nat.lt_succ_self N) (.slice A1 ex.length d1)
          have qx2 := ((RowVal.own_n st9.h1 (by simp)).far (p := ⟨N, 0, none⟩) (by show N < N + 1 + 1 + 1; omega) (.slice (some ⟨b9, 0, none⟩) (7 + 1) c9)).far (p := ⟨N, 1, none⟩) (by show N < N + 1 + 1 + 1; omega) (.slice A1 ex.length d1)
          have HF : Below N (w9.setCell ⟨N + 1 + 1, 0, none⟩ (Value.slice (some ⟨b9, 0, none⟩) (7 + 1) c9)) (((w9.setCell ⟨N + 1 + 1, 0, none⟩ (Value.slice (some ⟨b9, 0, none⟩) (7 + 1) c9)).setCell ⟨N, 0, none⟩ (.slice (some ⟨b9, 0, none⟩) (7 + 1) c9)).setCell ⟨N, 1, none⟩ (.slice A1 ex.length d1)) := ((Below.refl N _).setCell (p := ⟨N, 0, none⟩) (Nat.le_refl _) _).setCell (p := ⟨N, 1, none⟩) (Nat.le_refl _) _
          refine bodyPost_ret (v := .agg #[.slice (some ⟨b9, 0, none⟩) (7 + 1) c9, .slice A1 ex.length d1]) (by simp [results, Try.results52, go_sem, q2, q3, q4, q5]) rfl ?_
          have qa := qi2.lower (show N ≤ N + 1 by omega)
          have qb := qx2.lower (show N ≤ N + 1 + 1 + 1 by omega)
          subst hN
          refine ⟨_, _, _, _, _, _, _, _, rfl, ?_, ?_, qa, qb, hc9.keep HF hg, only_below HO9' HF⟩
          · first | omega | (simp; done) | (simp; omega)
          · first | omega | (simp; done) | (simp; omega)
        by_cases hz2 : z = 2
        · subst hz2
          have hpick := l1PickInt_any _ 3 3 [0, 999, 1000] _ base g ((lit_ints (w := w7) (H := w7.heap.size) rfl #[.int .i64 0, .int .i64 999, .int .i64 1000] [0, 999, 1000] 3 rfl rfl (by simp)).keep (Below.refl _ _).drew) (by omega) (fun a ha => by have := Option.some.inj ha; rw [← this]; show w7.heap.size ≠ g; omega) (hc7.keep ((below_alloc _ _).drew) hg7)
          have xa1 : (w7.alloc (.cells #[.int .i64 0, .int .i64 999, .int .i64 1000] 3)).drew.cell? ⟨N + 1 + 1, 1, none⟩ = some (.slice A1 ex.length d1) := ((below_alloc w7 _).drew.cell (p := ⟨N + 1 + 1, 1, none⟩) hl7).trans st7.c1
          have xb1 := st7.c1
          go_wp2_with fail
          go_region_law (first
            | (go_simp; go_at_call 37; refine hpick.mono ?_; rintro e wp ⟨h, rfl, _, hcp, HOp⟩; have HP : Only g (g + 1) w7 wp := (Only.of_below ((below_alloc w7 _).drew)).trans HOp; have stp := st7.only HP hg; have xp1 := stp.c1; have xpf := stp.f1; have hvp := stp.h1; have hlp := stp.lt; have xr1 : (wp.alloc (.cells #[.int .i64 h, .int .i64 3] 122)).cell? ⟨N + 1 + 1, 1, none⟩ = some (.slice A1 ex.length d1) := ((below_alloc wp _).cell (p := ⟨N + 1 + 1, 1, none⟩) hlp).trans xp1)
            | (refine step_append_rows excElem exOne rfl (.tmp 59) (.tmp 64) rfl (wp.alloc (.cells #[.int .i64 h, .int .i64 3] 122)) (lo := N + 1 + 1 + 1) (v := .slice A1 ex.length d1) (l := ex) rfl (hvp.alloc _) (by omega) rfl (lit_row (F := exF) rfl #[.int .i64 h, .int .i64 3] (h, 3) rfl) (by simp; omega) ?_; intro v9 w9 hr9 hg9; obtain ⟨b9, c9, rfl⟩ := hr9.some_of (n := ex.length) (by simp); have hk9 : ∀ k, k < wp.heap.size → (Value.slice A1 ex.length d1).ownBlock ≠ some k → w9.heap[k]? = wp.heap[k]? := fun k hk hkn => ((hg9.block k (by simp; omega) (Ne.symm hkn)).trans ((below_alloc wp _).block k hk)); have hz9 : wp.heap.size ≤ w9.heap.size := (by have := hg9.size; simp at this; omega); obtain ⟨st9, x9, f9⟩ := stp.push1 hz9 hk9 hr9))
          all_goals
            have hB9 : Below N wp w9 := ((Below.refl N wp).alloc (by omega) _).trans (RowVal.below (hvp.alloc _) hg9 (by omega) (by simp; omega))
            have HS : Below N wp (w9.setCell ⟨N + 1 + 1, 1, none⟩ (.slice (some ⟨b9, 0, none⟩) (ex.length + 1) c9)) := hB9.setCell (p := ⟨N + 1 + 1, 1, none⟩) (by show N ≤ N + 1 + 1; omega) _
            have hc9 := hcp.keep HS hg
            have HO9' := only_below (HO9.trans HP) (by rw [hN]; exact HS)
            clear hB9 HS hk9 hr9 hg9 stp xp1 xpf hvp xr1
            generalize w9.setCell ⟨N + 1 + 1, 1, none⟩ (.slice (some ⟨b9, 0, none⟩) (ex.length + 1) c9) = W9 at *
            have q0 := st9.c0; have q1 := st9.c1; have q2 := st9.r0; have q3 := st9.r1; have q4 := st9.s0; have q5 := st9.s1
            go_wp2_with fail
            have qi := (OwnInts.of_row_n st9.h0 (by simp)).lower (show N ≤ N + 1 by omega)
            have qx := (RowVal.own_n st9.h1 (by simp)).lower (show N ≤ N + 1 + 1 + 1 by omega)
            have qi2 := ((OwnInts.of_row_n st9.h0 (by simp)).far (p := ⟨N, 0, none⟩) (Nat.lt_succ_self N) (.slice (some ⟨B0, 0, none⟩) 7 7)).far (p := ⟨N, 1, none⟩) (Nat.lt_succ_self N) (.slice (some ⟨b9, 0, none⟩) (ex.length + 1) c9)
            have qx2 := ((RowVal.own_n st9.h1 (by simp)).far (p := ⟨N, 0, none⟩) (by show N < N + 1 + 1 + 1; omega) (.slice (some ⟨B0, 0, none⟩) 7 7)).far (p := ⟨N, 1, none⟩) (by show N < N + 1 + 1 + 1; omega) (.slice (some ⟨b9, 0, none⟩) (ex.length + 1) c9)
            have HF : Below N (W9) (((W9).setCell ⟨N, 0, none⟩ (.slice (some ⟨B0, 0, none⟩) 7 7)).setCell ⟨N, 1, none⟩ (.slice (some ⟨b9, 0, none⟩) (ex.length + 1) c9)) := ((Below.refl N _).setCell (p := ⟨N, 0, none⟩) (Nat.le_refl _) _).setCell (p := ⟨N, 1, none⟩) (Nat.le_refl _) _
            refine bodyPost_ret (v := .agg #[.slice (some ⟨B0, 0, none⟩) 7 7, .slice (some ⟨b9, 0, none⟩) (ex.length + 1) c9]) (by simp [results, Try.results52, go_sem, q2, q3, q4, q5]) rfl ?_
            have qa := qi2.lower (show N ≤ N + 1 by omega)
            have qb := qx2.lower (show N ≤ N + 1 + 1 + 1 by omega)
            subst hN
            refine ⟨_, _, _, _, _, _, _, _, rfl, ?_, ?_, qa, qb, hc9.keep HF hg, only_below HO9' HF⟩
            · first | omega | (simp; done) | (simp; omega)
            · first | omega | (simp; done) | (simp; omega)
        have st9 := st7
        have hc9 := hc7
        clear st7 hc7
        have q0 := st9.c0; have q1 := st9.c1; have q2 := st9.r0; have q3 := st9.r1; have q4 := st9.s0; have q5 := st9.s1
        go_wp2_with fail
        have qi := (OwnInts.of_row_n st9.h0 (by simp)).lower (show N ≤ N + 1 by omega)
        have qx := (RowVal.own_n st9.h1 (by simp)).lower (show N ≤ N + 1 + 1 + 1 by omega)
        have qi2 := ((OwnInts.of_row_n st9.h0 (by simp)).far (p := ⟨N, 0, none⟩) (Nat.lt_succ_self N) (.slice (some ⟨B0, 0, none⟩) 7 7)).far (p := ⟨N, 1, none⟩) (Nat.lt_succ_self N) (.slice A1 ex.length d1)
        have qx2 := ((RowVal.own_n st9.h1 (by simp)).far (p := ⟨N, 0, none⟩) (by show N < N + 1 + 1 + 1; omega) (.slice (some ⟨B0, 0, none⟩) 7 7)).far (p := ⟨N, 1, none⟩) (by show N < N + 1 + 1 + 1; omega) (.slice A1 ex.length d1)
        have HF : Below N (w7) (((w7).setCell ⟨N, 0, none⟩ (.slice (some ⟨B0, 0, none⟩) 7 7)).setCell ⟨N, 1, none⟩ (.slice A1 ex.length d1)) := ((Below.refl N _).setCell (p := ⟨N, 0, none⟩) (Nat.le_refl _) _).setCell (p := ⟨N, 1, none⟩) (Nat.le_refl _) _
        refine bodyPost_ret (v := .agg #[.slice (some ⟨B0, 0, none⟩) 7 7, .slice A1 ex.length d1]) (by simp [results, Try.results52, go_sem, q2, q3, q4, q5]) rfl ?_
        have qa := qi2.lower (show N ≤ N + 1 by omega)
        have qb := qx2.lower (show N ≤ N + 1 + 1 + 1 by omega)
        subst hN
        refine ⟨_, _, _, _, _, _, _, _, rfl, ?_, ?_, qa, qb, hc9.keep HF hg, only_below HO9 HF⟩
        · first | omega | (simp; done) | (simp; omega)
        · first | omega | (simp; done) | (simp; omega)
  have hx2 : ¬ x = 0 := hx0
  have st5 := st4
  have hc5 := hc4
  have HO5 := HOa
  clear st4 hc4 HOa
  go_wp2_with fail
  refine (l1Below_any _ _ _ _ (by omega) hc5).mono ?_
  rintro e w6 ⟨n, rfl, ⟨n0, n1⟩, hc6, HO6⟩
  have st6 := st5.only HO6 hg
  have HO7 := HO5.trans HO6
  clear st5 hc5 HO5 HO6
  go_wp2_with fail
  go_loopw [4, 5] (fun dv t wr => ∃ (dy j : Int) (v1 : Value) (ex : List Ex), dv = .int .i64 dy ∧ t = .int .i64 j ∧ 0 ≤ dy ∧ dy ≤ 9 * (3 - j) ∧ 0 ≤ j ∧ j ≤ n ∧ (ex.length : Int) + j = n ∧ CalSt wr N (.slice (some ⟨N + 1, 0, none⟩) 7 7) v1 [8, 8, 8, 8, 8, 0, 0] ex ∧ CurAt wr base g ∧ Only g (g + 1) w wr) (fun _ t _ => (intOf t).toNat)
  case atStart => exact ⟨0, n, _, [], rfl, rfl, by omega, by omega, n0, by omega, by simp, st6, hc6, HO7⟩
  case round =>
    clear st6 hc6 HO7
    obtain ⟨dy, j, v1, ex, rfl, rfl, dy0, dy1, j0, j1, hxl, st6, hc6, HO7⟩ := hrel
    have hgl := st6.lt
    by_cases hjp : 0 < j
    · go_wp2_with fail
      refine (l1Below_any _ _ _ _ (by omega) hc6).mono ?_
      rintro e w7 ⟨y, rfl, ⟨y0, y1⟩, hc7, HO8⟩
      have st7 := st6.only HO8 hg
      have HO9 := HO7.trans HO8
      clear st6 hc6 HO7 HO8 hgl
      have hg7 := hc7.lt
      have hl7 := st7.lt
      go_wp2_with fail
      obtain ⟨dz, hdz⟩ : ∃ dz : Int, dy + 1 + y = dz := ⟨_, rfl⟩
      rw [hdz]
      have hdz0 : 0 ≤ dz ∧ dz ≤ 9 * (3 - (j - 1)) := by omega
      clear hdz
      have hpick := l1PickInt_any _ 4 4 [0, 0, 12, 24] _ base g ((lit_ints (w := w7) (H := w7.heap.size) rfl #[.int .i64 0, .int .i64 0, .int .i64 12, .int .i64 24] [0, 0, 12, 24] 4 rfl rfl (by simp)).keep (Below.refl _ _).drew) (by omega) (fun a ha => by have := Option.some.inj ha; rw [← this]; show w7.heap.size ≠ g; omega) (hc7.keep ((below_alloc _ _).drew) hg7)
      have xa1 : (w7.alloc (.cells #[.int .i64 0, .int .i64 0, .int .i64 12, .int .i64 24] 3)).drew.cell? ⟨N + 1 + 1, 1, none⟩ = some v1 := ((below_alloc w7 _).drew.cell (p := ⟨N + 1 + 1, 1, none⟩) hl7).trans st7.c1
      have xb1 := st7.c1
      go_region_law (first
        | (go_simp; go_at_call 37; refine hpick.mono ?_; rintro e wp ⟨h, rfl, _, hcp, HOp⟩; have HP : Only g (g + 1) w7 wp := (Only.of_below ((below_alloc w7 _).drew)).trans HOp; have stp := st7.only HP hg; have xp1 := stp.c1; have xpf := stp.f1; have hvp := stp.h1; have hlp := stp.lt; have xr1 : (wp.alloc (.cells #[.int .i64 dz, .int .i64 h] 122)).cell? ⟨N + 1 + 1, 1, none⟩ = some v1 := ((below_alloc wp _).cell (p := ⟨N + 1 + 1, 1, none⟩) hlp).trans xp1)
        | (refine step_append_rows excElem exOne rfl (.tmp 30) (.tmp 36) rfl (wp.alloc (.cells #[.int .i64 dz, .int .i64 h] 122)) (lo := N + 1 + 1 + 1) (v := v1) (l := ex) rfl (hvp.alloc _) (by omega) rfl (lit_row (F := exF) rfl #[.int .i64 dz, .int .i64 h] (dz, h) rfl) (by simp; omega) ?_; intro v9 w9 hr9 hg9; obtain ⟨b9, c9, rfl⟩ := hr9.some_of (n := ex.length) (by simp); have hk9 : ∀ k, k < wp.heap.size → v1.ownBlock ≠ some k → w9.heap[k]? = wp.heap[k]? := fun k hk hkn => ((hg9.block k (by simp; omega) (Ne.symm hkn)).trans ((below_alloc wp _).block k hk)); have hz9 : wp.heap.size ≤ w9.heap.size := (by have := hg9.size; simp at this; omega); obtain ⟨st9, x9, f9⟩ := stp.push1 hz9 hk9 hr9))
      all_goals
        have hB9 : Below N wp w9 := ((Below.refl N wp).alloc (by omega) _).trans (RowVal.below (hvp.alloc _) hg9 (by omega) (by simp; omega))
        have HS : Below N wp (w9.setCell ⟨N + 1 + 1, 1, none⟩ (.slice (some ⟨b9, 0, none⟩) (ex.length + 1) c9)) := hB9.setCell (p := ⟨N + 1 + 1, 1, none⟩) (by show N ≤ N + 1 + 1; omega) _
        have hc9' := hcp.keep HS hg
        have HO9' := only_below (HO9.trans HP) (by rw [hN]; exact HS)
        clear hB9 HS hk9 hr9 hg9 stp xp1 xpf hvp xr1
        go_wp2_with fail
        go_roundw
        case rel => exact ⟨dz, j - 1, _, ex ++ [(dz, h)], rfl, rfl, hdz0.1, hdz0.2, by omega, by omega, by simp; omega, st9, hc9', HO9'⟩
        case measure => simp [intOf]; omega
    · obtain rfl : j = 0 := by omega
      have hx3 : ex.length ≤ 3 := by omega
      obtain ⟨A1, d1, rfl, _⟩ := st6.h1.form
      clear hjp dy0 dy1 j0 j1 hxl
      go_wp2_with fail
      refine (l1Below_any _ _ _ _ (by omega) hc6).mono ?_
      rintro e w7 ⟨z, rfl, ⟨z0, z1⟩, hc7, HO8⟩
      have st7 := st6.only HO8 hg
      have HO9 := HO7.trans HO8
      clear st6 hc6 HO7 HO8 hgl
      have hg7 := hc7.lt
      have hl7 := st7.lt
      by_cases hz0 : z = 0
      · subst hz0
        have hpick := l1PickInt_any _ 2 2 [-1, 25] _ base g ((lit_ints (w := w7) (H := w7.heap.size) rfl #[.int .i64 (-1), .int .i64 25] [-1, 25] 2 rfl rfl (by simp)).keep (Below.refl _ _).drew) (by omega) (fun a ha => by have := Option.some.inj ha; rw [← this]; show w7.heap.size ≠ g; omega) (hc7.keep ((below_alloc _ _).drew) hg7)
        have xa0 : (w7.alloc (.cells #[.int .i64 (-1), .int .i64 25] 3)).drew.cell? ⟨N + 1 + 1, 0, none⟩ = some (.slice (some ⟨N + 1, 0, none⟩) 7 7) := ((below_alloc w7 _).drew.cell (p := ⟨N + 1 + 1, 0, none⟩) hl7).trans st7.c0
        have xb0 := st7.c0
        go_wp2_with fail
        go_region_law (go_simp; go_at_call 37; refine hpick.mono ?_; rintro e wp ⟨h, rfl, _, hcp, HOp⟩; have HP : Only g (g + 1) w7 wp := (Only.of_below ((below_alloc w7 _).drew)).trans HOp; have stp := st7.only HP hg; have xp0 := stp.c0; obtain ⟨xw, xwf⟩ := stp.cell3 rfl 3 (by decide))
        all_goals
          have st9 := stp.week rfl 3 h
          have hlo9 := own_block stp.h0 _ rfl
          have HS : Below N wp (wp.setCell ⟨N + 1, 3, none⟩ (.int .i64 h)) := (Below.refl N wp).setCell (p := ⟨N + 1, 3, none⟩) (by show N ≤ N + 1; omega) _
          have hc9 := hcp.keep HS hg
          have HO9' := only_below (HO9.trans HP) (by rw [hN]; exact HS)
          clear stp xp0 xw xwf HS
          generalize wp.setCell ⟨N + 1, 3, none⟩ (.int .i64 h) = W9 at *
          have q0 := st9.c0; have q1 := st9.c1; have q2 := st9.r0; have q3 := st9.r1; have q4 := st9.s0; have q5 := st9.s1
          go_wp2_with fail
          have qi := (OwnInts.of_row_n st9.h0 (by simp)).lower (show N ≤ N + 1 by omega)
          have qx := (RowVal.own_n st9.h1 (by simp)).lower (show N ≤ N + 1 + 1 + 1 by omega)
          have qi2 := ((OwnInts.of_row_n st9.h0 (by simp)).far (p := ⟨N, 0, none⟩) (Nat.lt_succ_self N) (.slice (some ⟨N + 1, 0, none⟩) 7 7)).far (p := ⟨N, 1, none⟩) (Nat.lt_succ_self N) (.slice A1 ex.length d1)
          have qx2 := ((RowVal.own_n st9.h1 (by simp)).far (p := ⟨N, 0, none⟩) (by show N < N + 1 + 1 + 1; omega) (.slice (some ⟨N + 1, 0, none⟩) 7 7)).far (p := ⟨N, 1, none⟩) (by show N < N + 1 + 1 + 1; omega) (.slice A1 ex.length d1)
          have HF : Below N (W9) (((W9).setCell ⟨N, 0, none⟩ (.slice (some ⟨N + 1, 0, none⟩) 7 7)).setCell ⟨N, 1, none⟩ (.slice A1 ex.length d1)) := ((Below.refl N _).setCell (p := ⟨N, 0, none⟩) (Nat.le_refl _) _).setCell (p := ⟨N, 1, none⟩) (Nat.le_refl _) _
          refine bodyPost_ret (v := .agg #[.slice (some ⟨N + 1, 0, none⟩) 7 7, .slice A1 ex.length d1]) (by simp [results, Try.results52, go_sem, q2, q3, q4, q5]) rfl ?_
          have qa := qi2.lower (show N ≤ N + 1 by omega)
          have qb := qx2.lower (show N ≤ N + 1 + 1 + 1 by omega)
          subst hN
          refine ⟨_, _, _, _, _, _, _, _, rfl, ?_, ?_, qa, qb, hc9.keep HF hg, only_below HO9' HF⟩
          · first | omega | (simp; done) | (simp; omega)
          · first | omega | (simp; done) | (simp; omega)
      by_cases hz1 : z = 1
      · subst hz1
        have xb0 := st7.c0
        go_wp2_with (at_builtin; refine wpList_append_both intElem rfl _ _ rfl rfl st7.h0 (by simp) 1 #[.int .i64 1] rfl (intOne 1) w7.heap.size _ rfl rfl (by omega) ?_; intro v9 w9 hr9 hb9 hs9 hk9 hn9; obtain ⟨b9, c9, rfl⟩ := hr9.some_of (n := 7) (by simp); obtain ⟨st9, x9, f9⟩ := st7.push0 (by omega) hk9 hr9 (hn9 (N + 1 + 1) hl7 st7.n0); have q0 := st9.c0; have q1 := st9.c1; have q2 := st9.r0; have q3 := st9.r1; have q4 := st9.s0; have q5 := st9.s1)
        have HS : Below N w7 (w9.setCell ⟨N + 1 + 1, 0, none⟩ (.slice (some ⟨b9, 0, none⟩) (7 + 1) c9)) := (hb9 N (by omega) (by omega)).setCell (p := ⟨N + 1 + 1, 0, none⟩) (by show N ≤ N + 1 + 1; omega) _
        have hc9 := hc7.keep HS hg
        have HO9' := only_below HO9 (by rw [hN]; exact HS)
        clear HS hb9 hk9 hn9 hr9 x9 f9 st7
        have qi := (OwnInts.of_row_n st9.h0 (by simp)).lower (show N ≤ N + 1 by omega)
        have qx := (RowVal.own_n st9.h1 (by simp)).lower (show N ≤ N + 1 + 1 + 1 by omega)
        have qi2 := ((OwnInts.of_row_n st9.h0 (by simp)).far (p := ⟨N, 0, none⟩) (Nat.lt_succ_self N) (.slice (some ⟨b9, 0, none⟩) (7 + 1) c9)).far (p := ⟨N, 1, none⟩) (Nat.lt_succ_self N) (.slice A1 ex.length d1)
        have qx2 := ((RowVal.own_n st9.h1 (by simp)).far (p := ⟨N, 0, none⟩) (by show N < N + 1 + 1 + 1; omega) (.slice (some ⟨b9, 0, none⟩) (7 + 1) c9)).far (p := ⟨N, 1, none⟩) (by show N < N + 1 + 1 + 1; omega) (.slice A1 ex.length d1)
        have HF : Below N (w9.setCell ⟨N + 1 + 1, 0, none⟩ (Value.slice (some ⟨b9, 0, none⟩) (7 + 1) c9)) (((w9.setCell ⟨N + 1 + 1, 0, none⟩ (Value.slice (some ⟨b9, 0, none⟩) (7 + 1) c9)).setCell ⟨N, 0, none⟩ (.slice (some ⟨b9, 0, none⟩) (7 + 1) c9)).setCell ⟨N, 1, none⟩ (.slice A1 ex.length d1)) := ((Below.refl N _).setCell (p := ⟨N, 0, none⟩) (Nat.le_refl _) _).setCell (p := ⟨N, 1, none⟩) (Nat.le_refl _) _
        refine bodyPost_ret (v := .agg #[.slice (some ⟨b9, 0, none⟩) (7 + 1) c9, .slice A1 ex.length d1]) (by simp [results, Try.results52, go_sem, q2, q3, q4, q5]) rfl ?_
        have qa := qi2.lower (show N ≤ N + 1 by omega)
        have qb := qx2.lower (show N ≤ N + 1 + 1 + 1 by omega)
        subst hN
        refine ⟨_, _, _, _, _, _, _, _, rfl, ?_, ?_, qa, qb, hc9.keep HF hg, only_below HO9' HF⟩
        · first | omega | (simp; done) | (simp; omega)
        · first | omega | (simp; done) | (simp; omega)
      by_cases hz2 : z = 2
      · subst hz2
        have hpick := l1PickInt_any _ 3 3 [0, 999, 1000] _ base g ((lit_ints (w := w7) (H := w7.heap.size) rfl #[.int .i64 0, .int .i64 999, .int .i64 1000] [0, 999, 1000] 3 rfl rfl (by simp)).keep (Below.refl _ _).drew) (by omega) (fun a ha => by have := Option.some.inj ha; rw [← this]; show w7.heap.size ≠ g; omega) (hc7.keep ((below_alloc _ _).drew) hg7)
        have xa1 : (w7.alloc (.cells #[.int .i64 0, .int .i64 999, .int .i64 1000] 3)).drew.cell? ⟨N + 1 + 1, 1, none⟩ = some (.slice A1 ex.length d1) := ((below_alloc w7 _).drew.cell (p := ⟨N + 1 + 1, 1, none⟩) hl7).trans st7.c1
        have xb1 := st7.c1
        go_wp2_with fail
        go_region_law (first
          | (go_simp; go_at_call 37; refine hpick.mono ?_; rintro e wp ⟨h, rfl, _, hcp, HOp⟩; have HP : Only g (g + 1) w7 wp := (Only.of_below ((below_alloc w7 _).drew)).trans HOp; have stp := st7.only HP hg; have xp1 := stp.c1; have xpf := stp.f1; have hvp := stp.h1; have hlp := stp.lt; have xr1 : (wp.alloc (.cells #[.int .i64 h, .int .i64 3] 122)).cell? ⟨N + 1 + 1, 1, none⟩ = some (.slice A1 ex.length d1) := ((below_alloc wp _).cell (p := ⟨N + 1 + 1, 1, none⟩) hlp).trans xp1)
          | (refine step_append_rows excElem exOne rfl (.tmp 59) (.tmp 64) rfl (wp.alloc (.cells #[.int .i64 h, .int .i64 3] 122)) (lo := N + 1 + 1 + 1) (v := .slice A1 ex.length d1) (l := ex) rfl (hvp.alloc _) (by omega) rfl (lit_row (F := exF) rfl #[.int .i64 h, .int .i64 3] (h, 3) rfl) (by simp; omega) ?_; intro v9 w9 hr9 hg9; obtain ⟨b9, c9, rfl⟩ := hr9.some_of (n := ex.length) (by simp); have hk9 : ∀ k, k < wp.heap.size → (Value.slice A1 ex.length d1).ownBlock ≠ some k → w9.heap[k]? = wp.heap[k]? := fun k hk hkn => ((hg9.block k (by simp; omega) (Ne.symm hkn)).trans ((below_alloc wp _).block k hk)); have hz9 : wp.heap.size ≤ w9.heap.size := (by have := hg9.size; simp at this; omega); obtain ⟨st9, x9, f9⟩ := stp.push1 hz9 hk9 hr9))
        all_goals
          have hB9 : Below N wp w9 := ((Below.refl N wp).alloc (by omega) _).trans (RowVal.below (hvp.alloc _) hg9 (by omega) (by simp; omega))
          have HS : Below N wp (w9.setCell ⟨N + 1 + 1, 1, none⟩ (.slice (some ⟨b9, 0, none⟩) (ex.length + 1) c9)) := hB9.setCell (p := ⟨N + 1 + 1, 1, none⟩) (by show N ≤ N + 1 + 1; omega) _
          have hc9 := hcp.keep HS hg
          have HO9' := only_below (HO9.trans HP) (by rw [hN]; exact HS)
          clear hB9 HS hk9 hr9 hg9 stp xp1 xpf hvp xr1
          generalize w9.setCell ⟨N + 1 + 1, 1, none⟩ (.slice (some ⟨b9, 0, none⟩) (ex.length + 1) c9) = W9 at *
          have q0 := st9.c0; have q1 := st9.c1; have q2 := st9.r0; have q3 := st9.r1; have q4 := st9.s0; have q5 := st9.s1
          go_wp2_with fail
          have qi := (OwnInts.of_row_n st9.h0 (by simp)).lower (show N ≤ N + 1 by omega)
          have qx := (RowVal.own_n st9.h1 (by simp)).lower (show N ≤ N + 1 + 1 + 1 by omega)
          have qi2 := ((OwnInts.of_row_n st9.h0 (by simp)).far (p := ⟨N, 0, none⟩) (Nat.lt_succ_self N) (.slice (some ⟨N + 1, 0, none⟩) 7 7)).far (p := ⟨N, 1, none⟩) (Nat.lt_succ_self N) (.slice (some ⟨b9, 0, none⟩) (ex.length + 1) c9)
          have qx2 := ((RowVal.own_n st9.h1 (by simp)).far (p := ⟨N, 0, none⟩) (by show N < N + 1 + 1 + 1; omega) (.slice (some ⟨N + 1, 0, none⟩) 7 7)).far (p := ⟨N, 1, none⟩) (by show N < N + 1 + 1 + 1; omega) (.slice (some ⟨b9, 0, none⟩) (ex.length + 1) c9)
          have HF : Below N (W9) (((W9).setCell ⟨N, 0, none⟩ (.slice (some ⟨N + 1, 0, none⟩) 7 7)).setCell ⟨N, 1, none⟩ (.slice (some ⟨b9, 0, none⟩) (ex.length + 1) c9)) := ((Below.refl N _).setCell (p := ⟨N, 0, none⟩) (Nat.le_refl _) _).setCell (p := ⟨N, 1, none⟩) (Nat.le_refl _) _
          refine bodyPost_ret (v := .agg #[.slice (some ⟨N + 1, 0, none⟩) 7 7, .slice (some ⟨b9, 0, none⟩) (ex.length + 1) c9]) (by simp [results, Try.results52, go_sem, q2, q3, q4, q5]) rfl ?_
          have qa := qi2.lower (show N ≤ N + 1 by omega)
          have qb := qx2.lower (show N ≤ N + 1 + 1 + 1 by omega)
          subst hN
          refine ⟨_, _, _, _, _, _, _, _, rfl, ?_, ?_, qa, qb, hc9.keep HF hg, only_below HO9' HF⟩
          · first | omega | (simp; done) | (simp; omega)
          · first | omega | (simp; done) | (simp; omega)
      have st9 := st7
      have hc9 := hc7
      clear st7 hc7
      have q0 := st9.c0; have q1 := st9.c1; have q2 := st9.r0; have q3 := st9.r1; have q4 := st9.s0; have q5 := st9.s1
      go_wp2_with fail
      have qi := (OwnInts.of_row_n st9.h0 (by simp)).lower (show N ≤ N + 1 by omega)
      have qx := (RowVal.own_n st9.h1 (by simp)).lower (show N ≤ N + 1 + 1 + 1 by omega)
      have qi2 := ((OwnInts.of_row_n st9.h0 (by simp)).far (p := ⟨N, 0, none⟩) (Nat.lt_succ_self N) (.slice (some ⟨N + 1, 0, none⟩) 7 7)).far (p := ⟨N, 1, none⟩) (Nat.lt_succ_self N) (.slice A1 ex.length d1)
      have qx2 := ((RowVal.own_n st9.h1 (by simp)).far (p := ⟨N, 0, none⟩) (by show N < N + 1 + 1 + 1; omega) (.slice (some ⟨N + 1, 0, none⟩) 7 7)).far (p := ⟨N, 1, none⟩) (by show N < N + 1 + 1 + 1; omega) (.slice A1 ex.length d1)
      have HF : Below N (w7) (((w7).setCell ⟨N, 0, none⟩ (.slice (some ⟨N + 1, 0, none⟩) 7 7)).setCell ⟨N, 1, none⟩ (.slice A1 ex.length d1)) := ((Below.refl N _).setCell (p := ⟨N, 0, none⟩) (Nat.le_refl _) _).setCell (p := ⟨N, 1, none⟩) (Nat.le_refl _) _
      refine bodyPost_ret (v := .agg #[.slice (some ⟨N + 1, 0, none⟩) 7 7, .slice A1 ex.length d1]) (by simp [results, Try.results52, go_sem, q2, q3, q4, q5]) rfl ?_
      have qa := qi2.lower (show N ≤ N + 1 by omega)
      have qb := qx2.lower (show N ≤ N + 1 + 1 + 1 by omega)
      subst hN
      refine ⟨_, _, _, _, _, _, _, _, rfl, ?_, ?_, qa, qb, hc9.keep HF hg, only_below HO9 HF⟩
      · first | omega | (simp; done) | (simp; omega)
      · first | omega | (simp; done) | (simp; omega)
end Go.Proofs.Ytlkolehdikfddaa
