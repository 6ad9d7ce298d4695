/- Part 22 of the texts of this claim: How choices are drawn. -/
import Derived.Test.YtlkolehdikfddaaTr21
import Derived.Test.YtlkolehdikfddaaTr19
/- How choices are drawn. -/
namespace Go.Proofs.Ytlkolehdikfddaa
open Go.RowKit
set_option maxRecDepth 100000 in
set_option maxHeartbeats 8000000 in
theorem l6Choice_any (w : World) (base g : Nat) (hc : CurAt w base g) : Calls Try.prog 53 #[.pointer (some ⟨g, 0, none⟩)] w (DrawnPicks w base g) := by
  have hg := hc.lt
  have hs := below_alloc w (.cells #[] 118)
  have hr0 : RowVal pkF 118 (w.alloc (.cells #[] 118)) w.heap.size (.slice (some ⟨w.heap.size, 0, none⟩) 0 0) [] := empty_row rfl (Nat.le_refl _)
  have hc0 := hc.keep hs hg
  have H : Only g (g + 1) w (w.alloc (.cells #[] 118)) := Only.of_below hs
  go_enter Try.func53, Try.ntmps53
  go_wp2_with fail
  generalize w.alloc (.cells #[] 118) = w0 at *
  clear hs hc
  go_loopw [3, 4] (fun v t wr => ∃ (k : Nat) (l : List Pk), t = .int .i64 k ∧ k ≤ 3 ∧ l.length ≤ k ∧ Hid (∀ x ∈ l, okPk x) ∧ RowVal pkF 118 wr w.heap.size v l ∧ CurAt wr base g ∧ Only g (g + 1) w wr) (fun _ t _ => 3 - (intOf t).toNat)
  case atStart => exact ⟨0, [], rfl, by omega, by simp, Lib.hid (by simp), hr0, hc0, H⟩
  case round =>
    clear hr0 hc0 H
    obtain ⟨k, l, rfl, hk, hlk, HOK, hrow, hcur, H⟩ := hrel
    by_cases hlt : k < 3
    case neg =>
      obtain rfl : k = 3 := by omega
      go_wp2_with fail
      go_ret
      exact ⟨l, _, rfl, hlk, HOK.out, hrow, hcur, H⟩
    have hk3 : (k : Int) < 3 := by omega
    go_wp2_with fail
    refine (l1Once_any _ _ _ _ (by omega) hcur).mono ?_
    rintro e w1 ⟨b, rfl, hc1, HO1⟩
    replace hrow := hrow.only HO1 (by omega)
    replace H := H.trans HO1
    have hg1 := hc1.lt
    have hz1 := H.size
    clear HO1 hcur
    cases b
    case true =>
      go_wp2_with fail
      go_roundw
      case rel => exact ⟨k + 1, l, by go_num, by omega, by omega, HOK, hrow, hc1, H⟩
      case measure => simp [intOf]; omega
    obtain ⟨s, hsz, x0⟩ : ∃ s : ByteArray, s.size ≤ 9223372036854775807 ∧ (∀ W : World, (W.alloc (.cells #[.string ⟨#[67, 79, 76, 79, 82]⟩, .string ⟨#[83, 73, 90, 69]⟩, .string ⟨#[76, 73, 68]⟩] 9)).cell? ⟨W.heap.size, k, none⟩ = some (.string s)) := by
      have hk7 : k < ([⟨#[67, 79, 76, 79, 82]⟩, ⟨#[83, 73, 90, 69]⟩, ⟨#[76, 73, 68]⟩] : List ByteArray).length := by simpa using hlt
      refine ⟨([⟨#[67, 79, 76, 79, 82]⟩, ⟨#[83, 73, 90, 69]⟩, ⟨#[76, 73, 68]⟩] : List ByteArray)[k], size_mem (L := ([⟨#[67, 79, 76, 79, 82]⟩, ⟨#[83, 73, 90, 69]⟩, ⟨#[76, 73, 68]⟩] : List ByteArray)) (by decide) (List.getElem_mem _), fun W => ?_⟩
      have hlit : RowsIn strF (W.alloc (.cells #[.string ⟨#[67, 79, 76, 79, 82]⟩, .string ⟨#[83, 73, 90, 69]⟩, .string ⟨#[76, 73, 68]⟩] 9)) (some ⟨W.heap.size, 0, none⟩) 3 ([⟨#[67, 79, 76, 79, 82]⟩, ⟨#[83, 73, 90, 69]⟩, ⟨#[76, 73, 68]⟩] : List ByteArray) := lit_strs (t := 9) rfl #[.string ⟨#[67, 79, 76, 79, 82]⟩, .string ⟨#[83, 73, 90, 69]⟩, .string ⟨#[76, 73, 68]⟩] ([⟨#[67, 79, 76, 79, 82]⟩, ⟨#[83, 73, 90, 69]⟩, ⟨#[76, 73, 68]⟩] : List ByteArray) 3 rfl rfl (by simp)
      obtain ⟨b, o, e, _, hcell⟩ := hlit.at_ hk7
      injection e with e
      injection e with e1 e2
      subst e1 e2
      have := hcell 0 _ rfl
      simpa [strF] using this
    obtain ⟨A9, c9, rfl, ho9⟩ := hrow.form
    clear hrow
    have hvb : ∀ g, (Value.slice A9 l.length c9).ownBlock = some g → g < w1.heap.size := RowVal.blt (v := .slice A9 l.length c9) ho9.val
    have hrw : RowVal pkF 118 w1.drew w.heap.size (.slice A9 l.length c9) l := ho9.val
    clear ho9
    have hl3 : l.length ≤ 3 := by omega
    go_wp2_with fail
    refine wp_region_held_drew (S := fun w' => CurAt w' base g ∧ Only g (g + 1) w w') (by kernel_rfl) (⟨hc1, only_drewN H 1⟩) (fun hHeld => ?_)
    refine held1 0 (some 13) hHeld ?_
    refine held1 2 (some 15) hHeld ?_
    refine held1 5 (some 18) hHeld ?_
    refine wpAnyH_ready (rs := [1, 6]) (by kernel_rfl) (by simp) ?_
    refine AllReadyH.cons rfl (fun K hK => ?_) (AllReadyH.cons rfl (fun K hK => ?_) (AllReadyH.nil))
    · skip
      go_simp
      refine hK.out _ _ (⟨hHeld.1.keep (below_alloc _ _) hHeld.1.lt, hHeld.2.trans (Only.of_below (below_alloc _ _))⟩) (fun hHeld => ?_)
      clear hK K
      try simp only [Act.put, List.setIfInBounds_toArray, List.set_cons_zero, List.set_cons_succ]
      replace hrw := hrw.alloc (.cells #[.string ⟨#[67, 79, 76, 79, 82]⟩, .string ⟨#[83, 73, 90, 69]⟩, .string ⟨#[76, 73, 68]⟩] 9)
      refine held_more (S' := fun w' => (CurAt w' base g ∧ Only g (g + 1) w w') ∧ w'.cell? ⟨w1.heap.size, k, none⟩ = some (.string s) ∧ w1.heap.size < w'.heap.size) (fun w h => h.1) (⟨hHeld, x0 _, by simp⟩) (fun hHeld => ?_)
      refine held1 3 (some 16) hHeld ?_
      refine held1 4 (some 17) hHeld ?_
      refine held_do 6 fun K hK => ?_
      go_simp
      refine hK.out _ _ (⟨⟨hHeld.1.1.keep (below_alloc _ _) hHeld.1.1.lt, hHeld.1.2.trans (Only.of_below (below_alloc _ _))⟩, alloc_cell hHeld.2.1 (.cells #[.string ⟨#[88]⟩, .string ⟨#[89]⟩, .string ⟨#[90]⟩] 9), by have := hHeld.2.2; simp at this ⊢; omega⟩) (fun hHeld => ?_)
      clear hK K
      try simp only [Act.put, List.setIfInBounds_toArray, List.set_cons_zero, List.set_cons_succ]
      replace hrw := hrw.alloc (.cells #[.string ⟨#[88]⟩, .string ⟨#[89]⟩, .string ⟨#[90]⟩] 9)
      refine held_do 7 fun K hK => ?_
      go_simp
      go_at_call 36
      refine (l1Pick_any _ 3 _ [⟨#[88]⟩, ⟨#[89]⟩, ⟨#[90]⟩] _ base g ((lit_strs (t := 9) (w := w1.alloc (.cells #[.string ⟨#[67, 79, 76, 79, 82]⟩, .string ⟨#[83, 73, 90, 69]⟩, .string ⟨#[76, 73, 68]⟩] 9)) (H := w1.heap.size + 1) (by simp) #[.string ⟨#[88]⟩, .string ⟨#[89]⟩, .string ⟨#[90]⟩] [⟨#[88]⟩, ⟨#[89]⟩, ⟨#[90]⟩] 3 rfl rfl (by simp)).drew) (by omega) (fun a ha => by have := Option.some.inj ha; rw [← this]; show w1.heap.size + 1 ≠ g; omega) hHeld.1.1).mono ?_
      rintro e wp ⟨h, rfl, hh, hcp, HOp⟩
      replace hrw := hrw.only HOp (by omega)
      have hzp : w1.heap.size ≤ wp.heap.size := by have := HOp.size; simp at this; omega
      go_simp
      refine hK.out _ _ (⟨⟨hcp, hHeld.1.2.trans HOp⟩, only_cell HOp hHeld.2.2 (by omega) hHeld.2.1, Nat.lt_of_lt_of_le hHeld.2.2 HOp.size⟩) (fun hHeld => ?_)
      clear hK K
      refine held1 8 (some 21) hHeld ?_
      refine held_do 9 fun K hK => ?_
      go_simp
      refine hK.out _ _ (⟨⟨hHeld.1.1.keep (below_alloc _ _) hHeld.1.1.lt, hHeld.1.2.trans (Only.of_below (below_alloc _ _))⟩, alloc_cell hHeld.2.1 (.cells #[.string s, .string h] 118), by have := hHeld.2.2; simp at this ⊢; omega⟩) (fun hHeld => ?_)
      clear hK K
      try simp only [Act.put, List.setIfInBounds_toArray, List.set_cons_zero, List.set_cons_succ]
      replace hrw := hrw.alloc (.cells #[.string s, .string h] 118)
      have hz9 := (hHeld.1).2.size
      refine held_do 10 fun K hK => ?_
      refine step_append_rows pickElem pkOneD rfl (.tmp 13) (.tmp 22) rfl _ (lo := w.heap.size) (l := l) rfl hrw (by omega) rfl (lit_row (F := pkF) (by simp) #[.string s, .string h] (s, h) rfl) (by simp at hz9 ⊢; omega) ?_
      intro v9 w9 hr9 hg9
      have hB9 := RowVal.below hrw hg9 (Nat.le_refl _) hz9
      refine hK.out _ _ (⟨⟨hHeld.1.1.keep hB9 hg, only_below hHeld.1.2 hB9⟩, grown_cell hg9 hvb (Nat.le_refl _) hHeld.2.2 hHeld.2.1, Nat.lt_of_lt_of_le hHeld.2.2 hB9.size⟩) (fun hHeld => ?_)
      clear hK K
      refine held1 11 (some 3) hHeld ?_
      refine wpAnyH_done (by kernel_rfl) ?_ _
      have hh2 := size_mem (by decide) hh
      have hok9 : Hid (∀ z ∈ l ++ [(s, h)], okPk z) := fun z hz => by
        rcases List.mem_append.1 hz with hz | hz
        · exact HOK.out z hz
        · rw [List.mem_singleton.1 hz]; exact ⟨hsz, hh2⟩
      have HC9 := (hHeld.1).1
      have HH9 := (hHeld.1).2
      go_wp2_with fail
      go_roundw
      case rel => exact ⟨k + 1, l ++ [(s, h)], by go_num, by omega, by simp; omega, hok9, hr9, HC9, HH9⟩
      case measure => simp [intOf]; omega
    · skip
      go_simp
      refine hK.out _ _ (⟨hHeld.1.keep (below_alloc _ _) hHeld.1.lt, hHeld.2.trans (Only.of_below (below_alloc _ _))⟩) (fun hHeld => ?_)
      clear hK K
      try simp only [Act.put, List.setIfInBounds_toArray, List.set_cons_zero, List.set_cons_succ]
      replace hrw := hrw.alloc (.cells #[.string ⟨#[88]⟩, .string ⟨#[89]⟩, .string ⟨#[90]⟩] 9)
      refine held_more (S' := fun w' => (CurAt w' base g ∧ Only g (g + 1) w w') ∧ RowsIn strF w' (some ⟨w1.heap.size, 0, none⟩) 3 [⟨#[88]⟩, ⟨#[89]⟩, ⟨#[90]⟩]) (fun w h => h.1) (⟨hHeld, lit_strs (t := 9) rfl #[.string ⟨#[88]⟩, .string ⟨#[89]⟩, .string ⟨#[90]⟩] [⟨#[88]⟩, ⟨#[89]⟩, ⟨#[90]⟩] 3 rfl rfl (by simp)⟩) (fun hHeld => ?_)
      refine wpAnyH_ready (rs := [1, 7]) (by kernel_rfl) (by simp) ?_
      refine AllReadyH.cons rfl (fun K hK => ?_) (AllReadyH.cons rfl (fun K hK => ?_) (AllReadyH.nil))
      · skip
        go_simp
        refine hK.out _ _ (⟨⟨hHeld.1.1.keep (below_alloc _ _) hHeld.1.1.lt, hHeld.1.2.trans (Only.of_below (below_alloc _ _))⟩, hHeld.2.keep (below_alloc _ _)⟩) (fun hHeld => ?_)
        clear hK K
        try simp only [Act.put, List.setIfInBounds_toArray, List.set_cons_zero, List.set_cons_succ]
        replace hrw := hrw.alloc (.cells #[.string ⟨#[67, 79, 76, 79, 82]⟩, .string ⟨#[83, 73, 90, 69]⟩, .string ⟨#[76, 73, 68]⟩] 9)
        refine held_more (S' := fun w' => ((CurAt w' base g ∧ Only g (g + 1) w w') ∧ RowsIn strF w' (some ⟨w1.heap.size, 0, none⟩) 3 [⟨#[88]⟩, ⟨#[89]⟩, ⟨#[90]⟩]) ∧ w'.cell? ⟨w1.heap.size + 1, k, none⟩ = some (.string s) ∧ w1.heap.size + 1 < w'.heap.size) (fun w h => h.1) (⟨hHeld, (by have := x0 (w1.drew.alloc (.cells #[.string ⟨#[88]⟩, .string ⟨#[89]⟩, .string ⟨#[90]⟩] 9)); rw [World.size_alloc1] at this; exact this), by simp⟩) (fun hHeld => ?_)
        refine held1 3 (some 16) hHeld ?_
        refine held1 4 (some 17) hHeld ?_
        refine held_do 7 fun K hK => ?_
        go_simp
        go_at_call 36
        refine (l1Pick_any _ 3 _ [⟨#[88]⟩, ⟨#[89]⟩, ⟨#[90]⟩] _ base g (hHeld.1.2) (by omega) (fun a ha => by have := Option.some.inj ha; rw [← this]; show w1.heap.size ≠ g; omega) hHeld.1.1.1).mono ?_
        rintro e wp ⟨h, rfl, hh, hcp, HOp⟩
        replace hrw := hrw.only HOp (by omega)
        have hzp : w1.heap.size ≤ wp.heap.size := by have := HOp.size; simp at this; omega
        go_simp
        refine hK.out _ _ (⟨⟨⟨hcp, hHeld.1.1.2.trans HOp⟩, RowS.rows hHeld.1.2 (fun a ha => by have := Option.some.inj ha; rw [← this]; show w1.heap.size ≠ g; omega) HOp⟩, only_cell HOp hHeld.2.2 (by omega) hHeld.2.1, Nat.lt_of_lt_of_le hHeld.2.2 HOp.size⟩) (fun hHeld => ?_)
        clear hK K
        refine held1 8 (some 21) hHeld ?_
        refine held_do 9 fun K hK => ?_
        go_simp
        refine hK.out _ _ (⟨⟨⟨hHeld.1.1.1.keep (below_alloc _ _) hHeld.1.1.1.lt, hHeld.1.1.2.trans (Only.of_below (below_alloc _ _))⟩, hHeld.1.2.keep (below_alloc _ _)⟩, alloc_cell hHeld.2.1 (.cells #[.string s, .string h] 118), by have := hHeld.2.2; simp at this ⊢; omega⟩) (fun hHeld => ?_)
        clear hK K
        try simp only [Act.put, List.setIfInBounds_toArray, List.set_cons_zero, List.set_cons_succ]
        replace hrw := hrw.alloc (.cells #[.string s, .string h] 118)
        have hz9 := (hHeld.1.1).2.size
        refine held_do 10 fun K hK => ?_
        refine step_append_rows pickElem pkOneD rfl (.tmp 13) (.tmp 22) rfl _ (lo := w.heap.size) (l := l) rfl hrw (by omega) rfl (lit_row (F := pkF) (by simp) #[.string s, .string h] (s, h) rfl) (by simp at hz9 ⊢; omega) ?_
        intro v9 w9 hr9 hg9
        have hB9 := RowVal.below hrw hg9 (Nat.le_refl _) hz9
        refine hK.out _ _ (⟨⟨⟨hHeld.1.1.1.keep hB9 hg, only_below hHeld.1.1.2 hB9⟩, grown_rows hg9 hvb (Nat.le_refl _) hHeld.1.2⟩, grown_cell hg9 hvb (by omega) hHeld.2.2 hHeld.2.1, Nat.lt_of_lt_of_le hHeld.2.2 hB9.size⟩) (fun hHeld => ?_)
        clear hK K
        refine held1 11 (some 3) hHeld ?_
        refine wpAnyH_done (by kernel_rfl) ?_ _
        have hh2 := size_mem (by decide) hh
        have hok9 : Hid (∀ z ∈ l ++ [(s, h)], okPk z) := fun z hz => by
          rcases List.mem_append.1 hz with hz | hz
          · exact HOK.out z hz
          · rw [List.mem_singleton.1 hz]; exact ⟨hsz, hh2⟩
        have HC9 := (hHeld.1.1).1
        have HH9 := (hHeld.1.1).2
        go_wp2_with fail
        go_roundw
        case rel => exact ⟨k + 1, l ++ [(s, h)], by go_num, by omega, by simp; omega, hok9, hr9, HC9, HH9⟩
        case measure => simp [intOf]; omega
      · skip
        go_simp
        go_at_call 36
        refine (l1Pick_any _ 3 _ [⟨#[88]⟩, ⟨#[89]⟩, ⟨#[90]⟩] _ base g (hHeld.2) (by omega) (fun a ha => by have := Option.some.inj ha; rw [← this]; show w1.heap.size ≠ g; omega) hHeld.1.1).mono ?_
        rintro e wp ⟨h, rfl, hh, hcp, HOp⟩
        replace hrw := hrw.only HOp (by omega)
        have hzp : w1.heap.size ≤ wp.heap.size := by have := HOp.size; simp at this; omega
        go_simp
        refine hK.out _ _ (⟨⟨hcp, hHeld.1.2.trans HOp⟩, RowS.rows hHeld.2 (fun a ha => by have := Option.some.inj ha; rw [← this]; show w1.heap.size ≠ g; omega) HOp⟩) (fun hHeld => ?_)
        clear hK K
        try simp only [Act.put, List.setIfInBounds_toArray, List.set_cons_zero, List.set_cons_succ]
        refine held_do 1 fun K hK => ?_
        go_simp
        refine hK.out _ _ (⟨⟨hHeld.1.1.keep (below_alloc _ _) hHeld.1.1.lt, hHeld.1.2.trans (Only.of_below (below_alloc _ _))⟩, hHeld.2.keep (below_alloc _ _)⟩) (fun hHeld => ?_)
        clear hK K
        try simp only [Act.put, List.setIfInBounds_toArray, List.set_cons_zero, List.set_cons_succ]
        replace hrw := hrw.alloc (.cells #[.string ⟨#[67, 79, 76, 79, 82]⟩, .string ⟨#[83, 73, 90, 69]⟩, .string ⟨#[76, 73, 68]⟩] 9)
        refine held_more (S' := fun w' => ((CurAt w' base g ∧ Only g (g + 1) w w') ∧ RowsIn strF w' (some ⟨w1.heap.size, 0, none⟩) 3 [⟨#[88]⟩, ⟨#[89]⟩, ⟨#[90]⟩]) ∧ w'.cell? ⟨wp.heap.size, k, none⟩ = some (.string s) ∧ wp.heap.size < w'.heap.size) (fun w h => h.1) (⟨hHeld, x0 wp, by simp⟩) (fun hHeld => ?_)
        refine held1 3 (some 16) hHeld ?_
        refine held1 4 (some 17) hHeld ?_
        refine held1 8 (some 21) hHeld ?_
        refine held_do 9 fun K hK => ?_
        go_simp
        refine hK.out _ _ (⟨⟨⟨hHeld.1.1.1.keep (below_alloc _ _) hHeld.1.1.1.lt, hHeld.1.1.2.trans (Only.of_below (below_alloc _ _))⟩, hHeld.1.2.keep (below_alloc _ _)⟩, alloc_cell hHeld.2.1 (.cells #[.string s, .string h] 118), by have := hHeld.2.2; simp at this ⊢; omega⟩) (fun hHeld => ?_)
        clear hK K
        try simp only [Act.put, List.setIfInBounds_toArray, List.set_cons_zero, List.set_cons_succ]
        replace hrw := hrw.alloc (.cells #[.string s, .string h] 118)
        have hz9 := (hHeld.1.1).2.size
        refine held_do 10 fun K hK => ?_
        refine step_append_rows pickElem pkOneD rfl (.tmp 13) (.tmp 22) rfl _ (lo := w.heap.size) (l := l) rfl hrw (by omega) rfl (lit_row (F := pkF) (by simp) #[.string s, .string h] (s, h) rfl) (by simp at hz9 ⊢; omega) ?_
        intro v9 w9 hr9 hg9
        have hB9 := RowVal.below hrw hg9 (Nat.le_refl _) hz9
        refine hK.out _ _ (⟨⟨⟨hHeld.1.1.1.keep hB9 hg, only_below hHeld.1.1.2 hB9⟩, grown_rows hg9 hvb (Nat.le_refl _) hHeld.1.2⟩, grown_cell hg9 hvb (by omega) hHeld.2.2 hHeld.2.1, Nat.lt_of_lt_of_le hHeld.2.2 hB9.size⟩) (fun hHeld => ?_)
        clear hK K
        refine held1 11 (some 3) hHeld ?_
        refine wpAnyH_done (by kernel_rfl) ?_ _
        have hh2 := size_mem (by decide) hh
        have hok9 : Hid (∀ z ∈ l ++ [(s, h)], okPk z) := fun z hz => by
          rcases List.mem_append.1 hz with hz | hz
          · exact HOK.out z hz
          · rw [List.mem_singleton.1 hz]; exact ⟨hsz, hh2⟩
        have HC9 := (hHeld.1.1).1
        have HH9 := (hHeld.1.1).2
        go_wp2_with fail
        go_roundw
        case rel => exact ⟨k + 1, l ++ [(s, h)], by go_num, by omega, by simp; omega, hok9, hr9, HC9, HH9⟩
        case measure => simp [intOf]; omega
end Go.Proofs.Ytlkolehdikfddaa
