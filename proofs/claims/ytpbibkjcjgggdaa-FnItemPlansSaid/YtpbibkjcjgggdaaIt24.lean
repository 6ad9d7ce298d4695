/- Part 24 of the texts of this claim: Steps through a region that draws its order, by hand: what holds on the way may grow; How choices are drawn; What a condition comes to at a choice (plain); Rows of truth values of the call's own: they grow and shrink; The walks of l6Has and l6Eval; The order of levels (plain). -/
import Derived.Test.YtpbibkjcjgggdaaIt8
import Derived.Test.YtpbibkjcjgggdaaIt21
import Derived.Test.YtpbibkjcjgggdaaIt23
import Derived.Test.YtpbibkjcjgggdaaIt10
import Derived.Test.YtpbibkjcjgggdaaIt5
import Derived.Test.YtpbibkjcjgggdaaIt6
/- Steps through a region that draws its order, by hand: what holds on the way may grow. -/
namespace Go.Proofs.Ytpbibkjcjgggdaa
open Go.RowKit
section
variable {P : Program} {ops : Array Oper} {Q : Exit → Act → World → Prop} {S S' : World → Prop}
theorem wpAnyH_more (h : ∀ w, S' w → S w) : ∀ (fuel : Nat) (listed : Array Bool) (a : Act) (w : World), wpAnyH P .any ops Q S' fuel listed a w → wpAnyH P .any ops Q S fuel listed a w
  | 0, _, _, _, hw => hw
  | fuel + 1, _, _, _, hw => ⟨hw.1, fun i hi => wpOp_mono (fun a' w' h' => ⟨h _ h'.1, wpAnyH_more h fuel _ a' w' h'.2⟩) (hw.2 i hi)⟩
/-- From here on more holds. -/
theorem held_more {fuel : Nat} {listed : Array Bool} {a : Act} {w : World} (h : ∀ w, S' w → S w) (hS : S' w) (hw : S' w → wpAnyH P .any ops Q S' fuel listed a w) : wpAnyH P .any ops Q S fuel listed a w := wpAnyH_more h _ _ _ _ (hw hS)
end
/-- What holds of a row that is drawn, beside the cursor. -/
structure RowS {α : Type} (F : Flat α) (t : TypeId) (w0 : World) (base g lo : Nat) (v : Value) (l : List α) (w : World) : Prop where
  cur : CurAt w base g
  only : Only g (g + 1) w0 w
  row : RowVal F t w lo v l
  lt : g < lo
  le : lo ≤ w0.heap.size
section
variable {α : Type} {F : Flat α} {t : TypeId} {w0 w w' : World} {base g lo : Nat} {v : Value} {l : List α}
theorem RowS.size (h : RowS F t w0 base g lo v l w) : w0.heap.size ≤ w.heap.size := h.only.size
theorem RowS.alloc (h : RowS F t w0 base g lo v l w) (o : Obj) : RowS F t w0 base g lo v l (w.alloc o) :=
  ⟨h.cur.keep (below_alloc w o) h.cur.lt, h.only.trans (Only.of_below (below_alloc w o)), h.row.alloc o, h.lt, h.le⟩
theorem RowS.drew (h : RowS F t w0 base g lo v l w) : RowS F t w0 base g lo v l w.drew := ⟨h.cur, only_drewN h.only 1, h.row, h.lt, h.le⟩
theorem RowS.call (h : RowS F t w0 base g lo v l w) (hc : CurAt w' base g) (ho : Only g (g + 1) w w') : RowS F t w0 base g lo v l w' :=
  ⟨hc, h.only.trans ho, h.row.only ho h.lt, h.lt, h.le⟩
theorem RowS.rows {β : Type} {G : Flat β} {A : Option Addr} {n : Nat} {x : List β} (h : RowsIn G w A n x) (hA : ∀ a, A = some a → a.block ≠ g) (ho : Only g (g + 1) w w') : RowsIn G w' A n x := by
  refine ⟨h.1, h.2.1, h.2.2.1, fun hn => ?_⟩
  obtain ⟨b, o, e, hlt, hc⟩ := h.2.2.2 hn
  have hne := hA _ e
  have hb := ho.block b hlt (by simp at hne; omega)
  exact ⟨b, o, e, Nat.lt_of_lt_of_le hlt ho.size, fun j u hu => (World.cell?_of_block hb).trans (hc j u hu)⟩
theorem RowVal.blt (h : RowVal F t w lo v l) : ∀ g, v.ownBlock = some g → g < w.heap.size := by
  intro g hv
  rcases h.2 with ⟨h0, _⟩ | ⟨g1, cap1, cur1, hv1, _, hg1, _⟩
  · subst h0; simp [Value.ownBlock] at hv
  · subst hv1
    simp only [Value.ownBlock, Option.some.injEq] at hv
    subst hv
    rcases Nat.lt_or_ge g1 w.heap.size with h1 | h1
    · exact h1
    · rw [Array.getElem?_eq_none h1] at hg1; cases hg1
theorem grown_blk {z b : Nat} (hg : w.grownBy w' v.ownBlock) (hv : ∀ g, v.ownBlock = some g → g < z) (hb : z ≤ b) (hlt : b < w.heap.size) : w'.heap[b]? = w.heap[b]? :=
  hg.block b hlt (fun e => by have := hv b e.symm; omega)
theorem grown_cell {z b o : Nat} {u : Value} (hg : w.grownBy w' v.ownBlock) (hv : ∀ g, v.ownBlock = some g → g < z) (hb : z ≤ b) (hlt : b < w.heap.size) (h : w.cell? ⟨b, o, none⟩ = some u) : w'.cell? ⟨b, o, none⟩ = some u := (World.cell?_of_block (grown_blk hg hv hb hlt)).trans h
theorem grown_rows {β : Type} {G : Flat β} {z b n : Nat} {x : List β} (hg : w.grownBy w' v.ownBlock) (hv : ∀ g, v.ownBlock = some g → g < z) (hb : z ≤ b) (h : RowsIn G w (some ⟨b, 0, none⟩) n x) : RowsIn G w' (some ⟨b, 0, none⟩) n x := by
  refine ⟨h.1, h.2.1, h.2.2.1, fun hn => ?_⟩
  obtain ⟨b', o, e, hlt, hc⟩ := h.2.2.2 hn
  injection e with e
  injection e with e1 e2
  subst e1 e2
  exact ⟨b, 0, rfl, Nat.lt_of_lt_of_le hlt hg.size, fun j u hu => grown_cell hg hv hb hlt (hc j u hu)⟩
theorem alloc_cell {b o' : Nat} {u : Value} (h : w.cell? ⟨b, o', none⟩ = some u) (o : Obj) : (w.alloc o).cell? ⟨b, o', none⟩ = some u := (World.cell?_alloc_some w _ o (by rw [h]; rfl)).trans h
theorem World.size_alloc1 (w : World) (o : Obj) : (w.drew.alloc o).heap.size = w.heap.size + 1 := by simp
theorem OwnRows.drewO {n c : Nat} {A : Option Addr} (h : OwnRows F t w lo A n c l) : OwnRows F t w.drew lo A n c l := h
theorem only_cell {w w' : World} {g b o : Nat} {u : Value} (ho : Only g (g + 1) w w') (hb : b < w.heap.size) (hne : b ≠ g) (h : w.cell? ⟨b, o, none⟩ = some u) : w'.cell? ⟨b, o, none⟩ = some u := (World.cell?_of_block (ho.block b hb (by omega))).trans h
end
end Go.Proofs.Ytpbibkjcjgggdaa
/- How choices are drawn. -/
namespace Go.Proofs.Ytpbibkjcjgggdaa
open Go.RowKit
set_option maxRecDepth 100000 in
set_option maxHeartbeats 8000000 in
theorem l6Choice_any (w : World) (base g : Nat) (hc : CurAt w base g) : Calls Try.prog 41 #[.pointer (some ⟨g, 0, none⟩)] w (DrawnPicks w base g) := by
  have hg := hc.lt
  have hs := below_alloc w (.cells #[] 99)
  have hr0 : RowVal pkF 99 (w.alloc (.cells #[] 99)) w.heap.size (.slice (some ⟨w.heap.size, 0, none⟩) 0 0) [] := empty_row rfl (Nat.le_refl _)
  have hc0 := hc.keep hs hg
  have H : Only g (g + 1) w (w.alloc (.cells #[] 99)) := Only.of_below hs
  go_enter Try.func41, Try.ntmps41
  go_wp2_with fail
  generalize w.alloc (.cells #[] 99) = w0 at *
  clear hs hc
  go_loopw [3, 4] (fun v t wr => ∃ (k : Nat) (l : List Pk), t = .int .i64 k ∧ k ≤ 3 ∧ l.length ≤ k ∧ Hid (∀ x ∈ l, okPk x) ∧ RowVal pkF 99 wr w.heap.size v l ∧ CurAt wr base g ∧ Only g (g + 1) w wr) (fun _ t _ => 3 - (intOf t).toNat)
  case atStart => exact ⟨0, [], rfl, by omega, by simp, Lib.hid (by simp), hr0, hc0, H⟩
  case round =>
    clear hr0 hc0 H
    obtain ⟨k, l, rfl, hk, hlk, HOK, hrow, hcur, H⟩ := hrel
    by_cases hlt : k < 3
    case neg =>
      obtain rfl : k = 3 := by omega
      go_wp2_with fail
      go_ret
      exact ⟨l, _, rfl, hlk, HOK.out, hrow, hcur, H⟩
    have hk3 : (k : Int) < 3 := by omega
    go_wp2_with fail
    refine (l1Once_any _ _ _ _ (by omega) hcur).mono ?_
    rintro e w1 ⟨b, rfl, hc1, HO1⟩
    replace hrow := hrow.only HO1 (by omega)
    replace H := H.trans HO1
    have hg1 := hc1.lt
    have hz1 := H.size
    clear HO1 hcur
    cases b
    case true =>
      go_wp2_with fail
      go_roundw
      case rel => exact ⟨k + 1, l, by go_num, by omega, by omega, HOK, hrow, hc1, H⟩
      case measure => simp [intOf]; omega
    obtain ⟨s, hsz, x0⟩ : ∃ s : ByteArray, s.size ≤ 9223372036854775807 ∧ (∀ W : World, (W.alloc (.cells #[.string ⟨#[67, 79, 76, 79, 82]⟩, .string ⟨#[83, 73, 90, 69]⟩, .string ⟨#[76, 73, 68]⟩] 9)).cell? ⟨W.heap.size, k, none⟩ = some (.string s)) := by
      have hk7 : k < ([⟨#[67, 79, 76, 79, 82]⟩, ⟨#[83, 73, 90, 69]⟩, ⟨#[76, 73, 68]⟩] : List ByteArray).length := by simpa using hlt
      refine ⟨([⟨#[67, 79, 76, 79, 82]⟩, ⟨#[83, 73, 90, 69]⟩, ⟨#[76, 73, 68]⟩] : List ByteArray)[k], size_mem (L := ([⟨#[67, 79, 76, 79, 82]⟩, ⟨#[83, 73, 90, 69]⟩, ⟨#[76, 73, 68]⟩] : List ByteArray)) (by decide) (List.getElem_mem _), fun W => ?_⟩
      have hlit : RowsIn strF (W.alloc (.cells #[.string ⟨#[67, 79, 76, 79, 82]⟩, .string ⟨#[83, 73, 90, 69]⟩, .string ⟨#[76, 73, 68]⟩] 9)) (some ⟨W.heap.size, 0, none⟩) 3 ([⟨#[67, 79, 76, 79, 82]⟩, ⟨#[83, 73, 90, 69]⟩, ⟨#[76, 73, 68]⟩] : List ByteArray) := lit_strs (t := 9) rfl #[.string ⟨#[67, 79, 76, 79, 82]⟩, .string ⟨#[83, 73, 90, 69]⟩, .string ⟨#[76, 73, 68]⟩] ([⟨#[67, 79, 76, 79, 82]⟩, ⟨#[83, 73, 90, 69]⟩, ⟨#[76, 73, 68]⟩] : List ByteArray) 3 rfl rfl (by simp)
      obtain ⟨b, o, e, _, hcell⟩ := hlit.at_ hk7
      injection e with e
      injection e with e1 e2
      subst e1 e2
      have := hcell 0 _ rfl
      simpa [strF] using this
    obtain ⟨A9, c9, rfl, ho9⟩ := hrow.form
    clear hrow
    have hvb : ∀ g, (Value.slice A9 l.length c9).ownBlock = some g → g < w1.heap.size := RowVal.blt (v := .slice A9 l.length c9) ho9.val
    have hrw : RowVal pkF 99 w1.drew w.heap.size (.slice A9 l.length c9) l := ho9.val
    clear ho9
    have hl3 : l.length ≤ 3 := by omega
    go_wp2_with fail
    refine wp_region_held_drew (S := fun w' => CurAt w' base g ∧ Only g (g + 1) w w') (by kernel_rfl) (⟨hc1, only_drewN H 1⟩) (fun hHeld => ?_)
    refine held_on 0 (some 13) rfl rfl (by kernel_rfl) (by kernel_rfl) (by kernel_rfl) (fun _ _ _ h => h) (by rfl) hHeld (v := ?v1) ?y1 ?r1
    case y1 => intro w hSw; (try dsimp only at hSw); go_simp; (try with_reducible rfl)
    try simp only [Act.put, List.setIfInBounds_toArray, List.set_cons_zero, List.set_cons_succ]
    refine held_on 2 (some 15) rfl rfl (by kernel_rfl) (by kernel_rfl) (by kernel_rfl) (fun _ _ _ h => h) (by rfl) hHeld (v := ?v2) ?y2 ?r2
    case y2 => intro w hSw; (try dsimp only at hSw); go_simp; (try with_reducible rfl)
    try simp only [Act.put, List.setIfInBounds_toArray, List.set_cons_zero, List.set_cons_succ]
    refine held_on 5 (some 18) rfl rfl (by kernel_rfl) (by kernel_rfl) (by kernel_rfl) (fun _ _ _ h => h) (by rfl) hHeld (v := ?v3) ?y3 ?r3
    case y3 => intro w hSw; (try dsimp only at hSw); go_simp; (try with_reducible rfl)
    try simp only [Act.put, List.setIfInBounds_toArray, List.set_cons_zero, List.set_cons_succ]
    refine wpAnyH_ready (rs := [1, 6]) (by kernel_rfl) (by simp) ?_
    refine AllReadyH.cons rfl (fun K hK => ?_) (AllReadyH.cons rfl (fun K hK => ?_) (AllReadyH.nil))
    · skip
      go_simp
      refine hK.out _ _ (⟨hHeld.1.keep (below_alloc _ _) hHeld.1.lt, hHeld.2.trans (Only.of_below (below_alloc _ _))⟩) (fun hHeld => ?_)
      clear hK K
      try simp only [Act.put, List.setIfInBounds_toArray, List.set_cons_zero, List.set_cons_succ]
      replace hrw := hrw.alloc (.cells #[.string ⟨#[67, 79, 76, 79, 82]⟩, .string ⟨#[83, 73, 90, 69]⟩, .string ⟨#[76, 73, 68]⟩] 9)
      refine held_more (S' := fun w' => (CurAt w' base g ∧ Only g (g + 1) w w') ∧ w'.cell? ⟨w1.heap.size, k, none⟩ = some (.string s) ∧ w1.heap.size < w'.heap.size) (fun w h => h.1) (⟨hHeld, x0 _, by simp⟩) (fun hHeld => ?_)
      refine held_on 3 (some 16) rfl rfl (by kernel_rfl) (by kernel_rfl) (by kernel_rfl) (fun _ _ _ h => h) (by rfl) hHeld (v := ?v4) ?y4 ?r4
      case y4 => intro w hSw; (try dsimp only at hSw); go_simp; (try with_reducible rfl)
      try simp only [Act.put, List.setIfInBounds_toArray, List.set_cons_zero, List.set_cons_succ]
      refine held_on 4 (some 17) rfl rfl (by kernel_rfl) (by kernel_rfl) (by kernel_rfl) (fun _ _ _ h => h) (by rfl) hHeld (v := ?v5) ?y5 ?r5
      case y5 => intro w hSw; (try dsimp only at hSw); go_simp; (try with_reducible rfl)
      try simp only [Act.put, List.setIfInBounds_toArray, List.set_cons_zero, List.set_cons_succ]
      refine wpAnyH_ready (rs := [6]) (by kernel_rfl) (by simp) ?_
      refine AllReadyH.cons rfl (fun K hK => ?_) AllReadyH.nil
      go_simp
      refine hK.out _ _ (⟨⟨hHeld.1.1.keep (below_alloc _ _) hHeld.1.1.lt, hHeld.1.2.trans (Only.of_below (below_alloc _ _))⟩, alloc_cell hHeld.2.1 (.cells #[.string ⟨#[88]⟩, .string ⟨#[89]⟩, .string ⟨#[90]⟩] 9), by have := hHeld.2.2; simp at this ⊢; omega⟩) (fun hHeld => ?_)
      clear hK K
      try simp only [Act.put, List.setIfInBounds_toArray, List.set_cons_zero, List.set_cons_succ]
      replace hrw := hrw.alloc (.cells #[.string ⟨#[88]⟩, .string ⟨#[89]⟩, .string ⟨#[90]⟩] 9)
      refine wpAnyH_ready (rs := [7]) (by kernel_rfl) (by simp) ?_
      refine AllReadyH.cons rfl (fun K hK => ?_) AllReadyH.nil
      go_simp
      go_at_call 65
      refine (l1Pick_any _ 3 _ [⟨#[88]⟩, ⟨#[89]⟩, ⟨#[90]⟩] _ base g ((lit_strs (t := 9) (w := w1.alloc (.cells #[.string ⟨#[67, 79, 76, 79, 82]⟩, .string ⟨#[83, 73, 90, 69]⟩, .string ⟨#[76, 73, 68]⟩] 9)) (H := w1.heap.size + 1) (by simp) #[.string ⟨#[88]⟩, .string ⟨#[89]⟩, .string ⟨#[90]⟩] [⟨#[88]⟩, ⟨#[89]⟩, ⟨#[90]⟩] 3 rfl rfl (by simp)).drew) (by omega) (fun a ha => by have := Option.some.inj ha; rw [← this]; show w1.heap.size + 1 ≠ g; omega) hHeld.1.1).mono ?_
      rintro e wp ⟨h, rfl, hh, hcp, HOp⟩
      replace hrw := hrw.only HOp (by omega)
      have hzp : w1.heap.size ≤ wp.heap.size := by have := HOp.size; simp at this; omega
      go_simp
      refine hK.out _ _ (⟨⟨hcp, hHeld.1.2.trans HOp⟩, only_cell HOp hHeld.2.2 (by omega) hHeld.2.1, Nat.lt_of_lt_of_le hHeld.2.2 HOp.size⟩) (fun hHeld => ?_)
      clear hK K
      try simp only [Act.put, List.setIfInBounds_toArray, List.set_cons_zero, List.set_cons_succ]
      refine held_on 8 (some 21) rfl rfl (by kernel_rfl) (by kernel_rfl) (by kernel_rfl) (fun _ _ _ h => h) (by rfl) hHeld (v := ?v6) ?y6 ?r6
      case y6 => intro w hSw; (try dsimp only at hSw); go_simp; (try with_reducible rfl)
      try simp only [Act.put, List.setIfInBounds_toArray, List.set_cons_zero, List.set_cons_succ]
      refine wpAnyH_ready (rs := [9]) (by kernel_rfl) (by simp) ?_
      refine AllReadyH.cons rfl (fun K hK => ?_) AllReadyH.nil
      go_simp
      refine hK.out _ _ (⟨⟨hHeld.1.1.keep (below_alloc _ _) hHeld.1.1.lt, hHeld.1.2.trans (Only.of_below (below_alloc _ _))⟩, alloc_cell hHeld.2.1 (.cells #[.string s, .string h] 99), by have := hHeld.2.2; simp at this ⊢; omega⟩) (fun hHeld => ?_)
      clear hK K
      try simp only [Act.put, List.setIfInBounds_toArray, List.set_cons_zero, List.set_cons_succ]
      replace hrw := hrw.alloc (.cells #[.string s, .string h] 99)
      have hz9 := (hHeld.1).2.size
      refine wpAnyH_ready (rs := [10]) (by kernel_rfl) (by simp) ?_
      refine AllReadyH.cons rfl (fun K hK => ?_) AllReadyH.nil
      refine step_append_rows pickElem pkOneD rfl (.tmp 13) (.tmp 22) rfl _ (lo := w.heap.size) (l := l) rfl hrw (by omega) rfl (lit_row (F := pkF) (by simp) #[.string s, .string h] (s, h) rfl) (by simp at hz9 ⊢; omega) ?_
      intro v9 w9 hr9 hg9
      have hB9 := RowVal.below hrw hg9 (Nat.le_refl _) hz9
      refine hK.out _ _ (⟨⟨hHeld.1.1.keep hB9 hg, only_below hHeld.1.2 hB9⟩, grown_cell hg9 hvb (Nat.le_refl _) hHeld.2.2 hHeld.2.1, Nat.lt_of_lt_of_le hHeld.2.2 hB9.size⟩) (fun hHeld => ?_)
      clear hK K
      try simp only [Act.put, List.setIfInBounds_toArray, List.set_cons_zero, List.set_cons_succ]
      refine held_on 11 (some 3) rfl rfl (by kernel_rfl) (by kernel_rfl) (by kernel_rfl) (fun _ _ _ h => h) (by rfl) hHeld (v := ?v7) ?y7 ?r7
      case y7 => intro w hSw; (try dsimp only at hSw); go_simp; (try with_reducible rfl)
      try simp only [Act.put, List.setIfInBounds_toArray, List.set_cons_zero, List.set_cons_succ]
      refine wpAnyH_done (by kernel_rfl) ?_ _
      have hh2 := size_mem (by decide) hh
      have hok9 : Hid (∀ z ∈ l ++ [(s, h)], okPk z) := fun z hz => by
        rcases List.mem_append.1 hz with hz | hz
        · exact HOK.out z hz
        · rw [List.mem_singleton.1 hz]; exact ⟨hsz, hh2⟩
      have HC9 := (hHeld.1).1
      have HH9 := (hHeld.1).2
      go_wp2_with fail
      go_roundw
      case rel => exact ⟨k + 1, l ++ [(s, h)], by go_num, by omega, by simp; omega, hok9, hr9, HC9, HH9⟩
      case measure => simp [intOf]; omega
    · skip
      go_simp
      refine hK.out _ _ (⟨hHeld.1.keep (below_alloc _ _) hHeld.1.lt, hHeld.2.trans (Only.of_below (below_alloc _ _))⟩) (fun hHeld => ?_)
      clear hK K
      try simp only [Act.put, List.setIfInBounds_toArray, List.set_cons_zero, List.set_cons_succ]
      replace hrw := hrw.alloc (.cells #[.string ⟨#[88]⟩, .string ⟨#[89]⟩, .string ⟨#[90]⟩] 9)
      refine held_more (S' := fun w' => (CurAt w' base g ∧ Only g (g + 1) w w') ∧ RowsIn strF w' (some ⟨w1.heap.size, 0, none⟩) 3 [⟨#[88]⟩, ⟨#[89]⟩, ⟨#[90]⟩]) (fun w h => h.1) (⟨hHeld, lit_strs (t := 9) rfl #[.string ⟨#[88]⟩, .string ⟨#[89]⟩, .string ⟨#[90]⟩] [⟨#[88]⟩, ⟨#[89]⟩, ⟨#[90]⟩] 3 rfl rfl (by simp)⟩) (fun hHeld => ?_)
      refine wpAnyH_ready (rs := [1, 7]) (by kernel_rfl) (by simp) ?_
      refine AllReadyH.cons rfl (fun K hK => ?_) (AllReadyH.cons rfl (fun K hK => ?_) (AllReadyH.nil))
      · skip
        go_simp
        refine hK.out _ _ (⟨⟨hHeld.1.1.keep (below_alloc _ _) hHeld.1.1.lt, hHeld.1.2.trans (Only.of_below (below_alloc _ _))⟩, hHeld.2.keep (below_alloc _ _)⟩) (fun hHeld => ?_)
        clear hK K
        try simp only [Act.put, List.setIfInBounds_toArray, List.set_cons_zero, List.set_cons_succ]
        replace hrw := hrw.alloc (.cells #[.string ⟨#[67, 79, 76, 79, 82]⟩, .string ⟨#[83, 73, 90, 69]⟩, .string ⟨#[76, 73, 68]⟩] 9)
        refine held_more (S' := fun w' => ((CurAt w' base g ∧ Only g (g + 1) w w') ∧ RowsIn strF w' (some ⟨w1.heap.size, 0, none⟩) 3 [⟨#[88]⟩, ⟨#[89]⟩, ⟨#[90]⟩]) ∧ w'.cell? ⟨w1.heap.size + 1, k, none⟩ = some (.string s) ∧ w1.heap.size + 1 < w'.heap.size) (fun w h => h.1) (⟨hHeld, (by have := x0 (w1.drew.alloc (.cells #[.string ⟨#[88]⟩, .string ⟨#[89]⟩, .string ⟨#[90]⟩] 9)); rw [World.size_alloc1] at this; exact this), by simp⟩) (fun hHeld => ?_)
        refine held_on 3 (some 16) rfl rfl (by kernel_rfl) (by kernel_rfl) (by kernel_rfl) (fun _ _ _ h => h) (by rfl) hHeld (v := ?v8) ?y8 ?r8
        case y8 => intro w hSw; (try dsimp only at hSw); go_simp; (try with_reducible rfl)
        try simp only [Act.put, List.setIfInBounds_toArray, List.set_cons_zero, List.set_cons_succ]
        refine held_on 4 (some 17) rfl rfl (by kernel_rfl) (by kernel_rfl) (by kernel_rfl) (fun _ _ _ h => h) (by rfl) hHeld (v := ?v9) ?y9 ?r9
        case y9 => intro w hSw; (try dsimp only at hSw); go_simp; (try with_reducible rfl)
        try simp only [Act.put, List.setIfInBounds_toArray, List.set_cons_zero, List.set_cons_succ]
        refine wpAnyH_ready (rs := [7]) (by kernel_rfl) (by simp) ?_
        refine AllReadyH.cons rfl (fun K hK => ?_) AllReadyH.nil
        go_simp
        go_at_call 65
        refine (l1Pick_any _ 3 _ [⟨#[88]⟩, ⟨#[89]⟩, ⟨#[90]⟩] _ base g (hHeld.1.2) (by omega) (fun a ha => by have := Option.some.inj ha; rw [← this]; show w1.heap.size ≠ g; omega) hHeld.1.1.1).mono ?_
        rintro e wp ⟨h, rfl, hh, hcp, HOp⟩
        replace hrw := hrw.only HOp (by omega)
        have hzp : w1.heap.size ≤ wp.heap.size := by have := HOp.size; simp at this; omega
        go_simp
        refine hK.out _ _ (⟨⟨⟨hcp, hHeld.1.1.2.trans HOp⟩, RowS.rows hHeld.1.2 (fun a ha => by have := Option.some.inj ha; rw [← this]; show w1.heap.size ≠ g; omega) HOp⟩, only_cell HOp hHeld.2.2 (by omega) hHeld.2.1, Nat.lt_of_lt_of_le hHeld.2.2 HOp.size⟩) (fun hHeld => ?_)
        clear hK K
        try simp only [Act.put, List.setIfInBounds_toArray, List.set_cons_zero, List.set_cons_succ]
        refine held_on 8 (some 21) rfl rfl (by kernel_rfl) (by kernel_rfl) (by kernel_rfl) (fun _ _ _ h => h) (by rfl) hHeld (v := ?v10) ?y10 ?r10
        case y10 => intro w hSw; (try dsimp only at hSw); go_simp; (try with_reducible rfl)
        try simp only [Act.put, List.setIfInBounds_toArray, List.set_cons_zero, List.set_cons_succ]
        refine wpAnyH_ready (rs := [9]) (by kernel_rfl) (by simp) ?_
        refine AllReadyH.cons rfl (fun K hK => ?_) AllReadyH.nil
        go_simp
        refine hK.out _ _ (⟨⟨⟨hHeld.1.1.1.keep (below_alloc _ _) hHeld.1.1.1.lt, hHeld.1.1.2.trans (Only.of_below (below_alloc _ _))⟩, hHeld.1.2.keep (below_alloc _ _)⟩, alloc_cell hHeld.2.1 (.cells #[.string s, .string h] 99), by have := hHeld.2.2; simp at this ⊢; omega⟩) (fun hHeld => ?_)
        clear hK K
        try simp only [Act.put, List.setIfInBounds_toArray, List.set_cons_zero, List.set_cons_succ]
        replace hrw := hrw.alloc (.cells #[.string s, .string h] 99)
        have hz9 := (hHeld.1.1).2.size
        refine wpAnyH_ready (rs := [10]) (by kernel_rfl) (by simp) ?_
        refine AllReadyH.cons rfl (fun K hK => ?_) AllReadyH.nil
        refine step_append_rows pickElem pkOneD rfl (.tmp 13) (.tmp 22) rfl _ (lo := w.heap.size) (l := l) rfl hrw (by omega) rfl (lit_row (F := pkF) (by simp) #[.string s, .string h] (s, h) rfl) (by simp at hz9 ⊢; omega) ?_
        intro v9 w9 hr9 hg9
        have hB9 := RowVal.below hrw hg9 (Nat.le_refl _) hz9
        refine hK.out _ _ (⟨⟨⟨hHeld.1.1.1.keep hB9 hg, only_below hHeld.1.1.2 hB9⟩, grown_rows hg9 hvb (Nat.le_refl _) hHeld.1.2⟩, grown_cell hg9 hvb (by omega) hHeld.2.2 hHeld.2.1, Nat.lt_of_lt_of_le hHeld.2.2 hB9.size⟩) (fun hHeld => ?_)
        clear hK K
        try simp only [Act.put, List.setIfInBounds_toArray, List.set_cons_zero, List.set_cons_succ]
        refine held_on 11 (some 3) rfl rfl (by kernel_rfl) (by kernel_rfl) (by kernel_rfl) (fun _ _ _ h => h) (by rfl) hHeld (v := ?v11) ?y11 ?r11
        case y11 => intro w hSw; (try dsimp only at hSw); go_simp; (try with_reducible rfl)
        try simp only [Act.put, List.setIfInBounds_toArray, List.set_cons_zero, List.set_cons_succ]
        refine wpAnyH_done (by kernel_rfl) ?_ _
        have hh2 := size_mem (by decide) hh
        have hok9 : Hid (∀ z ∈ l ++ [(s, h)], okPk z) := fun z hz => by
          rcases List.mem_append.1 hz with hz | hz
          · exact HOK.out z hz
          · rw [List.mem_singleton.1 hz]; exact ⟨hsz, hh2⟩
        have HC9 := (hHeld.1.1).1
        have HH9 := (hHeld.1.1).2
        go_wp2_with fail
        go_roundw
        case rel => exact ⟨k + 1, l ++ [(s, h)], by go_num, by omega, by simp; omega, hok9, hr9, HC9, HH9⟩
        case measure => simp [intOf]; omega
      · skip
        go_simp
        go_at_call 65
        refine (l1Pick_any _ 3 _ [⟨#[88]⟩, ⟨#[89]⟩, ⟨#[90]⟩] _ base g (hHeld.2) (by omega) (fun a ha => by have := Option.some.inj ha; rw [← this]; show w1.heap.size ≠ g; omega) hHeld.1.1).mono ?_
        rintro e wp ⟨h, rfl, hh, hcp, HOp⟩
        replace hrw := hrw.only HOp (by omega)
        have hzp : w1.heap.size ≤ wp.heap.size := by have := HOp.size; simp at this; omega
        go_simp
        refine hK.out _ _ (⟨⟨hcp, hHeld.1.2.trans HOp⟩, RowS.rows hHeld.2 (fun a ha => by have := Option.some.inj ha; rw [← this]; show w1.heap.size ≠ g; omega) HOp⟩) (fun hHeld => ?_)
        clear hK K
        try simp only [Act.put, List.setIfInBounds_toArray, List.set_cons_zero, List.set_cons_succ]
        refine wpAnyH_ready (rs := [1]) (by kernel_rfl) (by simp) ?_
        refine AllReadyH.cons rfl (fun K hK => ?_) AllReadyH.nil
        go_simp
        refine hK.out _ _ (⟨⟨hHeld.1.1.keep (below_alloc _ _) hHeld.1.1.lt, hHeld.1.2.trans (Only.of_below (below_alloc _ _))⟩, hHeld.2.keep (below_alloc _ _)⟩) (fun hHeld => ?_)
        clear hK K
        try simp only [Act.put, List.setIfInBounds_toArray, List.set_cons_zero, List.set_cons_succ]
        replace hrw := hrw.alloc (.cells #[.string ⟨#[67, 79, 76, 79, 82]⟩, .string ⟨#[83, 73, 90, 69]⟩, .string ⟨#[76, 73, 68]⟩] 9)
        refine held_more (S' := fun w' => ((CurAt w' base g ∧ Only g (g + 1) w w') ∧ RowsIn strF w' (some ⟨w1.heap.size, 0, none⟩) 3 [⟨#[88]⟩, ⟨#[89]⟩, ⟨#[90]⟩]) ∧ w'.cell? ⟨wp.heap.size, k, none⟩ = some (.string s) ∧ wp.heap.size < w'.heap.size) (fun w h => h.1) (⟨hHeld, x0 wp, by simp⟩) (fun hHeld => ?_)
        refine held_on 3 (some 16) rfl rfl (by kernel_rfl) (by kernel_rfl) (by kernel_rfl) (fun _ _ _ h => h) (by rfl) hHeld (v := ?v12) ?y12 ?r12
        case y12 => intro w hSw; (try dsimp only at hSw); go_simp; (try with_reducible rfl)
        try simp only [Act.put, List.setIfInBounds_toArray, List.set_cons_zero, List.set_cons_succ]
        refine held_on 4 (some 17) rfl rfl (by kernel_rfl) (by kernel_rfl) (by kernel_rfl) (fun _ _ _ h => h) (by rfl) hHeld (v := ?v13) ?y13 ?r13
        case y13 => intro w hSw; (try dsimp only at hSw); go_simp; (try with_reducible rfl)
        try simp only [Act.put, List.setIfInBounds_toArray, List.set_cons_zero, List.set_cons_succ]
        refine held_on 8 (some 21) rfl rfl (by kernel_rfl) (by kernel_rfl) (by kernel_rfl) (fun _ _ _ h => h) (by rfl) hHeld (v := ?v14) ?y14 ?r14
        case y14 => intro w hSw; (try dsimp only at hSw); go_simp; (try with_reducible rfl)
        try simp only [Act.put, List.setIfInBounds_toArray, List.set_cons_zero, List.set_cons_succ]
        refine wpAnyH_ready (rs := [9]) (by kernel_rfl) (by simp) ?_
        refine AllReadyH.cons rfl (fun K hK => ?_) AllReadyH.nil
        go_simp
        refine hK.out _ _ (⟨⟨⟨hHeld.1.1.1.keep (below_alloc _ _) hHeld.1.1.1.lt, hHeld.1.1.2.trans (Only.of_below (below_alloc _ _))⟩, hHeld.1.2.keep (below_alloc _ _)⟩, alloc_cell hHeld.2.1 (.cells #[.string s, .string h] 99), by have := hHeld.2.2; simp at this ⊢; omega⟩) (fun hHeld => ?_)
        clear hK K
        try simp only [Act.put, List.setIfInBounds_toArray, List.set_cons_zero, List.set_cons_succ]
        replace hrw := hrw.alloc (.cells #[.string s, .string h] 99)
        have hz9 := (hHeld.1.1).2.size
        refine wpAnyH_ready (rs := [10]) (by kernel_rfl) (by simp) ?_
        refine AllReadyH.cons rfl (fun K hK => ?_) AllReadyH.nil
        refine step_append_rows pickElem pkOneD rfl (.tmp 13) (.tmp 22) rfl _ (lo := w.heap.size) (l := l) rfl hrw (by omega) rfl (lit_row (F := pkF) (by simp) #[.string s, .string h] (s, h) rfl) (by simp at hz9 ⊢; omega) ?_
        intro v9 w9 hr9 hg9
        have hB9 := RowVal.below hrw hg9 (Nat.le_refl _) hz9
        refine hK.out _ _ (⟨⟨⟨hHeld.1.1.1.keep hB9 hg, only_below hHeld.1.1.2 hB9⟩, grown_rows hg9 hvb (Nat.le_refl _) hHeld.1.2⟩, grown_cell hg9 hvb (by omega) hHeld.2.2 hHeld.2.1, Nat.lt_of_lt_of_le hHeld.2.2 hB9.size⟩) (fun hHeld => ?_)
        clear hK K
        try simp only [Act.put, List.setIfInBounds_toArray, List.set_cons_zero, List.set_cons_succ]
        refine held_on 11 (some 3) rfl rfl (by kernel_rfl) (by kernel_rfl) (by kernel_rfl) (fun _ _ _ h => h) (by rfl) hHeld (v := ?v15) ?y15 ?r15
        case y15 => intro w hSw; (try dsimp only at hSw); go_simp; (try with_reducible rfl)
        try simp only [Act.put, List.setIfInBounds_toArray, List.set_cons_zero, List.set_cons_succ]
        refine wpAnyH_done (by kernel_rfl) ?_ _
        have hh2 := size_mem (by decide) hh
        have hok9 : Hid (∀ z ∈ l ++ [(s, h)], okPk z) := fun z hz => by
          rcases List.mem_append.1 hz with hz | hz
          · exact HOK.out z hz
          · rw [List.mem_singleton.1 hz]; exact ⟨hsz, hh2⟩
        have HC9 := (hHeld.1.1).1
        have HH9 := (hHeld.1.1).2
        go_wp2_with fail
        go_roundw
        case rel => exact ⟨k + 1, l ++ [(s, h)], by go_num, by omega, by simp; omega, hok9, hr9, HC9, HH9⟩
        case measure => simp [intOf]; omega
end Go.Proofs.Ytpbibkjcjgggdaa
/- What a condition comes to at a choice (plain). -/
namespace Go.Proofs.Ytpbibkjcjgggdaa
def hasPk (ch : List Pk) (o v : ByteArray) : Bool := ch.any fun p => (p.1.toList == o.toList) && (p.2.toList == v.toList)
def evNext (ch : List Pk) (s : List Bool) (x : Cn) : List Bool :=
  if x.1 = 0 then s ++ [true] else if x.1 = 1 then s ++ [hasPk ch x.2.1 x.2.2] else if x.1 = 2 then s.set (s.length - 1) (!s.getD (s.length - 1) false)
  else if x.1 = 3 then s.take (s.length - 2) ++ [s.getD (s.length - 2) false && s.getD (s.length - 1) false] else s.take (s.length - 2) ++ [s.getD (s.length - 2) false || s.getD (s.length - 1) false]
def evTo (l : List Cn) (ch : List Pk) (k : Nat) : List Bool := (l.take k).foldl (evNext ch) []
def condVal (l : List Cn) (ch : List Pk) : Bool := (evTo l ch l.length).getD 0 false
theorem evTo_succ (l : List Cn) (ch : List Pk) (k : Nat) (h : k < l.length) : evTo l ch (k + 1) = evNext ch (evTo l ch k) l[k] := by
  unfold evTo
  rw [List.take_add_one, List.getElem?_eq_getElem h, Option.toList_some, List.foldl_append]; rfl
theorem evNext_len (ch : List Pk) (s : List Bool) (x : Cn) (m : Nat) (h : cnNext s.length x = some m) : (evNext ch s x).length = m := by
  unfold cnNext at h
  unfold evNext
  split at h
  · next h0 =>
    have := Option.some.inj h
    rcases h0 with h0 | h0
    · rw [if_pos h0, List.length_append]; simpa using this
    · rw [if_neg (by omega), if_pos h0, List.length_append]; simpa using this
  · next h0 =>
    rw [if_neg (by omega), if_neg (by omega)]
    split at h
    · next h2 =>
      rw [if_pos h2]
      split at h
      · cases h
      · have := Option.some.inj h
        rw [List.length_set]; exact this
    · next h2 =>
      rw [if_neg h2]
      split at h
      · split at h
        · cases h
        · have := Option.some.inj h
          have e : ∀ b : Bool, (s.take (s.length - 2) ++ [b]).length = m := fun b => by
            rw [List.length_append, List.length_take]; simp only [List.length_cons, List.length_nil]; omega
          split
          · exact e _
          · exact e _
      · cases h
theorem condTo_some {l : List Cn} {k n : Nat} (hk : k < l.length) (h : condTo l (k + 1) = some n) : ∃ m, condTo l k = some m ∧ cnNext m l[k] = some n := by
  simp only [condTo] at h
  rw [cn_getD _ _ hk] at h
  cases hc : condTo l k with
  | none => rw [hc] at h; cases h
  | some m =>
    rw [hc] at h
    simp only at h
    cases hn : cnNext m l[k] with
    | none => rw [hn] at h; cases h
    | some q =>
      rw [hn] at h
      simp only at h
      split at h
      · exact ⟨m, rfl, by rw [hn]; exact h⟩
      · cases h
theorem evTo_len (l : List Cn) (ch : List Pk) (k : Nat) : ∀ n, k ≤ l.length → condTo l k = some n → (evTo l ch k).length = n := by
  induction k with
  | zero => intro n _ h; have := Option.some.inj h; subst this; rfl
  | succ k ih =>
    intro n hk h
    obtain ⟨m, h1, h2⟩ := condTo_some (by omega) h
    have h3 := ih m (by omega) h1
    rw [evTo_succ l ch k (by omega)]
    exact evNext_len ch _ _ n (by rw [h3]; exact h2)
theorem isCond_parts {l : List Cn} (h : isCond l = true) : l.length ≤ 30 ∧ condTo l l.length = some 1 := by
  simp only [isCond, Bool.and_eq_true, decide_eq_true_eq] at h
  exact h
/-- What is known of every node of a condition. -/
theorem isCond_at_all {l : List Cn} (h : isCond l = true) (k : Nat) (hk : k < l.length) : ∃ n m, condTo l k = some n ∧ condTo l (k + 1) = some m ∧ cnNext n l[k] = some m := by
  obtain ⟨_, h1⟩ := isCond_parts h
  cases h2 : condTo l (k + 1) with
  | none =>
    have := condTo_none h2 (l.length - (k + 1))
    rw [show k + 1 + (l.length - (k + 1)) = l.length by omega, h1] at this
    cases this
  | some m =>
    obtain ⟨n, h3, h4⟩ := condTo_some hk h2
    exact ⟨n, m, h3, rfl, h4⟩
/-- A node's kinds, with what lies on the stack ahead of it. -/
theorem ev_kinds {l : List Cn} (h : isCond l = true) (ch : List Pk) (k : Nat) (hk : k < l.length) : (evTo l ch k).length ≤ k ∧ (l[k].1 = 0 ∨ l[k].1 = 1 ∨ (l[k].1 = 2 ∧ 1 ≤ (evTo l ch k).length) ∨ (l[k].1 = 3 ∧ 2 ≤ (evTo l ch k).length) ∨ (l[k].1 = 4 ∧ 2 ≤ (evTo l ch k).length)) := by
  obtain ⟨n, m, h1, h2, h3⟩ := isCond_at_all h k hk
  have hl := evTo_len l ch k n (by omega) h1
  have hle := condTo_le h1
  refine ⟨by omega, ?_⟩
  unfold cnNext at h3
  split at h3
  · omega
  · split at h3
    · split at h3
      · cases h3
      · omega
    · split at h3
      · split at h3
        · cases h3
        · omega
      · cases h3
theorem ev_end {l : List Cn} (h : isCond l = true) (ch : List Pk) : (evTo l ch l.length).length = 1 := evTo_len l ch _ 1 (Nat.le_refl _) (isCond_parts h).2
theorem evNext_0 (ch : List Pk) (s : List Bool) (x : Cn) (h : x.1 = 0) : evNext ch s x = s ++ [true] := by unfold evNext; rw [if_pos h]
theorem evNext_1 (ch : List Pk) (s : List Bool) (x : Cn) (h : x.1 = 1) : evNext ch s x = s ++ [hasPk ch x.2.1 x.2.2] := by unfold evNext; rw [if_neg (by omega), if_pos h]
theorem evNext_2 (ch : List Pk) (s : List Bool) (x : Cn) (h : x.1 = 2) : evNext ch s x = s.set (s.length - 1) (!s.getD (s.length - 1) false) := by unfold evNext; rw [if_neg (by omega), if_neg (by omega), if_pos h]
theorem evNext_3 (ch : List Pk) (s : List Bool) (x : Cn) (h : x.1 = 3) : evNext ch s x = s.take (s.length - 2) ++ [s.getD (s.length - 2) false && s.getD (s.length - 1) false] := by unfold evNext; rw [if_neg (by omega), if_neg (by omega), if_neg (by omega), if_pos h]
theorem evNext_4 (ch : List Pk) (s : List Bool) (x : Cn) (h : x.1 = 4) : evNext ch s x = s.take (s.length - 2) ++ [s.getD (s.length - 2) false || s.getD (s.length - 1) false] := by unfold evNext; rw [if_neg (by omega), if_neg (by omega), if_neg (by omega), if_neg (by omega)]
theorem set_two (s : List Bool) (b : Bool) (h : 2 ≤ s.length) : (s.set (s.length - 2) b).take (s.length - 1) = s.take (s.length - 2) ++ [b] := by
  rw [List.take_set, show s.length - 1 = (s.length - 2) + 1 by omega, List.take_add_one, List.getElem?_eq_getElem (by omega), Option.toList_some, List.set_append_right _ _ (by simp)]
  simp only [List.length_take]
  rw [show s.length - 2 - min (s.length - 2) s.length = 0 by omega]; rfl
theorem has_hit {ch : List Pk} {o v : ByteArray} {k : Nat} (hk : k < ch.length) (h : ((ch[k].1.toList == o.toList) && (ch[k].2.toList == v.toList)) = true) : hasPk ch o v = true := by
  unfold hasPk; rw [List.any_eq_true]; exact ⟨ch[k], List.getElem_mem hk, h⟩
theorem has_miss {ch : List Pk} {o v : ByteArray} (h : (ch.take ch.length).any (fun p => (p.1.toList == o.toList) && (p.2.toList == v.toList)) = false) : hasPk ch o v = false := by
  rw [List.take_length] at h; exact h
theorem any_take {α : Type} (l : List α) (p : α → Bool) (k : Nat) (h : k < l.length) : (l.take (k + 1)).any p = ((l.take k).any p || p l[k]) := by
  rw [List.take_add_one, List.getElem?_eq_getElem h, Option.toList_some, List.any_append]; simp
end Go.Proofs.Ytpbibkjcjgggdaa
/- Rows of truth values of the call's own: they grow and shrink. -/
namespace Go.Proofs.Ytpbibkjcjgggdaa
open Go.RowKit
abbrev bools (l : List Bool) : List Value := l.map Value.bool
/-- The row of truth values in block g. -/
def BRow (w : World) (lo g n c : Nat) (l : List Bool) : Prop := n = l.length ∧ w.ownsRow lo 4 1 (.slice (some ⟨g, 0, none⟩) n c) n (bools l)
theorem boolInfo : (Try.prog.info? 4).map (fun i => (i.zero, i.size, i.bytes)) = some (some (.bool false), 1, 1) := by kernel_rfl
def boolF : Flat Bool := ⟨fun x => [.bool x], 1, fun _ => rfl⟩
theorem boolF_flat (l : List Bool) : l.flatMap boolF.enc = bools l := by
  induction l with
  | nil => rfl
  | cons a l ih => rw [List.flatMap_cons, ih]; rfl
section
variable {w w' : World} {lo g n c : Nat} {l : List Bool}
theorem BRow.cell (h : BRow w lo g n c l) {j : Nat} (hj : j < l.length) : w.cell? ⟨g, j, none⟩ = some (.bool (l.getD j false)) := by
  rw [h.2.cellAt j (by have := h.1; omega), List.getD_eq_getElem?_getD]; simp [hj]
theorem BRow.frozen (h : BRow w lo g n c l) (j : Nat) : w.frozen? ⟨g, j, none⟩ = false := h.2.frozenAt j
theorem BRow.set (h : BRow w lo g n c l) (j : Nat) (x : Bool) : BRow (w.setCell ⟨g, j, none⟩ (.bool x)) lo g n c (l.set j x) :=
  ⟨by simp [h.1], by rw [bools, List.map_set]; exact (h.2.stored j (.bool x)).1⟩
theorem BRow.keep (h : BRow w lo g n c l) (hb : Below w.heap.size w w') : BRow w' lo g n c l := ⟨h.1, own_keep h.2 hb⟩
theorem BRow.drew (h : BRow w lo g n c l) : BRow w.drew lo g n c l := h
theorem BRow.lt (h : BRow w lo g n c l) : lo ≤ g ∧ g < w.heap.size := own_lt h.2 _ rfl
theorem BRow.len (h : BRow w lo g n c l) : l.length = n := h.1.symm
theorem BRow.cap (h : BRow w lo g n c l) : n ≤ c ∧ c ≤ maxLen := by
  rcases h.2.2 with ⟨hv, _⟩ | ⟨g2, cap, cur, hv, _, _, h1, h2, _⟩
  · injection hv with e; cases e
  · injection hv with e1 e2 e3
    subst e3; exact ⟨h1, h2⟩
theorem BRow.own (h : BRow w lo g n c l) : RowVal boolF 4 w lo (.slice (some ⟨g, 0, none⟩) n c) l := by
  obtain ⟨rfl, h⟩ := h
  unfold RowVal
  rw [boolF_flat]; exact h
theorem BRow.of_own (h : OwnRows boolF 4 w lo (some ⟨g, 0, none⟩) n c l) : BRow w lo g n c l := ⟨h.1, by have := h.2; rw [boolF_flat] at this; exact this⟩
theorem BRow.take (h : BRow w lo g n c l) (k : Nat) (hk : k ≤ n) : BRow w lo g k c (l.take k) := by
  obtain ⟨rfl, h⟩ := h
  refine ⟨by simp; omega, by simp; omega, ?_⟩
  rcases h.2 with ⟨hv, _⟩ | ⟨g2, cap, cur, hv, h1, h2, h3, h4, h5, h6⟩
  · injection hv with e; cases e
  · injection hv with e1 e2 e3
    subst e3
    refine .inr ⟨g2, c, cur, by rw [e1], h1, h2, by omega, h4, h5, ?_⟩
    have e9 : bools (l.take k) = (bools l).take k := List.map_take
    rw [e9, ← h6, List.take_take]
    congr 1; omega
theorem BRow.of_val (h : RowVal boolF 4 w lo (.slice (some ⟨g, 0, none⟩) n c) l) (hn : n = l.length) : BRow w lo g n c l := by
  subst hn
  unfold RowVal at h
  rw [boolF_flat] at h
  exact ⟨rfl, h⟩
theorem boolOne : ∀ (a : Bool), ∀ u ∈ boolF.enc a, u.oneCell' = true := by
  intro a u hu
  simp [boolF] at hu
  subst hu; rfl
theorem bRow_empty {H : Nat} (hH : w.heap.size = H) (h : lo ≤ w.heap.size) : BRow (w.alloc (.cells #[] 4)) lo H 0 0 [] := by
  subst hH
  exact ⟨rfl, empty_own w lo 4 1 h⟩
end
theorem RowVal.some_v {α : Type} {F : Flat α} {t : TypeId} {w : World} {lo n : Nat} {v : Value} {l : List α} (h : RowVal F t w lo v l) (hn : l.length = n + 1) : ∃ b c, v = .slice (some ⟨b, 0, none⟩) (n + 1) c := by
  obtain ⟨A, c, rfl, ho⟩ := h.form
  obtain ⟨g, rfl⟩ := rowOf_some ho (by omega)
  exact ⟨g, c, by rw [hn]⟩
theorem lit_rowB {α : Type} {F : Flat α} {t : TypeId} {w : World} {H : Nat} (hH : w.heap.size = H) (cs : Array Value) (x : α) (hcs : cs.toList = F.enc x) : RowsIn F (w.alloc (.cells cs t)) (some ⟨H, 0, none⟩) 1 [x] := by
  refine ⟨rfl, by rw [flatMap_len F.enc F.sz F.len]; rfl, by omega, fun _ => ⟨H, 0, rfl, by simp; omega, fun j u hu => ?_⟩⟩
  have := news_at hH cs t j u (by rw [hcs]; simpa using hu)
  rwa [Addr.add_lit] at this
end Go.Proofs.Ytpbibkjcjgggdaa
/- The walks of l6Has and l6Eval. -/
namespace Go.Proofs.Ytpbibkjcjgggdaa
open Go.RowKit
end Go.Proofs.Ytpbibkjcjgggdaa
/- The order of levels (plain). -/
namespace Go.Proofs.Ytpbibkjcjgggdaa
/-- The positions below i that lie at level v. -/
def lvAt (lev : List Nat) (v i : Nat) : List Nat := (List.range i).filter fun j => lev.getD j 0 == v
/-- All positions by level, those at levels below v. -/
def ordOf (lev : List Nat) (v : Nat) : List Nat := (List.range v).flatMap fun u => lvAt lev u lev.length
theorem lvAt_yes (lev : List Nat) (v i : Nat) (h : lev.getD i 0 = v) : lvAt lev v (i + 1) = lvAt lev v i ++ [i] := by
  unfold lvAt
  rw [List.range_succ, List.filter_append, List.filter_cons_of_pos (by simpa using h)]; rfl
theorem lvAt_no (lev : List Nat) (v i : Nat) (h : ¬ lev.getD i 0 = v) : lvAt lev v (i + 1) = lvAt lev v i := by
  unfold lvAt
  rw [List.range_succ, List.filter_append, List.filter_cons_of_neg (by simpa using h)]; simp
theorem ordOf_succ (lev : List Nat) (v : Nat) : ordOf lev (v + 1) = ordOf lev v ++ lvAt lev v lev.length := by
  unfold ordOf
  rw [List.range_succ, List.flatMap_append]; simp
theorem lvAt_mem {lev : List Nat} {v i a : Nat} : a ∈ lvAt lev v i ↔ a < i ∧ lev.getD a 0 = v := by
  unfold lvAt; simp [List.mem_filter]
theorem ordOf_mem {lev : List Nat} {v a : Nat} : a ∈ ordOf lev v ↔ a < lev.length ∧ lev.getD a 0 < v := by
  unfold ordOf
  rw [List.mem_flatMap]
  constructor
  · rintro ⟨u, hu, ha⟩
    rw [lvAt_mem] at ha
    rw [List.mem_range] at hu
    omega
  · rintro ⟨h1, h2⟩
    exact ⟨lev.getD a 0, List.mem_range.2 h2, lvAt_mem.2 ⟨h1, rfl⟩⟩
theorem lvAt_len (lev : List Nat) (v i : Nat) : (lvAt lev v i).length ≤ i := by
  unfold lvAt
  exact Nat.le_trans (List.length_filter_le _ _) (by simp)
theorem ordOf_len (lev : List Nat) (v : Nat) : (ordOf lev v).length ≤ v * lev.length := by
  induction v with
  | zero => simp [ordOf]
  | succ v ih =>
    rw [ordOf_succ, List.length_append, Nat.succ_mul]
    have := lvAt_len lev v lev.length
    omega
theorem ordOf_pw (lev : List Nat) (v : Nat) : (ordOf lev v).Pairwise fun a b => a ≠ b ∧ lev.getD a 0 ≤ lev.getD b 0 := by
  induction v with
  | zero => simp [ordOf]
  | succ v ih =>
    rw [ordOf_succ, List.pairwise_append]
    refine ⟨ih, ?_, fun a ha b hb => ?_⟩
    · unfold lvAt
      rw [List.pairwise_filter]
      refine List.pairwise_lt_range.imp ?_
      intro a b hab ha hb
      simp only [beq_iff_eq] at ha hb
      omega
    · rw [ordOf_mem] at ha
      rw [lvAt_mem] at hb
      refine ⟨fun e => ?_, by omega⟩
      subst e; omega
end Go.Proofs.Ytpbibkjcjgggdaa
