/- Part 21 of the texts of this claim: How catalogs are drawn; How conditions and choices are drawn. -/
import Derived.Test.YtlkolehdikfddaaTr20
import Derived.Deep.Cut
import Derived.Test.YtlkolehdikfddaaTr19
import Derived.Test.YtlkolehdikfddaaTr2
import Derived.Test.YtlkolehdikfddaaTr7
/- How catalogs are drawn. -/
namespace Go.Proofs.Ytlkolehdikfddaa
open Go.RowKit
theorem itOne : ∀ (a : It), ∀ u ∈ itF.enc a, u.oneCell' = true := by
  intro a u hu
  simp [itF] at hu
  rcases hu with rfl | rfl | rfl | rfl | rfl | rfl | rfl | rfl <;> rfl
/-- The ending of a call that draws a catalog. -/
def DrawnItems (w : World) (base g : Nat) (e : Ending) (w' : World) : Prop := ∃ (l : List It) (b c : Nat), e = .returned (.slice (some ⟨b, 0, none⟩) l.length c) ∧ 1 ≤ l.length ∧ l.length ≤ 6 ∧ (∀ x ∈ l, okIt x) ∧ OwnRows itF 47 w' w.heap.size (some ⟨b, 0, none⟩) l.length c l ∧ CurAt w' base g ∧ Only g (g + 1) w w'
theorem all_set {α : Type} {P : α → Prop} {l : List α} {k : Nat} {y : α} (h : ∀ x ∈ l, P x) (hy : P y) : ∀ x ∈ l.set k y, P x := fun x hx => by
  rcases List.mem_or_eq_of_mem_set hx with h1 | h1
  · exact h x h1
  · rw [h1]; exact hy
set_option maxRecDepth 100000 in
set_option maxHeartbeats 8000000 in
theorem l8Catalog_any (w : World) (base g : Nat) (hc : CurAt w base g) : Calls Try.prog 51 #[.pointer (some ⟨g, 0, none⟩)] w (DrawnItems w base g) := by
  have hg := hc.lt
  have hs := below_alloc w (.cells #[] 47)
  have hr0 : RowVal itF 47 (w.alloc (.cells #[] 47)) w.heap.size (.slice (some ⟨w.heap.size, 0, none⟩) 0 0) [] := empty_row rfl (Nat.le_refl _)
  have hc0 := hc.keep hs hg
  have H : Only g (g + 1) w (w.alloc (.cells #[] 47)) := Only.of_below hs
  go_enter Try.func51, Try.ntmps51
  go_wp2_with fail
  generalize w.alloc (.cells #[] 47) = w0 at *
  clear hs hc
  refine (l1Below_any _ _ _ _ (by omega) hc0).mono ?_
  rintro e w1 ⟨n, rfl, ⟨n0, n1⟩, hc1, HO1⟩
  obtain ⟨n, rfl⟩ : ∃ k : Nat, n = (k : Int) := ⟨_, (Int.toNat_of_nonneg n0).symm⟩
  have hr1 := hr0.only HO1 (by omega)
  replace H := H.trans HO1
  have hn5 : n ≤ 5 := by omega
  clear hr0 hc0 HO1
  go_wp2_with fail
  go_loopw [3, 5] (fun v t wr => ∃ (k : Nat) (l : List It), t = .int .i64 k ∧ k ≤ n + 1 ∧ l.length = k ∧ Hid (∀ x ∈ l, okIt x) ∧ RowVal itF 47 wr w.heap.size v l ∧ CurAt wr base g ∧ Only g (g + 1) w wr) (fun _ t _ => n + 1 - (intOf t).toNat)
  case atStart => exact ⟨0, [], rfl, by omega, rfl, Lib.hid (by simp), hr1, hc1, H⟩
  case round =>
    clear hr1 hc1 H
    obtain ⟨k, l, rfl, hk, hlk, HOK, hrow, hcur, H⟩ := hrel
    by_cases hlt : k < n + 1
    case pos =>
      have hk5 : (k : Int) < 1 + (n : Int) := by omega
      have hk6 : (k : Int) < 6 := by omega
      have hlit : RowsIn strF (wr.alloc (.cells #[.string ⟨#[65]⟩, .string ⟨#[66]⟩, .string ⟨#[67]⟩, .string ⟨#[68]⟩, .string ⟨#[69]⟩, .string ⟨#[70]⟩] 9)) (some ⟨wr.heap.size, 0, none⟩) 6 ([⟨#[65]⟩, ⟨#[66]⟩, ⟨#[67]⟩, ⟨#[68]⟩, ⟨#[69]⟩, ⟨#[70]⟩] : List ByteArray) := lit_strs (t := 9) rfl #[.string ⟨#[65]⟩, .string ⟨#[66]⟩, .string ⟨#[67]⟩, .string ⟨#[68]⟩, .string ⟨#[69]⟩, .string ⟨#[70]⟩] ([⟨#[65]⟩, ⟨#[66]⟩, ⟨#[67]⟩, ⟨#[68]⟩, ⟨#[69]⟩, ⟨#[70]⟩] : List ByteArray) 6 rfl rfl (by simp)
      obtain ⟨s, hsz, x0⟩ : ∃ s : ByteArray, s.size ≤ 9223372036854775807 ∧ (wr.alloc (.cells #[.string ⟨#[65]⟩, .string ⟨#[66]⟩, .string ⟨#[67]⟩, .string ⟨#[68]⟩, .string ⟨#[69]⟩, .string ⟨#[70]⟩] 9)).cell? ⟨wr.heap.size, k, none⟩ = some (.string s) := by
        have hk7 : k < ([⟨#[65]⟩, ⟨#[66]⟩, ⟨#[67]⟩, ⟨#[68]⟩, ⟨#[69]⟩, ⟨#[70]⟩] : List ByteArray).length := by simp; omega
        obtain ⟨b, o, e, _, hcell⟩ := hlit.at_ hk7
        injection e with e
        injection e with e1 e2
        subst e1 e2
        refine ⟨([⟨#[65]⟩, ⟨#[66]⟩, ⟨#[67]⟩, ⟨#[68]⟩, ⟨#[69]⟩, ⟨#[70]⟩] : List ByteArray)[k], size_mem (L := ([⟨#[65]⟩, ⟨#[66]⟩, ⟨#[67]⟩, ⟨#[68]⟩, ⟨#[69]⟩, ⟨#[70]⟩] : List ByteArray)) (by decide) (List.getElem_mem _), ?_⟩
        have := hcell 0 _ rfl
        simpa [strF] using this
      clear hlit
      have hs2 := below_alloc wr (.cells #[.string ⟨#[65]⟩, .string ⟨#[66]⟩, .string ⟨#[67]⟩, .string ⟨#[68]⟩, .string ⟨#[69]⟩, .string ⟨#[70]⟩] 9)
      have hr2 := hrow.keep hs2
      have hg1 := hcur.lt
      have hc2 := hcur.keep hs2 hg1
      have H2 := H.trans (Only.of_below (lo := g) (hi := g + 1) hs2)
      clear hrow hcur H hs2
      go_wp2_with fail
      generalize (wr.alloc (.cells #[.string ⟨#[65]⟩, .string ⟨#[66]⟩, .string ⟨#[67]⟩, .string ⟨#[68]⟩, .string ⟨#[69]⟩, .string ⟨#[70]⟩] 9)) = w2 at *
      generalize wr.heap.size = M at *
      clear x0
      refine (l8Item_any s _ _ _ hsz hc2).mono ?_
      rintro e w3 ⟨x, rfl, hx, hc3, HO3⟩
      have hr3 := hr2.only HO3 (by omega)
      have H3 := H2.trans HO3
      have hz3 := H3.size
      have hl6 : l.length ≤ 6 := by omega
      clear hr2 H2 HO3 hc2
      go_wp2_with (at_builtin; refine wpList_append_one itemElem rfl _ _ rfl rfl (l := l) hr3 (by omega) x #[.string x.1, .string x.2.1, .int .i64 x.2.2.1, .int .i64 x.2.2.2.1, .int .i64 x.2.2.2.2.1, .int .i64 x.2.2.2.2.2.1, .int .i64 x.2.2.2.2.2.2.1, .int .i64 x.2.2.2.2.2.2.2] rfl (itOne x) w3.heap.size _ rfl rfl hz3 ?_; intro v' w6 hrow6 hbl hgr)
      have hB := hbl w.heap.size (Nat.le_refl _) hz3
      have hok9 : Hid (∀ z ∈ l ++ [x], okIt z) := fun z hz => by
        rcases List.mem_append.1 hz with hz | hz
        · exact HOK.out z hz
        · rw [List.mem_singleton.1 hz]; exact hx
      go_roundw
      case rel => exact ⟨k + 1, l ++ [x], by go_num, by omega, by simp; omega, hok9, hrow6, hc3.keep hB hg, only_below H3 hB⟩
      case measure => simp [intOf]; omega
    obtain rfl : k = n + 1 := by omega
    obtain ⟨b, c, rfl⟩ := hrow.some_of hlk
    have hown := hrow.own_n (by omega)
    have hlo : w.heap.size ≤ b := own_block hrow b rfl
    have hkk : ¬ ((n + 1 : Nat) : Int) < 1 + (n : Int) := by omega
    clear hrow hk
    go_wp2_with fail
    refine (l1Once_any _ _ _ _ (by omega) hcur).mono ?_
    rintro e w2 ⟨b1, rfl, hc2, HO2⟩
    replace hown := hown.only HO2 (by omega)
    replace H := H.trans HO2
    have hg2 := hc2.lt
    have hz2 := H.size
    have hcap := own_capD hown
    clear HO2 hcur hlt
    have hl0 : 0 < l.length := by omega
    have i0 : (0 : Int) < ((n + 1 : Nat) : Int) := by omega
    cases b1
    case' true =>
      have x0 : w2.cell? ⟨b, 0, none⟩ = some (.string l[0].1) := (hown.at_cell 0 0 hl0 _ rfl).1
      have x1 : w2.cell? ⟨b, 1, none⟩ = some (.string l[0].2.1) := (hown.at_cell 0 1 hl0 _ rfl).1
      have x2 : w2.cell? ⟨b, 2, none⟩ = some (.int .i64 l[0].2.2.1) := (hown.at_cell 0 2 hl0 _ rfl).1
      have x3 : w2.cell? ⟨b, 3, none⟩ = some (.int .i64 l[0].2.2.2.1) := (hown.at_cell 0 3 hl0 _ rfl).1
      have x4 : w2.cell? ⟨b, 4, none⟩ = some (.int .i64 l[0].2.2.2.2.1) := (hown.at_cell 0 4 hl0 _ rfl).1
      have x5 : w2.cell? ⟨b, 5, none⟩ = some (.int .i64 l[0].2.2.2.2.2.1) := (hown.at_cell 0 5 hl0 _ rfl).1
      have x6 : w2.cell? ⟨b, 6, none⟩ = some (.int .i64 l[0].2.2.2.2.2.2.1) := (hown.at_cell 0 6 hl0 _ rfl).1
      have x7 : w2.cell? ⟨b, 7, none⟩ = some (.int .i64 l[0].2.2.2.2.2.2.2) := (hown.at_cell 0 7 hl0 _ rfl).1
      have hok0 := HOK.out _ (List.getElem_mem hl0)
      go_wp2_with fail
      refine (l8Bad_any l[0] _ _ _ hok0 hc2).mono ?_
      rintro e w3 ⟨y, rfl, hy, hc3, HO3⟩
      clear x0
      clear x1
      clear x2
      clear x3
      clear x4
      clear x5
      clear x6
      clear x7
      replace hown := hown.only HO3 (by omega)
      replace H := H.trans HO3
      clear HO3 hc2
      obtain ⟨x0, z0⟩ : w3.cell? ⟨b, 0, none⟩ = some (.string l[0].1) ∧ w3.frozen? ⟨b, 0, none⟩ = false := hown.at_cell 0 0 hl0 _ rfl
      obtain ⟨x1, z1⟩ : w3.cell? ⟨b, 1, none⟩ = some (.string l[0].2.1) ∧ w3.frozen? ⟨b, 1, none⟩ = false := hown.at_cell 0 1 hl0 _ rfl
      obtain ⟨x2, z2⟩ : w3.cell? ⟨b, 2, none⟩ = some (.int .i64 l[0].2.2.1) ∧ w3.frozen? ⟨b, 2, none⟩ = false := hown.at_cell 0 2 hl0 _ rfl
      obtain ⟨x3, z3⟩ : w3.cell? ⟨b, 3, none⟩ = some (.int .i64 l[0].2.2.2.1) ∧ w3.frozen? ⟨b, 3, none⟩ = false := hown.at_cell 0 3 hl0 _ rfl
      obtain ⟨x4, z4⟩ : w3.cell? ⟨b, 4, none⟩ = some (.int .i64 l[0].2.2.2.2.1) ∧ w3.frozen? ⟨b, 4, none⟩ = false := hown.at_cell 0 4 hl0 _ rfl
      obtain ⟨x5, z5⟩ : w3.cell? ⟨b, 5, none⟩ = some (.int .i64 l[0].2.2.2.2.2.1) ∧ w3.frozen? ⟨b, 5, none⟩ = false := hown.at_cell 0 5 hl0 _ rfl
      obtain ⟨x6, z6⟩ : w3.cell? ⟨b, 6, none⟩ = some (.int .i64 l[0].2.2.2.2.2.2.1) ∧ w3.frozen? ⟨b, 6, none⟩ = false := hown.at_cell 0 6 hl0 _ rfl
      obtain ⟨x7, z7⟩ : w3.cell? ⟨b, 7, none⟩ = some (.int .i64 l[0].2.2.2.2.2.2.2) ∧ w3.frozen? ⟨b, 7, none⟩ = false := hown.at_cell 0 7 hl0 _ rfl
      have hown3 : OwnRows itF 47 ((((((((w3.setCell ⟨b, 0, none⟩ (.string y.1)).setCell ⟨b, 1, none⟩ (.string y.2.1)).setCell ⟨b, 2, none⟩ (.int .i64 y.2.2.1)).setCell ⟨b, 3, none⟩ (.int .i64 y.2.2.2.1)).setCell ⟨b, 4, none⟩ (.int .i64 y.2.2.2.2.1)).setCell ⟨b, 5, none⟩ (.int .i64 y.2.2.2.2.2.1)).setCell ⟨b, 6, none⟩ (.int .i64 y.2.2.2.2.2.2.1)).setCell ⟨b, 7, none⟩ (.int .i64 y.2.2.2.2.2.2.2)) w.heap.size (some ⟨b, 0, none⟩) (n + 1) c (l.set 0 y) := hown.put 0 hl0 y 0 (by decide) [.string y.1, .string y.2.1, .int .i64 y.2.2.1, .int .i64 y.2.2.2.1, .int .i64 y.2.2.2.2.1, .int .i64 y.2.2.2.2.2.1, .int .i64 y.2.2.2.2.2.2.1, .int .i64 y.2.2.2.2.2.2.2] rfl
      have HB3 : Below w.heap.size w3 ((((((((w3.setCell ⟨b, 0, none⟩ (.string y.1)).setCell ⟨b, 1, none⟩ (.string y.2.1)).setCell ⟨b, 2, none⟩ (.int .i64 y.2.2.1)).setCell ⟨b, 3, none⟩ (.int .i64 y.2.2.2.1)).setCell ⟨b, 4, none⟩ (.int .i64 y.2.2.2.2.1)).setCell ⟨b, 5, none⟩ (.int .i64 y.2.2.2.2.2.1)).setCell ⟨b, 6, none⟩ (.int .i64 y.2.2.2.2.2.2.1)).setCell ⟨b, 7, none⟩ (.int .i64 y.2.2.2.2.2.2.2)) := ((((((((Below.refl w.heap.size w3).setCell (p := ⟨b, 0, none⟩) hlo _).setCell (p := ⟨b, 1, none⟩) hlo _).setCell (p := ⟨b, 2, none⟩) hlo _).setCell (p := ⟨b, 3, none⟩) hlo _).setCell (p := ⟨b, 4, none⟩) hlo _).setCell (p := ⟨b, 5, none⟩) hlo _).setCell (p := ⟨b, 6, none⟩) hlo _).setCell (p := ⟨b, 7, none⟩) hlo _
      have hc9 := hc3.keep HB3 hg
      have H9 := only_below H HB3
      have hl9 : (l.set 0 y).length = n + 1 := by simp [hlk]
      have HOK9 : Hid (∀ z ∈ l.set 0 y, okIt z) := all_set HOK.out hy
      clear hown HB3 hc3 H
      go_wp2_with fail
      clear x0 z0
      clear x1 z1
      clear x2 z2
      clear x3 z3
      clear x4 z4
      clear x5 z5
      clear x6 z6
      clear x7 z7
      generalize ((((((((w3.setCell ⟨b, 0, none⟩ (.string y.1)).setCell ⟨b, 1, none⟩ (.string y.2.1)).setCell ⟨b, 2, none⟩ (.int .i64 y.2.2.1)).setCell ⟨b, 3, none⟩ (.int .i64 y.2.2.2.1)).setCell ⟨b, 4, none⟩ (.int .i64 y.2.2.2.2.1)).setCell ⟨b, 5, none⟩ (.int .i64 y.2.2.2.2.2.1)).setCell ⟨b, 6, none⟩ (.int .i64 y.2.2.2.2.2.2.1)).setCell ⟨b, 7, none⟩ (.int .i64 y.2.2.2.2.2.2.2)) = w9 at *
      generalize l.set 0 y = l9 at *
    case' false =>
      go_wp2_with fail
      have hown3 := hown
      have hc9 := hc2
      have H9 := H
      have hl9 : l.length = n + 1 := hlk
      have HOK9 := HOK
      clear hown hc2 H HOK
      generalize l = l9 at *
      generalize w2 = w9 at *
    all_goals
      clear hlk
      refine (l1Once_any _ _ _ _ (by omega) hc9).mono ?_
      rintro e w4 ⟨b2, rfl, hc4, HO4⟩
      replace hown3 := hown3.only HO4 (by omega)
      replace H9 := H9.trans HO4
      have hz4 := H9.size
      have hbl : b < w4.heap.size := by
        have := hown3.blt (by omega)
        exact this
      clear HO4 hc9
      cases b2
      case false =>
        go_wp2_with fail
        go_ret
        exact ⟨l9, b, c, (by rw [hl9]; rfl), by omega, by omega, HOK9.out, by rw [hl9]; exact hown3, hc4, H9⟩
      by_cases hn1 : n = 0
      case pos =>
        subst hn1
        go_wp2_with fail
        go_ret
        exact ⟨l9, b, c, (by rw [hl9]; rfl), by omega, by omega, HOK9.out, by rw [hl9]; exact hown3, hc4, H9⟩
      have hg1 : (1 : Int) < 1 + (n : Int) := by omega
      have i1 : (1 : Int) < ((n + 1 : Nat) : Int) := by omega
      have hl0 : 0 < l9.length := by omega
      have hl1 : 1 < l9.length := by omega
      have OK0 := Lib.hid (HOK9.out _ (List.getElem_mem hl0))
      have OK1 := Lib.hid (HOK9.out _ (List.getElem_mem hl1))
      obtain ⟨X0, hX0⟩ : ∃ x, l9[0] = x := ⟨_, rfl⟩
      obtain ⟨X1, hX1⟩ : ∃ x, l9[1] = x := ⟨_, rfl⟩
      rw [hX0] at OK0; rw [hX1] at OK1
      have x0 : w4.cell? ⟨b, 0, none⟩ = some (.string X0.1) := (hown3.at_cell 0 0 hl0 _ (by rw [hX0]; rfl)).1
      have x1 : w4.cell? ⟨b, 1, none⟩ = some (.string X0.2.1) := (hown3.at_cell 0 1 hl0 _ (by rw [hX0]; rfl)).1
      have x2 : w4.cell? ⟨b, 2, none⟩ = some (.int .i64 X0.2.2.1) := (hown3.at_cell 0 2 hl0 _ (by rw [hX0]; rfl)).1
      have x3 : w4.cell? ⟨b, 3, none⟩ = some (.int .i64 X0.2.2.2.1) := (hown3.at_cell 0 3 hl0 _ (by rw [hX0]; rfl)).1
      have x4 : w4.cell? ⟨b, 4, none⟩ = some (.int .i64 X0.2.2.2.2.1) := (hown3.at_cell 0 4 hl0 _ (by rw [hX0]; rfl)).1
      have x5 : w4.cell? ⟨b, 5, none⟩ = some (.int .i64 X0.2.2.2.2.2.1) := (hown3.at_cell 0 5 hl0 _ (by rw [hX0]; rfl)).1
      have x6 : w4.cell? ⟨b, 6, none⟩ = some (.int .i64 X0.2.2.2.2.2.2.1) := (hown3.at_cell 0 6 hl0 _ (by rw [hX0]; rfl)).1
      have x7 : w4.cell? ⟨b, 7, none⟩ = some (.int .i64 X0.2.2.2.2.2.2.2) := (hown3.at_cell 0 7 hl0 _ (by rw [hX0]; rfl)).1
      have hs5 := below_alloc w4 (.cells #[.string X0.1, .string X0.2.1, .int .i64 X0.2.2.1, .int .i64 X0.2.2.2.1, .int .i64 X0.2.2.2.2.1, .int .i64 X0.2.2.2.2.2.1, .int .i64 X0.2.2.2.2.2.2.1, .int .i64 X0.2.2.2.2.2.2.2] 47)
      have CP : CellsAt (w4.alloc (.cells #[.string X0.1, .string X0.2.1, .int .i64 X0.2.2.1, .int .i64 X0.2.2.2.1, .int .i64 X0.2.2.2.2.1, .int .i64 X0.2.2.2.2.2.1, .int .i64 X0.2.2.2.2.2.2.1, .int .i64 X0.2.2.2.2.2.2.2] 47)) w4.heap.size [.string X0.1, .string X0.2.1, .int .i64 X0.2.2.1, .int .i64 X0.2.2.2.1, .int .i64 X0.2.2.2.2.1, .int .i64 X0.2.2.2.2.2.1, .int .i64 X0.2.2.2.2.2.2.1, .int .i64 X0.2.2.2.2.2.2.2] := CellsAt.new w4 #[.string X0.1, .string X0.2.1, .int .i64 X0.2.2.1, .int .i64 X0.2.2.2.1, .int .i64 X0.2.2.2.2.1, .int .i64 X0.2.2.2.2.2.1, .int .i64 X0.2.2.2.2.2.2.1, .int .i64 X0.2.2.2.2.2.2.2] 47
      replace hown3 := hown3.keep hs5
      replace hc4 := hc4.keep hs5 (by have := hc4.lt; omega)
      replace H9 := H9.trans (Only.of_below hs5)
      have hz5 := hs5.size
      clear hs5
      go_upto_region 11 with fail
      generalize (w4.alloc (.cells #[.string X0.1, .string X0.2.1, .int .i64 X0.2.2.1, .int .i64 X0.2.2.2.1, .int .i64 X0.2.2.2.2.1, .int .i64 X0.2.2.2.2.2.1, .int .i64 X0.2.2.2.2.2.2.1, .int .i64 X0.2.2.2.2.2.2.2] 47)) = w5 at *
      have hbP : b ≠ w4.heap.size := by omega
      generalize w4.heap.size = P at *
      have hbl5 : b < w5.heap.size := by omega
      clear x0 x1 x2 x3 x4 x5 x6 x7
      obtain ⟨u0, v0⟩ : w5.cell? ⟨b, 0, none⟩ = some (.string X0.1) ∧ w5.frozen? ⟨b, 0, none⟩ = false := hown3.at_cell 0 0 hl0 _ (by rw [hX0]; rfl)
      obtain ⟨u8, v8⟩ : w5.cell? ⟨b, 8, none⟩ = some (.string X1.1) ∧ w5.frozen? ⟨b, 8, none⟩ = false := hown3.at_cell 1 0 hl1 _ (by rw [hX1]; rfl)
      obtain ⟨u1, v1⟩ : w5.cell? ⟨b, 1, none⟩ = some (.string X0.2.1) ∧ w5.frozen? ⟨b, 1, none⟩ = false := hown3.at_cell 0 1 hl0 _ (by rw [hX0]; rfl)
      obtain ⟨u9, v9⟩ : w5.cell? ⟨b, 9, none⟩ = some (.string X1.2.1) ∧ w5.frozen? ⟨b, 9, none⟩ = false := hown3.at_cell 1 1 hl1 _ (by rw [hX1]; rfl)
      obtain ⟨u2, v2⟩ : w5.cell? ⟨b, 2, none⟩ = some (.int .i64 X0.2.2.1) ∧ w5.frozen? ⟨b, 2, none⟩ = false := hown3.at_cell 0 2 hl0 _ (by rw [hX0]; rfl)
      obtain ⟨u10, v10⟩ : w5.cell? ⟨b, 10, none⟩ = some (.int .i64 X1.2.2.1) ∧ w5.frozen? ⟨b, 10, none⟩ = false := hown3.at_cell 1 2 hl1 _ (by rw [hX1]; rfl)
      obtain ⟨u3, v3⟩ : w5.cell? ⟨b, 3, none⟩ = some (.int .i64 X0.2.2.2.1) ∧ w5.frozen? ⟨b, 3, none⟩ = false := hown3.at_cell 0 3 hl0 _ (by rw [hX0]; rfl)
      obtain ⟨u11, v11⟩ : w5.cell? ⟨b, 11, none⟩ = some (.int .i64 X1.2.2.2.1) ∧ w5.frozen? ⟨b, 11, none⟩ = false := hown3.at_cell 1 3 hl1 _ (by rw [hX1]; rfl)
      obtain ⟨u4, v4⟩ : w5.cell? ⟨b, 4, none⟩ = some (.int .i64 X0.2.2.2.2.1) ∧ w5.frozen? ⟨b, 4, none⟩ = false := hown3.at_cell 0 4 hl0 _ (by rw [hX0]; rfl)
      obtain ⟨u12, v12⟩ : w5.cell? ⟨b, 12, none⟩ = some (.int .i64 X1.2.2.2.2.1) ∧ w5.frozen? ⟨b, 12, none⟩ = false := hown3.at_cell 1 4 hl1 _ (by rw [hX1]; rfl)
      obtain ⟨u5, v5⟩ : w5.cell? ⟨b, 5, none⟩ = some (.int .i64 X0.2.2.2.2.2.1) ∧ w5.frozen? ⟨b, 5, none⟩ = false := hown3.at_cell 0 5 hl0 _ (by rw [hX0]; rfl)
      obtain ⟨u13, v13⟩ : w5.cell? ⟨b, 13, none⟩ = some (.int .i64 X1.2.2.2.2.2.1) ∧ w5.frozen? ⟨b, 13, none⟩ = false := hown3.at_cell 1 5 hl1 _ (by rw [hX1]; rfl)
      obtain ⟨u6, v6⟩ : w5.cell? ⟨b, 6, none⟩ = some (.int .i64 X0.2.2.2.2.2.2.1) ∧ w5.frozen? ⟨b, 6, none⟩ = false := hown3.at_cell 0 6 hl0 _ (by rw [hX0]; rfl)
      obtain ⟨u14, v14⟩ : w5.cell? ⟨b, 14, none⟩ = some (.int .i64 X1.2.2.2.2.2.2.1) ∧ w5.frozen? ⟨b, 14, none⟩ = false := hown3.at_cell 1 6 hl1 _ (by rw [hX1]; rfl)
      obtain ⟨u7, v7⟩ : w5.cell? ⟨b, 7, none⟩ = some (.int .i64 X0.2.2.2.2.2.2.2) ∧ w5.frozen? ⟨b, 7, none⟩ = false := hown3.at_cell 0 7 hl0 _ (by rw [hX0]; rfl)
      obtain ⟨u15, v15⟩ : w5.cell? ⟨b, 15, none⟩ = some (.int .i64 X1.2.2.2.2.2.2.2) ∧ w5.frozen? ⟨b, 15, none⟩ = false := hown3.at_cell 1 7 hl1 _ (by rw [hX1]; rfl)
      have hown5 : OwnRows itF 47 ((((((((w5.setCell ⟨b, 0, none⟩ (.string X1.1)).setCell ⟨b, 1, none⟩ (.string X1.2.1)).setCell ⟨b, 2, none⟩ (.int .i64 X1.2.2.1)).setCell ⟨b, 3, none⟩ (.int .i64 X1.2.2.2.1)).setCell ⟨b, 4, none⟩ (.int .i64 X1.2.2.2.2.1)).setCell ⟨b, 5, none⟩ (.int .i64 X1.2.2.2.2.2.1)).setCell ⟨b, 6, none⟩ (.int .i64 X1.2.2.2.2.2.2.1)).setCell ⟨b, 7, none⟩ (.int .i64 X1.2.2.2.2.2.2.2)) w.heap.size (some ⟨b, 0, none⟩) (n + 1) c (l9.set 0 X1) := hown3.put 0 hl0 X1 0 (by decide) [.string X1.1, .string X1.2.1, .int .i64 X1.2.2.1, .int .i64 X1.2.2.2.1, .int .i64 X1.2.2.2.2.1, .int .i64 X1.2.2.2.2.2.1, .int .i64 X1.2.2.2.2.2.2.1, .int .i64 X1.2.2.2.2.2.2.2] rfl
      have HB5 : Below w.heap.size w5 ((((((((w5.setCell ⟨b, 0, none⟩ (.string X1.1)).setCell ⟨b, 1, none⟩ (.string X1.2.1)).setCell ⟨b, 2, none⟩ (.int .i64 X1.2.2.1)).setCell ⟨b, 3, none⟩ (.int .i64 X1.2.2.2.1)).setCell ⟨b, 4, none⟩ (.int .i64 X1.2.2.2.2.1)).setCell ⟨b, 5, none⟩ (.int .i64 X1.2.2.2.2.2.1)).setCell ⟨b, 6, none⟩ (.int .i64 X1.2.2.2.2.2.2.1)).setCell ⟨b, 7, none⟩ (.int .i64 X1.2.2.2.2.2.2.2)) := ((((((((Below.refl w.heap.size w5).setCell (p := ⟨b, 0, none⟩) hlo _).setCell (p := ⟨b, 1, none⟩) hlo _).setCell (p := ⟨b, 2, none⟩) hlo _).setCell (p := ⟨b, 3, none⟩) hlo _).setCell (p := ⟨b, 4, none⟩) hlo _).setCell (p := ⟨b, 5, none⟩) hlo _).setCell (p := ⟨b, 6, none⟩) hlo _).setCell (p := ⟨b, 7, none⟩) hlo _
      replace CP := CP.far (p := ⟨b, 0, none⟩) (by show b ≠ P; exact hbP) (.string X1.1)
      replace CP := CP.far (p := ⟨b, 1, none⟩) (by show b ≠ P; exact hbP) (.string X1.2.1)
      replace CP := CP.far (p := ⟨b, 2, none⟩) (by show b ≠ P; exact hbP) (.int .i64 X1.2.2.1)
      replace CP := CP.far (p := ⟨b, 3, none⟩) (by show b ≠ P; exact hbP) (.int .i64 X1.2.2.2.1)
      replace CP := CP.far (p := ⟨b, 4, none⟩) (by show b ≠ P; exact hbP) (.int .i64 X1.2.2.2.2.1)
      replace CP := CP.far (p := ⟨b, 5, none⟩) (by show b ≠ P; exact hbP) (.int .i64 X1.2.2.2.2.2.1)
      replace CP := CP.far (p := ⟨b, 6, none⟩) (by show b ≠ P; exact hbP) (.int .i64 X1.2.2.2.2.2.2.1)
      replace CP := CP.far (p := ⟨b, 7, none⟩) (by show b ≠ P; exact hbP) (.int .i64 X1.2.2.2.2.2.2.2)
      replace hc4 := hc4.keep HB5 hg
      replace H9 := only_below H9 HB5
      clear HB5 hown3
      go_upto_region 12 with fail
      clear u0 v0 u1 v1 u2 v2 u3 v3 u4 v4 u5 v5 u6 v6 u7 v7 u8 v8 u9 v9 u10 v10 u11 v11 u12 v12 u13 v13 u14 v14 u15 v15
      generalize ((((((((w5.setCell ⟨b, 0, none⟩ (.string X1.1)).setCell ⟨b, 1, none⟩ (.string X1.2.1)).setCell ⟨b, 2, none⟩ (.int .i64 X1.2.2.1)).setCell ⟨b, 3, none⟩ (.int .i64 X1.2.2.2.1)).setCell ⟨b, 4, none⟩ (.int .i64 X1.2.2.2.2.1)).setCell ⟨b, 5, none⟩ (.int .i64 X1.2.2.2.2.2.1)).setCell ⟨b, 6, none⟩ (.int .i64 X1.2.2.2.2.2.2.1)).setCell ⟨b, 7, none⟩ (.int .i64 X1.2.2.2.2.2.2.2)) = w6 at *
      have p0 := CP.2.1 0 _ rfl
      obtain ⟨m0, r0⟩ : w6.cell? ⟨b, 8, none⟩ = some (.string X1.1) ∧ w6.frozen? ⟨b, 8, none⟩ = false := hown5.at_cell 1 0 (by simp; omega) _ (by simp [hX1, itF])
      have p1 := CP.2.1 1 _ rfl
      obtain ⟨m1, r1⟩ : w6.cell? ⟨b, 9, none⟩ = some (.string X1.2.1) ∧ w6.frozen? ⟨b, 9, none⟩ = false := hown5.at_cell 1 1 (by simp; omega) _ (by simp [hX1, itF])
      have p2 := CP.2.1 2 _ rfl
      obtain ⟨m2, r2⟩ : w6.cell? ⟨b, 10, none⟩ = some (.int .i64 X1.2.2.1) ∧ w6.frozen? ⟨b, 10, none⟩ = false := hown5.at_cell 1 2 (by simp; omega) _ (by simp [hX1, itF])
      have p3 := CP.2.1 3 _ rfl
      obtain ⟨m3, r3⟩ : w6.cell? ⟨b, 11, none⟩ = some (.int .i64 X1.2.2.2.1) ∧ w6.frozen? ⟨b, 11, none⟩ = false := hown5.at_cell 1 3 (by simp; omega) _ (by simp [hX1, itF])
      have p4 := CP.2.1 4 _ rfl
      obtain ⟨m4, r4⟩ : w6.cell? ⟨b, 12, none⟩ = some (.int .i64 X1.2.2.2.2.1) ∧ w6.frozen? ⟨b, 12, none⟩ = false := hown5.at_cell 1 4 (by simp; omega) _ (by simp [hX1, itF])
      have p5 := CP.2.1 5 _ rfl
      obtain ⟨m5, r5⟩ : w6.cell? ⟨b, 13, none⟩ = some (.int .i64 X1.2.2.2.2.2.1) ∧ w6.frozen? ⟨b, 13, none⟩ = false := hown5.at_cell 1 5 (by simp; omega) _ (by simp [hX1, itF])
      have p6 := CP.2.1 6 _ rfl
      obtain ⟨m6, r6⟩ : w6.cell? ⟨b, 14, none⟩ = some (.int .i64 X1.2.2.2.2.2.2.1) ∧ w6.frozen? ⟨b, 14, none⟩ = false := hown5.at_cell 1 6 (by simp; omega) _ (by simp [hX1, itF])
      have p7 := CP.2.1 7 _ rfl
      obtain ⟨m7, r7⟩ : w6.cell? ⟨b, 15, none⟩ = some (.int .i64 X1.2.2.2.2.2.2.2) ∧ w6.frozen? ⟨b, 15, none⟩ = false := hown5.at_cell 1 7 (by simp; omega) _ (by simp [hX1, itF])
      have hown6 : OwnRows itF 47 ((((((((w6.setCell ⟨b, 8, none⟩ (.string X0.1)).setCell ⟨b, 9, none⟩ (.string X0.2.1)).setCell ⟨b, 10, none⟩ (.int .i64 X0.2.2.1)).setCell ⟨b, 11, none⟩ (.int .i64 X0.2.2.2.1)).setCell ⟨b, 12, none⟩ (.int .i64 X0.2.2.2.2.1)).setCell ⟨b, 13, none⟩ (.int .i64 X0.2.2.2.2.2.1)).setCell ⟨b, 14, none⟩ (.int .i64 X0.2.2.2.2.2.2.1)).setCell ⟨b, 15, none⟩ (.int .i64 X0.2.2.2.2.2.2.2)) w.heap.size (some ⟨b, 0, none⟩) (n + 1) c ((l9.set 0 X1).set 1 X0) := hown5.put 1 (by simp; omega) X0 8 (by decide) [.string X0.1, .string X0.2.1, .int .i64 X0.2.2.1, .int .i64 X0.2.2.2.1, .int .i64 X0.2.2.2.2.1, .int .i64 X0.2.2.2.2.2.1, .int .i64 X0.2.2.2.2.2.2.1, .int .i64 X0.2.2.2.2.2.2.2] rfl
      have HB6 : Below w.heap.size w6 ((((((((w6.setCell ⟨b, 8, none⟩ (.string X0.1)).setCell ⟨b, 9, none⟩ (.string X0.2.1)).setCell ⟨b, 10, none⟩ (.int .i64 X0.2.2.1)).setCell ⟨b, 11, none⟩ (.int .i64 X0.2.2.2.1)).setCell ⟨b, 12, none⟩ (.int .i64 X0.2.2.2.2.1)).setCell ⟨b, 13, none⟩ (.int .i64 X0.2.2.2.2.2.1)).setCell ⟨b, 14, none⟩ (.int .i64 X0.2.2.2.2.2.2.1)).setCell ⟨b, 15, none⟩ (.int .i64 X0.2.2.2.2.2.2.2)) := ((((((((Below.refl w.heap.size w6).setCell (p := ⟨b, 8, none⟩) hlo _).setCell (p := ⟨b, 9, none⟩) hlo _).setCell (p := ⟨b, 10, none⟩) hlo _).setCell (p := ⟨b, 11, none⟩) hlo _).setCell (p := ⟨b, 12, none⟩) hlo _).setCell (p := ⟨b, 13, none⟩) hlo _).setCell (p := ⟨b, 14, none⟩) hlo _).setCell (p := ⟨b, 15, none⟩) hlo _
      have hcF := hc4.keep HB6 hg
      have HF := only_below H9 HB6
      clear CP hown5 HB6 hc4 H9 hX0 hX1
      go_wp2_with fail
      go_ret
      refine ⟨(l9.set 0 X1).set 1 X0, b, c, by simp [hl9], by simp; omega, by simp; omega, all_set (all_set HOK9.out OK1.out) OK0.out, ?_, hcF, HF⟩
      have e9 : ((l9.set 0 X1).set 1 X0).length = n + 1 := by simp [hl9]
      rw [e9]; exact hown6
end Go.Proofs.Ytlkolehdikfddaa
/- How conditions and choices are drawn. -/
namespace Go.Proofs.Ytlkolehdikfddaa
open Go.RowKit
theorem RowVal.low {α : Type} {F : Flat α} {t : TypeId} {w : World} {lo lo' : Nat} {v : Value} {l : List α} (h : RowVal F t w lo v l) (hl : lo' ≤ lo) : RowVal F t w lo' v l := own_lower h hl
theorem emp_ok : (⟨#[]⟩ : ByteArray).size ≤ 9223372036854775807 := by decide
/-- The ending of a call that draws a condition's node. -/
def DrawnCn (w : World) (base g : Nat) (e : Ending) (w' : World) : Prop := ∃ x : Cn, e = .returned (.agg #[.int .i64 x.1, .string x.2.1, .string x.2.2]) ∧ okCn x ∧ CurAt w' base g ∧ Only g (g + 1) w w'
set_option maxRecDepth 100000 in
set_option maxHeartbeats 4000000 in
theorem l6Leaf_any (w : World) (base g : Nat) (hc : CurAt w base g) : Calls Try.prog 96 #[.pointer (some ⟨g, 0, none⟩)] w (DrawnCn w base g) := by
  have hg := hc.lt
  have hs := below_alloc w (.cells #[.int .i64 0, .string ⟨#[]⟩, .string ⟨#[]⟩] 114)
  have C : CellsAt (w.alloc (.cells #[.int .i64 0, .string ⟨#[]⟩, .string ⟨#[]⟩] 114)) w.heap.size [.int .i64 0, .string ⟨#[]⟩, .string ⟨#[]⟩] := CellsAt.new w #[.int .i64 0, .string ⟨#[]⟩, .string ⟨#[]⟩] 114
  have hc0 := hc.keep hs hg
  have H : Only g (g + 1) w (w.alloc (.cells #[.int .i64 0, .string ⟨#[]⟩, .string ⟨#[]⟩] 114)) := Only.of_below hs
  go_enter Try.func96, Try.ntmps96
  go_wp2_with fail
  generalize (w.alloc (.cells #[.int .i64 0, .string ⟨#[]⟩, .string ⟨#[]⟩] 114)) = w0 at *
  generalize hN : w.heap.size = N at *
  clear hs
  refine (l1Once_any _ _ _ _ (by omega) hc0).mono ?_
  rintro e w1 ⟨b, rfl, hc1, HO1⟩
  replace C := C.only HO1 (by omega)
  replace H := H.trans HO1
  have hg1 := hc1.lt
  clear HO1 hc0
  cases b
  · go_wp2_with fail
    refine (l1Pick_any _ 3 _ [⟨#[67, 79, 76, 79, 82]⟩, ⟨#[83, 73, 90, 69]⟩, ⟨#[76, 73, 68]⟩] _ base g (lit_strs (t := 9) rfl #[.string ⟨#[67, 79, 76, 79, 82]⟩, .string ⟨#[83, 73, 90, 69]⟩, .string ⟨#[76, 73, 68]⟩] [⟨#[67, 79, 76, 79, 82]⟩, ⟨#[83, 73, 90, 69]⟩, ⟨#[76, 73, 68]⟩] 3 rfl rfl (by simp)) (by omega) (fun a ha => by have := Option.some.inj ha; rw [← this]; show w1.heap.size ≠ g; omega) (hc1.keep (below_alloc _ _) hg1)).mono ?_
    rintro e w2 ⟨x, rfl, hx, hc2, HO2⟩
    have hx2 := size_mem (by decide) hx
    replace C := (C.alloc _).only HO2 (by omega)
    replace H := (H.trans (Only.of_below (below_alloc w1 _))).trans HO2
    have hg2 := hc2.lt
    clear HO2 hc1 hx
    go_wp2_with fail
    refine (l1Pick_any _ 3 _ [⟨#[88]⟩, ⟨#[89]⟩, ⟨#[90]⟩] _ base g (lit_strs (t := 9) rfl #[.string ⟨#[88]⟩, .string ⟨#[89]⟩, .string ⟨#[90]⟩] [⟨#[88]⟩, ⟨#[89]⟩, ⟨#[90]⟩] 3 rfl rfl (by simp)) (by omega) (fun a ha => by have := Option.some.inj ha; rw [← this]; show w2.heap.size ≠ g; omega) (hc2.keep (below_alloc _ _) hg2)).mono ?_
    rintro e w3 ⟨y, rfl, hy, hc3, HO3⟩
    have hy2 := size_mem (by decide) hy
    replace C := (C.alloc _).only HO3 (by omega)
    replace H := (H.trans (Only.of_below (below_alloc w2 _))).trans HO3
    have hcur := hc3
    clear HO3 hc2 hc3 hy
    have HF := (((H.far (p := ⟨N, 0, none⟩) (B := N) (Nat.le_refl _) (.int .i64 1) (by omega)).far (p := ⟨N, 1, none⟩) (B := N) (Nat.le_refl _) (.string x) (by omega)).far (p := ⟨N, 2, none⟩) (B := N) (Nat.le_refl _) (.string y) (by omega))
    have hcF : CurAt (((w3.setCell ⟨N, 0, none⟩ (.int .i64 1)).setCell ⟨N, 1, none⟩ (.string x)).setCell ⟨N, 2, none⟩ (.string y)) base g := hcur.keep ((((Below.refl N (w3)).setCell (p := ⟨N, 0, none⟩) (Nat.le_refl _) _).setCell (p := ⟨N, 1, none⟩) (Nat.le_refl _) _).setCell (p := ⟨N, 2, none⟩) (Nat.le_refl _) _) hg
    have q0 := C.2.1 0 _ rfl
    have f0 := C.2.2 0
    have q1 := C.2.1 1 _ rfl
    have f1 := C.2.2 1
    have q2 := C.2.1 2 _ rfl
    have f2 := C.2.2 2
    clear C H hcur
    go_wp2_with fail
    refine bodyPost_ret (v := .agg #[.int .i64 1, .string x, .string y]) (by simp [results, Try.results96, go_sem, q0, f0, q1, f1, q2, f2]) rfl ?_
    exact ⟨(1, x, y), rfl, ⟨hx2, hy2⟩, hcF, HF⟩
  · have hcur := hc1
    have HF := (((H.far (p := ⟨N, 0, none⟩) (B := N) (Nat.le_refl _) (.int .i64 0) (by omega)).far (p := ⟨N, 1, none⟩) (B := N) (Nat.le_refl _) (.string ⟨#[]⟩) (by omega)).far (p := ⟨N, 2, none⟩) (B := N) (Nat.le_refl _) (.string ⟨#[]⟩) (by omega))
    have hcF : CurAt (((w1.setCell ⟨N, 0, none⟩ (.int .i64 0)).setCell ⟨N, 1, none⟩ (.string ⟨#[]⟩)).setCell ⟨N, 2, none⟩ (.string ⟨#[]⟩)) base g := hcur.keep ((((Below.refl N (w1)).setCell (p := ⟨N, 0, none⟩) (Nat.le_refl _) _).setCell (p := ⟨N, 1, none⟩) (Nat.le_refl _) _).setCell (p := ⟨N, 2, none⟩) (Nat.le_refl _) _) hg
    have q0 := C.2.1 0 _ rfl
    have f0 := C.2.2 0
    have q1 := C.2.1 1 _ rfl
    have f1 := C.2.2 1
    have q2 := C.2.1 2 _ rfl
    have f2 := C.2.2 2
    clear C H hcur
    go_wp2_with fail
    refine bodyPost_ret (v := .agg #[.int .i64 0, .string ⟨#[]⟩, .string ⟨#[]⟩]) (by simp [results, Try.results96, go_sem, q0, f0, q1, f1, q2, f2]) rfl ?_
    exact ⟨(0, ⟨#[]⟩, ⟨#[]⟩), rfl, ⟨emp_ok, emp_ok⟩, hcF, HF⟩
theorem cnOneD : ∀ (a : Cn), ∀ u ∈ cnF.enc a, u.oneCell' = true := by
  intro a u hu
  simp [cnF] at hu
  rcases hu with rfl | rfl | rfl <;> rfl
theorem pkOneD : ∀ (a : Pk), ∀ u ∈ pkF.enc a, u.oneCell' = true := by
  intro a u hu
  simp [pkF] at hu
  rcases hu with rfl | rfl <;> rfl
/-- The ending of a call that draws a choice. -/
def DrawnPicks (w : World) (base g : Nat) (e : Ending) (w' : World) : Prop := ∃ (l : List Pk) (v : Value), e = .returned v ∧ l.length ≤ 3 ∧ (∀ x ∈ l, okPk x) ∧ RowVal pkF 118 w' w.heap.size v l ∧ CurAt w' base g ∧ Only g (g + 1) w w'
/-- The ending of a call that draws a condition. -/
def DrawnConds (w : World) (base g : Nat) (e : Ending) (w' : World) : Prop := ∃ (l : List Cn) (v : Value), e = .returned v ∧ l.length ≤ 3 ∧ (∀ x ∈ l, okCn x) ∧ RowVal cnF 114 w' w.heap.size v l ∧ CurAt w' base g ∧ Only g (g + 1) w w'
theorem lit_one {α : Type} {F : Flat α} {t e : TypeId} (hE : ElemOk F t e) {w : World} {lo H : Nat} (hH : w.heap.size = H) (cs : Array Value) (x : α) (hcs : cs.toList = F.enc x) (hlo : lo ≤ H) : RowVal F e (w.alloc (.cells cs e)) lo (.slice (some ⟨H, 0, none⟩) 1 1) [x] := by
  obtain ⟨i, z, bytes, ht, hi, hz, hsz, hby, hzs, hpos, hbb⟩ := hE
  subst hH
  have hsz : cs.size = 1 * F.sz := by rw [← Array.length_toList, hcs, F.len]; omega
  have h := World.ownsRow_lit w cs (e := e) (size := F.sz) 1 hlo (by unfold maxLen; omega) hsz
  unfold RowVal
  simp only [List.flatMap_cons, List.flatMap_nil, List.append_nil]
  rw [← hcs]; exact h
set_option maxRecDepth 100000 in
set_option maxHeartbeats 4000000 in
theorem l6Draw0_any (d : Int) (w : World) (base g : Nat) (hd : d ≤ 0) (hc : CurAt w base g) : Calls Try.prog 87 #[.pointer (some ⟨g, 0, none⟩), .int .i64 d] w fun e w' => ∃ (x : Cn) (b : Nat), e = .returned (.slice (some ⟨b, 0, none⟩) 1 1) ∧ okCn x ∧ RowVal cnF 114 w' w.heap.size (.slice (some ⟨b, 0, none⟩) 1 1) [x] ∧ CurAt w' base g ∧ Only g (g + 1) w w' := by
  have hg := hc.lt
  have hd2 : decide (d ≤ 0) = true := decide_eq_true hd
  go_enter Try.func87, Try.ntmps87
  go_wp2_with fail
  refine (l6Leaf_any _ _ _ hc).mono ?_
  rintro e w1 ⟨x, rfl, hx, hc1, H⟩
  have hg1 := hc1.lt
  have hz1 := H.size
  go_wp2_with fail
  go_ret
  exact ⟨x, _, rfl, hx, lit_one condElem rfl #[.int .i64 x.1, .string x.2.1, .string x.2.2] x rfl hz1, hc1.keep (below_alloc _ _) hg1, H.trans (Only.of_below (below_alloc _ _))⟩
set_option maxRecDepth 100000 in
set_option maxHeartbeats 8000000 in
theorem l6Draw1_any (w : World) (base g : Nat) (hc : CurAt w base g) : Calls Try.prog 87 #[.pointer (some ⟨g, 0, none⟩), .int .i64 1] w (DrawnConds w base g) := by
  have hg := hc.lt
  go_enter Try.func87, Try.ntmps87
  go_wp2_with fail
  refine (l1Once_any _ _ _ _ (by omega) hc).mono ?_
  rintro e w1 ⟨b, rfl, hc1, H⟩
  have hg1 := hc1.lt
  have hz1 := H.size
  cases b
  case true =>
    go_wp2_with fail
    refine (l6Leaf_any _ _ _ hc1).mono ?_
    rintro e w2 ⟨x, rfl, hx, hc2, HO2⟩
    replace H := H.trans HO2
    have hg2 := hc2.lt
    have hz2 := H.size
    go_wp2_with fail
    go_ret
    exact ⟨[x], _, rfl, by simp, fun y hy => by rw [List.mem_singleton.1 hy]; exact hx, lit_one condElem rfl #[.int .i64 x.1, .string x.2.1, .string x.2.2] x rfl hz2, hc2.keep (below_alloc _ _) hg2, H.trans (Only.of_below (below_alloc _ _))⟩
  go_wp2_with fail
  refine (l6Draw0_any _ _ _ _ (by omega) hc1).mono ?_
  rintro e w2 ⟨x, b2, rfl, hx, hrow, hc2, HO2⟩
  replace hrow := hrow.low hz1
  replace H := H.trans HO2
  have HX := Lib.hid hx
  clear HO2 hx hc1 hg1 hz1
  go_wp2_with fail
  refine (l1Below_any _ _ _ _ (by omega) hc2).mono ?_
  rintro e w3 ⟨y, rfl, ⟨y0, y1⟩, hc3, HO3⟩
  replace hrow := hrow.only HO3 (by omega)
  replace H := H.trans HO3
  have hz3 := H.size
  have hg3 := hc3.lt
  clear HO3 hc2
  by_cases h0 : y = 0
  case pos =>
    subst h0
    go_wp2_with (at_builtin; refine wpList_append_one condElem rfl _ _ rfl rfl (l := [x]) hrow (by simp) (2, ⟨#[]⟩, ⟨#[]⟩) #[.int .i64 2, .string ⟨#[]⟩, .string ⟨#[]⟩] rfl (cnOneD (2, ⟨#[]⟩, ⟨#[]⟩)) w3.heap.size _ rfl rfl hz3 ?_; intro v' w6 hrow6 hbl hgr)
    have hB := hbl w.heap.size (Nat.le_refl _) hz3
    go_ret
    exact ⟨[x] ++ [(2, ⟨#[]⟩, ⟨#[]⟩)], v', rfl, by simp, fun z hz => by
      rcases List.mem_append.1 hz with hz | hz
      · rw [List.mem_singleton.1 hz]; exact HX.out
      · rw [List.mem_singleton.1 hz]; exact ⟨emp_ok, emp_ok⟩, hrow6, hc3.keep hB hg, only_below H hB⟩
  have d0 : decide (y = 0) = false := decide_eq_false h0
  have h12 : y = 1 ∨ y = 2 := by omega
  rcases h12 with rfl | rfl
  · go_wp2_with fail
    refine (l6Draw0_any _ _ _ _ (by omega) hc3).mono ?_
    rintro e w4 ⟨x2, b4, rfl, hx2, hrow4, hc4, HO4⟩
    replace hrow := hrow.only HO4 (by omega)
    replace H := H.trans HO4
    have hz4 := H.size
    have hsrc : RowsIn cnF w4 (some ⟨b4, 0, none⟩) 1 [x2] := (hrow4.own_n rfl).rows (by simp)
    have HX2 := Lib.hid hx2
    clear HO4 hx2 hc3 hg3 hrow4
    go_wp2_with (first
      | (at_builtin; refine wpList_append_src condElem cnOneD rfl _ _ rfl rfl (l := [x]) hrow (by simp) (l2 := [x2]) rfl hsrc hz4 ?_; intro v5 w5 hrow5 hbl5; have hB5 : Below w.heap.size w4 w5 := hbl5 w.heap.size (Nat.le_refl _) hz4; have hz5 := Nat.le_trans hz4 hB5.size)
      | (at_builtin; refine wpList_append_one condElem rfl _ _ rfl rfl (l := [x] ++ [x2]) hrow5 (by simp) (3, ⟨#[]⟩, ⟨#[]⟩) #[.int .i64 3, .string ⟨#[]⟩, .string ⟨#[]⟩] rfl (cnOneD (3, ⟨#[]⟩, ⟨#[]⟩)) w5.heap.size _ rfl rfl hz5 ?_; intro v' w6 hrow6 hbl hgr))
    have hB := hB5.trans (hbl w.heap.size (Nat.le_refl _) hz5)
    go_ret
    exact ⟨[x] ++ [x2] ++ [(3, ⟨#[]⟩, ⟨#[]⟩)], v', rfl, by simp, fun z hz => by
      rcases List.mem_append.1 hz with hz | hz
      · rcases List.mem_append.1 hz with hz | hz
        · rw [List.mem_singleton.1 hz]; exact HX.out
        · rw [List.mem_singleton.1 hz]; exact HX2.out
      · rw [List.mem_singleton.1 hz]; exact ⟨emp_ok, emp_ok⟩, hrow6, hc4.keep hB hg, only_below H hB⟩
  · go_wp2_with fail
    refine (l6Draw0_any _ _ _ _ (by omega) hc3).mono ?_
    rintro e w4 ⟨x2, b4, rfl, hx2, hrow4, hc4, HO4⟩
    replace hrow := hrow.only HO4 (by omega)
    replace H := H.trans HO4
    have hz4 := H.size
    have hsrc : RowsIn cnF w4 (some ⟨b4, 0, none⟩) 1 [x2] := (hrow4.own_n rfl).rows (by simp)
    have HX2 := Lib.hid hx2
    clear HO4 hx2 hc3 hg3 hrow4
    go_wp2_with (first
      | (at_builtin; refine wpList_append_src condElem cnOneD rfl _ _ rfl rfl (l := [x]) hrow (by simp) (l2 := [x2]) rfl hsrc hz4 ?_; intro v5 w5 hrow5 hbl5; have hB5 : Below w.heap.size w4 w5 := hbl5 w.heap.size (Nat.le_refl _) hz4; have hz5 := Nat.le_trans hz4 hB5.size)
      | (at_builtin; refine wpList_append_one condElem rfl _ _ rfl rfl (l := [x] ++ [x2]) hrow5 (by simp) (4, ⟨#[]⟩, ⟨#[]⟩) #[.int .i64 4, .string ⟨#[]⟩, .string ⟨#[]⟩] rfl (cnOneD (4, ⟨#[]⟩, ⟨#[]⟩)) w5.heap.size _ rfl rfl hz5 ?_; intro v' w6 hrow6 hbl hgr))
    have hB := hB5.trans (hbl w.heap.size (Nat.le_refl _) hz5)
    go_ret
    exact ⟨[x] ++ [x2] ++ [(4, ⟨#[]⟩, ⟨#[]⟩)], v', rfl, by simp, fun z hz => by
      rcases List.mem_append.1 hz with hz | hz
      · rcases List.mem_append.1 hz with hz | hz
        · rw [List.mem_singleton.1 hz]; exact HX.out
        · rw [List.mem_singleton.1 hz]; exact HX2.out
      · rw [List.mem_singleton.1 hz]; exact ⟨emp_ok, emp_ok⟩, hrow6, hc4.keep hB hg, only_below H hB⟩
set_option maxRecDepth 100000 in
set_option maxHeartbeats 4000000 in
theorem l9When_any (w : World) (base g : Nat) (hc : CurAt w base g) : Calls Try.prog 73 #[.pointer (some ⟨g, 0, none⟩)] w (DrawnConds w base g) := by
  have hg := hc.lt
  go_enter Try.func73, Try.ntmps73
  go_wp2_with fail
  refine (l1Once_any _ _ _ _ (by omega) hc).mono ?_
  rintro e w1 ⟨b, rfl, hc1, H⟩
  have hg1 := hc1.lt
  have hz1 := H.size
  cases b
  · go_wp2_with fail
    go_ret
    exact ⟨[(0, ⟨#[]⟩, ⟨#[]⟩)], _, rfl, by simp, fun y hy => by rw [List.mem_singleton.1 hy]; exact ⟨emp_ok, emp_ok⟩, lit_one condElem rfl #[.int .i64 0, .string ⟨#[]⟩, .string ⟨#[]⟩] (0, ⟨#[]⟩, ⟨#[]⟩) rfl hz1, hc1.keep (below_alloc _ _) hg1, H.trans (Only.of_below (below_alloc _ _))⟩
  · go_wp2_with fail
    refine (l6Draw1_any _ _ _ hc1).mono ?_
    rintro e w2 ⟨l, v, rfl, hl3, hok, hrow, hc2, HO2⟩
    obtain ⟨A, c, rfl, ho⟩ := hrow.form
    go_wp2_with fail
    go_ret
    exact ⟨l, _, rfl, hl3, hok, hrow.low hz1, hc2, H.trans HO2⟩
end Go.Proofs.Ytlkolehdikfddaa
