/- Part 20 of the texts of this claim: How items and catalogs are drawn. -/
import Derived.Test.YtlkolehdikfddaaTr19
import Derived.Test.YtlkolehdikfddaaTr1
/- How items and catalogs are drawn. -/
namespace Go.Proofs.Ytlkolehdikfddaa
open Go.RowKit
/-- The ending of a call that draws an item. -/
def DrawnItem (w : World) (base g : Nat) (e : Ending) (w' : World) : Prop := ∃ x : It, e = .returned (.agg #[.string x.1, .string x.2.1, .int .i64 x.2.2.1, .int .i64 x.2.2.2.1, .int .i64 x.2.2.2.2.1, .int .i64 x.2.2.2.2.2.1, .int .i64 x.2.2.2.2.2.2.1, .int .i64 x.2.2.2.2.2.2.2]) ∧ okIt x ∧ CurAt w' base g ∧ Only g (g + 1) w w'
set_option maxRecDepth 100000 in
set_option maxHeartbeats 8000000 in
theorem l8Item_any (code : ByteArray) (w : World) (base g : Nat) (hcs : code.size ≤ 9223372036854775807) (hc : CurAt w base g) : Calls Try.prog 71 #[.pointer (some ⟨g, 0, none⟩), .string code] w (DrawnItem w base g) := by
  have hg := hc.lt
  have hs := below_alloc w (.cells #[.string ⟨#[]⟩, .string ⟨#[]⟩, .int .i64 0, .int .i64 0, .int .i64 0, .int .i64 0, .int .i64 0, .int .i64 0] 47)
  have C : CellsAt (w.alloc (.cells #[.string ⟨#[]⟩, .string ⟨#[]⟩, .int .i64 0, .int .i64 0, .int .i64 0, .int .i64 0, .int .i64 0, .int .i64 0] 47)) w.heap.size [.string ⟨#[]⟩, .string ⟨#[]⟩, .int .i64 0, .int .i64 0, .int .i64 0, .int .i64 0, .int .i64 0, .int .i64 0] := CellsAt.new w #[.string ⟨#[]⟩, .string ⟨#[]⟩, .int .i64 0, .int .i64 0, .int .i64 0, .int .i64 0, .int .i64 0, .int .i64 0] 47
  have hz : (w.alloc (.cells #[.string ⟨#[]⟩, .string ⟨#[]⟩, .int .i64 0, .int .i64 0, .int .i64 0, .int .i64 0, .int .i64 0, .int .i64 0] 47)).heap.size = w.heap.size + 1 := by simp
  have hc0 := hc.keep hs hg
  have hg0 := hc0.lt
  have H : Only g (g + 1) w (w.alloc (.cells #[.string ⟨#[]⟩, .string ⟨#[]⟩, .int .i64 0, .int .i64 0, .int .i64 0, .int .i64 0, .int .i64 0, .int .i64 0] 47)) := Only.of_below hs
  have hpc : (⟨#[80, 67]⟩ : ByteArray).size ≤ 9223372036854775807 := by decide
  go_enter Try.func71, Try.ntmps71
  go_wp2_with fail
  generalize (w.alloc (.cells #[.string ⟨#[]⟩, .string ⟨#[]⟩, .int .i64 0, .int .i64 0, .int .i64 0, .int .i64 0, .int .i64 0, .int .i64 0] 47)) = w0 at *
  generalize hN : w.heap.size = N at *
  refine (l1PickInt_any _ 4 _ [0, 1, 1, 2] _ base g (lit_ints hz _ _ _ rfl rfl (by simp)) (by omega) (fun a ha => by have := Option.some.inj ha; rw [← this]; show N + 1 ≠ g; omega) (hc0.keep (below_alloc _ _) hg0)).mono ?_
  rintro e w1 ⟨k, rfl, _, hc1, HO1⟩
  replace C := (C.alloc (.cells #[.int .i64 0, .int .i64 1, .int .i64 1, .int .i64 2] 3)).only HO1 (by omega)
  replace H := (H.trans (Only.of_below (below_alloc w0 (.cells #[.int .i64 0, .int .i64 1, .int .i64 1, .int .i64 2] 3)))).trans HO1
  have hg1 := hc1.lt
  clear HO1 hc0 hz hg0 hs
  go_wp2_with fail
  refine (l1Below_any _ _ _ _ (by omega) hc1).mono ?_
  rintro e w2 ⟨ld, rfl, _, hc2, HO2⟩
  replace C := C.only HO2 (by omega)
  replace H := H.trans HO2
  have hg2 := hc2.lt
  clear HO2 hc1
  go_wp2_with fail
  refine (l1PickInt_any _ 4 _ [0, 0, 0, 5] _ base g (lit_ints rfl _ _ _ rfl rfl (by simp)) (by omega) (fun a ha => by have := Option.some.inj ha; rw [← this]; show w2.heap.size ≠ g; omega) (hc2.keep (below_alloc _ _) hg2)).mono ?_
  rintro e w3 ⟨sf, rfl, _, hc3, HO3⟩
  replace C := (C.alloc (.cells #[.int .i64 0, .int .i64 0, .int .i64 0, .int .i64 5] 3)).only HO3 (by omega)
  replace H := (H.trans (Only.of_below (below_alloc w2 (.cells #[.int .i64 0, .int .i64 0, .int .i64 0, .int .i64 5] 3)))).trans HO3
  have hg3 := hc3.lt
  clear HO3 hc2
  go_wp2_with fail
  refine (l1PickInt_any _ 5 _ [0, 0, 0, 10, 50] _ base g (lit_ints rfl _ _ _ rfl rfl (by simp)) (by omega) (fun a ha => by have := Option.some.inj ha; rw [← this]; show w3.heap.size ≠ g; omega) (hc3.keep (below_alloc _ _) hg3)).mono ?_
  rintro e w4 ⟨sc, rfl, _, hc4, HO4⟩
  replace C := (C.alloc (.cells #[.int .i64 0, .int .i64 0, .int .i64 0, .int .i64 10, .int .i64 50] 3)).only HO4 (by omega)
  replace H := (H.trans (Only.of_below (below_alloc w3 (.cells #[.int .i64 0, .int .i64 0, .int .i64 0, .int .i64 10, .int .i64 50] 3)))).trans HO4
  have hg4 := hc4.lt
  clear HO4 hc3
  have B : CellsAt (w4.alloc (.cells #[.string code, .string ⟨#[80, 67]⟩, .int .i64 k, .int .i64 ld, .int .i64 0, .int .i64 0, .int .i64 sf, .int .i64 sc] 47)) w4.heap.size [.string code, .string ⟨#[80, 67]⟩, .int .i64 k, .int .i64 ld, .int .i64 0, .int .i64 0, .int .i64 sf, .int .i64 sc] := CellsAt.new w4 #[.string code, .string ⟨#[80, 67]⟩, .int .i64 k, .int .i64 ld, .int .i64 0, .int .i64 0, .int .i64 sf, .int .i64 sc] 47
  have hc5 := hc4.keep (below_alloc w4 (.cells #[.string code, .string ⟨#[80, 67]⟩, .int .i64 k, .int .i64 ld, .int .i64 0, .int .i64 0, .int .i64 sf, .int .i64 sc] 47)) hg4
  have hNM := C.1
  replace C := C.alloc (.cells #[.string code, .string ⟨#[80, 67]⟩, .int .i64 k, .int .i64 ld, .int .i64 0, .int .i64 0, .int .i64 sf, .int .i64 sc] 47)
  replace H := H.trans (Only.of_below (below_alloc w4 (.cells #[.string code, .string ⟨#[80, 67]⟩, .int .i64 k, .int .i64 ld, .int .i64 0, .int .i64 0, .int .i64 sf, .int .i64 sc] 47)))
  go_wp2_with fail
  generalize (w4.alloc (.cells #[.string code, .string ⟨#[80, 67]⟩, .int .i64 k, .int .i64 ld, .int .i64 0, .int .i64 0, .int .i64 sf, .int .i64 sc] 47)) = w5 at *
  generalize w4.heap.size = M at *
  clear hc4 hg4
  refine (l1Once_any _ _ _ _ (by omega) hc5).mono ?_
  rintro e w6 ⟨b, rfl, hc6, HO6⟩
  replace C := C.only HO6 (by omega)
  replace B := B.only HO6 (by omega)
  replace H := H.trans HO6
  have hg6 := hc6.lt
  clear HO6 hc5
  cases b
  · have hcur := hc6
    clear hc6
    by_cases h2 : k = 2
    · subst h2
      have k0 := B.2.1 0 _ rfl
      have l0 := B.2.2 0
      have k1 := B.2.1 1 _ rfl
      have l1 := B.2.2 1
      have k2 := B.2.1 2 _ rfl
      have l2 := B.2.2 2
      have k3 := B.2.1 3 _ rfl
      have l3 := B.2.2 3
      have k4 := B.2.1 4 _ rfl
      have l4 := B.2.2 4
      have k5 := B.2.1 5 _ rfl
      have l5 := B.2.2 5
      have k6 := B.2.1 6 _ rfl
      have l6 := B.2.2 6
      have k7 := B.2.1 7 _ rfl
      have l7 := B.2.2 7
      replace B := B.put 0 (.string code) (by simp)
      replace C := C.far (p := ⟨M, 0, none⟩) (by show M ≠ N; omega) (.string code)
      replace H := H.far (p := ⟨M, 0, none⟩) (B := N) (by show N ≤ M; omega) (.string code) (by omega)
      replace B := B.put 1 (.string ⟨#[80, 67]⟩) (by simp)
      replace C := C.far (p := ⟨M, 1, none⟩) (by show M ≠ N; omega) (.string ⟨#[80, 67]⟩)
      replace H := H.far (p := ⟨M, 1, none⟩) (B := N) (by show N ≤ M; omega) (.string ⟨#[80, 67]⟩) (by omega)
      replace B := B.put 2 (.int .i64 2) (by simp)
      replace C := C.far (p := ⟨M, 2, none⟩) (by show M ≠ N; omega) (.int .i64 2)
      replace H := H.far (p := ⟨M, 2, none⟩) (B := N) (by show N ≤ M; omega) (.int .i64 2) (by omega)
      replace B := B.put 3 (.int .i64 0) (by simp)
      replace C := C.far (p := ⟨M, 3, none⟩) (by show M ≠ N; omega) (.int .i64 0)
      replace H := H.far (p := ⟨M, 3, none⟩) (B := N) (by show N ≤ M; omega) (.int .i64 0) (by omega)
      replace B := B.put 4 (.int .i64 0) (by simp)
      replace C := C.far (p := ⟨M, 4, none⟩) (by show M ≠ N; omega) (.int .i64 0)
      replace H := H.far (p := ⟨M, 4, none⟩) (B := N) (by show N ≤ M; omega) (.int .i64 0) (by omega)
      replace B := B.put 5 (.int .i64 0) (by simp)
      replace C := C.far (p := ⟨M, 5, none⟩) (by show M ≠ N; omega) (.int .i64 0)
      replace H := H.far (p := ⟨M, 5, none⟩) (B := N) (by show N ≤ M; omega) (.int .i64 0) (by omega)
      replace B := B.put 6 (.int .i64 0) (by simp)
      replace C := C.far (p := ⟨M, 6, none⟩) (by show M ≠ N; omega) (.int .i64 0)
      replace H := H.far (p := ⟨M, 6, none⟩) (B := N) (by show N ≤ M; omega) (.int .i64 0) (by omega)
      replace B := B.put 7 (.int .i64 0) (by simp)
      replace C := C.far (p := ⟨M, 7, none⟩) (by show M ≠ N; omega) (.int .i64 0)
      replace H := H.far (p := ⟨M, 7, none⟩) (B := N) (by show N ≤ M; omega) (.int .i64 0) (by omega)
      replace hcur : CurAt ((((((((w6.setCell ⟨M, 0, none⟩ (.string code)).setCell ⟨M, 1, none⟩ (.string ⟨#[80, 67]⟩)).setCell ⟨M, 2, none⟩ (.int .i64 2)).setCell ⟨M, 3, none⟩ (.int .i64 0)).setCell ⟨M, 4, none⟩ (.int .i64 0)).setCell ⟨M, 5, none⟩ (.int .i64 0)).setCell ⟨M, 6, none⟩ (.int .i64 0)).setCell ⟨M, 7, none⟩ (.int .i64 0)) base g := hcur.keep (((((((((Below.refl N (w6)).setCell (p := ⟨M, 0, none⟩) (by show N ≤ M; omega) _).setCell (p := ⟨M, 1, none⟩) (by show N ≤ M; omega) _).setCell (p := ⟨M, 2, none⟩) (by show N ≤ M; omega) _).setCell (p := ⟨M, 3, none⟩) (by show N ≤ M; omega) _).setCell (p := ⟨M, 4, none⟩) (by show N ≤ M; omega) _).setCell (p := ⟨M, 5, none⟩) (by show N ≤ M; omega) _).setCell (p := ⟨M, 6, none⟩) (by show N ≤ M; omega) _).setCell (p := ⟨M, 7, none⟩) (by show N ≤ M; omega) _) hg
      have HF := ((((((((H.far (p := ⟨N, 0, none⟩) (B := N) (Nat.le_refl _) (.string code) (by omega)).far (p := ⟨N, 1, none⟩) (B := N) (Nat.le_refl _) (.string ⟨#[80, 67]⟩) (by omega)).far (p := ⟨N, 2, none⟩) (B := N) (Nat.le_refl _) (.int .i64 2) (by omega)).far (p := ⟨N, 3, none⟩) (B := N) (Nat.le_refl _) (.int .i64 0) (by omega)).far (p := ⟨N, 4, none⟩) (B := N) (Nat.le_refl _) (.int .i64 0) (by omega)).far (p := ⟨N, 5, none⟩) (B := N) (Nat.le_refl _) (.int .i64 0) (by omega)).far (p := ⟨N, 6, none⟩) (B := N) (Nat.le_refl _) (.int .i64 0) (by omega)).far (p := ⟨N, 7, none⟩) (B := N) (Nat.le_refl _) (.int .i64 0) (by omega))
      have hcF : CurAt ((((((((((((((((w6.setCell ⟨M, 0, none⟩ (.string code)).setCell ⟨M, 1, none⟩ (.string ⟨#[80, 67]⟩)).setCell ⟨M, 2, none⟩ (.int .i64 2)).setCell ⟨M, 3, none⟩ (.int .i64 0)).setCell ⟨M, 4, none⟩ (.int .i64 0)).setCell ⟨M, 5, none⟩ (.int .i64 0)).setCell ⟨M, 6, none⟩ (.int .i64 0)).setCell ⟨M, 7, none⟩ (.int .i64 0)).setCell ⟨N, 0, none⟩ (.string code)).setCell ⟨N, 1, none⟩ (.string ⟨#[80, 67]⟩)).setCell ⟨N, 2, none⟩ (.int .i64 2)).setCell ⟨N, 3, none⟩ (.int .i64 0)).setCell ⟨N, 4, none⟩ (.int .i64 0)).setCell ⟨N, 5, none⟩ (.int .i64 0)).setCell ⟨N, 6, none⟩ (.int .i64 0)).setCell ⟨N, 7, none⟩ (.int .i64 0)) base g := hcur.keep (((((((((Below.refl N (((((((((w6.setCell ⟨M, 0, none⟩ (.string code)).setCell ⟨M, 1, none⟩ (.string ⟨#[80, 67]⟩)).setCell ⟨M, 2, none⟩ (.int .i64 2)).setCell ⟨M, 3, none⟩ (.int .i64 0)).setCell ⟨M, 4, none⟩ (.int .i64 0)).setCell ⟨M, 5, none⟩ (.int .i64 0)).setCell ⟨M, 6, none⟩ (.int .i64 0)).setCell ⟨M, 7, none⟩ (.int .i64 0)))).setCell (p := ⟨N, 0, none⟩) (Nat.le_refl _) _).setCell (p := ⟨N, 1, none⟩) (Nat.le_refl _) _).setCell (p := ⟨N, 2, none⟩) (Nat.le_refl _) _).setCell (p := ⟨N, 3, none⟩) (Nat.le_refl _) _).setCell (p := ⟨N, 4, none⟩) (Nat.le_refl _) _).setCell (p := ⟨N, 5, none⟩) (Nat.le_refl _) _).setCell (p := ⟨N, 6, none⟩) (Nat.le_refl _) _).setCell (p := ⟨N, 7, none⟩) (Nat.le_refl _) _) hg
      have b0 := B.2.1 0 _ rfl
      have q0 := C.2.1 0 _ rfl
      have f0 := C.2.2 0
      have b1 := B.2.1 1 _ rfl
      have q1 := C.2.1 1 _ rfl
      have f1 := C.2.2 1
      have b2 := B.2.1 2 _ rfl
      have q2 := C.2.1 2 _ rfl
      have f2 := C.2.2 2
      have b3 := B.2.1 3 _ rfl
      have q3 := C.2.1 3 _ rfl
      have f3 := C.2.2 3
      have b4 := B.2.1 4 _ rfl
      have q4 := C.2.1 4 _ rfl
      have f4 := C.2.2 4
      have b5 := B.2.1 5 _ rfl
      have q5 := C.2.1 5 _ rfl
      have f5 := C.2.2 5
      have b6 := B.2.1 6 _ rfl
      have q6 := C.2.1 6 _ rfl
      have f6 := C.2.2 6
      have b7 := B.2.1 7 _ rfl
      have q7 := C.2.1 7 _ rfl
      have f7 := C.2.2 7
      clear C H hcur B
      go_wp2_with fail
      refine bodyPost_ret (v := .agg #[.string code, .string ⟨#[80, 67]⟩, .int .i64 2, .int .i64 0, .int .i64 0, .int .i64 0, .int .i64 0, .int .i64 0]) (by simp [results, Try.results71, go_sem, q0, f0, q1, f1, q2, f2, q3, f3, q4, f4, q5, f5, q6, f6, q7, f7]) rfl ?_
      exact ⟨(code, ⟨#[80, 67]⟩, 2, 0, 0, 0, 0, 0), rfl, ⟨hcs, hpc⟩, hcF, HF⟩
    · have h3 : decide (k = 2) = false := decide_eq_false h2
      have HF := ((((((((H.far (p := ⟨N, 0, none⟩) (B := N) (Nat.le_refl _) (.string code) (by omega)).far (p := ⟨N, 1, none⟩) (B := N) (Nat.le_refl _) (.string ⟨#[80, 67]⟩) (by omega)).far (p := ⟨N, 2, none⟩) (B := N) (Nat.le_refl _) (.int .i64 k) (by omega)).far (p := ⟨N, 3, none⟩) (B := N) (Nat.le_refl _) (.int .i64 ld) (by omega)).far (p := ⟨N, 4, none⟩) (B := N) (Nat.le_refl _) (.int .i64 0) (by omega)).far (p := ⟨N, 5, none⟩) (B := N) (Nat.le_refl _) (.int .i64 0) (by omega)).far (p := ⟨N, 6, none⟩) (B := N) (Nat.le_refl _) (.int .i64 sf) (by omega)).far (p := ⟨N, 7, none⟩) (B := N) (Nat.le_refl _) (.int .i64 sc) (by omega))
      have hcF : CurAt ((((((((w6.setCell ⟨N, 0, none⟩ (.string code)).setCell ⟨N, 1, none⟩ (.string ⟨#[80, 67]⟩)).setCell ⟨N, 2, none⟩ (.int .i64 k)).setCell ⟨N, 3, none⟩ (.int .i64 ld)).setCell ⟨N, 4, none⟩ (.int .i64 0)).setCell ⟨N, 5, none⟩ (.int .i64 0)).setCell ⟨N, 6, none⟩ (.int .i64 sf)).setCell ⟨N, 7, none⟩ (.int .i64 sc)) base g := hcur.keep (((((((((Below.refl N (w6)).setCell (p := ⟨N, 0, none⟩) (Nat.le_refl _) _).setCell (p := ⟨N, 1, none⟩) (Nat.le_refl _) _).setCell (p := ⟨N, 2, none⟩) (Nat.le_refl _) _).setCell (p := ⟨N, 3, none⟩) (Nat.le_refl _) _).setCell (p := ⟨N, 4, none⟩) (Nat.le_refl _) _).setCell (p := ⟨N, 5, none⟩) (Nat.le_refl _) _).setCell (p := ⟨N, 6, none⟩) (Nat.le_refl _) _).setCell (p := ⟨N, 7, none⟩) (Nat.le_refl _) _) hg
      have b0 := B.2.1 0 _ rfl
      have q0 := C.2.1 0 _ rfl
      have f0 := C.2.2 0
      have b1 := B.2.1 1 _ rfl
      have q1 := C.2.1 1 _ rfl
      have f1 := C.2.2 1
      have b2 := B.2.1 2 _ rfl
      have q2 := C.2.1 2 _ rfl
      have f2 := C.2.2 2
      have b3 := B.2.1 3 _ rfl
      have q3 := C.2.1 3 _ rfl
      have f3 := C.2.2 3
      have b4 := B.2.1 4 _ rfl
      have q4 := C.2.1 4 _ rfl
      have f4 := C.2.2 4
      have b5 := B.2.1 5 _ rfl
      have q5 := C.2.1 5 _ rfl
      have f5 := C.2.2 5
      have b6 := B.2.1 6 _ rfl
      have q6 := C.2.1 6 _ rfl
      have f6 := C.2.2 6
      have b7 := B.2.1 7 _ rfl
      have q7 := C.2.1 7 _ rfl
      have f7 := C.2.2 7
      clear C H hcur B
      go_wp2_with fail
      refine bodyPost_ret (v := .agg #[.string code, .string ⟨#[80, 67]⟩, .int .i64 k, .int .i64 ld, .int .i64 0, .int .i64 0, .int .i64 sf, .int .i64 sc]) (by simp [results, Try.results71, go_sem, q0, f0, q1, f1, q2, f2, q3, f3, q4, f4, q5, f5, q6, f6, q7, f7]) rfl ?_
      exact ⟨(code, ⟨#[80, 67]⟩, k, ld, 0, 0, sf, sc), rfl, ⟨hcs, hpc⟩, hcF, HF⟩
  · go_wp2_with fail
    refine (l1Below_any _ _ _ _ (by omega) hc6).mono ?_
    rintro e w7 ⟨r, rfl, ⟨r0, r1⟩, hc7, HO7⟩
    replace C := C.only HO7 (by omega)
    replace B := B.only HO7 (by omega)
    replace H := H.trans HO7
    have hg7 := hc7.lt
    clear HO7 hc6
    have hcx := hc7
    have k1 := B.2.1 4 _ rfl
    have k2 := B.2.2 4
    replace B := B.put 4 (.int .i64 (1 + r)) (by simp)
    replace C := C.far (p := ⟨M, 4, none⟩) (by show M ≠ N; omega) (.int .i64 (1 + r))
    replace H := H.far (p := ⟨M, 4, none⟩) (B := N) (by show N ≤ M; omega) (.int .i64 (1 + r)) (by omega)
    have hcur : CurAt (w7.setCell ⟨M, 4, none⟩ (.int .i64 (1 + r))) base g := hcx.keep ((Below.refl N w7).setCell (p := ⟨M, 4, none⟩) (by show N ≤ M; omega) _) hg
    clear hcx hc7
    go_wp2_with fail
    generalize w7.setCell ⟨M, 4, none⟩ (.int .i64 (1 + r)) = w8 at *
    clear k1 k2
    refine (l1Below_any _ _ _ _ (by omega) hcur).mono ?_
    rintro e w9 ⟨s, rfl, ⟨s0, s1⟩, hc9, HO9⟩
    replace C := C.only HO9 (by omega)
    replace B := B.only HO9 (by omega)
    replace H := H.trans HO9
    have hg9 := hc9.lt
    clear HO9 hcur
    have hcx := hc9
    have k1 := B.2.1 5 _ rfl
    have k2 := B.2.2 5
    replace B := B.put 5 (.int .i64 (1 + s)) (by simp)
    replace C := C.far (p := ⟨M, 5, none⟩) (by show M ≠ N; omega) (.int .i64 (1 + s))
    replace H := H.far (p := ⟨M, 5, none⟩) (B := N) (by show N ≤ M; omega) (.int .i64 (1 + s)) (by omega)
    have hcur : CurAt (w9.setCell ⟨M, 5, none⟩ (.int .i64 (1 + s))) base g := hcx.keep ((Below.refl N w9).setCell (p := ⟨M, 5, none⟩) (by show N ≤ M; omega) _) hg
    clear hcx hc9
    have kk := B.2.1 2 _ rfl
    by_cases h2 : k = 2
    · subst h2
      have k0 := B.2.1 0 _ rfl
      have l0 := B.2.2 0
      have k1 := B.2.1 1 _ rfl
      have l1 := B.2.2 1
      have k2 := B.2.1 2 _ rfl
      have l2 := B.2.2 2
      have k3 := B.2.1 3 _ rfl
      have l3 := B.2.2 3
      have k4 := B.2.1 4 _ rfl
      have l4 := B.2.2 4
      have k5 := B.2.1 5 _ rfl
      have l5 := B.2.2 5
      have k6 := B.2.1 6 _ rfl
      have l6 := B.2.2 6
      have k7 := B.2.1 7 _ rfl
      have l7 := B.2.2 7
      replace B := B.put 0 (.string code) (by simp)
      replace C := C.far (p := ⟨M, 0, none⟩) (by show M ≠ N; omega) (.string code)
      replace H := H.far (p := ⟨M, 0, none⟩) (B := N) (by show N ≤ M; omega) (.string code) (by omega)
      replace B := B.put 1 (.string ⟨#[80, 67]⟩) (by simp)
      replace C := C.far (p := ⟨M, 1, none⟩) (by show M ≠ N; omega) (.string ⟨#[80, 67]⟩)
      replace H := H.far (p := ⟨M, 1, none⟩) (B := N) (by show N ≤ M; omega) (.string ⟨#[80, 67]⟩) (by omega)
      replace B := B.put 2 (.int .i64 2) (by simp)
      replace C := C.far (p := ⟨M, 2, none⟩) (by show M ≠ N; omega) (.int .i64 2)
      replace H := H.far (p := ⟨M, 2, none⟩) (B := N) (by show N ≤ M; omega) (.int .i64 2) (by omega)
      replace B := B.put 3 (.int .i64 0) (by simp)
      replace C := C.far (p := ⟨M, 3, none⟩) (by show M ≠ N; omega) (.int .i64 0)
      replace H := H.far (p := ⟨M, 3, none⟩) (B := N) (by show N ≤ M; omega) (.int .i64 0) (by omega)
      replace B := B.put 4 (.int .i64 0) (by simp)
      replace C := C.far (p := ⟨M, 4, none⟩) (by show M ≠ N; omega) (.int .i64 0)
      replace H := H.far (p := ⟨M, 4, none⟩) (B := N) (by show N ≤ M; omega) (.int .i64 0) (by omega)
      replace B := B.put 5 (.int .i64 0) (by simp)
      replace C := C.far (p := ⟨M, 5, none⟩) (by show M ≠ N; omega) (.int .i64 0)
      replace H := H.far (p := ⟨M, 5, none⟩) (B := N) (by show N ≤ M; omega) (.int .i64 0) (by omega)
      replace B := B.put 6 (.int .i64 0) (by simp)
      replace C := C.far (p := ⟨M, 6, none⟩) (by show M ≠ N; omega) (.int .i64 0)
      replace H := H.far (p := ⟨M, 6, none⟩) (B := N) (by show N ≤ M; omega) (.int .i64 0) (by omega)
      replace B := B.put 7 (.int .i64 0) (by simp)
      replace C := C.far (p := ⟨M, 7, none⟩) (by show M ≠ N; omega) (.int .i64 0)
      replace H := H.far (p := ⟨M, 7, none⟩) (B := N) (by show N ≤ M; omega) (.int .i64 0) (by omega)
      replace hcur : CurAt (((((((((w9.setCell ⟨M, 5, none⟩ (.int .i64 (1 + s))).setCell ⟨M, 0, none⟩ (.string code)).setCell ⟨M, 1, none⟩ (.string ⟨#[80, 67]⟩)).setCell ⟨M, 2, none⟩ (.int .i64 2)).setCell ⟨M, 3, none⟩ (.int .i64 0)).setCell ⟨M, 4, none⟩ (.int .i64 0)).setCell ⟨M, 5, none⟩ (.int .i64 0)).setCell ⟨M, 6, none⟩ (.int .i64 0)).setCell ⟨M, 7, none⟩ (.int .i64 0)) base g := hcur.keep (((((((((Below.refl N ((w9.setCell ⟨M, 5, none⟩ (.int .i64 (1 + s))))).setCell (p := ⟨M, 0, none⟩) (by show N ≤ M; omega) _).setCell (p := ⟨M, 1, none⟩) (by show N ≤ M; omega) _).setCell (p := ⟨M, 2, none⟩) (by show N ≤ M; omega) _).setCell (p := ⟨M, 3, none⟩) (by show N ≤ M; omega) _).setCell (p := ⟨M, 4, none⟩) (by show N ≤ M; omega) _).setCell (p := ⟨M, 5, none⟩) (by show N ≤ M; omega) _).setCell (p := ⟨M, 6, none⟩) (by show N ≤ M; omega) _).setCell (p := ⟨M, 7, none⟩) (by show N ≤ M; omega) _) hg
      have HF := ((((((((H.far (p := ⟨N, 0, none⟩) (B := N) (Nat.le_refl _) (.string code) (by omega)).far (p := ⟨N, 1, none⟩) (B := N) (Nat.le_refl _) (.string ⟨#[80, 67]⟩) (by omega)).far (p := ⟨N, 2, none⟩) (B := N) (Nat.le_refl _) (.int .i64 2) (by omega)).far (p := ⟨N, 3, none⟩) (B := N) (Nat.le_refl _) (.int .i64 0) (by omega)).far (p := ⟨N, 4, none⟩) (B := N) (Nat.le_refl _) (.int .i64 0) (by omega)).far (p := ⟨N, 5, none⟩) (B := N) (Nat.le_refl _) (.int .i64 0) (by omega)).far (p := ⟨N, 6, none⟩) (B := N) (Nat.le_refl _) (.int .i64 0) (by omega)).far (p := ⟨N, 7, none⟩) (B := N) (Nat.le_refl _) (.int .i64 0) (by omega))
      have hcF : CurAt (((((((((((((((((w9.setCell ⟨M, 5, none⟩ (.int .i64 (1 + s))).setCell ⟨M, 0, none⟩ (.string code)).setCell ⟨M, 1, none⟩ (.string ⟨#[80, 67]⟩)).setCell ⟨M, 2, none⟩ (.int .i64 2)).setCell ⟨M, 3, none⟩ (.int .i64 0)).setCell ⟨M, 4, none⟩ (.int .i64 0)).setCell ⟨M, 5, none⟩ (.int .i64 0)).setCell ⟨M, 6, none⟩ (.int .i64 0)).setCell ⟨M, 7, none⟩ (.int .i64 0)).setCell ⟨N, 0, none⟩ (.string code)).setCell ⟨N, 1, none⟩ (.string ⟨#[80, 67]⟩)).setCell ⟨N, 2, none⟩ (.int .i64 2)).setCell ⟨N, 3, none⟩ (.int .i64 0)).setCell ⟨N, 4, none⟩ (.int .i64 0)).setCell ⟨N, 5, none⟩ (.int .i64 0)).setCell ⟨N, 6, none⟩ (.int .i64 0)).setCell ⟨N, 7, none⟩ (.int .i64 0)) base g := hcur.keep (((((((((Below.refl N ((((((((((w9.setCell ⟨M, 5, none⟩ (.int .i64 (1 + s))).setCell ⟨M, 0, none⟩ (.string code)).setCell ⟨M, 1, none⟩ (.string ⟨#[80, 67]⟩)).setCell ⟨M, 2, none⟩ (.int .i64 2)).setCell ⟨M, 3, none⟩ (.int .i64 0)).setCell ⟨M, 4, none⟩ (.int .i64 0)).setCell ⟨M, 5, none⟩ (.int .i64 0)).setCell ⟨M, 6, none⟩ (.int .i64 0)).setCell ⟨M, 7, none⟩ (.int .i64 0)))).setCell (p := ⟨N, 0, none⟩) (Nat.le_refl _) _).setCell (p := ⟨N, 1, none⟩) (Nat.le_refl _) _).setCell (p := ⟨N, 2, none⟩) (Nat.le_refl _) _).setCell (p := ⟨N, 3, none⟩) (Nat.le_refl _) _).setCell (p := ⟨N, 4, none⟩) (Nat.le_refl _) _).setCell (p := ⟨N, 5, none⟩) (Nat.le_refl _) _).setCell (p := ⟨N, 6, none⟩) (Nat.le_refl _) _).setCell (p := ⟨N, 7, none⟩) (Nat.le_refl _) _) hg
      have b0 := B.2.1 0 _ rfl
      have q0 := C.2.1 0 _ rfl
      have f0 := C.2.2 0
      have b1 := B.2.1 1 _ rfl
      have q1 := C.2.1 1 _ rfl
      have f1 := C.2.2 1
      have b2 := B.2.1 2 _ rfl
      have q2 := C.2.1 2 _ rfl
      have f2 := C.2.2 2
      have b3 := B.2.1 3 _ rfl
      have q3 := C.2.1 3 _ rfl
      have f3 := C.2.2 3
      have b4 := B.2.1 4 _ rfl
      have q4 := C.2.1 4 _ rfl
      have f4 := C.2.2 4
      have b5 := B.2.1 5 _ rfl
      have q5 := C.2.1 5 _ rfl
      have f5 := C.2.2 5
      have b6 := B.2.1 6 _ rfl
      have q6 := C.2.1 6 _ rfl
      have f6 := C.2.2 6
      have b7 := B.2.1 7 _ rfl
      have q7 := C.2.1 7 _ rfl
      have f7 := C.2.2 7
      clear C H hcur B
      go_wp2_with fail
      refine bodyPost_ret (v := .agg #[.string code, .string ⟨#[80, 67]⟩, .int .i64 2, .int .i64 0, .int .i64 0, .int .i64 0, .int .i64 0, .int .i64 0]) (by simp [results, Try.results71, go_sem, q0, f0, q1, f1, q2, f2, q3, f3, q4, f4, q5, f5, q6, f6, q7, f7]) rfl ?_
      exact ⟨(code, ⟨#[80, 67]⟩, 2, 0, 0, 0, 0, 0), rfl, ⟨hcs, hpc⟩, hcF, HF⟩
    · have h3 : decide (k = 2) = false := decide_eq_false h2
      have HF := ((((((((H.far (p := ⟨N, 0, none⟩) (B := N) (Nat.le_refl _) (.string code) (by omega)).far (p := ⟨N, 1, none⟩) (B := N) (Nat.le_refl _) (.string ⟨#[80, 67]⟩) (by omega)).far (p := ⟨N, 2, none⟩) (B := N) (Nat.le_refl _) (.int .i64 k) (by omega)).far (p := ⟨N, 3, none⟩) (B := N) (Nat.le_refl _) (.int .i64 ld) (by omega)).far (p := ⟨N, 4, none⟩) (B := N) (Nat.le_refl _) (.int .i64 (1 + r)) (by omega)).far (p := ⟨N, 5, none⟩) (B := N) (Nat.le_refl _) (.int .i64 (1 + s)) (by omega)).far (p := ⟨N, 6, none⟩) (B := N) (Nat.le_refl _) (.int .i64 sf) (by omega)).far (p := ⟨N, 7, none⟩) (B := N) (Nat.le_refl _) (.int .i64 sc) (by omega))
      have hcF : CurAt (((((((((w9.setCell ⟨M, 5, none⟩ (.int .i64 (1 + s))).setCell ⟨N, 0, none⟩ (.string code)).setCell ⟨N, 1, none⟩ (.string ⟨#[80, 67]⟩)).setCell ⟨N, 2, none⟩ (.int .i64 k)).setCell ⟨N, 3, none⟩ (.int .i64 ld)).setCell ⟨N, 4, none⟩ (.int .i64 (1 + r))).setCell ⟨N, 5, none⟩ (.int .i64 (1 + s))).setCell ⟨N, 6, none⟩ (.int .i64 sf)).setCell ⟨N, 7, none⟩ (.int .i64 sc)) base g := hcur.keep (((((((((Below.refl N ((w9.setCell ⟨M, 5, none⟩ (.int .i64 (1 + s))))).setCell (p := ⟨N, 0, none⟩) (Nat.le_refl _) _).setCell (p := ⟨N, 1, none⟩) (Nat.le_refl _) _).setCell (p := ⟨N, 2, none⟩) (Nat.le_refl _) _).setCell (p := ⟨N, 3, none⟩) (Nat.le_refl _) _).setCell (p := ⟨N, 4, none⟩) (Nat.le_refl _) _).setCell (p := ⟨N, 5, none⟩) (Nat.le_refl _) _).setCell (p := ⟨N, 6, none⟩) (Nat.le_refl _) _).setCell (p := ⟨N, 7, none⟩) (Nat.le_refl _) _) hg
      have b0 := B.2.1 0 _ rfl
      have q0 := C.2.1 0 _ rfl
      have f0 := C.2.2 0
      have b1 := B.2.1 1 _ rfl
      have q1 := C.2.1 1 _ rfl
      have f1 := C.2.2 1
      have b2 := B.2.1 2 _ rfl
      have q2 := C.2.1 2 _ rfl
      have f2 := C.2.2 2
      have b3 := B.2.1 3 _ rfl
      have q3 := C.2.1 3 _ rfl
      have f3 := C.2.2 3
      have b4 := B.2.1 4 _ rfl
      have q4 := C.2.1 4 _ rfl
      have f4 := C.2.2 4
      have b5 := B.2.1 5 _ rfl
      have q5 := C.2.1 5 _ rfl
      have f5 := C.2.2 5
      have b6 := B.2.1 6 _ rfl
      have q6 := C.2.1 6 _ rfl
      have f6 := C.2.2 6
      have b7 := B.2.1 7 _ rfl
      have q7 := C.2.1 7 _ rfl
      have f7 := C.2.2 7
      clear C H hcur B
      go_wp2_with fail
      refine bodyPost_ret (v := .agg #[.string code, .string ⟨#[80, 67]⟩, .int .i64 k, .int .i64 ld, .int .i64 (1 + r), .int .i64 (1 + s), .int .i64 sf, .int .i64 sc]) (by simp [results, Try.results71, go_sem, q0, f0, q1, f1, q2, f2, q3, f3, q4, f4, q5, f5, q6, f6, q7, f7]) rfl ?_
      exact ⟨(code, ⟨#[80, 67]⟩, k, ld, 1 + r, 1 + s, sf, sc), rfl, ⟨hcs, hpc⟩, hcF, HF⟩
set_option maxRecDepth 100000 in
set_option maxHeartbeats 8000000 in
theorem l8Bad_any (x : It) (w : World) (base g : Nat) (hok : okIt x) (hc : CurAt w base g) : Calls Try.prog 72 #[.pointer (some ⟨g, 0, none⟩), .agg #[.string x.1, .string x.2.1, .int .i64 x.2.2.1, .int .i64 x.2.2.2.1, .int .i64 x.2.2.2.2.1, .int .i64 x.2.2.2.2.2.1, .int .i64 x.2.2.2.2.2.2.1, .int .i64 x.2.2.2.2.2.2.2]] w (DrawnItem w base g) := by
  have hg := hc.lt
  have hs1 := below_alloc w (.cells #[.string x.1, .string x.2.1, .int .i64 x.2.2.1, .int .i64 x.2.2.2.1, .int .i64 x.2.2.2.2.1, .int .i64 x.2.2.2.2.2.1, .int .i64 x.2.2.2.2.2.2.1, .int .i64 x.2.2.2.2.2.2.2] 47)
  have hs := below_on hs1 (below_alloc (w.alloc (.cells #[.string x.1, .string x.2.1, .int .i64 x.2.2.1, .int .i64 x.2.2.2.1, .int .i64 x.2.2.2.2.1, .int .i64 x.2.2.2.2.2.1, .int .i64 x.2.2.2.2.2.2.1, .int .i64 x.2.2.2.2.2.2.2] 47)) (.cells #[.string ⟨#[]⟩, .string ⟨#[]⟩, .int .i64 0, .int .i64 0, .int .i64 0, .int .i64 0, .int .i64 0, .int .i64 0] 47))
  have B : CellsAt ((w.alloc (.cells #[.string x.1, .string x.2.1, .int .i64 x.2.2.1, .int .i64 x.2.2.2.1, .int .i64 x.2.2.2.2.1, .int .i64 x.2.2.2.2.2.1, .int .i64 x.2.2.2.2.2.2.1, .int .i64 x.2.2.2.2.2.2.2] 47)).alloc (.cells #[.string ⟨#[]⟩, .string ⟨#[]⟩, .int .i64 0, .int .i64 0, .int .i64 0, .int .i64 0, .int .i64 0, .int .i64 0] 47)) w.heap.size [.string x.1, .string x.2.1, .int .i64 x.2.2.1, .int .i64 x.2.2.2.1, .int .i64 x.2.2.2.2.1, .int .i64 x.2.2.2.2.2.1, .int .i64 x.2.2.2.2.2.2.1, .int .i64 x.2.2.2.2.2.2.2] := (CellsAt.new w #[.string x.1, .string x.2.1, .int .i64 x.2.2.1, .int .i64 x.2.2.2.1, .int .i64 x.2.2.2.2.1, .int .i64 x.2.2.2.2.2.1, .int .i64 x.2.2.2.2.2.2.1, .int .i64 x.2.2.2.2.2.2.2] 47).alloc _
  have C0 : CellsAt ((w.alloc (.cells #[.string x.1, .string x.2.1, .int .i64 x.2.2.1, .int .i64 x.2.2.2.1, .int .i64 x.2.2.2.2.1, .int .i64 x.2.2.2.2.2.1, .int .i64 x.2.2.2.2.2.2.1, .int .i64 x.2.2.2.2.2.2.2] 47)).alloc (.cells #[.string ⟨#[]⟩, .string ⟨#[]⟩, .int .i64 0, .int .i64 0, .int .i64 0, .int .i64 0, .int .i64 0, .int .i64 0] 47)) (w.alloc (.cells #[.string x.1, .string x.2.1, .int .i64 x.2.2.1, .int .i64 x.2.2.2.1, .int .i64 x.2.2.2.2.1, .int .i64 x.2.2.2.2.2.1, .int .i64 x.2.2.2.2.2.2.1, .int .i64 x.2.2.2.2.2.2.2] 47)).heap.size [.string ⟨#[]⟩, .string ⟨#[]⟩, .int .i64 0, .int .i64 0, .int .i64 0, .int .i64 0, .int .i64 0, .int .i64 0] := CellsAt.new (w.alloc (.cells #[.string x.1, .string x.2.1, .int .i64 x.2.2.1, .int .i64 x.2.2.2.1, .int .i64 x.2.2.2.2.1, .int .i64 x.2.2.2.2.2.1, .int .i64 x.2.2.2.2.2.2.1, .int .i64 x.2.2.2.2.2.2.2] 47)) #[.string ⟨#[]⟩, .string ⟨#[]⟩, .int .i64 0, .int .i64 0, .int .i64 0, .int .i64 0, .int .i64 0, .int .i64 0] 47
  have hz1 : (w.alloc (.cells #[.string x.1, .string x.2.1, .int .i64 x.2.2.1, .int .i64 x.2.2.2.1, .int .i64 x.2.2.2.2.1, .int .i64 x.2.2.2.2.2.1, .int .i64 x.2.2.2.2.2.2.1, .int .i64 x.2.2.2.2.2.2.2] 47)).heap.size = w.heap.size + 1 := by simp
  rw [hz1] at C0
  have C := C0
  have hc0 := hc.keep hs hg
  have hg0 := hc0.lt
  have H : Only g (g + 1) w ((w.alloc (.cells #[.string x.1, .string x.2.1, .int .i64 x.2.2.1, .int .i64 x.2.2.2.1, .int .i64 x.2.2.2.2.1, .int .i64 x.2.2.2.2.2.1, .int .i64 x.2.2.2.2.2.2.1, .int .i64 x.2.2.2.2.2.2.2] 47)).alloc (.cells #[.string ⟨#[]⟩, .string ⟨#[]⟩, .int .i64 0, .int .i64 0, .int .i64 0, .int .i64 0, .int .i64 0, .int .i64 0] 47)) := Only.of_below hs
  clear C0 hz1 hs1 hs
  have hA : (⟨#[97]⟩ : ByteArray).size ≤ 9223372036854775807 := by decide
  have HOK := Lib.hid hok
  clear hok
  go_enter Try.func72, Try.ntmps72
  go_wp2_with fail
  generalize ((w.alloc (.cells #[.string x.1, .string x.2.1, .int .i64 x.2.2.1, .int .i64 x.2.2.2.1, .int .i64 x.2.2.2.2.1, .int .i64 x.2.2.2.2.2.1, .int .i64 x.2.2.2.2.2.2.1, .int .i64 x.2.2.2.2.2.2.2] 47)).alloc (.cells #[.string ⟨#[]⟩, .string ⟨#[]⟩, .int .i64 0, .int .i64 0, .int .i64 0, .int .i64 0, .int .i64 0, .int .i64 0] 47)) = w0 at *
  generalize hN : w.heap.size = N at *
  obtain ⟨M, hM⟩ : ∃ M, N = M := ⟨_, rfl⟩
  obtain ⟨N1, hN1⟩ : ∃ N1, N + 1 = N1 := ⟨_, rfl⟩
  refine (l1Below_any _ _ _ _ (by omega) hc0).mono ?_
  rintro e w1 ⟨y, rfl, ⟨y0, y1⟩, hc1, HO1⟩
  replace C := C.only HO1 (by omega)
  replace B := B.only HO1 (by omega)
  replace H := H.trans HO1
  have hg1 := hc1.lt
  clear HO1 hc0
  clear hM hN1
  have h6 : (y = 0 ∨ y = 1 ∨ y = 2) ∨ (y = 3 ∨ y = 4 ∨ y = 5 ∨ 5 < y) := by omega
  rcases h6 with (rfl | rfl | rfl) | (rfl | rfl | rfl | h6)
  · skip
    go_wp2_with fail
    refine (l1PickInt_any _ 2 _ [-1, 51] _ base g (lit_ints rfl _ _ _ rfl rfl (by simp)) (by omega) (fun a ha => by have := Option.some.inj ha; rw [← this]; show w1.heap.size ≠ g; omega) (hc1.keep (below_alloc _ _) hg1)).mono ?_
    rintro e wX ⟨z, rfl, _, hcX, HOX⟩
    replace C := (C.alloc (.cells #[.int .i64 (-1), .int .i64 51] 3)).only HOX (by omega)
    replace B := (B.alloc (.cells #[.int .i64 (-1), .int .i64 51] 3)).only HOX (by omega)
    replace H := (H.trans (Only.of_below (below_alloc w1 (.cells #[.int .i64 (-1), .int .i64 51] 3)))).trans HOX
    have hgX := hcX.lt
    clear HOX hc1
    have hcx := hcX
    have k1 := B.2.1 7 _ rfl
    have k2 := B.2.2 7
    replace B := B.put 7 (.int .i64 z) (by simp)
    replace C := C.far (p := ⟨N, 7, none⟩) (by show N ≠ N + 1; omega) (.int .i64 z)
    replace H := H.far (p := ⟨N, 7, none⟩) (B := N) (Nat.le_refl _) (.int .i64 z) (by omega)
    have hcur : CurAt (wX.setCell ⟨N, 7, none⟩ (.int .i64 z)) base g := hcx.keep ((Below.refl N wX).setCell (p := ⟨N, 7, none⟩) (Nat.le_refl _) _) hg
    have HF := ((((((((H.far (p := ⟨N + 1, 0, none⟩) (B := N) (by show N ≤ N + 1; omega) (.string x.1) (by omega)).far (p := ⟨N + 1, 1, none⟩) (B := N) (by show N ≤ N + 1; omega) (.string x.2.1) (by omega)).far (p := ⟨N + 1, 2, none⟩) (B := N) (by show N ≤ N + 1; omega) (.int .i64 x.2.2.1) (by omega)).far (p := ⟨N + 1, 3, none⟩) (B := N) (by show N ≤ N + 1; omega) (.int .i64 x.2.2.2.1) (by omega)).far (p := ⟨N + 1, 4, none⟩) (B := N) (by show N ≤ N + 1; omega) (.int .i64 x.2.2.2.2.1) (by omega)).far (p := ⟨N + 1, 5, none⟩) (B := N) (by show N ≤ N + 1; omega) (.int .i64 x.2.2.2.2.2.1) (by omega)).far (p := ⟨N + 1, 6, none⟩) (B := N) (by show N ≤ N + 1; omega) (.int .i64 x.2.2.2.2.2.2.1) (by omega)).far (p := ⟨N + 1, 7, none⟩) (B := N) (by show N ≤ N + 1; omega) (.int .i64 z) (by omega))
    have hcF : CurAt (((((((((wX.setCell ⟨N, 7, none⟩ (.int .i64 z)).setCell ⟨N + 1, 0, none⟩ (.string x.1)).setCell ⟨N + 1, 1, none⟩ (.string x.2.1)).setCell ⟨N + 1, 2, none⟩ (.int .i64 x.2.2.1)).setCell ⟨N + 1, 3, none⟩ (.int .i64 x.2.2.2.1)).setCell ⟨N + 1, 4, none⟩ (.int .i64 x.2.2.2.2.1)).setCell ⟨N + 1, 5, none⟩ (.int .i64 x.2.2.2.2.2.1)).setCell ⟨N + 1, 6, none⟩ (.int .i64 x.2.2.2.2.2.2.1)).setCell ⟨N + 1, 7, none⟩ (.int .i64 z)) base g := hcur.keep (((((((((Below.refl N ((wX.setCell ⟨N, 7, none⟩ (.int .i64 z)))).setCell (p := ⟨N + 1, 0, none⟩) (by show N ≤ N + 1; omega) _).setCell (p := ⟨N + 1, 1, none⟩) (by show N ≤ N + 1; omega) _).setCell (p := ⟨N + 1, 2, none⟩) (by show N ≤ N + 1; omega) _).setCell (p := ⟨N + 1, 3, none⟩) (by show N ≤ N + 1; omega) _).setCell (p := ⟨N + 1, 4, none⟩) (by show N ≤ N + 1; omega) _).setCell (p := ⟨N + 1, 5, none⟩) (by show N ≤ N + 1; omega) _).setCell (p := ⟨N + 1, 6, none⟩) (by show N ≤ N + 1; omega) _).setCell (p := ⟨N + 1, 7, none⟩) (by show N ≤ N + 1; omega) _) hg
    have b0 := B.2.1 0 _ rfl
    have q0 := C.2.1 0 _ rfl
    have f0 := C.2.2 0
    have b1 := B.2.1 1 _ rfl
    have q1 := C.2.1 1 _ rfl
    have f1 := C.2.2 1
    have b2 := B.2.1 2 _ rfl
    have q2 := C.2.1 2 _ rfl
    have f2 := C.2.2 2
    have b3 := B.2.1 3 _ rfl
    have q3 := C.2.1 3 _ rfl
    have f3 := C.2.2 3
    have b4 := B.2.1 4 _ rfl
    have q4 := C.2.1 4 _ rfl
    have f4 := C.2.2 4
    have b5 := B.2.1 5 _ rfl
    have q5 := C.2.1 5 _ rfl
    have f5 := C.2.2 5
    have b6 := B.2.1 6 _ rfl
    have q6 := C.2.1 6 _ rfl
    have f6 := C.2.2 6
    have b7 := B.2.1 7 _ rfl
    have q7 := C.2.1 7 _ rfl
    have f7 := C.2.2 7
    clear C H hcur B
    go_wp2_with fail
    refine bodyPost_ret (v := .agg #[.string x.1, .string x.2.1, .int .i64 x.2.2.1, .int .i64 x.2.2.2.1, .int .i64 x.2.2.2.2.1, .int .i64 x.2.2.2.2.2.1, .int .i64 x.2.2.2.2.2.2.1, .int .i64 z]) (by simp [results, Try.results72, go_sem, q0, f0, q1, f1, q2, f2, q3, f3, q4, f4, q5, f5, q6, f6, q7, f7]) rfl ?_
    exact ⟨(x.1, x.2.1, x.2.2.1, x.2.2.2.1, x.2.2.2.2.1, x.2.2.2.2.2.1, x.2.2.2.2.2.2.1, z), rfl, HOK.out, hcF, HF⟩
  · skip
    have hcx := hc1
    have k1 := B.2.1 2 _ rfl
    have k2 := B.2.2 2
    replace B := B.put 2 (.int .i64 3) (by simp)
    replace C := C.far (p := ⟨N, 2, none⟩) (by show N ≠ N + 1; omega) (.int .i64 3)
    replace H := H.far (p := ⟨N, 2, none⟩) (B := N) (Nat.le_refl _) (.int .i64 3) (by omega)
    have hcur : CurAt (w1.setCell ⟨N, 2, none⟩ (.int .i64 3)) base g := hcx.keep ((Below.refl N w1).setCell (p := ⟨N, 2, none⟩) (Nat.le_refl _) _) hg
    have HF := ((((((((H.far (p := ⟨N + 1, 0, none⟩) (B := N) (by show N ≤ N + 1; omega) (.string x.1) (by omega)).far (p := ⟨N + 1, 1, none⟩) (B := N) (by show N ≤ N + 1; omega) (.string x.2.1) (by omega)).far (p := ⟨N + 1, 2, none⟩) (B := N) (by show N ≤ N + 1; omega) (.int .i64 3) (by omega)).far (p := ⟨N + 1, 3, none⟩) (B := N) (by show N ≤ N + 1; omega) (.int .i64 x.2.2.2.1) (by omega)).far (p := ⟨N + 1, 4, none⟩) (B := N) (by show N ≤ N + 1; omega) (.int .i64 x.2.2.2.2.1) (by omega)).far (p := ⟨N + 1, 5, none⟩) (B := N) (by show N ≤ N + 1; omega) (.int .i64 x.2.2.2.2.2.1) (by omega)).far (p := ⟨N + 1, 6, none⟩) (B := N) (by show N ≤ N + 1; omega) (.int .i64 x.2.2.2.2.2.2.1) (by omega)).far (p := ⟨N + 1, 7, none⟩) (B := N) (by show N ≤ N + 1; omega) (.int .i64 x.2.2.2.2.2.2.2) (by omega))
    have hcF : CurAt (((((((((w1.setCell ⟨N, 2, none⟩ (.int .i64 3)).setCell ⟨N + 1, 0, none⟩ (.string x.1)).setCell ⟨N + 1, 1, none⟩ (.string x.2.1)).setCell ⟨N + 1, 2, none⟩ (.int .i64 3)).setCell ⟨N + 1, 3, none⟩ (.int .i64 x.2.2.2.1)).setCell ⟨N + 1, 4, none⟩ (.int .i64 x.2.2.2.2.1)).setCell ⟨N + 1, 5, none⟩ (.int .i64 x.2.2.2.2.2.1)).setCell ⟨N + 1, 6, none⟩ (.int .i64 x.2.2.2.2.2.2.1)).setCell ⟨N + 1, 7, none⟩ (.int .i64 x.2.2.2.2.2.2.2)) base g := hcur.keep (((((((((Below.refl N ((w1.setCell ⟨N, 2, none⟩ (.int .i64 3)))).setCell (p := ⟨N + 1, 0, none⟩) (by show N ≤ N + 1; omega) _).setCell (p := ⟨N + 1, 1, none⟩) (by show N ≤ N + 1; omega) _).setCell (p := ⟨N + 1, 2, none⟩) (by show N ≤ N + 1; omega) _).setCell (p := ⟨N + 1, 3, none⟩) (by show N ≤ N + 1; omega) _).setCell (p := ⟨N + 1, 4, none⟩) (by show N ≤ N + 1; omega) _).setCell (p := ⟨N + 1, 5, none⟩) (by show N ≤ N + 1; omega) _).setCell (p := ⟨N + 1, 6, none⟩) (by show N ≤ N + 1; omega) _).setCell (p := ⟨N + 1, 7, none⟩) (by show N ≤ N + 1; omega) _) hg
    have b0 := B.2.1 0 _ rfl
    have q0 := C.2.1 0 _ rfl
    have f0 := C.2.2 0
    have b1 := B.2.1 1 _ rfl
    have q1 := C.2.1 1 _ rfl
    have f1 := C.2.2 1
    have b2 := B.2.1 2 _ rfl
    have q2 := C.2.1 2 _ rfl
    have f2 := C.2.2 2
    have b3 := B.2.1 3 _ rfl
    have q3 := C.2.1 3 _ rfl
    have f3 := C.2.2 3
    have b4 := B.2.1 4 _ rfl
    have q4 := C.2.1 4 _ rfl
    have f4 := C.2.2 4
    have b5 := B.2.1 5 _ rfl
    have q5 := C.2.1 5 _ rfl
    have f5 := C.2.2 5
    have b6 := B.2.1 6 _ rfl
    have q6 := C.2.1 6 _ rfl
    have f6 := C.2.2 6
    have b7 := B.2.1 7 _ rfl
    have q7 := C.2.1 7 _ rfl
    have f7 := C.2.2 7
    clear C H hcur B
    go_wp2_with fail
    refine bodyPost_ret (v := .agg #[.string x.1, .string x.2.1, .int .i64 3, .int .i64 x.2.2.2.1, .int .i64 x.2.2.2.2.1, .int .i64 x.2.2.2.2.2.1, .int .i64 x.2.2.2.2.2.2.1, .int .i64 x.2.2.2.2.2.2.2]) (by simp [results, Try.results72, go_sem, q0, f0, q1, f1, q2, f2, q3, f3, q4, f4, q5, f5, q6, f6, q7, f7]) rfl ?_
    exact ⟨(x.1, x.2.1, 3, x.2.2.2.1, x.2.2.2.2.1, x.2.2.2.2.2.1, x.2.2.2.2.2.2.1, x.2.2.2.2.2.2.2), rfl, HOK.out, hcF, HF⟩
  · skip
    go_wp2_with fail
    refine (l1PickInt_any _ 2 _ [-1, 31] _ base g (lit_ints rfl _ _ _ rfl rfl (by simp)) (by omega) (fun a ha => by have := Option.some.inj ha; rw [← this]; show w1.heap.size ≠ g; omega) (hc1.keep (below_alloc _ _) hg1)).mono ?_
    rintro e wX ⟨z, rfl, _, hcX, HOX⟩
    replace C := (C.alloc (.cells #[.int .i64 (-1), .int .i64 31] 3)).only HOX (by omega)
    replace B := (B.alloc (.cells #[.int .i64 (-1), .int .i64 31] 3)).only HOX (by omega)
    replace H := (H.trans (Only.of_below (below_alloc w1 (.cells #[.int .i64 (-1), .int .i64 31] 3)))).trans HOX
    have hgX := hcX.lt
    clear HOX hc1
    have hcx := hcX
    have k1 := B.2.1 3 _ rfl
    have k2 := B.2.2 3
    replace B := B.put 3 (.int .i64 z) (by simp)
    replace C := C.far (p := ⟨N, 3, none⟩) (by show N ≠ N + 1; omega) (.int .i64 z)
    replace H := H.far (p := ⟨N, 3, none⟩) (B := N) (Nat.le_refl _) (.int .i64 z) (by omega)
    have hcur : CurAt (wX.setCell ⟨N, 3, none⟩ (.int .i64 z)) base g := hcx.keep ((Below.refl N wX).setCell (p := ⟨N, 3, none⟩) (Nat.le_refl _) _) hg
    have HF := ((((((((H.far (p := ⟨N + 1, 0, none⟩) (B := N) (by show N ≤ N + 1; omega) (.string x.1) (by omega)).far (p := ⟨N + 1, 1, none⟩) (B := N) (by show N ≤ N + 1; omega) (.string x.2.1) (by omega)).far (p := ⟨N + 1, 2, none⟩) (B := N) (by show N ≤ N + 1; omega) (.int .i64 x.2.2.1) (by omega)).far (p := ⟨N + 1, 3, none⟩) (B := N) (by show N ≤ N + 1; omega) (.int .i64 z) (by omega)).far (p := ⟨N + 1, 4, none⟩) (B := N) (by show N ≤ N + 1; omega) (.int .i64 x.2.2.2.2.1) (by omega)).far (p := ⟨N + 1, 5, none⟩) (B := N) (by show N ≤ N + 1; omega) (.int .i64 x.2.2.2.2.2.1) (by omega)).far (p := ⟨N + 1, 6, none⟩) (B := N) (by show N ≤ N + 1; omega) (.int .i64 x.2.2.2.2.2.2.1) (by omega)).far (p := ⟨N + 1, 7, none⟩) (B := N) (by show N ≤ N + 1; omega) (.int .i64 x.2.2.2.2.2.2.2) (by omega))
    have hcF : CurAt (((((((((wX.setCell ⟨N, 3, none⟩ (.int .i64 z)).setCell ⟨N + 1, 0, none⟩ (.string x.1)).setCell ⟨N + 1, 1, none⟩ (.string x.2.1)).setCell ⟨N + 1, 2, none⟩ (.int .i64 x.2.2.1)).setCell ⟨N + 1, 3, none⟩ (.int .i64 z)).setCell ⟨N + 1, 4, none⟩ (.int .i64 x.2.2.2.2.1)).setCell ⟨N + 1, 5, none⟩ (.int .i64 x.2.2.2.2.2.1)).setCell ⟨N + 1, 6, none⟩ (.int .i64 x.2.2.2.2.2.2.1)).setCell ⟨N + 1, 7, none⟩ (.int .i64 x.2.2.2.2.2.2.2)) base g := hcur.keep (((((((((Below.refl N ((wX.setCell ⟨N, 3, none⟩ (.int .i64 z)))).setCell (p := ⟨N + 1, 0, none⟩) (by show N ≤ N + 1; omega) _).setCell (p := ⟨N + 1, 1, none⟩) (by show N ≤ N + 1; omega) _).setCell (p := ⟨N + 1, 2, none⟩) (by show N ≤ N + 1; omega) _).setCell (p := ⟨N + 1, 3, none⟩) (by show N ≤ N + 1; omega) _).setCell (p := ⟨N + 1, 4, none⟩) (by show N ≤ N + 1; omega) _).setCell (p := ⟨N + 1, 5, none⟩) (by show N ≤ N + 1; omega) _).setCell (p := ⟨N + 1, 6, none⟩) (by show N ≤ N + 1; omega) _).setCell (p := ⟨N + 1, 7, none⟩) (by show N ≤ N + 1; omega) _) hg
    have b0 := B.2.1 0 _ rfl
    have q0 := C.2.1 0 _ rfl
    have f0 := C.2.2 0
    have b1 := B.2.1 1 _ rfl
    have q1 := C.2.1 1 _ rfl
    have f1 := C.2.2 1
    have b2 := B.2.1 2 _ rfl
    have q2 := C.2.1 2 _ rfl
    have f2 := C.2.2 2
    have b3 := B.2.1 3 _ rfl
    have q3 := C.2.1 3 _ rfl
    have f3 := C.2.2 3
    have b4 := B.2.1 4 _ rfl
    have q4 := C.2.1 4 _ rfl
    have f4 := C.2.2 4
    have b5 := B.2.1 5 _ rfl
    have q5 := C.2.1 5 _ rfl
    have f5 := C.2.2 5
    have b6 := B.2.1 6 _ rfl
    have q6 := C.2.1 6 _ rfl
    have f6 := C.2.2 6
    have b7 := B.2.1 7 _ rfl
    have q7 := C.2.1 7 _ rfl
    have f7 := C.2.2 7
    clear C H hcur B
    go_wp2_with fail
    refine bodyPost_ret (v := .agg #[.string x.1, .string x.2.1, .int .i64 x.2.2.1, .int .i64 z, .int .i64 x.2.2.2.2.1, .int .i64 x.2.2.2.2.2.1, .int .i64 x.2.2.2.2.2.2.1, .int .i64 x.2.2.2.2.2.2.2]) (by simp [results, Try.results72, go_sem, q0, f0, q1, f1, q2, f2, q3, f3, q4, f4, q5, f5, q6, f6, q7, f7]) rfl ?_
    exact ⟨(x.1, x.2.1, x.2.2.1, z, x.2.2.2.2.1, x.2.2.2.2.2.1, x.2.2.2.2.2.2.1, x.2.2.2.2.2.2.2), rfl, HOK.out, hcF, HF⟩
  · skip
    have hcx := hc1
    have k1 := B.2.1 5 _ rfl
    have k2 := B.2.2 5
    replace B := B.put 5 (.int .i64 1001) (by simp)
    replace C := C.far (p := ⟨N, 5, none⟩) (by show N ≠ N + 1; omega) (.int .i64 1001)
    replace H := H.far (p := ⟨N, 5, none⟩) (B := N) (Nat.le_refl _) (.int .i64 1001) (by omega)
    have hcur : CurAt (w1.setCell ⟨N, 5, none⟩ (.int .i64 1001)) base g := hcx.keep ((Below.refl N w1).setCell (p := ⟨N, 5, none⟩) (Nat.le_refl _) _) hg
    have HF := ((((((((H.far (p := ⟨N + 1, 0, none⟩) (B := N) (by show N ≤ N + 1; omega) (.string x.1) (by omega)).far (p := ⟨N + 1, 1, none⟩) (B := N) (by show N ≤ N + 1; omega) (.string x.2.1) (by omega)).far (p := ⟨N + 1, 2, none⟩) (B := N) (by show N ≤ N + 1; omega) (.int .i64 x.2.2.1) (by omega)).far (p := ⟨N + 1, 3, none⟩) (B := N) (by show N ≤ N + 1; omega) (.int .i64 x.2.2.2.1) (by omega)).far (p := ⟨N + 1, 4, none⟩) (B := N) (by show N ≤ N + 1; omega) (.int .i64 x.2.2.2.2.1) (by omega)).far (p := ⟨N + 1, 5, none⟩) (B := N) (by show N ≤ N + 1; omega) (.int .i64 1001) (by omega)).far (p := ⟨N + 1, 6, none⟩) (B := N) (by show N ≤ N + 1; omega) (.int .i64 x.2.2.2.2.2.2.1) (by omega)).far (p := ⟨N + 1, 7, none⟩) (B := N) (by show N ≤ N + 1; omega) (.int .i64 x.2.2.2.2.2.2.2) (by omega))
    have hcF : CurAt (((((((((w1.setCell ⟨N, 5, none⟩ (.int .i64 1001)).setCell ⟨N + 1, 0, none⟩ (.string x.1)).setCell ⟨N + 1, 1, none⟩ (.string x.2.1)).setCell ⟨N + 1, 2, none⟩ (.int .i64 x.2.2.1)).setCell ⟨N + 1, 3, none⟩ (.int .i64 x.2.2.2.1)).setCell ⟨N + 1, 4, none⟩ (.int .i64 x.2.2.2.2.1)).setCell ⟨N + 1, 5, none⟩ (.int .i64 1001)).setCell ⟨N + 1, 6, none⟩ (.int .i64 x.2.2.2.2.2.2.1)).setCell ⟨N + 1, 7, none⟩ (.int .i64 x.2.2.2.2.2.2.2)) base g := hcur.keep (((((((((Below.refl N ((w1.setCell ⟨N, 5, none⟩ (.int .i64 1001)))).setCell (p := ⟨N + 1, 0, none⟩) (by show N ≤ N + 1; omega) _).setCell (p := ⟨N + 1, 1, none⟩) (by show N ≤ N + 1; omega) _).setCell (p := ⟨N + 1, 2, none⟩) (by show N ≤ N + 1; omega) _).setCell (p := ⟨N + 1, 3, none⟩) (by show N ≤ N + 1; omega) _).setCell (p := ⟨N + 1, 4, none⟩) (by show N ≤ N + 1; omega) _).setCell (p := ⟨N + 1, 5, none⟩) (by show N ≤ N + 1; omega) _).setCell (p := ⟨N + 1, 6, none⟩) (by show N ≤ N + 1; omega) _).setCell (p := ⟨N + 1, 7, none⟩) (by show N ≤ N + 1; omega) _) hg
    have b0 := B.2.1 0 _ rfl
    have q0 := C.2.1 0 _ rfl
    have f0 := C.2.2 0
    have b1 := B.2.1 1 _ rfl
    have q1 := C.2.1 1 _ rfl
    have f1 := C.2.2 1
    have b2 := B.2.1 2 _ rfl
    have q2 := C.2.1 2 _ rfl
    have f2 := C.2.2 2
    have b3 := B.2.1 3 _ rfl
    have q3 := C.2.1 3 _ rfl
    have f3 := C.2.2 3
    have b4 := B.2.1 4 _ rfl
    have q4 := C.2.1 4 _ rfl
    have f4 := C.2.2 4
    have b5 := B.2.1 5 _ rfl
    have q5 := C.2.1 5 _ rfl
    have f5 := C.2.2 5
    have b6 := B.2.1 6 _ rfl
    have q6 := C.2.1 6 _ rfl
    have f6 := C.2.2 6
    have b7 := B.2.1 7 _ rfl
    have q7 := C.2.1 7 _ rfl
    have f7 := C.2.2 7
    clear C H hcur B
    go_wp2_with fail
    refine bodyPost_ret (v := .agg #[.string x.1, .string x.2.1, .int .i64 x.2.2.1, .int .i64 x.2.2.2.1, .int .i64 x.2.2.2.2.1, .int .i64 1001, .int .i64 x.2.2.2.2.2.2.1, .int .i64 x.2.2.2.2.2.2.2]) (by simp [results, Try.results72, go_sem, q0, f0, q1, f1, q2, f2, q3, f3, q4, f4, q5, f5, q6, f6, q7, f7]) rfl ?_
    exact ⟨(x.1, x.2.1, x.2.2.1, x.2.2.2.1, x.2.2.2.2.1, 1001, x.2.2.2.2.2.2.1, x.2.2.2.2.2.2.2), rfl, HOK.out, hcF, HF⟩
  · skip
    have hcx := hc1
    have k1 := B.2.1 0 _ rfl
    have k2 := B.2.2 0
    replace B := B.put 0 (.string ⟨#[97]⟩) (by simp)
    replace C := C.far (p := ⟨N, 0, none⟩) (by show N ≠ N + 1; omega) (.string ⟨#[97]⟩)
    replace H := H.far (p := ⟨N, 0, none⟩) (B := N) (Nat.le_refl _) (.string ⟨#[97]⟩) (by omega)
    have hcur : CurAt (w1.setCell ⟨N, 0, none⟩ (.string ⟨#[97]⟩)) base g := hcx.keep ((Below.refl N w1).setCell (p := ⟨N, 0, none⟩) (Nat.le_refl _) _) hg
    have HF := ((((((((H.far (p := ⟨N + 1, 0, none⟩) (B := N) (by show N ≤ N + 1; omega) (.string ⟨#[97]⟩) (by omega)).far (p := ⟨N + 1, 1, none⟩) (B := N) (by show N ≤ N + 1; omega) (.string x.2.1) (by omega)).far (p := ⟨N + 1, 2, none⟩) (B := N) (by show N ≤ N + 1; omega) (.int .i64 x.2.2.1) (by omega)).far (p := ⟨N + 1, 3, none⟩) (B := N) (by show N ≤ N + 1; omega) (.int .i64 x.2.2.2.1) (by omega)).far (p := ⟨N + 1, 4, none⟩) (B := N) (by show N ≤ N + 1; omega) (.int .i64 x.2.2.2.2.1) (by omega)).far (p := ⟨N + 1, 5, none⟩) (B := N) (by show N ≤ N + 1; omega) (.int .i64 x.2.2.2.2.2.1) (by omega)).far (p := ⟨N + 1, 6, none⟩) (B := N) (by show N ≤ N + 1; omega) (.int .i64 x.2.2.2.2.2.2.1) (by omega)).far (p := ⟨N + 1, 7, none⟩) (B := N) (by show N ≤ N + 1; omega) (.int .i64 x.2.2.2.2.2.2.2) (by omega))
    have hcF : CurAt (((((((((w1.setCell ⟨N, 0, none⟩ (.string ⟨#[97]⟩)).setCell ⟨N + 1, 0, none⟩ (.string ⟨#[97]⟩)).setCell ⟨N + 1, 1, none⟩ (.string x.2.1)).setCell ⟨N + 1, 2, none⟩ (.int .i64 x.2.2.1)).setCell ⟨N + 1, 3, none⟩ (.int .i64 x.2.2.2.1)).setCell ⟨N + 1, 4, none⟩ (.int .i64 x.2.2.2.2.1)).setCell ⟨N + 1, 5, none⟩ (.int .i64 x.2.2.2.2.2.1)).setCell ⟨N + 1, 6, none⟩ (.int .i64 x.2.2.2.2.2.2.1)).setCell ⟨N + 1, 7, none⟩ (.int .i64 x.2.2.2.2.2.2.2)) base g := hcur.keep (((((((((Below.refl N ((w1.setCell ⟨N, 0, none⟩ (.string ⟨#[97]⟩)))).setCell (p := ⟨N + 1, 0, none⟩) (by show N ≤ N + 1; omega) _).setCell (p := ⟨N + 1, 1, none⟩) (by show N ≤ N + 1; omega) _).setCell (p := ⟨N + 1, 2, none⟩) (by show N ≤ N + 1; omega) _).setCell (p := ⟨N + 1, 3, none⟩) (by show N ≤ N + 1; omega) _).setCell (p := ⟨N + 1, 4, none⟩) (by show N ≤ N + 1; omega) _).setCell (p := ⟨N + 1, 5, none⟩) (by show N ≤ N + 1; omega) _).setCell (p := ⟨N + 1, 6, none⟩) (by show N ≤ N + 1; omega) _).setCell (p := ⟨N + 1, 7, none⟩) (by show N ≤ N + 1; omega) _) hg
    have b0 := B.2.1 0 _ rfl
    have q0 := C.2.1 0 _ rfl
    have f0 := C.2.2 0
    have b1 := B.2.1 1 _ rfl
    have q1 := C.2.1 1 _ rfl
    have f1 := C.2.2 1
    have b2 := B.2.1 2 _ rfl
    have q2 := C.2.1 2 _ rfl
    have f2 := C.2.2 2
    have b3 := B.2.1 3 _ rfl
    have q3 := C.2.1 3 _ rfl
    have f3 := C.2.2 3
    have b4 := B.2.1 4 _ rfl
    have q4 := C.2.1 4 _ rfl
    have f4 := C.2.2 4
    have b5 := B.2.1 5 _ rfl
    have q5 := C.2.1 5 _ rfl
    have f5 := C.2.2 5
    have b6 := B.2.1 6 _ rfl
    have q6 := C.2.1 6 _ rfl
    have f6 := C.2.2 6
    have b7 := B.2.1 7 _ rfl
    have q7 := C.2.1 7 _ rfl
    have f7 := C.2.2 7
    clear C H hcur B
    go_wp2_with fail
    refine bodyPost_ret (v := .agg #[.string ⟨#[97]⟩, .string x.2.1, .int .i64 x.2.2.1, .int .i64 x.2.2.2.1, .int .i64 x.2.2.2.2.1, .int .i64 x.2.2.2.2.2.1, .int .i64 x.2.2.2.2.2.2.1, .int .i64 x.2.2.2.2.2.2.2]) (by simp [results, Try.results72, go_sem, q0, f0, q1, f1, q2, f2, q3, f3, q4, f4, q5, f5, q6, f6, q7, f7]) rfl ?_
    exact ⟨(⟨#[97]⟩, x.2.1, x.2.2.1, x.2.2.2.1, x.2.2.2.2.1, x.2.2.2.2.2.1, x.2.2.2.2.2.2.1, x.2.2.2.2.2.2.2), rfl, ⟨hA, HOK.out.2⟩, hcF, HF⟩
  · skip
    go_wp2_with fail
    refine (l1Odd_any _ _ _ hc1).mono ?_
    rintro e wX ⟨z, rfl, _, hcX, HOX⟩
    replace C := C.only HOX (by omega)
    replace B := B.only HOX (by omega)
    replace H := H.trans HOX
    have hgX := hcX.lt
    clear HOX hc1
    have hcx := hcX
    have k1 := B.2.1 6 _ rfl
    have k2 := B.2.2 6
    replace B := B.put 6 (.int .i64 z) (by simp)
    replace C := C.far (p := ⟨N, 6, none⟩) (by show N ≠ N + 1; omega) (.int .i64 z)
    replace H := H.far (p := ⟨N, 6, none⟩) (B := N) (Nat.le_refl _) (.int .i64 z) (by omega)
    have hcur : CurAt (wX.setCell ⟨N, 6, none⟩ (.int .i64 z)) base g := hcx.keep ((Below.refl N wX).setCell (p := ⟨N, 6, none⟩) (Nat.le_refl _) _) hg
    have HF := ((((((((H.far (p := ⟨N + 1, 0, none⟩) (B := N) (by show N ≤ N + 1; omega) (.string x.1) (by omega)).far (p := ⟨N + 1, 1, none⟩) (B := N) (by show N ≤ N + 1; omega) (.string x.2.1) (by omega)).far (p := ⟨N + 1, 2, none⟩) (B := N) (by show N ≤ N + 1; omega) (.int .i64 x.2.2.1) (by omega)).far (p := ⟨N + 1, 3, none⟩) (B := N) (by show N ≤ N + 1; omega) (.int .i64 x.2.2.2.1) (by omega)).far (p := ⟨N + 1, 4, none⟩) (B := N) (by show N ≤ N + 1; omega) (.int .i64 x.2.2.2.2.1) (by omega)).far (p := ⟨N + 1, 5, none⟩) (B := N) (by show N ≤ N + 1; omega) (.int .i64 x.2.2.2.2.2.1) (by omega)).far (p := ⟨N + 1, 6, none⟩) (B := N) (by show N ≤ N + 1; omega) (.int .i64 z) (by omega)).far (p := ⟨N + 1, 7, none⟩) (B := N) (by show N ≤ N + 1; omega) (.int .i64 x.2.2.2.2.2.2.2) (by omega))
    have hcF : CurAt (((((((((wX.setCell ⟨N, 6, none⟩ (.int .i64 z)).setCell ⟨N + 1, 0, none⟩ (.string x.1)).setCell ⟨N + 1, 1, none⟩ (.string x.2.1)).setCell ⟨N + 1, 2, none⟩ (.int .i64 x.2.2.1)).setCell ⟨N + 1, 3, none⟩ (.int .i64 x.2.2.2.1)).setCell ⟨N + 1, 4, none⟩ (.int .i64 x.2.2.2.2.1)).setCell ⟨N + 1, 5, none⟩ (.int .i64 x.2.2.2.2.2.1)).setCell ⟨N + 1, 6, none⟩ (.int .i64 z)).setCell ⟨N + 1, 7, none⟩ (.int .i64 x.2.2.2.2.2.2.2)) base g := hcur.keep (((((((((Below.refl N ((wX.setCell ⟨N, 6, none⟩ (.int .i64 z)))).setCell (p := ⟨N + 1, 0, none⟩) (by show N ≤ N + 1; omega) _).setCell (p := ⟨N + 1, 1, none⟩) (by show N ≤ N + 1; omega) _).setCell (p := ⟨N + 1, 2, none⟩) (by show N ≤ N + 1; omega) _).setCell (p := ⟨N + 1, 3, none⟩) (by show N ≤ N + 1; omega) _).setCell (p := ⟨N + 1, 4, none⟩) (by show N ≤ N + 1; omega) _).setCell (p := ⟨N + 1, 5, none⟩) (by show N ≤ N + 1; omega) _).setCell (p := ⟨N + 1, 6, none⟩) (by show N ≤ N + 1; omega) _).setCell (p := ⟨N + 1, 7, none⟩) (by show N ≤ N + 1; omega) _) hg
    have b0 := B.2.1 0 _ rfl
    have q0 := C.2.1 0 _ rfl
    have f0 := C.2.2 0
    have b1 := B.2.1 1 _ rfl
    have q1 := C.2.1 1 _ rfl
    have f1 := C.2.2 1
    have b2 := B.2.1 2 _ rfl
    have q2 := C.2.1 2 _ rfl
    have f2 := C.2.2 2
    have b3 := B.2.1 3 _ rfl
    have q3 := C.2.1 3 _ rfl
    have f3 := C.2.2 3
    have b4 := B.2.1 4 _ rfl
    have q4 := C.2.1 4 _ rfl
    have f4 := C.2.2 4
    have b5 := B.2.1 5 _ rfl
    have q5 := C.2.1 5 _ rfl
    have f5 := C.2.2 5
    have b6 := B.2.1 6 _ rfl
    have q6 := C.2.1 6 _ rfl
    have f6 := C.2.2 6
    have b7 := B.2.1 7 _ rfl
    have q7 := C.2.1 7 _ rfl
    have f7 := C.2.2 7
    clear C H hcur B
    go_wp2_with fail
    refine bodyPost_ret (v := .agg #[.string x.1, .string x.2.1, .int .i64 x.2.2.1, .int .i64 x.2.2.2.1, .int .i64 x.2.2.2.2.1, .int .i64 x.2.2.2.2.2.1, .int .i64 z, .int .i64 x.2.2.2.2.2.2.2]) (by simp [results, Try.results72, go_sem, q0, f0, q1, f1, q2, f2, q3, f3, q4, f4, q5, f5, q6, f6, q7, f7]) rfl ?_
    exact ⟨(x.1, x.2.1, x.2.2.1, x.2.2.2.1, x.2.2.2.2.1, x.2.2.2.2.2.1, z, x.2.2.2.2.2.2.2), rfl, HOK.out, hcF, HF⟩
  · have hcur := hc1
    have d0 : decide (y = 0) = false := decide_eq_false (by omega)
    have e0 : ¬ y = 0 := by omega
    have d1 : decide (y = 1) = false := decide_eq_false (by omega)
    have e1 : ¬ y = 1 := by omega
    have d2 : decide (y = 2) = false := decide_eq_false (by omega)
    have e2 : ¬ y = 2 := by omega
    have d3 : decide (y = 3) = false := decide_eq_false (by omega)
    have e3 : ¬ y = 3 := by omega
    have d4 : decide (y = 4) = false := decide_eq_false (by omega)
    have e4 : ¬ y = 4 := by omega
    have d5 : decide (y = 5) = false := decide_eq_false (by omega)
    have e5 : ¬ y = 5 := by omega
    have HF := ((((((((H.far (p := ⟨N + 1, 0, none⟩) (B := N) (by show N ≤ N + 1; omega) (.string x.1) (by omega)).far (p := ⟨N + 1, 1, none⟩) (B := N) (by show N ≤ N + 1; omega) (.string x.2.1) (by omega)).far (p := ⟨N + 1, 2, none⟩) (B := N) (by show N ≤ N + 1; omega) (.int .i64 x.2.2.1) (by omega)).far (p := ⟨N + 1, 3, none⟩) (B := N) (by show N ≤ N + 1; omega) (.int .i64 x.2.2.2.1) (by omega)).far (p := ⟨N + 1, 4, none⟩) (B := N) (by show N ≤ N + 1; omega) (.int .i64 x.2.2.2.2.1) (by omega)).far (p := ⟨N + 1, 5, none⟩) (B := N) (by show N ≤ N + 1; omega) (.int .i64 x.2.2.2.2.2.1) (by omega)).far (p := ⟨N + 1, 6, none⟩) (B := N) (by show N ≤ N + 1; omega) (.int .i64 x.2.2.2.2.2.2.1) (by omega)).far (p := ⟨N + 1, 7, none⟩) (B := N) (by show N ≤ N + 1; omega) (.int .i64 x.2.2.2.2.2.2.2) (by omega))
    have hcF : CurAt ((((((((w1.setCell ⟨N + 1, 0, none⟩ (.string x.1)).setCell ⟨N + 1, 1, none⟩ (.string x.2.1)).setCell ⟨N + 1, 2, none⟩ (.int .i64 x.2.2.1)).setCell ⟨N + 1, 3, none⟩ (.int .i64 x.2.2.2.1)).setCell ⟨N + 1, 4, none⟩ (.int .i64 x.2.2.2.2.1)).setCell ⟨N + 1, 5, none⟩ (.int .i64 x.2.2.2.2.2.1)).setCell ⟨N + 1, 6, none⟩ (.int .i64 x.2.2.2.2.2.2.1)).setCell ⟨N + 1, 7, none⟩ (.int .i64 x.2.2.2.2.2.2.2)) base g := hcur.keep (((((((((Below.refl N (w1)).setCell (p := ⟨N + 1, 0, none⟩) (by show N ≤ N + 1; omega) _).setCell (p := ⟨N + 1, 1, none⟩) (by show N ≤ N + 1; omega) _).setCell (p := ⟨N + 1, 2, none⟩) (by show N ≤ N + 1; omega) _).setCell (p := ⟨N + 1, 3, none⟩) (by show N ≤ N + 1; omega) _).setCell (p := ⟨N + 1, 4, none⟩) (by show N ≤ N + 1; omega) _).setCell (p := ⟨N + 1, 5, none⟩) (by show N ≤ N + 1; omega) _).setCell (p := ⟨N + 1, 6, none⟩) (by show N ≤ N + 1; omega) _).setCell (p := ⟨N + 1, 7, none⟩) (by show N ≤ N + 1; omega) _) hg
    have b0 := B.2.1 0 _ rfl
    have q0 := C.2.1 0 _ rfl
    have f0 := C.2.2 0
    have b1 := B.2.1 1 _ rfl
    have q1 := C.2.1 1 _ rfl
    have f1 := C.2.2 1
    have b2 := B.2.1 2 _ rfl
    have q2 := C.2.1 2 _ rfl
    have f2 := C.2.2 2
    have b3 := B.2.1 3 _ rfl
    have q3 := C.2.1 3 _ rfl
    have f3 := C.2.2 3
    have b4 := B.2.1 4 _ rfl
    have q4 := C.2.1 4 _ rfl
    have f4 := C.2.2 4
    have b5 := B.2.1 5 _ rfl
    have q5 := C.2.1 5 _ rfl
    have f5 := C.2.2 5
    have b6 := B.2.1 6 _ rfl
    have q6 := C.2.1 6 _ rfl
    have f6 := C.2.2 6
    have b7 := B.2.1 7 _ rfl
    have q7 := C.2.1 7 _ rfl
    have f7 := C.2.2 7
    clear C H hcur B
    go_wp2_with fail
    refine bodyPost_ret (v := .agg #[.string x.1, .string x.2.1, .int .i64 x.2.2.1, .int .i64 x.2.2.2.1, .int .i64 x.2.2.2.2.1, .int .i64 x.2.2.2.2.2.1, .int .i64 x.2.2.2.2.2.2.1, .int .i64 x.2.2.2.2.2.2.2]) (by simp [results, Try.results72, go_sem, q0, f0, q1, f1, q2, f2, q3, f3, q4, f4, q5, f5, q6, f6, q7, f7]) rfl ?_
    exact ⟨x, rfl, HOK.out, hcF, HF⟩
end Go.Proofs.Ytlkolehdikfddaa
