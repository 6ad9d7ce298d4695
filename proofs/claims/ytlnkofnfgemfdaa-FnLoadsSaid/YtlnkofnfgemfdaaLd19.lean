/- Part 19 of the texts of this claim: How routings and planned orders are drawn. -/
import Derived.Test.YtlnkofnfgemfdaaLd18
import Derived.Test.YtlnkofnfgemfdaaLd8
import Derived.Test.YtlnkofnfgemfdaaLd11
/- How routings and planned orders are drawn. -/
namespace Go.Proofs.Ytlnkofnfgemfdaa
open Go.RowKit
theorem size_mem {L : List ByteArray} (h : L.all (fun s => decide (s.size ≤ 9223372036854775807)) = true) {x : ByteArray} (hx : x ∈ L) : x.size ≤ 9223372036854775807 := of_decide_eq_true (List.all_eq_true.1 h x hx)
set_option maxRecDepth 100000 in
set_option maxHeartbeats 1000000 in
theorem l1Code_any (w : World) (base g : Nat) (hc : CurAt w base g) : Calls Try.prog 48 #[.pointer (some ⟨g, 0, none⟩)] w (DrawnText (fun x => x.size ≤ 9223372036854775807) w base g) := by
  go_enter Try.func48, Try.ntmps48
  go_wp2_with fail
  refine (l1Once_any _ _ _ _ (by omega) hc).mono ?_
  rintro e w1 ⟨b, rfl, hc1, HO1⟩
  have hg := hc1.lt
  cases b
  · go_wp2_with fail
    refine (l1Pick_any _ 6 _ [⟨#[65]⟩, ⟨#[66]⟩, ⟨#[67]⟩, ⟨#[68]⟩, ⟨#[69]⟩, ⟨#[70]⟩] _ base g (lit_strs (t := 9) rfl #[.string ⟨#[65]⟩, .string ⟨#[66]⟩, .string ⟨#[67]⟩, .string ⟨#[68]⟩, .string ⟨#[69]⟩, .string ⟨#[70]⟩] [⟨#[65]⟩, ⟨#[66]⟩, ⟨#[67]⟩, ⟨#[68]⟩, ⟨#[69]⟩, ⟨#[70]⟩] 6 rfl rfl (by simp)) (by omega) (fun a ha => by have := Option.some.inj ha; rw [← this]; show w1.heap.size ≠ g; omega) (hc1.keep (below_alloc _ _) hg)).mono ?_
    rintro e w2 ⟨x, rfl, hx, hc2, HO⟩
    have hx2 := size_mem (by decide) hx
    clear hx
    go_wp2_with fail
    go_ret
    exact ⟨_, rfl, hx2, hc2, (HO1.trans (Only.of_below (below_alloc _ _))).trans HO⟩
  · go_wp2_with fail
    refine (l1Pick_any _ 5 _ [⟨#[]⟩, ⟨#[112]⟩, ⟨#[49, 65]⟩, ⟨#[84, 79, 79, 45, 76, 79, 78, 71, 45]⟩, ⟨#[65, 32, 66]⟩] _ base g (lit_strs (t := 9) rfl #[.string ⟨#[]⟩, .string ⟨#[112]⟩, .string ⟨#[49, 65]⟩, .string ⟨#[84, 79, 79, 45, 76, 79, 78, 71, 45]⟩, .string ⟨#[65, 32, 66]⟩] [⟨#[]⟩, ⟨#[112]⟩, ⟨#[49, 65]⟩, ⟨#[84, 79, 79, 45, 76, 79, 78, 71, 45]⟩, ⟨#[65, 32, 66]⟩] 5 rfl rfl (by simp)) (by omega) (fun a ha => by have := Option.some.inj ha; rw [← this]; show w1.heap.size ≠ g; omega) (hc1.keep (below_alloc _ _) hg)).mono ?_
    rintro e w2 ⟨x, rfl, hx, hc2, HO⟩
    have hx2 := size_mem (by decide) hx
    clear hx
    go_wp2_with fail
    go_ret
    exact ⟨_, rfl, hx2, hc2, (HO1.trans (Only.of_below (below_alloc _ _))).trans HO⟩
/-- The ending of a call that draws a step. -/
def DrawnStep (w : World) (base g : Nat) (e : Ending) (w' : World) : Prop := ∃ x : Sp, e = .returned (.agg #[.string x.1, .int .i64 x.2.1, .int .i64 x.2.2]) ∧ okSp x ∧ CurAt w' base g ∧ Only g (g + 1) w w'
set_option maxRecDepth 100000 in
set_option maxHeartbeats 4000000 in
theorem l12Step_any (w : World) (base g : Nat) (hc : CurAt w base g) : Calls Try.prog 178 #[.pointer (some ⟨g, 0, none⟩)] w (DrawnStep w base g) := by
  have hg := hc.lt
  have hs := below_alloc w (.cells #[.string ⟨#[]⟩, .int .i64 0, .int .i64 0] 136)
  have C0 : CellsAt (w.alloc (.cells #[.string ⟨#[]⟩, .int .i64 0, .int .i64 0] 136)) w.heap.size [.string ⟨#[]⟩, .int .i64 0, .int .i64 0] := CellsAt.new w #[.string ⟨#[]⟩, .int .i64 0, .int .i64 0] 136
  have hz : (w.alloc (.cells #[.string ⟨#[]⟩, .int .i64 0, .int .i64 0] 136)).heap.size = w.heap.size + 1 := by simp
  have hc0 := hc.keep hs hg
  have hg0 := hc0.lt
  have HO0 : Only g (g + 1) w (w.alloc (.cells #[.string ⟨#[]⟩, .int .i64 0, .int .i64 0] 136)) := Only.of_below hs
  go_enter Try.func178, Try.ntmps178
  go_wp2_with fail
  generalize (w.alloc (.cells #[.string ⟨#[]⟩, .int .i64 0, .int .i64 0] 136)) = w0 at *
  generalize hN : w.heap.size = N at *
  refine (l1Pick_any _ 3 _ [⟨#[83, 65, 87]⟩, ⟨#[77, 73, 76, 76]⟩, ⟨#[80, 65, 73, 78, 84]⟩] _ base g (lit_strs (t := 9) hz #[.string ⟨#[83, 65, 87]⟩, .string ⟨#[77, 73, 76, 76]⟩, .string ⟨#[80, 65, 73, 78, 84]⟩] [⟨#[83, 65, 87]⟩, ⟨#[77, 73, 76, 76]⟩, ⟨#[80, 65, 73, 78, 84]⟩] 3 rfl rfl (by simp)) (by omega) (fun a ha => by have := Option.some.inj ha; rw [← this]; show N + 1 ≠ g; omega) (hc0.keep (below_alloc _ _) hg0)).mono ?_
  rintro e w1 ⟨x, rfl, hx, hc1, HO1⟩
  have hx2 := size_mem (by decide) hx
  clear hx
  have C1 := (C0.alloc (.cells #[.string ⟨#[83, 65, 87]⟩, .string ⟨#[77, 73, 76, 76]⟩, .string ⟨#[80, 65, 73, 78, 84]⟩] 9)).only HO1 (by omega)
  have H1 := (HO0.trans (Only.of_below (below_alloc w0 (.cells #[.string ⟨#[83, 65, 87]⟩, .string ⟨#[77, 73, 76, 76]⟩, .string ⟨#[80, 65, 73, 78, 84]⟩] 9)))).trans HO1
  clear C0 HO0 HO1 hc0 hz hg0 hs
  go_wp2_with fail
  refine (l1Below_any _ _ _ _ (by omega) hc1).mono ?_
  rintro e w2 ⟨s, rfl, _, hc2, HO2⟩
  have C2 := C1.only HO2 (by omega)
  have H2 := H1.trans HO2
  clear C1 H1 HO2 hc1
  go_wp2_with fail
  refine (l1Below_any _ _ _ _ (by omega) hc2).mono ?_
  rintro e w3 ⟨r, rfl, _, hc3, HO3⟩
  have C3 := C2.only HO3 (by omega)
  have H3 := H2.trans HO3
  have hg3 := hc3.lt
  have hN3 := C3.1
  have B3 : CellsAt (w3.alloc (.cells #[.string x, .int .i64 s, .int .i64 r] 136)) w3.heap.size [.string x, .int .i64 s, .int .i64 r] := CellsAt.new w3 #[.string x, .int .i64 s, .int .i64 r] 136
  have hc4 := hc3.keep (below_alloc w3 (.cells #[.string x, .int .i64 s, .int .i64 r] 136)) hg3
  have C4 := C3.alloc (.cells #[.string x, .int .i64 s, .int .i64 r] 136)
  have H4 := H3.trans (Only.of_below (below_alloc w3 (.cells #[.string x, .int .i64 s, .int .i64 r] 136)))
  clear C2 H2 HO3 hc2 C3 H3 hc3
  go_wp2_with fail
  generalize (w3.alloc (.cells #[.string x, .int .i64 s, .int .i64 r] 136)) = w4 at *
  generalize w3.heap.size = M at *
  refine (l1Below_any _ _ _ _ (by omega) hc4).mono ?_
  rintro e w5 ⟨q, rfl, ⟨q0, q1⟩, hc5, HO5⟩
  have C5 := C4.only HO5 (by omega)
  have B5 := B3.only HO5 (by omega)
  have H5 := H4.trans HO5
  have hg5 := hc5.lt
  clear C4 B3 H4 HO5 hc4
  have hNM : N < M := hN3
  have h4 : (q = 0 ∨ q = 1) ∨ (q = 2 ∨ 2 < q) := by omega
  rcases h4 with (rfl | rfl) | (rfl | h4)
  · go_wp2_with fail
    refine (l1PickInt_any _ 3 _ [-1, 1000, 1001] _ base g (lit_ints rfl _ _ _ rfl rfl (by simp)) (by omega) (fun a ha => by have := Option.some.inj ha; rw [← this]; show w5.heap.size ≠ g; omega) (hc5.keep (below_alloc _ _) hg5)).mono ?_
    rintro e w6 ⟨y, rfl, _, hc6, HO6⟩
    have C6 := (C5.alloc (.cells #[.int .i64 (-1), .int .i64 1000, .int .i64 1001] 3)).only HO6 (by omega)
    have B6 := (B5.alloc (.cells #[.int .i64 (-1), .int .i64 1000, .int .i64 1001] 3)).only HO6 (by omega)
    have H6 := (H5.trans (Only.of_below (below_alloc w5 (.cells #[.int .i64 (-1), .int .i64 1000, .int .i64 1001] 3)))).trans HO6
    have k1 := B6.2.1 1 _ rfl
    have k2 := B6.2.2 1
    have B7 := B6.put 1 (.int .i64 y) (by simp)
    have C7 := C6.far (p := ⟨M, 1, none⟩) (by show M ≠ N; omega) (.int .i64 y)
    have H7 := H6.far (p := ⟨M, 1, none⟩) (B := M) (Nat.le_refl _) (.int .i64 y) (by omega)
    have hc7 : CurAt (w6.setCell ⟨M, 1, none⟩ (.int .i64 y)) base g := hc6.keep ((Below.refl N w6).setCell (p := ⟨M, 1, none⟩) (by show N ≤ M; omega) _) hg
    have b0 := B6.2.1 0 _ rfl
    have b1 := B6.2.1 1 _ rfl
    have b2 := B6.2.1 2 _ rfl
    clear C5 B5 H5 hc5 C6 B6 H6 hc6
    have E := ((C7.put 0 (.string x) (by simp)).put 1 (.int .i64 (y)) (by simp)).put 2 (.int .i64 (r)) (by simp)
    have HF := ((H7.far (p := ⟨N, 0, none⟩) (B := N) (Nat.le_refl _) (.string x) (by omega)).far (p := ⟨N, 1, none⟩) (B := N) (Nat.le_refl _) (.int .i64 (y)) (by omega)).far (p := ⟨N, 2, none⟩) (B := N) (Nat.le_refl _) (.int .i64 (r)) (by omega)
    have hcF : CurAt ((((w6.setCell ⟨M, 1, none⟩ (.int .i64 y)).setCell ⟨N, 0, none⟩ (.string x)).setCell ⟨N, 1, none⟩ (.int .i64 (y))).setCell ⟨N, 2, none⟩ (.int .i64 (r))) base g := hc7.keep ((((Below.refl N (w6.setCell ⟨M, 1, none⟩ (.int .i64 y))).setCell (p := ⟨N, 0, none⟩) (Nat.le_refl _) _).setCell (p := ⟨N, 1, none⟩) (Nat.le_refl _) _).setCell (p := ⟨N, 2, none⟩) (Nat.le_refl _) _) hg
    have q0 := C7.2.1 0 _ rfl
    have q1 := C7.2.1 1 _ rfl
    have q2 := C7.2.1 2 _ rfl
    have f0 := C7.2.2 0
    have f1 := C7.2.2 1
    have f2 := C7.2.2 2
    have e0 := E.2.1 0 _ rfl
    have e1 := E.2.1 1 _ rfl
    have e2 := E.2.1 2 _ rfl
    go_wp2_with fail
    refine bodyPost_ret (v := .agg #[.string x, .int .i64 (y), .int .i64 (r)]) (by simp [results, Try.results178, go_sem, q0, q1, q2, f0, f1, f2]) rfl ?_
    exact ⟨(x, y, r), rfl, hx2, hcF, HF⟩
  · go_wp2_with fail
    refine (l1PickInt_any _ 3 _ [-1, 1000, 1001] _ base g (lit_ints rfl _ _ _ rfl rfl (by simp)) (by omega) (fun a ha => by have := Option.some.inj ha; rw [← this]; show w5.heap.size ≠ g; omega) (hc5.keep (below_alloc _ _) hg5)).mono ?_
    rintro e w6 ⟨y, rfl, _, hc6, HO6⟩
    have C6 := (C5.alloc (.cells #[.int .i64 (-1), .int .i64 1000, .int .i64 1001] 3)).only HO6 (by omega)
    have B6 := (B5.alloc (.cells #[.int .i64 (-1), .int .i64 1000, .int .i64 1001] 3)).only HO6 (by omega)
    have H6 := (H5.trans (Only.of_below (below_alloc w5 (.cells #[.int .i64 (-1), .int .i64 1000, .int .i64 1001] 3)))).trans HO6
    have k1 := B6.2.1 2 _ rfl
    have k2 := B6.2.2 2
    have B7 := B6.put 2 (.int .i64 y) (by simp)
    have C7 := C6.far (p := ⟨M, 2, none⟩) (by show M ≠ N; omega) (.int .i64 y)
    have H7 := H6.far (p := ⟨M, 2, none⟩) (B := M) (Nat.le_refl _) (.int .i64 y) (by omega)
    have hc7 : CurAt (w6.setCell ⟨M, 2, none⟩ (.int .i64 y)) base g := hc6.keep ((Below.refl N w6).setCell (p := ⟨M, 2, none⟩) (by show N ≤ M; omega) _) hg
    have b0 := B6.2.1 0 _ rfl
    have b1 := B6.2.1 1 _ rfl
    have b2 := B6.2.1 2 _ rfl
    clear C5 B5 H5 hc5 C6 B6 H6 hc6
    have E := ((C7.put 0 (.string x) (by simp)).put 1 (.int .i64 (s)) (by simp)).put 2 (.int .i64 (y)) (by simp)
    have HF := ((H7.far (p := ⟨N, 0, none⟩) (B := N) (Nat.le_refl _) (.string x) (by omega)).far (p := ⟨N, 1, none⟩) (B := N) (Nat.le_refl _) (.int .i64 (s)) (by omega)).far (p := ⟨N, 2, none⟩) (B := N) (Nat.le_refl _) (.int .i64 (y)) (by omega)
    have hcF : CurAt ((((w6.setCell ⟨M, 2, none⟩ (.int .i64 y)).setCell ⟨N, 0, none⟩ (.string x)).setCell ⟨N, 1, none⟩ (.int .i64 (s))).setCell ⟨N, 2, none⟩ (.int .i64 (y))) base g := hc7.keep ((((Below.refl N (w6.setCell ⟨M, 2, none⟩ (.int .i64 y))).setCell (p := ⟨N, 0, none⟩) (Nat.le_refl _) _).setCell (p := ⟨N, 1, none⟩) (Nat.le_refl _) _).setCell (p := ⟨N, 2, none⟩) (Nat.le_refl _) _) hg
    have q0 := C7.2.1 0 _ rfl
    have q1 := C7.2.1 1 _ rfl
    have q2 := C7.2.1 2 _ rfl
    have f0 := C7.2.2 0
    have f1 := C7.2.2 1
    have f2 := C7.2.2 2
    have e0 := E.2.1 0 _ rfl
    have e1 := E.2.1 1 _ rfl
    have e2 := E.2.1 2 _ rfl
    go_wp2_with fail
    refine bodyPost_ret (v := .agg #[.string x, .int .i64 (s), .int .i64 (y)]) (by simp [results, Try.results178, go_sem, q0, q1, q2, f0, f1, f2]) rfl ?_
    exact ⟨(x, s, y), rfl, hx2, hcF, HF⟩
  · go_wp2_with fail
    refine (l1Code_any _ base g hc5).mono ?_
    rintro e w6 ⟨y, rfl, hy, hc6, HO6⟩
    have C6 := C5.only HO6 (by omega)
    have B6 := B5.only HO6 (by omega)
    have H6 := H5.trans HO6
    have k1 := B6.2.1 0 _ rfl
    have k2 := B6.2.2 0
    have C7 := C6.far (p := ⟨M, 0, none⟩) (by show M ≠ N; omega) (.string y)
    have H7 := H6.far (p := ⟨M, 0, none⟩) (B := M) (Nat.le_refl _) (.string y) (by omega)
    have hc7 : CurAt (w6.setCell ⟨M, 0, none⟩ (.string y)) base g := hc6.keep ((Below.refl N w6).setCell (p := ⟨M, 0, none⟩) (by show N ≤ M; omega) _) hg
    have b1 := B6.2.1 1 _ rfl
    have b2 := B6.2.1 2 _ rfl
    clear C5 B5 H5 hc5 C6 B6 H6 hc6
    have E := ((C7.put 0 (.string y) (by simp)).put 1 (.int .i64 (s)) (by simp)).put 2 (.int .i64 (r)) (by simp)
    have HF := ((H7.far (p := ⟨N, 0, none⟩) (B := N) (Nat.le_refl _) (.string y) (by omega)).far (p := ⟨N, 1, none⟩) (B := N) (Nat.le_refl _) (.int .i64 (s)) (by omega)).far (p := ⟨N, 2, none⟩) (B := N) (Nat.le_refl _) (.int .i64 (r)) (by omega)
    have hcF : CurAt ((((w6.setCell ⟨M, 0, none⟩ (.string y)).setCell ⟨N, 0, none⟩ (.string y)).setCell ⟨N, 1, none⟩ (.int .i64 (s))).setCell ⟨N, 2, none⟩ (.int .i64 (r))) base g := hc7.keep ((((Below.refl N (w6.setCell ⟨M, 0, none⟩ (.string y))).setCell (p := ⟨N, 0, none⟩) (Nat.le_refl _) _).setCell (p := ⟨N, 1, none⟩) (Nat.le_refl _) _).setCell (p := ⟨N, 2, none⟩) (Nat.le_refl _) _) hg
    have q0 := C7.2.1 0 _ rfl
    have q1 := C7.2.1 1 _ rfl
    have q2 := C7.2.1 2 _ rfl
    have f0 := C7.2.2 0
    have f1 := C7.2.2 1
    have f2 := C7.2.2 2
    have e0 := E.2.1 0 _ rfl
    have e1 := E.2.1 1 _ rfl
    have e2 := E.2.1 2 _ rfl
    go_wp2_with fail
    refine bodyPost_ret (v := .agg #[.string y, .int .i64 (s), .int .i64 (r)]) (by simp [results, Try.results178, go_sem, q0, q1, q2, f0, f1, f2]) rfl ?_
    exact ⟨(y, s, r), rfl, hy, hcF, HF⟩
  · have h5 : ¬ q = 0 := by omega
    have h6 : ¬ q = 1 := by omega
    have h7 : ¬ q = 2 := by omega
    have b0 := B5.2.1 0 _ rfl
    have b1 := B5.2.1 1 _ rfl
    have b2 := B5.2.1 2 _ rfl
    clear B5
    have E := ((C5.put 0 (.string x) (by simp)).put 1 (.int .i64 (s)) (by simp)).put 2 (.int .i64 (r)) (by simp)
    have HF := ((H5.far (p := ⟨N, 0, none⟩) (B := N) (Nat.le_refl _) (.string x) (by omega)).far (p := ⟨N, 1, none⟩) (B := N) (Nat.le_refl _) (.int .i64 (s)) (by omega)).far (p := ⟨N, 2, none⟩) (B := N) (Nat.le_refl _) (.int .i64 (r)) (by omega)
    have hcF : CurAt (((w5.setCell ⟨N, 0, none⟩ (.string x)).setCell ⟨N, 1, none⟩ (.int .i64 (s))).setCell ⟨N, 2, none⟩ (.int .i64 (r))) base g := hc5.keep ((((Below.refl N w5).setCell (p := ⟨N, 0, none⟩) (Nat.le_refl _) _).setCell (p := ⟨N, 1, none⟩) (Nat.le_refl _) _).setCell (p := ⟨N, 2, none⟩) (Nat.le_refl _) _) hg
    have q0 := C5.2.1 0 _ rfl
    have q1 := C5.2.1 1 _ rfl
    have q2 := C5.2.1 2 _ rfl
    have f0 := C5.2.2 0
    have f1 := C5.2.2 1
    have f2 := C5.2.2 2
    have e0 := E.2.1 0 _ rfl
    have e1 := E.2.1 1 _ rfl
    have e2 := E.2.1 2 _ rfl
    go_wp2_with fail
    refine bodyPost_ret (v := .agg #[.string x, .int .i64 (s), .int .i64 (r)]) (by simp [results, Try.results178, go_sem, q0, q1, q2, f0, f1, f2]) rfl ?_
    exact ⟨(x, s, r), rfl, hx2, hcF, HF⟩
end Go.Proofs.Ytlnkofnfgemfdaa
