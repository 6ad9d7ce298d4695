/- Part 20 of the texts of this claim: How routings and planned orders are drawn: lists of them. -/
import Derived.Test.YtlnkofnfgemfdaaLd19
/- How routings and planned orders are drawn: lists of them. -/
namespace Go.Proofs.Ytlnkofnfgemfdaa
open Go.RowKit
theorem spOne : ∀ (a : Sp), ∀ u ∈ spF.enc a, u.oneCell' = true := by
  intro a u hu
  simp [spF] at hu
  rcases hu with rfl | rfl | rfl <;> rfl
theorem rtOne : ∀ (a : RtR), ∀ u ∈ rtF.enc a, u.oneCell' = true := by
  intro a u hu
  simp [rtF] at hu
  rcases hu with rfl | rfl <;> rfl
theorem routInfo : (Try.prog.info? 89).map (fun i => (i.zero, i.size, i.bytes)) = some (some (.agg #[.string ByteArray.empty, .slice none 0 0]), 2, 40) := by kernel_rfl
theorem routElem : ElemOk rtF 73 89 := by
  obtain ⟨i, h1, h2, h3, h4⟩ := info_parts routInfo
  exact ⟨i, _, 40, Try.underlying73, h1, h2, h3, h4, rfl, by decide, by omega⟩
/-- The ending of a call that draws a routing. -/
def DrawnRouting (item : ByteArray) (w : World) (base g : Nat) (e : Ending) (w' : World) : Prop := ∃ (l : List Sp) (A : Option Addr) (c : Nat), e = .returned (.agg #[.string item, .slice A l.length c]) ∧ l.length ≤ 7 ∧ (∀ y ∈ l, okSp y) ∧ OwnRows spF 136 w' w.heap.size A l.length c l ∧ CurAt w' base g ∧ Only g (g + 1) w w'
set_option maxRecDepth 100000 in
set_option maxHeartbeats 4000000 in
theorem l12Routing_any (item : ByteArray) (w : World) (base g : Nat) (hc : CurAt w base g) : Calls Try.prog 148 #[.pointer (some ⟨g, 0, none⟩), .string item] w (DrawnRouting item w base g) := by
  have hg := hc.lt
  have hs := below_alloc w (.cells #[.string ⟨#[]⟩, .slice none 0 0] 89)
  have C0 : CellsAt (w.alloc (.cells #[.string ⟨#[]⟩, .slice none 0 0] 89)) w.heap.size [.string ⟨#[]⟩, .slice none 0 0] := CellsAt.new w #[.string ⟨#[]⟩, .slice none 0 0] 89
  have hz : (w.alloc (.cells #[.string ⟨#[]⟩, .slice none 0 0] 89)).heap.size = w.heap.size + 1 := by simp
  have hc0 := hc.keep hs hg
  have HO0 : Only g (g + 1) w (w.alloc (.cells #[.string ⟨#[]⟩, .slice none 0 0] 89)) := Only.of_below hs
  go_enter Try.func148, Try.ntmps148
  go_wp2_with fail
  generalize (w.alloc (.cells #[.string ⟨#[]⟩, .slice none 0 0] 89)) = w0 at *
  generalize hN : w.heap.size = N at *
  have hs1 := below_alloc w0 (.cells #[.string item, .slice none 0 0] 89)
  have B1 : CellsAt (w0.alloc (.cells #[.string item, .slice none 0 0] 89)) w0.heap.size [.string item, .slice none 0 0] := CellsAt.new w0 #[.string item, .slice none 0 0] 89
  have C1 := C0.alloc (.cells #[.string item, .slice none 0 0] 89)
  have hc1 := hc0.keep hs1 hc0.lt
  have HO1 := HO0.trans (Only.of_below (lo := g) (hi := g + 1) hs1)
  rw [hz] at B1
  have hz1 : (w0.alloc (.cells #[.string item, .slice none 0 0] 89)).heap.size = N + 2 := by simp [hz]
  clear C0 hc0 HO0 hs hs1 hz
  generalize (w0.alloc (.cells #[.string item, .slice none 0 0] 89)) = w1 at *
  refine (l1Below_any _ _ _ _ (by omega) hc1).mono ?_
  rintro e w2 ⟨m, rfl, ⟨m0, m1⟩, hc2, HO2⟩
  have B2 := B1.only HO2 (by omega)
  have C2 := C1.only HO2 (by omega)
  have H2 := HO1.trans HO2
  clear B1 C1 HO1 HO2 hc1 hz1
  go_wp2_with fail
  refine (l1Once_any _ _ _ _ (by omega) hc2).mono ?_
  rintro e w3 ⟨b, rfl, hc3, HO3⟩
  have B3 := B2.only HO3 (by omega)
  have C3 := C2.only HO3 (by omega)
  have H3 := H2.trans HO3
  clear B2 C2 H2 HO3 hc2
  have hg3 := hc3.lt
  cases b
  case' true =>
    go_wp2_with fail
    refine (l1PickInt_any _ 3 _ [0, 6, 7] _ base g (lit_ints rfl _ _ _ rfl rfl (by simp)) (by omega) (fun a ha => by have := Option.some.inj ha; rw [← this]; show w3.heap.size ≠ g; omega) (hc3.keep (below_alloc _ _) hg3)).mono ?_
    rintro e w4 ⟨y, rfl, hy, hc4, HO4⟩
    have hy7 : y ≤ 7 := by
      simp only [List.mem_cons, List.not_mem_nil, or_false] at hy
      omega
    have B4 := (B3.alloc (.cells #[.int .i64 0, .int .i64 6, .int .i64 7] 3)).only HO4 (by omega)
    have C4 := (C3.alloc (.cells #[.int .i64 0, .int .i64 6, .int .i64 7] 3)).only HO4 (by omega)
    have H4 := (H3.trans (Only.of_below (below_alloc w3 (.cells #[.int .i64 0, .int .i64 6, .int .i64 7] 3)))).trans HO4
    clear B3 C3 H3 hc3 hy HO4
    go_wp2_with fail
  case' false =>
    go_wp2_with fail
    have B4 := B3
    have C4 := C3
    have H4 := H3
    have hc4 := hc3
    obtain ⟨y, hy⟩ : ∃ y, 1 + m = y := ⟨_, rfl⟩
    rw [hy]
    have hy7 : y ≤ 7 := by omega
    clear B3 C3 H3 hc3 hy
    generalize w3 = w4 at *
  all_goals
    have hz4 : N + 1 < w4.heap.size := B4.1
    go_loopw [7] (fun t wr => ∃ (l : List Sp) (v : Value), t = .int .i64 l.length ∧ l.length ≤ 7 ∧ Hid (∀ z ∈ l, okSp z) ∧ CellsAt wr (N + 1) [.string item, v] ∧ CellsAt wr N [.string ⟨#[]⟩, .slice none 0 0] ∧ RowVal spF 136 wr (N + 2) v l ∧ CurAt wr base g ∧ Only g (g + 1) w wr) (fun t _ => (y - intOf t).toNat)
    case atStart => exact ⟨[], _, rfl, by simp, Lib.hid (by simp), B4, C4, RowVal.nil _ _, hc4, H4⟩
    case round =>
      clear B4 C4 H4 hc4 hz4
      obtain ⟨l, v, rfl, hl7, HOK, B, C, hrow, hcur, HO⟩ := hrel
      have hgr := hcur.lt
      have hM := B.1
      have hy8 : y ≤ 7 := hy7
      by_cases hlt : (l.length : Int) < y
      case pos =>
        have x1 : wr.drew.cell? ⟨N + 1, 1, none⟩ = some v := B.2.1 1 _ rfl
        have hstep := l12Step_any wr.drew base g (hcur.keep (Below.refl _ _).drew hgr)
        go_wp2_with fail
        go_region_law (first
          | (go_simp; go_at_call 178; refine hstep.mono ?_; rintro e wp ⟨x, rfl, hx, hcp, HOp⟩; have HP : Only g (g + 1) wr wp := (Only.of_below ((Below.refl _ _).drew)).trans HOp; have hsp := HP.size; have BP := B.only HP (by omega); have CP := C.only HP (by omega); have xp1 : wp.cell? ⟨N + 1, 1, none⟩ = some v := BP.2.1 1 _ rfl; have hrp := hrow.only HP (by omega); have xr1 : (wp.alloc (.cells #[.string x.1, .int .i64 x.2.1, .int .i64 x.2.2] 136)).cell? ⟨N + 1, 1, none⟩ = some v := (BP.alloc _).2.1 1 _ rfl)
          | (refine step_append_rows stepElem spOne rfl (.tmp 24) (.tmp 27) rfl (wp.alloc (.cells #[.string x.1, .int .i64 x.2.1, .int .i64 x.2.2] 136)) (lo := N + 2) (v := v) (l := l) rfl (hrp.alloc _) (by omega) rfl (lit_row (F := spF) rfl #[.string x.1, .int .i64 x.2.1, .int .i64 x.2.2] x rfl) (by simp; omega) ?_; intro v9 w9 hr9 hg9; obtain ⟨b9, c9, rfl⟩ := hr9.some_of (n := l.length) (by simp); have hB9 : Below (N + 2) wp w9 := ((Below.refl (N + 2) wp).alloc (by omega) _).trans (RowVal.below (hrp.alloc _) hg9 (Nat.le_refl _) (by simp; omega)); have B9 := BP.keep hB9 (by omega); have C9 := CP.keep hB9 (by omega); have x9 := B9.2.1 1 _ rfl; have f9 := B9.2.2 1))
        all_goals
          have hok9 : Hid (∀ z ∈ l ++ [x], okSp z) := fun z hz => by
            rcases List.mem_append.1 hz with hz | hz
            · exact HOK.out z hz
            · rw [List.mem_singleton.1 hz]; exact hx
          have hc9 := hcp.keep hB9 (by omega)
          have H9 := only_below (HO.trans HP) (hB9.mono (by omega : w.heap.size ≤ N + 2))
          have BF := B9.put 1 (.slice (some ⟨b9, 0, none⟩) (l.length + 1) c9) (by simp)
          have CF := C9.far (p := ⟨N + 1, 1, none⟩) (by show N + 1 ≠ N; omega) (.slice (some ⟨b9, 0, none⟩) (l.length + 1) c9)
          have HF := H9.far (p := ⟨N + 1, 1, none⟩) (B := N + 1) (Nat.le_refl _) (.slice (some ⟨b9, 0, none⟩) (l.length + 1) c9) (by omega)
          have hcF : CurAt (w9.setCell ⟨N + 1, 1, none⟩ (.slice (some ⟨b9, 0, none⟩) (l.length + 1) c9)) base g := hc9.keep ((Below.refl N w9).setCell (p := ⟨N + 1, 1, none⟩) (by show N ≤ N + 1; omega) _) hg
          have hrF := hr9.far (p := ⟨N + 1, 1, none⟩) (by show N + 1 < N + 2; omega) (.slice (some ⟨b9, 0, none⟩) (l.length + 1) c9)
          go_wp2_with fail
          go_roundw
          case rel => exact ⟨l ++ [x], .slice (some ⟨b9, 0, none⟩) (l.length + 1) c9, by simp [go_sem], by simp; omega, hok9, BF, CF, hrF, hcF, HF⟩
          case measure => simp [intOf]; omega
      obtain ⟨A, cc, rfl, ho⟩ := hrow.form
      have b0 := B.2.1 0 _ rfl
      have b1 := B.2.1 1 _ rfl
      have q0 := C.2.1 0 _ rfl
      have q1 := C.2.1 1 _ rfl
      have f0 := C.2.2 0
      have f1 := C.2.2 1
      have HF := (HO.far (p := ⟨N, 0, none⟩) (B := N) (Nat.le_refl _) (.string item) (by omega)).far (p := ⟨N, 1, none⟩) (B := N) (Nat.le_refl _) (.slice A l.length cc) (by omega)
      have hcF : CurAt ((wr.setCell ⟨N, 0, none⟩ (.string item)).setCell ⟨N, 1, none⟩ (.slice A l.length cc)) base g := hcur.keep (((Below.refl N wr).setCell (p := ⟨N, 0, none⟩) (Nat.le_refl _) _).setCell (p := ⟨N, 1, none⟩) (Nat.le_refl _) _) hg
      have hoF := (ho.far (p := ⟨N, 0, none⟩) (by show N < N + 2; omega) (.string item)).far (p := ⟨N, 1, none⟩) (by show N < N + 2; omega) (.slice A l.length cc)
      go_wp2_with fail
      refine bodyPost_ret (v := .agg #[.string item, .slice A l.length cc]) (by simp [results, Try.results148, go_sem, q0, q1, f0, f1]) rfl ?_
      exact ⟨l, A, cc, rfl, hl7, HOK.out, hoF.lower (by omega), hcF, HF⟩
end Go.Proofs.Ytlnkofnfgemfdaa
