/- Part 31 of the texts of this claim: How a law's flows are drawn; How the law on planned items draws its inputs; The bytes a law is drawn from. -/
import Derived.Test.YtpbibkjcjgggdaaIt20
import Derived.Test.YtpbibkjcjgggdaaIt3
import Derived.Test.YtpbibkjcjgggdaaIt30
/- How a law's flows are drawn. -/
namespace Go.Proofs.Ytpbibkjcjgggdaa
open Go.RowKit
/-- The ending of a call that draws flows. -/
def DrawnFlows (w : World) (base g : Nat) (e : Ending) (w' : World) : Prop := ∃ (l : List Fl) (A : Option Addr) (c : Nat), e = .returned (.slice A l.length c) ∧ l.length ≤ 6 ∧ OwnRows flF 53 w' w.heap.size A l.length c l ∧ CurAt w' base g ∧ Only g (g + 1) w w'
theorem drawnFlows_mk {w w' : World} {base g : Nat} {v : Value} {l : List Fl} (h : RowVal flF 53 w' w.heap.size v l) (hl : l.length ≤ 6) (hc : CurAt w' base g) (ho : Only g (g + 1) w w') : DrawnFlows w base g (.returned v) w' := by
  obtain ⟨A, c, rfl, hr⟩ := h.form
  exact ⟨l, A, c, rfl, hl, hr, hc, ho⟩
set_option maxRecDepth 100000 in
set_option maxHeartbeats 4000000 in
theorem l14Flows_any (w : World) (base g : Nat) (hc : CurAt w base g) : Calls Try.prog 19 #[.pointer (some ⟨g, 0, none⟩)] w (DrawnFlows w base g) := by
  have hg : g < w.heap.size := by obtain ⟨A, n, c, i, h, h1, h2, h3, _⟩ := hc; exact h3
  have hc0 := hc.keep (below_alloc w (.cells #[] 53)) hg
  have hv0 : RowVal flF 53 (w.alloc (.cells #[] 53)) w.heap.size (.slice (some ⟨w.heap.size, 0, none⟩) 0 0) [] := empty_row rfl (Nat.le_refl _)
  have hO0 : Only g (g + 1) w (w.alloc (.cells #[] 53)) := Only.of_below (below_alloc _ _)
  clear hc
  go_enter Try.func19, Try.ntmps19
  go_wp2_with fail
  refine (l1Below_any _ _ _ _ (by omega) hc0).mono ?_
  rintro e w1 ⟨day, rfl, ⟨y0, y1⟩, hc1, HO1⟩
  go_wp2_with fail
  refine (l1Below_any _ _ _ _ (by omega) hc1).mono ?_
  rintro e w2 ⟨m, rfl, ⟨m0, m1⟩, hc2, HO2⟩
  obtain ⟨m, rfl⟩ : ∃ k : Nat, m = (k : Int) := ⟨_, (Int.toNat_of_nonneg m0).symm⟩
  have hv2 := (hv0.only HO1 (by omega)).only HO2 (by omega)
  have hO2 := (hO0.trans HO1).trans HO2
  clear hc0 hv0 hO0 hc1 HO1 HO2
  go_wp2_with fail
  go_loopw [3, 4, 5] (fun v d i wr => ∃ (k : Nat) (day : Int) (out : List Fl), k ≤ 5 ∧ i = .int .i64 k ∧ d = .int .i64 day ∧ 0 ≤ day ∧ day + 8 * k ≤ 43 ∧ out.length + k ≤ 5 ∧ RowVal flF 53 wr w.heap.size v out ∧ CurAt wr base g ∧ Only g (g + 1) w wr) (fun _ _ i _ => (intOf i).toNat)
  case atStart => exact ⟨m, day, [], by omega, rfl, rfl, by omega, by omega, by simp; omega, hv2, hc2, hO2⟩
  case round =>
    clear hv2 hc2 hO2
    obtain ⟨k, day, out, hk, rfl, rfl, d0, d1, hl, hrow, hcur, HO⟩ := hrel
    by_cases hlt : 0 < (k : Int)
    · go_wp2_with fail
      refine (l1Below_any _ _ _ _ (by omega) hcur).mono ?_
      rintro e w3 ⟨q, rfl, ⟨q0, q1⟩, hc3, HO3⟩
      have hrow3 := hrow.only HO3 (by omega)
      have HO3 := HO.trans HO3
      have hsz3 := HO3.size
      go_wp2_with (at_builtin; refine wpList_append_one flowElem rfl _ _ rfl rfl (l := out) hrow3 (by omega) (day, (1 + q)) #[.int .i64 day, .int .i64 (1 + q)] rfl (by simp [Value.oneCell']) w3.heap.size _ rfl rfl hsz3 ?_; intro v' w4 hrow4 hbl hgr)
      have hB := hbl w.heap.size (Nat.le_refl _) hsz3
      have hc4 := hc3.keep hB hg
      have HO4 := only_below HO3 hB
      refine (l1Below_any _ _ _ _ (by omega) hc4).mono ?_
      rintro e w5 ⟨s, rfl, ⟨s0, s1⟩, hc5, HO5⟩
      have hrow5 := hrow4.only HO5 (by omega)
      have HO6 := HO4.trans HO5
      go_wp2_with fail
      go_roundw
      case rel => exact ⟨k - 1, day + 1 + s, out ++ [(day, 1 + q)], by omega, by go_num, rfl, by omega, by omega, by simp; omega, hrow5, hc5, HO6⟩
      case measure => simp [intOf]; omega
    · obtain rfl : k = 0 := by omega
      go_wp2_with fail
      refine (l1Once_any _ _ _ _ (by omega) hcur).mono ?_
      rintro e w3 ⟨b, rfl, hc3, HO3⟩
      have hrow3 := hrow.only HO3 (by omega)
      have HO3 := HO.trans HO3
      have hsz3 := HO3.size
      cases b
      · go_wp2_with fail
        go_ret
        exact drawnFlows_mk hrow3 (by omega) hc3 HO3
      · go_wp2_with fail
        have hg3 : g < w3.heap.size := by omega
        refine (l1PickInt_any _ 3 _ [0, 999, 1000] _ base g (lit_ints rfl _ _ _ rfl rfl (by simp)) (by omega) (fun a ha => by have := Option.some.inj ha; rw [← this]; show w3.heap.size ≠ g; omega) (hc3.keep (below_alloc _ _) hg3)).mono ?_
        rintro e w4 ⟨x, rfl, _, hc4, HO4⟩
        have hrow4 := (hrow3.alloc (.cells #[.int .i64 0, .int .i64 999, .int .i64 1000] 3)).only HO4 (by omega)
        have HO4 := (HO3.trans (Only.of_below (below_alloc _ _))).trans HO4
        go_wp2_with fail
        refine (l1Odd_any _ base g hc4).mono ?_
        rintro e w5 ⟨y, rfl, _, hc5, HO5⟩
        have hrow5 := hrow4.only HO5 (by omega)
        have HO5 := HO4.trans HO5
        have hsz5 := HO5.size
        go_wp2_with (at_builtin; refine wpList_append_one flowElem rfl _ _ rfl rfl (l := out) hrow5 (by omega) (x, y) #[.int .i64 x, .int .i64 y] rfl (by simp [Value.oneCell']) w5.heap.size _ rfl rfl hsz5 ?_; intro v' w6 hrow6 hbl hgr)
        have hB := hbl w.heap.size (Nat.le_refl _) hsz5
        go_ret
        exact drawnFlows_mk hrow6 (by simp; omega) (hc5.keep hB hg) (only_below HO5 hB)
/-- The ending of a call that draws two rows of flows. -/
def TwoFlows (w : World) (e : Ending) (w' : World) : Prop := ∃ (a b : List Fl) (A : Option Addr) (c : Nat) (B : Option Addr) (d : Nat), e = .returned (.tuple #[.slice A a.length c, .slice B b.length d]) ∧ a.length ≤ 6 ∧ b.length ≤ 6 ∧
  OwnRows flF 53 w' w.heap.size A a.length c a ∧ OwnRows flF 53 w' w.heap.size B b.length d b ∧ Below w.heap.size w w'
end Go.Proofs.Ytpbibkjcjgggdaa
/- How the law on planned items draws its inputs. -/
namespace Go.Proofs.Ytpbibkjcjgggdaa
open Go.RowKit
/-- The ending of the call that draws the law's inputs. -/
def DrawnPI (w : World) (e : Ending) (w' : World) : Prop := ∃ (r : PtR) (p : Pt) (s : ByteArray) (A : Option Addr) (c : Nat) (l : List Fl), e = .returned (.tuple #[r.v, .string s, .slice A l.length c]) ∧ okPt p ∧ s.size ≤ 9223372036854775807 ∧ PlantIn w' r p ∧ FlowsIn w' A l.length l ∧ Below w.heap.size w w'
theorem BytesAt.mono {w : World} {b b' : Nat} {A : Option Addr} {n : Nat} (h : BytesAt w b A n) (hb : b ≤ b') : BytesAt w b' A n := ⟨h.1, fun k hk => by
  obtain ⟨x, o, y, e, hlt, hr⟩ := h.2 k hk
  exact ⟨x, o, y, e, by omega, hr⟩⟩
/-- What stays on the way to the result: all blocks but the result's cell and the cursor. -/
structure RKeep (w w3 : World) (N g : Nat) (w' : World) : Prop where
  bel : Below N w w'
  blk : ∀ k, N < k → k ≠ g → k < w3.heap.size → w'.heap[k]? = w3.heap[k]?
  size : w3.heap.size ≤ w'.heap.size
  le : N ≤ w3.heap.size
theorem RKeep.call {w w3 w' w'' : World} {N g : Nat} (h : RKeep w w3 N g w') (ho : Only g (g + 1) w' w'') (hg : N ≤ g) : RKeep w w3 N g w'' :=
  ⟨below_only h.bel ho hg (Nat.le_trans h.le h.size), fun k h1 h2 h3 => (ho.block k (Nat.lt_of_lt_of_le h3 h.size) (by omega)).trans (h.blk k h1 h2 h3), Nat.le_trans h.size ho.size, h.le⟩
theorem RKeep.set {w w3 w' : World} {N g : Nat} (h : RKeep w w3 N g w') (vs : List Value) : RKeep w w3 N g (setFrom w' N 0 vs) :=
  ⟨h.bel.trans (below_setFrom (Nat.le_refl _) vs 0 w'), fun k h1 h2 h3 => (heap_setFrom_other N k (by omega) vs 0 w').trans (h.blk k h1 h2 h3), Nat.le_trans h.size (below_setFrom (Nat.le_refl _) vs 0 w').size, h.le⟩
set_option maxRecDepth 100000 in
set_option maxHeartbeats 8000000 in
theorem DrawPlanItem_any (A : Option Addr) (n c : Nat) (w : World) (hb : BytesAt w w.heap.size A n) : Calls Try.prog 5 #[.slice A n c] w (DrawnPI w) := by
  have hs := below_alloc w (.cells #[.slice none 0 0, .slice none 0 0, .slice none 0 0, .slice none 0 0, .slice none 0 0, .slice none 0 0, .slice none 0 0] 34)
  have CN : CellsAt (w.alloc (.cells #[.slice none 0 0, .slice none 0 0, .slice none 0 0, .slice none 0 0, .slice none 0 0, .slice none 0 0, .slice none 0 0] 34)) w.heap.size [.slice none 0 0, .slice none 0 0, .slice none 0 0, .slice none 0 0, .slice none 0 0, .slice none 0 0, .slice none 0 0] := CellsAt.new w #[.slice none 0 0, .slice none 0 0, .slice none 0 0, .slice none 0 0, .slice none 0 0, .slice none 0 0, .slice none 0 0] 34
  have hz0 : (w.alloc (.cells #[.slice none 0 0, .slice none 0 0, .slice none 0 0, .slice none 0 0, .slice none 0 0, .slice none 0 0, .slice none 0 0] 34)).heap.size = w.heap.size + 1 := by simp
  have hb0 : BytesAt (w.alloc (.cells #[.slice none 0 0, .slice none 0 0, .slice none 0 0, .slice none 0 0, .slice none 0 0, .slice none 0 0, .slice none 0 0] 34)) (w.alloc (.cells #[.slice none 0 0, .slice none 0 0, .slice none 0 0, .slice none 0 0, .slice none 0 0, .slice none 0 0, .slice none 0 0] 34)).heap.size A n := (hb.keep hs (Nat.le_refl _)).mono (by omega)
  have HB := hs
  go_enter Try.func5, Try.ntmps5
  go_wp2_with fail
  generalize (w.alloc (.cells #[.slice none 0 0, .slice none 0 0, .slice none 0 0, .slice none 0 0, .slice none 0 0, .slice none 0 0, .slice none 0 0] 34)) = w0 at *
  generalize hN : w.heap.size = N at *
  clear hs hb
  refine (l1New_any _ _ _ _ hb0).mono ?_
  rintro e w1 ⟨g, rfl, hgz, hc1, hb1⟩
  rw [hz0] at hgz hc1
  have CN1 := CN.keep hb1 (by omega)
  replace HB := HB.trans (hb1.mono (by omega))
  have hz1 := hb1.size
  clear hb0 CN hb1
  go_wp2_with fail
  have hg1' := hc1.lt
  refine (l17Plant_any _ _ _ hc1).mono ?_
  rintro e w2 ⟨r, p, rfl, hok, hit1, hit6, hLo, hc2, HO2, HP⟩
  obtain ⟨⟨a0, n0, c0⟩, ⟨a1, n1, c1⟩, ⟨a2, n2, c2⟩, ⟨a3, n3, c3⟩, ⟨a4, n4, c4⟩, ⟨a5, n5, c5⟩, ⟨a6, n6, c6⟩⟩ := r
  have HOK := Lib.hid hok
  replace CN1 := CN1.only HO2 (by omega)
  replace HB := HB.trans (below_only (Below.refl N w1) HO2 (by omega) (by omega))
  have hz2 := HO2.size
  have hg2 := hc2.lt
  have HP1 := Lib.hid HP
  have hp2 : PlantIn w2 (⟨⟨a0, n0, c0⟩, ⟨a1, n1, c1⟩, ⟨a2, n2, c2⟩, ⟨a3, n3, c3⟩, ⟨a4, n4, c4⟩, ⟨a5, n5, c5⟩, ⟨a6, n6, c6⟩⟩ : PtR) p := HP w2 (fun _ _ _ => rfl)
  clear hc1 HO2 hok HP
  dsimp only [PtR.v]
  have CP : CellsAt (w2.alloc (.cells #[.slice a0 n0 c0, .slice a1 n1 c1, .slice a2 n2 c2, .slice a3 n3 c3, .slice a4 n4 c4, .slice a5 n5 c5, .slice a6 n6 c6] 34)) w2.heap.size [.slice a0 n0 c0, .slice a1 n1 c1, .slice a2 n2 c2, .slice a3 n3 c3, .slice a4 n4 c4, .slice a5 n5 c5, .slice a6 n6 c6] := CellsAt.new w2 #[.slice a0 n0 c0, .slice a1 n1 c1, .slice a2 n2 c2, .slice a3 n3 c3, .slice a4 n4 c4, .slice a5 n5 c5, .slice a6 n6 c6] 34
  have hs3 := below_alloc w2 (.cells #[.slice a0 n0 c0, .slice a1 n1 c1, .slice a2 n2 c2, .slice a3 n3 c3, .slice a4 n4 c4, .slice a5 n5 c5, .slice a6 n6 c6] 34)
  have hc3 := hc2.keep hs3 hg2
  have CN3 := CN1.keep hs3 (by omega)
  have HB3 := HB.trans (hs3.mono (show N ≤ w2.heap.size by omega))
  have hK3 : ∀ k, w1.heap.size ≤ k → k < w2.heap.size → (w2.alloc (.cells #[.slice a0 n0 c0, .slice a1 n1 c1, .slice a2 n2 c2, .slice a3 n3 c3, .slice a4 n4 c4, .slice a5 n5 c5, .slice a6 n6 c6] 34)).heap[k]? = w2.heap[k]? := fun k _ hl => hs3.block k hl
  have hz3 := hs3.size
  have hp3 := hp2.keep hs3
  clear hs3 hc2 CN1 HB hp2
  go_upto_region 3 with fail
  generalize (w2.alloc (.cells #[.slice a0 n0 c0, .slice a1 n1 c1, .slice a2 n2 c2, .slice a3 n3 c3, .slice a4 n4 c4, .slice a5 n5 c5, .slice a6 n6 c6] 34)) = w3 at *
  have hPlt := CP.1
  generalize w2.heap.size = P at *
  have hn0 : n0 = p.it.length := hp3.it.1
  subst hn0
  obtain ⟨bi, oi, hae, hbi, _⟩ := item_at hp3.it (k := 0) (by omega)
  simp only at hae
  subst hae
  have hLo2 : w1.heap.size ≤ bi := hLo _ rfl
  have hg1 := hg1'
  have hbg : bi ≠ g := by omega
  clear hbi
  have y0 := CP.2.1 0 _ rfl
  have y1 := CP.2.1 1 _ rfl
  have y2 := CP.2.1 2 _ rfl
  have y3 := CP.2.1 3 _ rfl
  have y4 := CP.2.1 4 _ rfl
  have y5 := CP.2.1 5 _ rfl
  have y6 := CP.2.1 6 _ rfl
  have hRK : RKeep w w3 N g w3.drew := ⟨HB3.drew, fun _ _ _ _ => rfl, Nat.le_refl _, by omega⟩
  refine wp_region_held_drew (S := fun w' => RKeep w w3 N g w' ∧ (w'.cell? ⟨P, 0, none⟩ = some (.slice (some ⟨bi, oi, none⟩) p.it.length c0) ∧ w'.cell? ⟨P, 1, none⟩ = some (.slice a1 n1 c1) ∧ w'.cell? ⟨P, 2, none⟩ = some (.slice a2 n2 c2) ∧ w'.cell? ⟨P, 3, none⟩ = some (.slice a3 n3 c3) ∧ w'.cell? ⟨P, 4, none⟩ = some (.slice a4 n4 c4) ∧ w'.cell? ⟨P, 5, none⟩ = some (.slice a5 n5 c5) ∧ w'.cell? ⟨P, 6, none⟩ = some (.slice a6 n6 c6))) (by kernel_rfl) (⟨hRK, y0, y1, y2, y3, y4, y5, y6⟩) (fun hHeld => ?_)
  have hgP : P ≠ g := by omega
  have hNP : N < P := by omega
  have hKP : ∀ W : World, RKeep w w3 N g W → W.heap[P]? = w3.heap[P]? := fun W h => h.blk P hNP hgP hPlt
  refine held_on 0 (some 11) rfl rfl (by kernel_rfl) (by kernel_rfl) (by kernel_rfl) (fun _ _ _ h => h) (by rfl) hHeld (v := ?v1) ?y1 ?r1
  case y1 => intro w hSw; (try dsimp only at hSw); go_simp; (try with_reducible rfl)
  try simp only [Act.put, List.setIfInBounds_toArray, List.set_cons_zero, List.set_cons_succ]
  refine held_on 1 (some 12) rfl rfl (by kernel_rfl) (by kernel_rfl) (by kernel_rfl) (fun _ _ _ h => h) (by rfl) hHeld (v := ?v2) ?y2 ?r2
  case y2 => intro w hSw; (try dsimp only at hSw); go_simp; (try with_reducible rfl)
  try simp only [Act.put, List.setIfInBounds_toArray, List.set_cons_zero, List.set_cons_succ]
  refine held_on 2 (some 13) rfl rfl (by kernel_rfl) (by kernel_rfl) (by kernel_rfl) (fun _ _ _ h => h) (by rfl) hHeld (v := ?v3) ?y3 ?r3
  case y3 => intro w hSw; (try dsimp only at hSw); go_simp; (try with_reducible rfl)
  try simp only [Act.put, List.setIfInBounds_toArray, List.set_cons_zero, List.set_cons_succ]
  refine held_on 3 (some 14) rfl rfl (by kernel_rfl) (by kernel_rfl) (by kernel_rfl) (fun _ _ _ h => h) (by rfl) hHeld (v := ?v4) ?y4 ?r4
  case y4 => intro w hSw; (try dsimp only at hSw); go_simp; (try with_reducible rfl)
  try simp only [Act.put, List.setIfInBounds_toArray, List.set_cons_zero, List.set_cons_succ]
  refine held_on 4 (some 15) rfl rfl (by kernel_rfl) (by kernel_rfl) (by kernel_rfl) (fun _ _ _ h => h) (by rfl) hHeld (v := ?v5) ?y5 ?r5
  case y5 => intro w hSw; (try dsimp only at hSw); go_simp; (try with_reducible rfl)
  try simp only [Act.put, List.setIfInBounds_toArray, List.set_cons_zero, List.set_cons_succ]
  refine held_on 5 (some 16) rfl rfl (by kernel_rfl) (by kernel_rfl) (by kernel_rfl) (fun _ _ _ h => h) (by rfl) hHeld (v := ?v6) ?y6 ?r6
  case y6 => intro w hSw; (try dsimp only at hSw); go_simp; (try with_reducible rfl)
  try simp only [Act.put, List.setIfInBounds_toArray, List.set_cons_zero, List.set_cons_succ]
  refine held_on 6 (some 17) rfl rfl (by kernel_rfl) (by kernel_rfl) (by kernel_rfl) (fun _ _ _ h => h) (by rfl) hHeld (v := ?v7) ?y7 ?r7
  case y7 => intro w hSw; (try dsimp only at hSw); go_simp; (try with_reducible rfl)
  try simp only [Act.put, List.setIfInBounds_toArray, List.set_cons_zero, List.set_cons_succ]
  refine held_on 11 (some 22) rfl rfl (by kernel_rfl) (by kernel_rfl) (by kernel_rfl) (fun _ _ _ h => h) (by rfl) hHeld (v := ?v8) ?y8 ?r8
  case y8 => intro w hSw; (try dsimp only at hSw); go_simp; (try with_reducible rfl)
  try simp only [Act.put, List.setIfInBounds_toArray, List.set_cons_zero, List.set_cons_succ]
  refine wpAnyH_ready (rs := [7]) (by kernel_rfl) (by simp) ?_
  refine AllReadyH.cons rfl (fun K hK => ?_) AllReadyH.nil
  go_simp
  have hRK1 := hHeld.1
  go_at_call 18
  refine (l1Below_any _ _ _ _ (by omega) (curAt_drewN hc3 1)).mono ?_
  rintro e w4 ⟨j, rfl, ⟨j0, j1⟩, hcp4, HOp⟩
  have hRK4 := hRK1.call HOp (by omega)
  have CN4 := CellsAt.only (w := w3.drew) CN3 HOp (by omega)
  obtain ⟨j, rfl⟩ : ∃ k : Nat, j = (k : Int) := ⟨_, (Int.toNat_of_nonneg j0).symm⟩
  go_simp
  refine hK.out _ _ (⟨hRK4, (World.cell?_of_block (hKP _ hRK4)).trans y0, (World.cell?_of_block (hKP _ hRK4)).trans y1, (World.cell?_of_block (hKP _ hRK4)).trans y2, (World.cell?_of_block (hKP _ hRK4)).trans y3, (World.cell?_of_block (hKP _ hRK4)).trans y4, (World.cell?_of_block (hKP _ hRK4)).trans y5, (World.cell?_of_block (hKP _ hRK4)).trans y6⟩) (fun hHeld => ?_)
  clear hK K
  try simp only [Act.put, List.setIfInBounds_toArray, List.set_cons_zero, List.set_cons_succ]
  have hjl : j < p.it.length := by omega
  have hji : (j : Int) < (p.it.length : Int) := by omega
  have hp4 : PlantIn w4 (⟨⟨some ⟨bi, oi, none⟩, p.it.length, c0⟩, ⟨a1, n1, c1⟩, ⟨a2, n2, c2⟩, ⟨a3, n3, c3⟩, ⟨a4, n4, c4⟩, ⟨a5, n5, c5⟩, ⟨a6, n6, c6⟩⟩ : PtR) p := HP1.out w4 (fun k h1 h2 => (hRK4.blk k (by omega) (by omega) (by omega)).trans (hK3 k h1 h2))
  obtain ⟨_, _, e9, hbj, t0, _⟩ := item_at hp4.it hjl
  simp only at e9
  injection e9 with e9
  injection e9 with e1 e2
  subst e1 e2
  have hsz := (HOK.out.it _ (List.getElem_mem hjl)).1
  generalize p.it[j].1 = sc at *
  refine held_more (S' := fun w' => (RKeep w w3 N g w' ∧ (w'.cell? ⟨P, 0, none⟩ = some (.slice (some ⟨bi, oi, none⟩) p.it.length c0) ∧ w'.cell? ⟨P, 1, none⟩ = some (.slice a1 n1 c1) ∧ w'.cell? ⟨P, 2, none⟩ = some (.slice a2 n2 c2) ∧ w'.cell? ⟨P, 3, none⟩ = some (.slice a3 n3 c3) ∧ w'.cell? ⟨P, 4, none⟩ = some (.slice a4 n4 c4) ∧ w'.cell? ⟨P, 5, none⟩ = some (.slice a5 n5 c5) ∧ w'.cell? ⟨P, 6, none⟩ = some (.slice a6 n6 c6))) ∧ (w'.cell? ⟨bi, oi + j * 8, none⟩ = some (.string sc) ∧ bi < w'.heap.size)) (fun w h => h.1) (⟨hHeld, t0, hbj⟩) (fun hHeld => ?_)
  refine held_on 8 (some 19) rfl rfl (by kernel_rfl) (by kernel_rfl) (by kernel_rfl) (fun _ _ _ h => h) (by rfl) hHeld (v := ?v9) ?y9 ?r9
  case y9 => intro w hSw; (try dsimp only at hSw); go_simp; (try with_reducible rfl)
  try simp only [Act.put, List.setIfInBounds_toArray, List.set_cons_zero, List.set_cons_succ]
  refine held_on 9 (some 20) rfl rfl (by kernel_rfl) (by kernel_rfl) (by kernel_rfl) (fun _ _ _ h => h) (by rfl) hHeld (v := ?v10) ?y10 ?r10
  case y10 => intro w hSw; (try dsimp only at hSw); go_simp; (try with_reducible rfl)
  try simp only [Act.put, List.setIfInBounds_toArray, List.set_cons_zero, List.set_cons_succ]
  refine held_on 10 (some 21) rfl rfl (by kernel_rfl) (by kernel_rfl) (by kernel_rfl) (fun _ _ _ h => h) (by rfl) hHeld (v := ?v11) ?y11 ?r11
  case y11 => intro w hSw; (try dsimp only at hSw); go_simp; (try with_reducible rfl)
  try simp only [Act.put, List.setIfInBounds_toArray, List.set_cons_zero, List.set_cons_succ]
  refine wpAnyH_ready (rs := [12]) (by kernel_rfl) (by simp) ?_
  refine AllReadyH.cons rfl (fun K hK => ?_) AllReadyH.nil
  go_simp
  have hRK5 := hHeld.1.1
  go_at_call 19
  refine (l14Flows_any _ _ _ hcp4).mono ?_
  rintro e w5 ⟨l, Af, cf, rfl, hl6, hof, hcp, HOp⟩
  have hRK6 := hRK5.call HOp (by omega)
  have CN5 := CN4.only HOp (by omega)
  have hsz5 := hRK5.size
  go_simp
  refine hK.out _ _ (⟨⟨hRK6, (World.cell?_of_block (hKP _ hRK6)).trans y0, (World.cell?_of_block (hKP _ hRK6)).trans y1, (World.cell?_of_block (hKP _ hRK6)).trans y2, (World.cell?_of_block (hKP _ hRK6)).trans y3, (World.cell?_of_block (hKP _ hRK6)).trans y4, (World.cell?_of_block (hKP _ hRK6)).trans y5, (World.cell?_of_block (hKP _ hRK6)).trans y6⟩, only_cell HOp hHeld.2.2 hbg hHeld.2.1, Nat.lt_of_lt_of_le hHeld.2.2 HOp.size⟩) (fun hHeld => ?_)
  clear hK K
  try simp only [Act.put, List.setIfInBounds_toArray, List.set_cons_zero, List.set_cons_succ]
  refine wpAnyH_ready (rs := [13]) (by kernel_rfl) (by simp) ?_
  refine AllReadyH.cons rfl (fun K hK => ?_) AllReadyH.nil
  have q0 := CN5.2.1 0 _ rfl
  have f0 := CN5.2.2 0
  have q1 := CN5.2.1 1 _ rfl
  have f1 := CN5.2.2 1
  have q2 := CN5.2.1 2 _ rfl
  have f2 := CN5.2.2 2
  have q3 := CN5.2.1 3 _ rfl
  have f3 := CN5.2.2 3
  have q4 := CN5.2.1 4 _ rfl
  have f4 := CN5.2.2 4
  have q5 := CN5.2.1 5 _ rfl
  have f5 := CN5.2.2 5
  have q6 := CN5.2.1 6 _ rfl
  have f6 := CN5.2.2 6
  have hRK7 : RKeep w w3 N g (((((((w5.setCell ⟨N, 0, none⟩ (.slice (some ⟨bi, oi, none⟩) p.it.length c0)).setCell ⟨N, 1, none⟩ (.slice a1 n1 c1)).setCell ⟨N, 2, none⟩ (.slice a2 n2 c2)).setCell ⟨N, 3, none⟩ (.slice a3 n3 c3)).setCell ⟨N, 4, none⟩ (.slice a4 n4 c4)).setCell ⟨N, 5, none⟩ (.slice a5 n5 c5)).setCell ⟨N, 6, none⟩ (.slice a6 n6 c6)) := hRK6.set [.slice (some ⟨bi, oi, none⟩) p.it.length c0, .slice a1 n1 c1, .slice a2 n2 c2, .slice a3 n3 c3, .slice a4 n4 c4, .slice a5 n5 c5, .slice a6 n6 c6]
  have hoF : ∀ k, k ≠ N → (((((((w5.setCell ⟨N, 0, none⟩ (.slice (some ⟨bi, oi, none⟩) p.it.length c0)).setCell ⟨N, 1, none⟩ (.slice a1 n1 c1)).setCell ⟨N, 2, none⟩ (.slice a2 n2 c2)).setCell ⟨N, 3, none⟩ (.slice a3 n3 c3)).setCell ⟨N, 4, none⟩ (.slice a4 n4 c4)).setCell ⟨N, 5, none⟩ (.slice a5 n5 c5)).setCell ⟨N, 6, none⟩ (.slice a6 n6 c6)).heap[k]? = w5.heap[k]? := fun k hk => heap_setFrom_other N k (Ne.symm hk) [.slice (some ⟨bi, oi, none⟩) p.it.length c0, .slice a1 n1 c1, .slice a2 n2 c2, .slice a3 n3 c3, .slice a4 n4 c4, .slice a5 n5 c5, .slice a6 n6 c6] 0 w5
  have hzF : w5.heap.size ≤ (((((((w5.setCell ⟨N, 0, none⟩ (.slice (some ⟨bi, oi, none⟩) p.it.length c0)).setCell ⟨N, 1, none⟩ (.slice a1 n1 c1)).setCell ⟨N, 2, none⟩ (.slice a2 n2 c2)).setCell ⟨N, 3, none⟩ (.slice a3 n3 c3)).setCell ⟨N, 4, none⟩ (.slice a4 n4 c4)).setCell ⟨N, 5, none⟩ (.slice a5 n5 c5)).setCell ⟨N, 6, none⟩ (.slice a6 n6 c6)).heap.size := (below_setFrom (B := N) (b := N) (Nat.le_refl _) [.slice (some ⟨bi, oi, none⟩) p.it.length c0, .slice a1 n1 c1, .slice a2 n2 c2, .slice a3 n3 c3, .slice a4 n4 c4, .slice a5 n5 c5, .slice a6 n6 c6] 0 w5).size
  have E := (((((((CN5.put 0 (.slice (some ⟨bi, oi, none⟩) p.it.length c0) (by simp)).put 1 (.slice a1 n1 c1) (by simp)).put 2 (.slice a2 n2 c2) (by simp)).put 3 (.slice a3 n3 c3) (by simp)).put 4 (.slice a4 n4 c4) (by simp)).put 5 (.slice a5 n5 c5) (by simp)).put 6 (.slice a6 n6 c6) (by simp))
  have e0 : (((((((w5.setCell ⟨N, 0, none⟩ (.slice (some ⟨bi, oi, none⟩) p.it.length c0)).setCell ⟨N, 1, none⟩ (.slice a1 n1 c1)).setCell ⟨N, 2, none⟩ (.slice a2 n2 c2)).setCell ⟨N, 3, none⟩ (.slice a3 n3 c3)).setCell ⟨N, 4, none⟩ (.slice a4 n4 c4)).setCell ⟨N, 5, none⟩ (.slice a5 n5 c5)).setCell ⟨N, 6, none⟩ (.slice a6 n6 c6)).cell? ⟨N, 0, none⟩ = some (.slice (some ⟨bi, oi, none⟩) p.it.length c0) := E.2.1 0 _ rfl
  have e1 : (((((((w5.setCell ⟨N, 0, none⟩ (.slice (some ⟨bi, oi, none⟩) p.it.length c0)).setCell ⟨N, 1, none⟩ (.slice a1 n1 c1)).setCell ⟨N, 2, none⟩ (.slice a2 n2 c2)).setCell ⟨N, 3, none⟩ (.slice a3 n3 c3)).setCell ⟨N, 4, none⟩ (.slice a4 n4 c4)).setCell ⟨N, 5, none⟩ (.slice a5 n5 c5)).setCell ⟨N, 6, none⟩ (.slice a6 n6 c6)).cell? ⟨N, 1, none⟩ = some (.slice a1 n1 c1) := E.2.1 1 _ rfl
  have e2 : (((((((w5.setCell ⟨N, 0, none⟩ (.slice (some ⟨bi, oi, none⟩) p.it.length c0)).setCell ⟨N, 1, none⟩ (.slice a1 n1 c1)).setCell ⟨N, 2, none⟩ (.slice a2 n2 c2)).setCell ⟨N, 3, none⟩ (.slice a3 n3 c3)).setCell ⟨N, 4, none⟩ (.slice a4 n4 c4)).setCell ⟨N, 5, none⟩ (.slice a5 n5 c5)).setCell ⟨N, 6, none⟩ (.slice a6 n6 c6)).cell? ⟨N, 2, none⟩ = some (.slice a2 n2 c2) := E.2.1 2 _ rfl
  have e3 : (((((((w5.setCell ⟨N, 0, none⟩ (.slice (some ⟨bi, oi, none⟩) p.it.length c0)).setCell ⟨N, 1, none⟩ (.slice a1 n1 c1)).setCell ⟨N, 2, none⟩ (.slice a2 n2 c2)).setCell ⟨N, 3, none⟩ (.slice a3 n3 c3)).setCell ⟨N, 4, none⟩ (.slice a4 n4 c4)).setCell ⟨N, 5, none⟩ (.slice a5 n5 c5)).setCell ⟨N, 6, none⟩ (.slice a6 n6 c6)).cell? ⟨N, 3, none⟩ = some (.slice a3 n3 c3) := E.2.1 3 _ rfl
  have e4 : (((((((w5.setCell ⟨N, 0, none⟩ (.slice (some ⟨bi, oi, none⟩) p.it.length c0)).setCell ⟨N, 1, none⟩ (.slice a1 n1 c1)).setCell ⟨N, 2, none⟩ (.slice a2 n2 c2)).setCell ⟨N, 3, none⟩ (.slice a3 n3 c3)).setCell ⟨N, 4, none⟩ (.slice a4 n4 c4)).setCell ⟨N, 5, none⟩ (.slice a5 n5 c5)).setCell ⟨N, 6, none⟩ (.slice a6 n6 c6)).cell? ⟨N, 4, none⟩ = some (.slice a4 n4 c4) := E.2.1 4 _ rfl
  have e5 : (((((((w5.setCell ⟨N, 0, none⟩ (.slice (some ⟨bi, oi, none⟩) p.it.length c0)).setCell ⟨N, 1, none⟩ (.slice a1 n1 c1)).setCell ⟨N, 2, none⟩ (.slice a2 n2 c2)).setCell ⟨N, 3, none⟩ (.slice a3 n3 c3)).setCell ⟨N, 4, none⟩ (.slice a4 n4 c4)).setCell ⟨N, 5, none⟩ (.slice a5 n5 c5)).setCell ⟨N, 6, none⟩ (.slice a6 n6 c6)).cell? ⟨N, 5, none⟩ = some (.slice a5 n5 c5) := E.2.1 5 _ rfl
  have e6 : (((((((w5.setCell ⟨N, 0, none⟩ (.slice (some ⟨bi, oi, none⟩) p.it.length c0)).setCell ⟨N, 1, none⟩ (.slice a1 n1 c1)).setCell ⟨N, 2, none⟩ (.slice a2 n2 c2)).setCell ⟨N, 3, none⟩ (.slice a3 n3 c3)).setCell ⟨N, 4, none⟩ (.slice a4 n4 c4)).setCell ⟨N, 5, none⟩ (.slice a5 n5 c5)).setCell ⟨N, 6, none⟩ (.slice a6 n6 c6)).cell? ⟨N, 6, none⟩ = some (.slice a6 n6 c6) := E.2.1 6 _ rfl
  clear E
  go_simp
  generalize (((((((w5.setCell ⟨N, 0, none⟩ (.slice (some ⟨bi, oi, none⟩) p.it.length c0)).setCell ⟨N, 1, none⟩ (.slice a1 n1 c1)).setCell ⟨N, 2, none⟩ (.slice a2 n2 c2)).setCell ⟨N, 3, none⟩ (.slice a3 n3 c3)).setCell ⟨N, 4, none⟩ (.slice a4 n4 c4)).setCell ⟨N, 5, none⟩ (.slice a5 n5 c5)).setCell ⟨N, 6, none⟩ (.slice a6 n6 c6)) = wF at *
  refine hK.out _ _ (⟨⟨hRK7, (World.cell?_of_block (hKP _ hRK7)).trans y0, (World.cell?_of_block (hKP _ hRK7)).trans y1, (World.cell?_of_block (hKP _ hRK7)).trans y2, (World.cell?_of_block (hKP _ hRK7)).trans y3, (World.cell?_of_block (hKP _ hRK7)).trans y4, (World.cell?_of_block (hKP _ hRK7)).trans y5, (World.cell?_of_block (hKP _ hRK7)).trans y6⟩, (World.cell?_of_block (hoF bi (by omega))).trans hHeld.2.1, Nat.lt_of_lt_of_le hHeld.2.2 hzF⟩) (fun hHeld => ?_)
  clear hK K
  try simp only [Act.put, List.setIfInBounds_toArray, List.set_cons_zero, List.set_cons_succ]
  refine held_on 14 (some 3) rfl rfl (by kernel_rfl) (by kernel_rfl) (by kernel_rfl) (fun _ _ _ h => h) (by rfl) hHeld (v := ?v12) ?y12 ?r12
  case y12 => intro w hSw; (try dsimp only at hSw); go_simp; (try with_reducible rfl)
  try simp only [Act.put, List.setIfInBounds_toArray, List.set_cons_zero, List.set_cons_succ]
  refine held_on 15 (some 4) rfl rfl (by kernel_rfl) (by kernel_rfl) (by kernel_rfl) (fun _ _ _ h => h) (by rfl) hHeld (v := ?v13) ?y13 ?r13
  case y13 => intro w hSw; (try dsimp only at hSw); go_simp; (try with_reducible rfl)
  try simp only [Act.put, List.setIfInBounds_toArray, List.set_cons_zero, List.set_cons_succ]
  refine wpAnyH_done (by kernel_rfl) ?_ _
  have hpF : PlantIn wF (⟨⟨some ⟨bi, oi, none⟩, p.it.length, c0⟩, ⟨a1, n1, c1⟩, ⟨a2, n2, c2⟩, ⟨a3, n3, c3⟩, ⟨a4, n4, c4⟩, ⟨a5, n5, c5⟩, ⟨a6, n6, c6⟩⟩ : PtR) p := HP1.out _ (fun k h1 h2 => (hRK7.blk k (by omega) (by omega) (by omega)).trans (hK3 k h1 h2))
  have hfF : FlowsIn wF Af l.length l := (hof.blk (w' := wF) (fun k hlo _ _ => hoF k (by omega))).rows (by omega)
  have hbF := hRK7.bel
  go_wp2_with fail
  refine bodyPost_ret (v := .tuple #[.agg #[.slice (some ⟨bi, oi, none⟩) p.it.length c0, .slice a1 n1 c1, .slice a2 n2 c2, .slice a3 n3 c3, .slice a4 n4 c4, .slice a5 n5 c5, .slice a6 n6 c6], .string sc, .slice Af l.length cf]) (by simp [results, Try.results5, go_sem, e0, e1, e2, e3, e4, e5, e6]) rfl ?_
  exact ⟨_, p, sc, Af, cf, l, rfl, HOK.out, hsz, hpF, hfF, by rw [hN]; exact hbF⟩
end Go.Proofs.Ytpbibkjcjgggdaa
/- The bytes a law is drawn from. -/
namespace Go.Proofs.Ytpbibkjcjgggdaa
open Go.RowKit
def byteF : Flat Int := ⟨fun x => [.int .u8 x], 1, fun _ => rfl⟩
def okByte (x : Int) : Prop := 0 ≤ x ∧ x ≤ 255
theorem bytesAt_of {w : World} {A : Option Addr} {n : Nat} {l : List Int} (h : RowsIn byteF w A n l) (hok : ∀ x ∈ l, okByte x) : BytesAt w w.heap.size A n := by
  have hn := h.1
  refine ⟨by have := h.len; omega, fun k hk => ?_⟩
  obtain ⟨b, o, e, hlt, hc⟩ := h.at_ (k := k) (by omega)
  have hx := hok _ (List.getElem_mem (show k < l.length by omega))
  refine ⟨b, o, l[k]'(by omega), e, hlt, hx.1, hx.2, ?_⟩
  have := hc 0 (.int .u8 (l[k]'(by omega))) rfl
  rw [show o + k * byteF.sz + 0 = o + k by simp [byteF]] at this
  exact this
theorem big_yes (A : Option Addr) (n c : Nat) (w : World) (h : 1048576 < n) (hn : n ≤ 9223372036854775807) : Calls Try.prog 4 #[.slice A n c] w fun e w' => e = .returned (.bool true) ∧ w = w' := by
  go_enter Try.func4, Try.ntmps4
  go_wp2
  go_ret
  exact ⟨ret_bool (decide_eq_true (by omega)), rfl⟩
theorem big_no (A : Option Addr) (n c : Nat) (w : World) (h : ¬ 1048576 < n) : Calls Try.prog 4 #[.slice A n c] w fun e w' => e = .returned (.bool false) ∧ w = w' := by
  have h2 : (n : Int) ≤ 1048576 := by omega
  go_enter Try.func4, Try.ntmps4
  go_wp2
  go_ret
  exact ⟨ret_bool (decide_eq_false (by omega)), rfl⟩
end Go.Proofs.Ytpbibkjcjgggdaa
