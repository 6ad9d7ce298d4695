/- Part 34 of the texts of this claim: How a case of a plant with its demands is drawn, and how orders are; How the laws on what is taken and on balances draw their inputs. -/
import Derived.Test.YtlkolehdikfddaaTr27
import Derived.Test.YtlkolehdikfddaaTr33
import Derived.Test.YtlkolehdikfddaaTr29
/- How a case of a plant with its demands is drawn, and how orders are. -/
namespace Go.Proofs.Ytlkolehdikfddaa
open Go.RowKit
/-- The ending of the call that draws a case. -/
def DrawnCase (w : World) (e : Ending) (w' : World) : Prop := ∃ (r : PtR) (p : Pt) (ds : List Dm) (A : Option Addr) (c : Nat), e = .returned (.tuple #[r.v, .slice A ds.length c]) ∧ okPt p ∧ 1 ≤ p.it.length ∧ ds.length ≤ 5 ∧ (∀ x ∈ ds, okDm x) ∧ OwnRows dmF 50 w' (w.heap.size + 1) A ds.length c ds ∧ Below w.heap.size w w' ∧ ∀ w'', (∀ k, w.heap.size + 1 ≤ k → k < w'.heap.size → w''.heap[k]? = w'.heap[k]?) → PlantIn w'' r p
set_option maxRecDepth 100000 in
set_option maxHeartbeats 8000000 in
theorem l18Case_any (A : Option Addr) (n c : Nat) (w : World) (hb : BytesAt w w.heap.size A n) : Calls Try.prog 11 #[.slice A n c] w (DrawnCase w) := by
  have hs := below_alloc w (.cells #[.slice none 0 0, .slice none 0 0, .slice none 0 0, .slice none 0 0, .slice none 0 0, .slice none 0 0, .slice none 0 0] 34)
  have CN : CellsAt (w.alloc (.cells #[.slice none 0 0, .slice none 0 0, .slice none 0 0, .slice none 0 0, .slice none 0 0, .slice none 0 0, .slice none 0 0] 34)) w.heap.size [.slice none 0 0, .slice none 0 0, .slice none 0 0, .slice none 0 0, .slice none 0 0, .slice none 0 0, .slice none 0 0] := CellsAt.new w #[.slice none 0 0, .slice none 0 0, .slice none 0 0, .slice none 0 0, .slice none 0 0, .slice none 0 0, .slice none 0 0] 34
  have hz0 : (w.alloc (.cells #[.slice none 0 0, .slice none 0 0, .slice none 0 0, .slice none 0 0, .slice none 0 0, .slice none 0 0, .slice none 0 0] 34)).heap.size = w.heap.size + 1 := by simp
  have hb0 : BytesAt (w.alloc (.cells #[.slice none 0 0, .slice none 0 0, .slice none 0 0, .slice none 0 0, .slice none 0 0, .slice none 0 0, .slice none 0 0] 34)) (w.alloc (.cells #[.slice none 0 0, .slice none 0 0, .slice none 0 0, .slice none 0 0, .slice none 0 0, .slice none 0 0, .slice none 0 0] 34)).heap.size A n := (hb.keep hs (Nat.le_refl _)).mono (by omega)
  have HB := hs
  go_enter Try.func11, Try.ntmps11
  go_wp2_with fail
  generalize (w.alloc (.cells #[.slice none 0 0, .slice none 0 0, .slice none 0 0, .slice none 0 0, .slice none 0 0, .slice none 0 0, .slice none 0 0] 34)) = w0 at *
  generalize hN : w.heap.size = N at *
  clear hs hb
  refine (l1New_any _ _ _ _ hb0).mono ?_
  rintro e w1 ⟨g, rfl, hgz, hc1, hb1⟩
  rw [hz0] at hgz hc1
  have CN1 := CN.keep hb1 (by omega)
  replace HB := HB.trans (hb1.mono (by omega))
  have hz1 := hb1.size
  clear hb0 CN hb1
  go_wp2_with fail
  have hg1' := hc1.lt
  refine (l17Plant_any _ _ _ hc1).mono ?_
  rintro e w2 ⟨r, p, rfl, hok, hit1, hit6, hLo, hc2, HO2, HP⟩
  obtain ⟨⟨a0, n0, c0⟩, ⟨a1, n1, c1⟩, ⟨a2, n2, c2⟩, ⟨a3, n3, c3⟩, ⟨a4, n4, c4⟩, ⟨a5, n5, c5⟩, ⟨a6, n6, c6⟩⟩ := r
  have HOK := Lib.hid hok
  replace CN1 := CN1.only HO2 (by omega)
  replace HB := HB.trans (below_only (Below.refl N w1) HO2 (by omega) (by omega))
  have hz2 := HO2.size
  have hg2 := hc2.lt
  have HP1 := Lib.hid HP
  clear hc1 HO2 hok HP hLo
  dsimp only [PtR.v]
  have CP : CellsAt (w2.alloc (.cells #[.slice a0 n0 c0, .slice a1 n1 c1, .slice a2 n2 c2, .slice a3 n3 c3, .slice a4 n4 c4, .slice a5 n5 c5, .slice a6 n6 c6] 34)) w2.heap.size [.slice a0 n0 c0, .slice a1 n1 c1, .slice a2 n2 c2, .slice a3 n3 c3, .slice a4 n4 c4, .slice a5 n5 c5, .slice a6 n6 c6] := CellsAt.new w2 #[.slice a0 n0 c0, .slice a1 n1 c1, .slice a2 n2 c2, .slice a3 n3 c3, .slice a4 n4 c4, .slice a5 n5 c5, .slice a6 n6 c6] 34
  have hs3 := below_alloc w2 (.cells #[.slice a0 n0 c0, .slice a1 n1 c1, .slice a2 n2 c2, .slice a3 n3 c3, .slice a4 n4 c4, .slice a5 n5 c5, .slice a6 n6 c6] 34)
  have hc3 := hc2.keep hs3 hg2
  have CN3 := CN1.keep hs3 (by omega)
  have HB3 := HB.trans (hs3.mono (show N ≤ w2.heap.size by omega))
  have hK3 : ∀ k, w1.heap.size ≤ k → k < w2.heap.size → (w2.alloc (.cells #[.slice a0 n0 c0, .slice a1 n1 c1, .slice a2 n2 c2, .slice a3 n3 c3, .slice a4 n4 c4, .slice a5 n5 c5, .slice a6 n6 c6] 34)).heap[k]? = w2.heap[k]? := fun k _ hl => hs3.block k hl
  have hz3 := hs3.size
  clear hs3 hc2 CN1 HB
  go_upto_region 3 with fail
  generalize (w2.alloc (.cells #[.slice a0 n0 c0, .slice a1 n1 c1, .slice a2 n2 c2, .slice a3 n3 c3, .slice a4 n4 c4, .slice a5 n5 c5, .slice a6 n6 c6] 34)) = w3 at *
  have hPlt := CP.1
  generalize w2.heap.size = P at *
  have hg1 := hg1'
  have y0 := CP.2.1 0 _ rfl
  have y1 := CP.2.1 1 _ rfl
  have y2 := CP.2.1 2 _ rfl
  have y3 := CP.2.1 3 _ rfl
  have y4 := CP.2.1 4 _ rfl
  have y5 := CP.2.1 5 _ rfl
  have y6 := CP.2.1 6 _ rfl
  have hRK : RKeep w w3 N g w3.drew := ⟨HB3.drew, fun _ _ _ _ => rfl, Nat.le_refl _, by omega⟩
  refine wp_region_held_drew (S := fun w' => RKeep w w3 N g w' ∧ (w'.cell? ⟨P, 0, none⟩ = some (.slice a0 n0 c0) ∧ w'.cell? ⟨P, 1, none⟩ = some (.slice a1 n1 c1) ∧ w'.cell? ⟨P, 2, none⟩ = some (.slice a2 n2 c2) ∧ w'.cell? ⟨P, 3, none⟩ = some (.slice a3 n3 c3) ∧ w'.cell? ⟨P, 4, none⟩ = some (.slice a4 n4 c4) ∧ w'.cell? ⟨P, 5, none⟩ = some (.slice a5 n5 c5) ∧ w'.cell? ⟨P, 6, none⟩ = some (.slice a6 n6 c6))) (by kernel_rfl) (⟨hRK, y0, y1, y2, y3, y4, y5, y6⟩) (fun hHeld => ?_)
  have hgP : P ≠ g := by omega
  have hNP : N < P := by omega
  have hKP : ∀ W : World, RKeep w w3 N g W → W.heap[P]? = w3.heap[P]? := fun W h => h.blk P hNP hgP hPlt
  refine held1 0 (some 10) hHeld ?_
  refine held1 1 (some 11) hHeld ?_
  refine held_do 2 fun K hK => ?_
  go_simp
  have hRK1 := hHeld.1
  go_at_call 32
  refine (l13Demands_any 1 _ _ _ (by omega) (curAt_drewN hc3 1)).mono ?_
  rintro e w4 ⟨ds, A4, c4', rfl, hl5, hokd, hod, hcp4, HOp⟩
  have hRK4 := hRK1.call HOp (by omega)
  have CN4 := CellsAt.only (w := w3.drew) CN3 HOp (by omega)
  go_simp
  refine hK.out _ _ (⟨hRK4, (World.cell?_of_block (hKP _ hRK4)).trans y0, (World.cell?_of_block (hKP _ hRK4)).trans y1, (World.cell?_of_block (hKP _ hRK4)).trans y2, (World.cell?_of_block (hKP _ hRK4)).trans y3, (World.cell?_of_block (hKP _ hRK4)).trans y4, (World.cell?_of_block (hKP _ hRK4)).trans y5, (World.cell?_of_block (hKP _ hRK4)).trans y6⟩) (fun hHeld => ?_)
  clear hK K
  try simp only [Act.put, List.setIfInBounds_toArray, List.set_cons_zero, List.set_cons_succ]
  refine held_do 3 fun K hK => ?_
  have q0 := CN4.2.1 0 _ rfl
  have f0 := CN4.2.2 0
  have q1 := CN4.2.1 1 _ rfl
  have f1 := CN4.2.2 1
  have q2 := CN4.2.1 2 _ rfl
  have f2 := CN4.2.2 2
  have q3 := CN4.2.1 3 _ rfl
  have f3 := CN4.2.2 3
  have q4 := CN4.2.1 4 _ rfl
  have f4 := CN4.2.2 4
  have q5 := CN4.2.1 5 _ rfl
  have f5 := CN4.2.2 5
  have q6 := CN4.2.1 6 _ rfl
  have f6 := CN4.2.2 6
  have hRKF : RKeep w w3 N g (((((((w4.setCell ⟨N, 0, none⟩ (.slice a0 n0 c0)).setCell ⟨N, 1, none⟩ (.slice a1 n1 c1)).setCell ⟨N, 2, none⟩ (.slice a2 n2 c2)).setCell ⟨N, 3, none⟩ (.slice a3 n3 c3)).setCell ⟨N, 4, none⟩ (.slice a4 n4 c4)).setCell ⟨N, 5, none⟩ (.slice a5 n5 c5)).setCell ⟨N, 6, none⟩ (.slice a6 n6 c6)) := hRK4.set [.slice a0 n0 c0, .slice a1 n1 c1, .slice a2 n2 c2, .slice a3 n3 c3, .slice a4 n4 c4, .slice a5 n5 c5, .slice a6 n6 c6]
  have hoF : ∀ k, k ≠ N → (((((((w4.setCell ⟨N, 0, none⟩ (.slice a0 n0 c0)).setCell ⟨N, 1, none⟩ (.slice a1 n1 c1)).setCell ⟨N, 2, none⟩ (.slice a2 n2 c2)).setCell ⟨N, 3, none⟩ (.slice a3 n3 c3)).setCell ⟨N, 4, none⟩ (.slice a4 n4 c4)).setCell ⟨N, 5, none⟩ (.slice a5 n5 c5)).setCell ⟨N, 6, none⟩ (.slice a6 n6 c6)).heap[k]? = w4.heap[k]? := fun k hk => heap_setFrom_other N k (Ne.symm hk) [.slice a0 n0 c0, .slice a1 n1 c1, .slice a2 n2 c2, .slice a3 n3 c3, .slice a4 n4 c4, .slice a5 n5 c5, .slice a6 n6 c6] 0 w4
  have hzF : w4.heap.size ≤ (((((((w4.setCell ⟨N, 0, none⟩ (.slice a0 n0 c0)).setCell ⟨N, 1, none⟩ (.slice a1 n1 c1)).setCell ⟨N, 2, none⟩ (.slice a2 n2 c2)).setCell ⟨N, 3, none⟩ (.slice a3 n3 c3)).setCell ⟨N, 4, none⟩ (.slice a4 n4 c4)).setCell ⟨N, 5, none⟩ (.slice a5 n5 c5)).setCell ⟨N, 6, none⟩ (.slice a6 n6 c6)).heap.size := (below_setFrom (B := N) (b := N) (Nat.le_refl _) [.slice a0 n0 c0, .slice a1 n1 c1, .slice a2 n2 c2, .slice a3 n3 c3, .slice a4 n4 c4, .slice a5 n5 c5, .slice a6 n6 c6] 0 w4).size
  have E := (((((((CN4.put 0 (.slice a0 n0 c0) (by simp)).put 1 (.slice a1 n1 c1) (by simp)).put 2 (.slice a2 n2 c2) (by simp)).put 3 (.slice a3 n3 c3) (by simp)).put 4 (.slice a4 n4 c4) (by simp)).put 5 (.slice a5 n5 c5) (by simp)).put 6 (.slice a6 n6 c6) (by simp))
  have e0 : (((((((w4.setCell ⟨N, 0, none⟩ (.slice a0 n0 c0)).setCell ⟨N, 1, none⟩ (.slice a1 n1 c1)).setCell ⟨N, 2, none⟩ (.slice a2 n2 c2)).setCell ⟨N, 3, none⟩ (.slice a3 n3 c3)).setCell ⟨N, 4, none⟩ (.slice a4 n4 c4)).setCell ⟨N, 5, none⟩ (.slice a5 n5 c5)).setCell ⟨N, 6, none⟩ (.slice a6 n6 c6)).cell? ⟨N, 0, none⟩ = some (.slice a0 n0 c0) := E.2.1 0 _ rfl
  have e1 : (((((((w4.setCell ⟨N, 0, none⟩ (.slice a0 n0 c0)).setCell ⟨N, 1, none⟩ (.slice a1 n1 c1)).setCell ⟨N, 2, none⟩ (.slice a2 n2 c2)).setCell ⟨N, 3, none⟩ (.slice a3 n3 c3)).setCell ⟨N, 4, none⟩ (.slice a4 n4 c4)).setCell ⟨N, 5, none⟩ (.slice a5 n5 c5)).setCell ⟨N, 6, none⟩ (.slice a6 n6 c6)).cell? ⟨N, 1, none⟩ = some (.slice a1 n1 c1) := E.2.1 1 _ rfl
  have e2 : (((((((w4.setCell ⟨N, 0, none⟩ (.slice a0 n0 c0)).setCell ⟨N, 1, none⟩ (.slice a1 n1 c1)).setCell ⟨N, 2, none⟩ (.slice a2 n2 c2)).setCell ⟨N, 3, none⟩ (.slice a3 n3 c3)).setCell ⟨N, 4, none⟩ (.slice a4 n4 c4)).setCell ⟨N, 5, none⟩ (.slice a5 n5 c5)).setCell ⟨N, 6, none⟩ (.slice a6 n6 c6)).cell? ⟨N, 2, none⟩ = some (.slice a2 n2 c2) := E.2.1 2 _ rfl
  have e3 : (((((((w4.setCell ⟨N, 0, none⟩ (.slice a0 n0 c0)).setCell ⟨N, 1, none⟩ (.slice a1 n1 c1)).setCell ⟨N, 2, none⟩ (.slice a2 n2 c2)).setCell ⟨N, 3, none⟩ (.slice a3 n3 c3)).setCell ⟨N, 4, none⟩ (.slice a4 n4 c4)).setCell ⟨N, 5, none⟩ (.slice a5 n5 c5)).setCell ⟨N, 6, none⟩ (.slice a6 n6 c6)).cell? ⟨N, 3, none⟩ = some (.slice a3 n3 c3) := E.2.1 3 _ rfl
  have e4 : (((((((w4.setCell ⟨N, 0, none⟩ (.slice a0 n0 c0)).setCell ⟨N, 1, none⟩ (.slice a1 n1 c1)).setCell ⟨N, 2, none⟩ (.slice a2 n2 c2)).setCell ⟨N, 3, none⟩ (.slice a3 n3 c3)).setCell ⟨N, 4, none⟩ (.slice a4 n4 c4)).setCell ⟨N, 5, none⟩ (.slice a5 n5 c5)).setCell ⟨N, 6, none⟩ (.slice a6 n6 c6)).cell? ⟨N, 4, none⟩ = some (.slice a4 n4 c4) := E.2.1 4 _ rfl
  have e5 : (((((((w4.setCell ⟨N, 0, none⟩ (.slice a0 n0 c0)).setCell ⟨N, 1, none⟩ (.slice a1 n1 c1)).setCell ⟨N, 2, none⟩ (.slice a2 n2 c2)).setCell ⟨N, 3, none⟩ (.slice a3 n3 c3)).setCell ⟨N, 4, none⟩ (.slice a4 n4 c4)).setCell ⟨N, 5, none⟩ (.slice a5 n5 c5)).setCell ⟨N, 6, none⟩ (.slice a6 n6 c6)).cell? ⟨N, 5, none⟩ = some (.slice a5 n5 c5) := E.2.1 5 _ rfl
  have e6 : (((((((w4.setCell ⟨N, 0, none⟩ (.slice a0 n0 c0)).setCell ⟨N, 1, none⟩ (.slice a1 n1 c1)).setCell ⟨N, 2, none⟩ (.slice a2 n2 c2)).setCell ⟨N, 3, none⟩ (.slice a3 n3 c3)).setCell ⟨N, 4, none⟩ (.slice a4 n4 c4)).setCell ⟨N, 5, none⟩ (.slice a5 n5 c5)).setCell ⟨N, 6, none⟩ (.slice a6 n6 c6)).cell? ⟨N, 6, none⟩ = some (.slice a6 n6 c6) := E.2.1 6 _ rfl
  clear E
  go_simp
  generalize (((((((w4.setCell ⟨N, 0, none⟩ (.slice a0 n0 c0)).setCell ⟨N, 1, none⟩ (.slice a1 n1 c1)).setCell ⟨N, 2, none⟩ (.slice a2 n2 c2)).setCell ⟨N, 3, none⟩ (.slice a3 n3 c3)).setCell ⟨N, 4, none⟩ (.slice a4 n4 c4)).setCell ⟨N, 5, none⟩ (.slice a5 n5 c5)).setCell ⟨N, 6, none⟩ (.slice a6 n6 c6)) = wF at *
  refine hK.out _ _ (⟨hRKF, (World.cell?_of_block (hKP _ hRKF)).trans y0, (World.cell?_of_block (hKP _ hRKF)).trans y1, (World.cell?_of_block (hKP _ hRKF)).trans y2, (World.cell?_of_block (hKP _ hRKF)).trans y3, (World.cell?_of_block (hKP _ hRKF)).trans y4, (World.cell?_of_block (hKP _ hRKF)).trans y5, (World.cell?_of_block (hKP _ hRKF)).trans y6⟩) (fun hHeld => ?_)
  clear hK K
  refine held1 4 (some 3) hHeld ?_
  refine wpAnyH_done (by kernel_rfl) ?_ _
  have hpF : ∀ w'', (∀ k, N + 1 ≤ k → k < wF.heap.size → w''.heap[k]? = wF.heap[k]?) → PlantIn w'' (⟨⟨a0, n0, c0⟩, ⟨a1, n1, c1⟩, ⟨a2, n2, c2⟩, ⟨a3, n3, c3⟩, ⟨a4, n4, c4⟩, ⟨a5, n5, c5⟩, ⟨a6, n6, c6⟩⟩ : PtR) p := fun w'' ho => HP1.out w'' (fun k h1 h2 => ((ho k (by omega) (by have := hRKF.size; omega)).trans (hRKF.blk k (by omega) (by omega) (by omega))).trans (hK3 k h1 h2))
  have hdF : OwnRows dmF 50 wF (N + 1) A4 ds.length c4' ds := (hod.blk (w' := wF) (fun k hlo _ _ => hoF k (by have := hz3; simp at hlo; omega))).lower (by show N + 1 ≤ w3.drew.heap.size; simp; omega)
  have hbF := hRKF.bel
  have HOD := Lib.hid hokd
  clear hokd
  go_wp2_with fail
  refine bodyPost_ret (v := .tuple #[.agg #[.slice a0 n0 c0, .slice a1 n1 c1, .slice a2 n2 c2, .slice a3 n3 c3, .slice a4 n4 c4, .slice a5 n5 c5, .slice a6 n6 c6], .slice A4 ds.length c4']) (by simp [results, Try.results11, go_sem, e0, e1, e2, e3, e4, e5, e6]) rfl ?_
  exact ⟨_, p, ds, A4, c4', rfl, HOK.out, hit1, hl5, HOD.out, by rw [hN]; exact hdF, by rw [hN]; exact hbF, fun w'' ho => hpF w'' (by rw [hN] at ho; exact ho)⟩
/-- The ending of a call that draws orders. -/
def DrawnOrders (w : World) (base g : Nat) (e : Ending) (w' : World) : Prop := ∃ (l : List Pl) (A : Option Addr) (c : Nat), e = .returned (.slice A l.length c) ∧ l.length ≤ 10000 ∧ (∀ x ∈ l, okPl x) ∧ OwnRows plF 44 w' w.heap.size A l.length c l ∧ CurAt w' base g ∧ Only g (g + 1) w w'
theorem drawnOrders_own {w w' : World} {base g n : Nat} {A : Option Addr} {c : Nat} {l : List Pl} (hn : l.length = n) (h : OwnRows plF 44 w' w.heap.size A n c l) (hl : l.length ≤ 10000) (hok : ∀ x ∈ l, okPl x) (hc : CurAt w' base g) (ho : Only g (g + 1) w w') : DrawnOrders w base g (.returned (.slice A n c)) w' := by
  subst hn
  exact ⟨l, A, c, rfl, hl, hok, h, hc, ho⟩
theorem okPl_set {l : List Pl} (h : ∀ x ∈ l, okPl x) (k : Nat) {y : Pl} (hy : okPl y) : ∀ x ∈ l.set k y, okPl x := fun x hx => by
  rcases List.mem_or_eq_of_mem_set hx with h1 | h1
  · exact h x h1
  · rw [h1]; exact hy
set_option maxRecDepth 100000 in
set_option maxHeartbeats 8000000 in
theorem l18Orders_any (r : PtR) (p : Pt) (A : Option Addr) (n c : Nat) (ds : List Dm) (w : World) (base g : Nat) (hp : PlantIn w r p) (hok : okPt p) (h1 : 1 ≤ p.it.length) (hds : DemandsIn w A n ds) (hokd : ∀ x ∈ ds, okDm x) (hc : CurAt w base g) :
    Calls Try.prog 13 #[.pointer (some ⟨g, 0, none⟩), .agg #[.slice r.i.a r.i.n r.i.c, .slice r.l.a r.l.n r.l.c, .slice r.w.a r.w.n r.w.c, .slice r.e.a r.e.n r.e.c, .slice r.p.a r.p.n r.p.c, .slice r.s.a r.s.n r.s.c, .slice r.q.a r.q.n r.q.c], .slice A n c] w (DrawnOrders w base g) := by
  have hg := hc.lt
  obtain ⟨⟨a0, n0, c0⟩, ⟨a1, n1, c1⟩, ⟨a2, n2, c2⟩, ⟨a3, n3, c3⟩, ⟨a4, n4, c4⟩, ⟨a5, n5, c5⟩, ⟨a6, n6, c6⟩⟩ := r
  dsimp only
  have hs := below_alloc w (.cells #[.slice a0 n0 c0, .slice a1 n1 c1, .slice a2 n2 c2, .slice a3 n3 c3, .slice a4 n4 c4, .slice a5 n5 c5, .slice a6 n6 c6] 34)
  have B0 : BoxOf (w.alloc (.cells #[.slice a0 n0 c0, .slice a1 n1 c1, .slice a2 n2 c2, .slice a3 n3 c3, .slice a4 n4 c4, .slice a5 n5 c5, .slice a6 n6 c6] 34)) w.heap.size [.slice a0 n0 c0, .slice a1 n1 c1, .slice a2 n2 c2, .slice a3 n3 c3, .slice a4 n4 c4, .slice a5 n5 c5, .slice a6 n6 c6] := boxOf_alloc w #[.slice a0 n0 c0, .slice a1 n1 c1, .slice a2 n2 c2, .slice a3 n3 c3, .slice a4 n4 c4, .slice a5 n5 c5, .slice a6 n6 c6] 34
  have hc0 := hc.keep hs hg
  have H0 : Only g (g + 1) w (w.alloc (.cells #[.slice a0 n0 c0, .slice a1 n1 c1, .slice a2 n2 c2, .slice a3 n3 c3, .slice a4 n4 c4, .slice a5 n5 c5, .slice a6 n6 c6] 34)) := Only.of_below hs
  have HP := Lib.hid (hp.keep hs)
  have HD := Lib.hid (RowsIn.keep hds hs)
  have HOK := Lib.hid hok
  have HOD := Lib.hid hokd
  clear hp hds hok hokd hc hs
  obtain ⟨b0, b1, b2, b3, b4, b5, b6, bl⟩ := B0.seven
  go_enter Try.func13, Try.ntmps13
  go_wp2_with fail
  generalize (w.alloc (.cells #[.slice a0 n0 c0, .slice a1 n1 c1, .slice a2 n2 c2, .slice a3 n3 c3, .slice a4 n4 c4, .slice a5 n5 c5, .slice a6 n6 c6] 34)) = w0 at *
  refine (specPlanAll_any (⟨⟨a0, n0, c0⟩, ⟨a1, n1, c1⟩, ⟨a2, n2, c2⟩, ⟨a3, n3, c3⟩, ⟨a4, n4, c4⟩, ⟨a5, n5, c5⟩, ⟨a6, n6, c6⟩⟩ : PtR) p A n c ds _ HP.out HOK.out h1 HD.out HOD.out).mono ?_
  rintro e w2 ⟨l, A2, c2', b2', rfl, ho, hl, hokl, hs⟩
  have hc2 := hc0.keep hs hc0.lt
  have H2 := only_below H0 (hs.mono H0.size)
  have hr2 := ho.lower H0.size
  have HOKL := Lib.hid hokl
  clear hs hc0 H0 ho B0 b0 b1 b2 b3 b4 b5 b6 bl HP HD HOK HOD hokl
  by_cases hl0 : l.length = 0
  · rw [hl0]
    rw [hl0] at hr2
    go_wp2_with fail
    go_ret
    exact drawnOrders_own hl0 hr2 (by omega) HOKL.out hc2 H2
  obtain ⟨n9, hn9⟩ : ∃ n9, l.length = n9 + 1 := ⟨l.length - 1, by omega⟩
  obtain ⟨b, c9, hbe⟩ := hr2.val.some_of hn9
  obtain ⟨rfl, _, rfl⟩ : A2 = some ⟨b, 0, none⟩ ∧ l.length = n9 + 1 ∧ c2' = c9 := by simpa using hbe
  clear hbe
  rw [hn9] at hr2 ⊢
  have hlob := own_block hr2.val b rfl
  have hgt : (0 : Int) < ((n9 + 1 : Nat) : Int) := by omega
  go_wp2_with fail
  refine (l1Once_any _ _ _ _ (by omega) hc2).mono ?_
  rintro e w3 ⟨bb, rfl, hc3, HO3⟩
  replace hr2 := hr2.only HO3 (by omega)
  replace H2 := H2.trans HO3
  clear HO3 hc2
  cases bb
  · go_wp2_with fail
    go_ret
    exact drawnOrders_own hn9 hr2 (by omega) HOKL.out hc3 H2
  go_wp2_with fail
  refine (l1Below_any _ _ _ _ (by omega) hc3).mono ?_
  rintro e w4 ⟨k, rfl, ⟨k0, k1⟩, hc4, HO4⟩
  obtain ⟨k, rfl⟩ : ∃ j : Nat, k = (j : Int) := ⟨_, (Int.toNat_of_nonneg k0).symm⟩
  replace hr2 := hr2.only HO4 (by omega)
  replace H2 := H2.trans HO4
  clear HO4 hc3
  go_wp2_with fail
  refine (l1Below_any _ _ _ _ (by omega) hc4).mono ?_
  rintro e w5 ⟨y, rfl, ⟨y0, y1⟩, hc5, HO5⟩
  have hr5 := hr2.only HO5 (by omega)
  have H5 := H2.trans HO5
  clear HO5 hc4 hr2 H2
  have hkl : k < l.length := by omega
  have hki : (k : Int) < ((n9 + 1 : Nat) : Int) := by omega
  have hcap := own_capD hr5
  have hokk := HOKL.out _ (List.getElem_mem hkl)
  have h4 : (y = 0 ∨ y = 1) ∨ (y = 2 ∨ y = 3) := by omega
  rcases h4 with (rfl | rfl) | (rfl | rfl)
  · skip
    obtain ⟨x9, f9⟩ : w5.cell? ⟨b, k * 5 + 1, none⟩ = some (.int .i64 l[k].2.1) ∧ w5.frozen? ⟨b, k * 5 + 1, none⟩ = false := hr5.at_cell k 1 hkl _ rfl
    obtain ⟨z9, hz9⟩ : ∃ z, IntKind.i64.wrap (l[k].2.1 - 1) = z := ⟨_, rfl⟩
    have hE : OwnRows plF 44 (w5.setCell ⟨b, k * 5 + 1, none⟩ (.int .i64 z9)) w.heap.size (some ⟨b, 0, none⟩) (n9 + 1) c2' (l.set k (l[k].1, z9, l[k].2.2.1, l[k].2.2.2.1, l[k].2.2.2.2)) := hr5.edit k 1 hkl (by decide) (.int .i64 z9) (l[k].1, z9, l[k].2.2.1, l[k].2.2.2.1, l[k].2.2.2.2) rfl
    have HB : Below w.heap.size w5 (w5.setCell ⟨b, k * 5 + 1, none⟩ (.int .i64 z9)) := (Below.refl w.heap.size w5).setCell (p := ⟨b, k * 5 + 1, none⟩) hlob _
    have hcF := hc5.keep HB hg
    have HF := only_below H5 HB
    have hokF : Hid (∀ x ∈ l.set k (l[k].1, z9, l[k].2.2.1, l[k].2.2.2.1, l[k].2.2.2.2), okPl x) := okPl_set HOKL.out k hokk
    clear hr5 hc5
    go_wp2_with fail
    go_ret
    exact drawnOrders_own (by rw [List.length_set]; exact hn9) hE (by rw [List.length_set]; omega) hokF.out hcF HF
  · skip
    obtain ⟨x9, f9⟩ : w5.cell? ⟨b, k * 5 + 3, none⟩ = some (.int .i64 l[k].2.2.2.1) ∧ w5.frozen? ⟨b, k * 5 + 3, none⟩ = false := hr5.at_cell k 3 hkl _ rfl
    obtain ⟨z9, hz9⟩ : ∃ z, IntKind.i64.wrap (l[k].2.2.2.1 + 1) = z := ⟨_, rfl⟩
    have hE : OwnRows plF 44 (w5.setCell ⟨b, k * 5 + 3, none⟩ (.int .i64 z9)) w.heap.size (some ⟨b, 0, none⟩) (n9 + 1) c2' (l.set k (l[k].1, l[k].2.1, l[k].2.2.1, z9, l[k].2.2.2.2)) := hr5.edit k 3 hkl (by decide) (.int .i64 z9) (l[k].1, l[k].2.1, l[k].2.2.1, z9, l[k].2.2.2.2) rfl
    have HB : Below w.heap.size w5 (w5.setCell ⟨b, k * 5 + 3, none⟩ (.int .i64 z9)) := (Below.refl w.heap.size w5).setCell (p := ⟨b, k * 5 + 3, none⟩) hlob _
    have hcF := hc5.keep HB hg
    have HF := only_below H5 HB
    have hokF : Hid (∀ x ∈ l.set k (l[k].1, l[k].2.1, l[k].2.2.1, z9, l[k].2.2.2.2), okPl x) := okPl_set HOKL.out k hokk
    clear hr5 hc5
    go_wp2_with fail
    go_ret
    exact drawnOrders_own (by rw [List.length_set]; exact hn9) hE (by rw [List.length_set]; omega) hokF.out hcF HF
  · go_wp2_with fail
    refine (l1Code_any _ _ _ hc5).mono ?_
    rintro e w6 ⟨s9, rfl, hs9, hc6, HO6⟩
    have hr6 := hr5.only HO6 (by omega)
    have H6 := H5.trans HO6
    clear hr5 H5 HO6 hc5
    obtain ⟨x9, f9⟩ : w6.cell? ⟨b, k * 5, none⟩ = some (.string l[k].1) ∧ w6.frozen? ⟨b, k * 5, none⟩ = false := hr6.at_cell k 0 hkl _ rfl
    have hE : OwnRows plF 44 (w6.setCell ⟨b, k * 5, none⟩ (.string s9)) w.heap.size (some ⟨b, 0, none⟩) (n9 + 1) c2' (l.set k (s9, l[k].2.1, l[k].2.2.1, l[k].2.2.2.1, l[k].2.2.2.2)) := hr6.edit k 0 hkl (by decide) (.string s9) (s9, l[k].2.1, l[k].2.2.1, l[k].2.2.2.1, l[k].2.2.2.2) rfl
    have HB : Below w.heap.size w6 (w6.setCell ⟨b, k * 5, none⟩ (.string s9)) := (Below.refl w.heap.size w6).setCell (p := ⟨b, k * 5, none⟩) hlob _
    have hcF := hc6.keep HB hg
    have HF := only_below H6 HB
    have hokF : Hid (∀ x ∈ l.set k (s9, l[k].2.1, l[k].2.2.1, l[k].2.2.2.1, l[k].2.2.2.2), okPl x) := okPl_set HOKL.out k hs9
    clear hr6 hc6
    go_wp2_with fail
    go_ret
    exact drawnOrders_own (by rw [List.length_set]; exact hn9) hE (by rw [List.length_set]; omega) hokF.out hcF HF
  · skip
    obtain ⟨x9, f9⟩ : w5.cell? ⟨b, k * 5 + 1, none⟩ = some (.int .i64 l[k].2.1) ∧ w5.frozen? ⟨b, k * 5 + 1, none⟩ = false := hr5.at_cell k 1 hkl _ rfl
    obtain ⟨z9, hz9⟩ : ∃ z, IntKind.i64.wrap (l[k].2.1 + 3) = z := ⟨_, rfl⟩
    have hE : OwnRows plF 44 (w5.setCell ⟨b, k * 5 + 1, none⟩ (.int .i64 z9)) w.heap.size (some ⟨b, 0, none⟩) (n9 + 1) c2' (l.set k (l[k].1, z9, l[k].2.2.1, l[k].2.2.2.1, l[k].2.2.2.2)) := hr5.edit k 1 hkl (by decide) (.int .i64 z9) (l[k].1, z9, l[k].2.2.1, l[k].2.2.2.1, l[k].2.2.2.2) rfl
    have HB : Below w.heap.size w5 (w5.setCell ⟨b, k * 5 + 1, none⟩ (.int .i64 z9)) := (Below.refl w.heap.size w5).setCell (p := ⟨b, k * 5 + 1, none⟩) hlob _
    have hcF := hc5.keep HB hg
    have HF := only_below H5 HB
    have hokF : Hid (∀ x ∈ l.set k (l[k].1, z9, l[k].2.2.1, l[k].2.2.2.1, l[k].2.2.2.2), okPl x) := okPl_set HOKL.out k hokk
    clear hr5 hc5
    go_wp2_with fail
    go_ret
    exact drawnOrders_own (by rw [List.length_set]; exact hn9) hE (by rw [List.length_set]; omega) hokF.out hcF HF
end Go.Proofs.Ytlkolehdikfddaa
/- How the laws on what is taken and on balances draw their inputs. -/
namespace Go.Proofs.Ytlkolehdikfddaa
open Go.RowKit
theorem byteInfo : (Try.prog.info? 5).map (fun i => (i.zero, i.size, i.bytes)) = some (some (.int .u8 0), 1, 1) := by kernel_rfl
theorem byteElem : ElemOk byteF 22 5 := by
  obtain ⟨i, h1, h2, h3, h4⟩ := info_parts byteInfo
  exact ⟨i, _, 1, Try.underlying22, h1, h2, h3, h4, rfl, by decide, by omega⟩
theorem byteOne : ∀ (a : Int), ∀ u ∈ byteF.enc a, u.oneCell' = true := by
  intro a u hu
  simp [byteF] at hu
  rcases hu with rfl; rfl
theorem own_capA {α : Type} {F : Flat α} {t : TypeId} {w : World} {lo n c : Nat} {A : Option Addr} {l : List α} (h : OwnRows F t w lo A n c l) : n ≤ c := by
  rcases h.2.2 with ⟨_, h0⟩ | ⟨g, cap, cur, hv, _, _, hr⟩
  · omega
  · have : c = cap := by injection hv
    subst this
    exact hr.1
theorem row_bd {α : Type} {F : Flat α} {t : TypeId} {w : World} {lo : Nat} {v : Value} {l : List α} (h : RowVal F t w lo v l) : ∀ k, v.ownBlock = some k → k < w.heap.size := RowVal.blt h
set_option maxRecDepth 100000 in
set_option maxHeartbeats 1000000 in
theorem l4DayB_any (w : World) (base g : Nat) (hc : CurAt w base g) : Calls Try.prog 15 #[.pointer (some ⟨g, 0, none⟩)] w (DrawnInt (fun x => -9223372036854775808 ≤ x ∧ x ≤ 9223372036854775807) w base g) := by
  go_enter Try.func15, Try.ntmps15
  go_wp2_with fail
  refine (l1Once_any _ _ _ _ (by omega) hc).mono ?_
  rintro e w1 ⟨b, rfl, hc1, HO1⟩
  cases b
  · go_wp2_with fail
    refine (l1Below_any _ _ _ _ (by omega) hc1).mono ?_
    rintro e w2 ⟨x, rfl, ⟨x0, x1⟩, hc2, HO2⟩
    go_wp2_with fail
    go_ret
    exact ⟨_, rfl, ⟨by omega, by omega⟩, hc2, HO1.trans HO2⟩
  · have hg := hc1.lt
    go_wp2_with fail
    refine (l1PickInt_any _ 6 _ [-1, 999, 1000, 998, -9223372036854775808, 9223372036854775807] _ base g (lit_ints rfl _ _ _ rfl rfl (by simp)) (by omega) (fun a ha => by have := Option.some.inj ha; rw [← this]; show w1.heap.size ≠ g; omega) (hc1.keep (below_alloc _ _) hg)).mono ?_
    rintro e w2 ⟨x, rfl, hx, hc2, HO2⟩
    have hx2 : -9223372036854775808 ≤ x ∧ x ≤ 9223372036854775807 := by
      simp only [List.mem_cons, List.not_mem_nil, or_false] at hx
      omega
    clear hx
    go_wp2_with fail
    go_ret
    exact ⟨_, rfl, hx2, hc2, (HO1.trans (Only.of_below (below_alloc _ _))).trans HO2⟩
/-- The ending of a call that draws a plant, demands, orders, an item and a day. -/
def DrawnTk (w : World) (e : Ending) (w' : World) : Prop := ∃ (r : PtR) (p : Pt) (ds : List Dm) (A : Option Addr) (c : Nat) (l : List Pl) (B : Option Addr) (d : Nat) (s : ByteArray) (day : Int), e = .returned (.tuple #[r.v, .slice A ds.length c, .slice B l.length d, .string s, .int .i64 day]) ∧ okPt p ∧ (∀ x ∈ ds, okDm x) ∧ ds.length ≤ c ∧ (∀ x ∈ l, okPl x) ∧ l.length ≤ 10000 ∧ s.size ≤ 9223372036854775807 ∧ (-9223372036854775808 ≤ day ∧ day ≤ 9223372036854775807) ∧ PlantIn w' r p ∧ DemandsIn w' A ds.length ds ∧ PlannedsIn w' B l.length l ∧ Below w.heap.size w w'
set_option maxRecDepth 100000 in
set_option maxHeartbeats 8000000 in
theorem DrawTakenUpTo_any (A : Option Addr) (n c : Nat) (bs : List Int) (w : World) (hb : RowsIn byteF w A n bs) (hokb : ∀ x ∈ bs, okByte x) (hn : n ≤ 1048576) : Calls Try.prog 5 #[.slice A n c] w (DrawnTk w) := by
  have hs := below_alloc w (.cells #[.slice none 0 0, .slice none 0 0, .slice none 0 0, .slice none 0 0, .slice none 0 0, .slice none 0 0, .slice none 0 0] 34)
  have CN : CellsAt (w.alloc (.cells #[.slice none 0 0, .slice none 0 0, .slice none 0 0, .slice none 0 0, .slice none 0 0, .slice none 0 0, .slice none 0 0] 34)) w.heap.size [.slice none 0 0, .slice none 0 0, .slice none 0 0, .slice none 0 0, .slice none 0 0, .slice none 0 0, .slice none 0 0] := CellsAt.new w #[.slice none 0 0, .slice none 0 0, .slice none 0 0, .slice none 0 0, .slice none 0 0, .slice none 0 0, .slice none 0 0] 34
  have hz0 : (w.alloc (.cells #[.slice none 0 0, .slice none 0 0, .slice none 0 0, .slice none 0 0, .slice none 0 0, .slice none 0 0, .slice none 0 0] 34)).heap.size = w.heap.size + 1 := by simp
  have hb0 := hb.keep hs
  have HBY := Lib.hid hokb
  have hln : bs.length ≤ 1048576 := by have := hb.1; omega
  have HB := hs
  go_enter Try.func5, Try.ntmps5
  go_wp2_with fail
  generalize (w.alloc (.cells #[.slice none 0 0, .slice none 0 0, .slice none 0 0, .slice none 0 0, .slice none 0 0, .slice none 0 0, .slice none 0 0] 34)) = w0 at *
  generalize hN : w.heap.size = N at *
  clear hs hb hokb
  refine (l18Case_any _ _ _ _ (bytesAt_of hb0 HBY.out)).mono ?_
  rintro e w2 ⟨r, p, ds, A2, c2', rfl, hok, hit1, hl5, hokd, hod, hb2, HP⟩
  obtain ⟨⟨a0, n0, c0⟩, ⟨a1, n1, c1⟩, ⟨a2, n2, c2⟩, ⟨a3, n3, c3⟩, ⟨a4, n4, c4⟩, ⟨a5, n5, c5⟩, ⟨a6, n6, c6⟩⟩ := r
  rw [hz0] at hod HP
  have HOK := Lib.hid hok
  have HOD := Lib.hid hokd
  have HP1 := Lib.hid HP
  have CN2 := CN.keep hb2 (by omega)
  replace HB := HB.trans (hb2.mono (by omega))
  have hz2 := hb2.size
  replace hb0 := hb0.keep hb2
  have hcap := own_capA hod
  clear CN hb2 hok hokd HP
  dsimp only [PtR.v]
  have CP : CellsAt (w2.alloc (.cells #[.slice a0 n0 c0, .slice a1 n1 c1, .slice a2 n2 c2, .slice a3 n3 c3, .slice a4 n4 c4, .slice a5 n5 c5, .slice a6 n6 c6] 34)) w2.heap.size [.slice a0 n0 c0, .slice a1 n1 c1, .slice a2 n2 c2, .slice a3 n3 c3, .slice a4 n4 c4, .slice a5 n5 c5, .slice a6 n6 c6] := CellsAt.new w2 #[.slice a0 n0 c0, .slice a1 n1 c1, .slice a2 n2 c2, .slice a3 n3 c3, .slice a4 n4 c4, .slice a5 n5 c5, .slice a6 n6 c6] 34
  have hs3 := below_alloc w2 (.cells #[.slice a0 n0 c0, .slice a1 n1 c1, .slice a2 n2 c2, .slice a3 n3 c3, .slice a4 n4 c4, .slice a5 n5 c5, .slice a6 n6 c6] 34)
  have CN3 := CN2.keep hs3 (by omega)
  have HB3 := HB.trans (hs3.mono (show N ≤ w2.heap.size by omega))
  have hK3 : ∀ k, N + 1 ≤ k → k < w2.heap.size → (w2.alloc (.cells #[.slice a0 n0 c0, .slice a1 n1 c1, .slice a2 n2 c2, .slice a3 n3 c3, .slice a4 n4 c4, .slice a5 n5 c5, .slice a6 n6 c6] 34)).heap[k]? = w2.heap[k]? := fun k _ hl => hs3.block k hl
  have hz3 := hs3.size
  replace hod := hod.keep hs3
  replace hb0 := hb0.keep hs3
  clear hs3 CN2 HB
  go_upto_region 2 with fail
  generalize (w2.alloc (.cells #[.slice a0 n0 c0, .slice a1 n1 c1, .slice a2 n2 c2, .slice a3 n3 c3, .slice a4 n4 c4, .slice a5 n5 c5, .slice a6 n6 c6] 34)) = w3 at *
  have hPlt := CP.1
  have hzP : w0.heap.size ≤ w2.heap.size := hz2
  generalize hP2 : w2.heap.size = P at *
  have hlit : RowVal byteF 5 (w3.alloc (.cells #[.int .u8 5] 5)) (N + 1) (.slice (some ⟨w3.heap.size, 0, none⟩) 1 1) [5] := lit_one byteElem rfl #[.int .u8 5] 5 rfl (by omega)
  have hs4 := below_alloc w3 (.cells #[.int .u8 5] 5)
  have hb4 := hb0.keep hs4
  have hz4 : N + 1 ≤ (w3.alloc (.cells #[.int .u8 5] 5)).heap.size := by simp; omega
  go_wp2_with (at_builtin; refine wpList_append_rows byteElem byteOne rfl _ _ rfl rfl hlit (by simp) rfl hb4 hz4 ?_; intro v5 w5 hr5 hg5)
  obtain ⟨A5, c5', rfl, ho5⟩ := hr5.form
  have hln5 : ([5] ++ bs).length ≤ 16777216 := by simp; omega
  have hby5 : BytesAt w5 w5.heap.size A5 ([5] ++ bs).length := bytesAt_of (ho5.rows hln5) (fun x hx => by
    rcases List.mem_append.1 hx with h | h
    · rw [List.mem_singleton.1 h]; exact ⟨by omega, by omega⟩
    · exact HBY.out x h)
  have hblk5 : ∀ k, k < w3.heap.size → w5.heap[k]? = w3.heap[k]? := fun k hk => (hg5.block k (by simp; omega) (fun e => by have e2 : k = w3.heap.size := Option.some.inj e; omega)).trans (hs4.block k hk)
  have hz5 : w3.heap.size < w5.heap.size := by have := hg5.size; simp at this; omega
  have hB5 : Below w3.heap.size w3 w5 := hs4.trans (below_grown hg5 (by simp) (fun g hg => by have e2 : w3.heap.size = g := Option.some.inj hg; omega))
  clear hr5 hg5 hlit hs4 hb4 hz4 ho5 hb0 hln5
  generalize ([5] ++ bs).length = n5' at *
  refine (l1New_any _ _ _ _ hby5).mono ?_
  rintro e w6 ⟨g, rfl, hgz, hc6, hb6⟩
  have hB6 := below_on hB5 hb6
  have hg6 := hc6.lt
  clear hby5 hb6 hB5 hblk5
  have CN6 := CN3.keep hB6 (by omega)
  have CP6 := CP.keep hB6 hPlt
  have HB6 := HB3.trans (hB6.mono (by omega))
  have hod6 := hod.keep hB6
  have hKg : ∀ k, (Value.slice A2 ds.length c2').ownBlock = some k → k ≠ g := fun k hk => by have := (row_bd hod.val) k hk; omega
  have hP6 : PlantIn w6 (⟨⟨a0, n0, c0⟩, ⟨a1, n1, c1⟩, ⟨a2, n2, c2⟩, ⟨a3, n3, c3⟩, ⟨a4, n4, c4⟩, ⟨a5, n5, c5⟩, ⟨a6, n6, c6⟩⟩ : PtR) p := HP1.out w6 (fun k h1 h2 => (hB6.block k (by omega)).trans (hK3 k (by omega) (by omega)))
  have hK6 : ∀ k, N + 1 ≤ k → k < P → w6.heap[k]? = w2.heap[k]? := fun k h1 h2 => (hB6.block k (by omega)).trans (hK3 k (by omega) (by omega))
  have hz6 := hB6.size
  clear CN3 CP HB3 hod hB6 hK3
  go_upto_region 3 with fail
  have y0 := CP6.2.1 0 _ rfl
  have y1 := CP6.2.1 1 _ rfl
  have y2 := CP6.2.1 2 _ rfl
  have y3 := CP6.2.1 3 _ rfl
  have y4 := CP6.2.1 4 _ rfl
  have y5 := CP6.2.1 5 _ rfl
  have y6 := CP6.2.1 6 _ rfl
  have hPlt6 := CP6.1
  have hRK : RKeep w w6 N g w6.drew := ⟨HB6.drew, fun _ _ _ _ => rfl, Nat.le_refl _, by omega⟩
  refine wp_region_held_drew (S := fun w' => RKeep w w6 N g w' ∧ (w'.cell? ⟨P, 0, none⟩ = some (.slice a0 n0 c0) ∧ w'.cell? ⟨P, 1, none⟩ = some (.slice a1 n1 c1) ∧ w'.cell? ⟨P, 2, none⟩ = some (.slice a2 n2 c2) ∧ w'.cell? ⟨P, 3, none⟩ = some (.slice a3 n3 c3) ∧ w'.cell? ⟨P, 4, none⟩ = some (.slice a4 n4 c4) ∧ w'.cell? ⟨P, 5, none⟩ = some (.slice a5 n5 c5) ∧ w'.cell? ⟨P, 6, none⟩ = some (.slice a6 n6 c6))) (by kernel_rfl) (⟨hRK, y0, y1, y2, y3, y4, y5, y6⟩) (fun hHeld => ?_)
  have hgP : P ≠ g := by omega
  have hNP : N < P := by omega
  have hKP : ∀ W : World, RKeep w w6 N g W → W.heap[P]? = w6.heap[P]? := fun W h => h.blk P hNP hgP hPlt6
  refine held1 0 (some 19) hHeld ?_
  refine held1 1 (some 20) hHeld ?_
  refine held1 2 (some 21) hHeld ?_
  refine held1 3 (some 22) hHeld ?_
  refine held1 4 (some 23) hHeld ?_
  refine held1 6 (some 25) hHeld ?_
  refine held1 8 (some 27) hHeld ?_
  refine held_do 5 fun K hK => ?_
  go_simp
  have hRK1 := hHeld.1
  go_at_call 13
  refine (l18Orders_any (⟨⟨a0, n0, c0⟩, ⟨a1, n1, c1⟩, ⟨a2, n2, c2⟩, ⟨a3, n3, c3⟩, ⟨a4, n4, c4⟩, ⟨a5, n5, c5⟩, ⟨a6, n6, c6⟩⟩ : PtR) p A2 ds.length c2' ds w6.drew _ g ⟨hP6.it, hP6.ls, hP6.wk, hP6.ex, hP6.ch, hP6.st, hP6.rc⟩ HOK.out hit1 (OwnRows.rows (w := w6.drew) hod6 (by omega)) HOD.out (curAt_drewN hc6 1)).mono ?_
  rintro e w7 ⟨l, B7, d7, rfl, hll, hokl, hol, hc7, HO7⟩
  have hRK7 := hRK1.call HO7 (by omega)
  have CN7 := CellsAt.only (w := w6.drew) CN6 HO7 (by omega)
  have HOL := Lib.hid hokl
  clear hokl
  go_simp
  refine hK.out _ _ (⟨hRK7, (World.cell?_of_block (hKP _ hRK7)).trans y0, (World.cell?_of_block (hKP _ hRK7)).trans y1, (World.cell?_of_block (hKP _ hRK7)).trans y2, (World.cell?_of_block (hKP _ hRK7)).trans y3, (World.cell?_of_block (hKP _ hRK7)).trans y4, (World.cell?_of_block (hKP _ hRK7)).trans y5, (World.cell?_of_block (hKP _ hRK7)).trans y6⟩) (fun hHeld => ?_)
  clear hK K
  try simp only [Act.put, List.setIfInBounds_toArray, List.set_cons_zero, List.set_cons_succ]
  refine held_do 7 fun K hK => ?_
  go_simp
  have hRK2 := hHeld.1
  go_at_call 14
  refine (l1Code_any _ _ _ hc7).mono ?_
  rintro e w8 ⟨s, rfl, hsz, hc8, HO8⟩
  have hRK8 := hRK2.call HO8 (by omega)
  have CN8 := CN7.only HO8 (by omega)
  have hol8 := hol.only HO8 (by show g + 1 ≤ w6.heap.size; omega)
  go_simp
  refine hK.out _ _ (⟨hRK8, (World.cell?_of_block (hKP _ hRK8)).trans y0, (World.cell?_of_block (hKP _ hRK8)).trans y1, (World.cell?_of_block (hKP _ hRK8)).trans y2, (World.cell?_of_block (hKP _ hRK8)).trans y3, (World.cell?_of_block (hKP _ hRK8)).trans y4, (World.cell?_of_block (hKP _ hRK8)).trans y5, (World.cell?_of_block (hKP _ hRK8)).trans y6⟩) (fun hHeld => ?_)
  clear hK K
  try simp only [Act.put, List.setIfInBounds_toArray, List.set_cons_zero, List.set_cons_succ]
  refine held_do 9 fun K hK => ?_
  go_simp
  have hRK3 := hHeld.1
  go_at_call 15
  refine (l4DayB_any _ _ _ hc8).mono ?_
  rintro e w9 ⟨day, rfl, hday, hc9, HO9⟩
  have hRK9 := hRK3.call HO9 (by omega)
  have CN9 := CN8.only HO9 (by omega)
  have hol9 := hol8.only HO9 (by show g + 1 ≤ w6.heap.size; omega)
  go_simp
  refine hK.out _ _ (⟨hRK9, (World.cell?_of_block (hKP _ hRK9)).trans y0, (World.cell?_of_block (hKP _ hRK9)).trans y1, (World.cell?_of_block (hKP _ hRK9)).trans y2, (World.cell?_of_block (hKP _ hRK9)).trans y3, (World.cell?_of_block (hKP _ hRK9)).trans y4, (World.cell?_of_block (hKP _ hRK9)).trans y5, (World.cell?_of_block (hKP _ hRK9)).trans y6⟩) (fun hHeld => ?_)
  clear hK K
  try simp only [Act.put, List.setIfInBounds_toArray, List.set_cons_zero, List.set_cons_succ]
  refine held_do 10 fun K hK => ?_
  have q0 := CN9.2.1 0 _ rfl
  have f0 := CN9.2.2 0
  have q1 := CN9.2.1 1 _ rfl
  have f1 := CN9.2.2 1
  have q2 := CN9.2.1 2 _ rfl
  have f2 := CN9.2.2 2
  have q3 := CN9.2.1 3 _ rfl
  have f3 := CN9.2.2 3
  have q4 := CN9.2.1 4 _ rfl
  have f4 := CN9.2.2 4
  have q5 := CN9.2.1 5 _ rfl
  have f5 := CN9.2.2 5
  have q6 := CN9.2.1 6 _ rfl
  have f6 := CN9.2.2 6
  have hRKF : RKeep w w6 N g (((((((w9.setCell ⟨N, 0, none⟩ (.slice a0 n0 c0)).setCell ⟨N, 1, none⟩ (.slice a1 n1 c1)).setCell ⟨N, 2, none⟩ (.slice a2 n2 c2)).setCell ⟨N, 3, none⟩ (.slice a3 n3 c3)).setCell ⟨N, 4, none⟩ (.slice a4 n4 c4)).setCell ⟨N, 5, none⟩ (.slice a5 n5 c5)).setCell ⟨N, 6, none⟩ (.slice a6 n6 c6)) := hRK9.set [.slice a0 n0 c0, .slice a1 n1 c1, .slice a2 n2 c2, .slice a3 n3 c3, .slice a4 n4 c4, .slice a5 n5 c5, .slice a6 n6 c6]
  have hoF : ∀ k, k ≠ N → (((((((w9.setCell ⟨N, 0, none⟩ (.slice a0 n0 c0)).setCell ⟨N, 1, none⟩ (.slice a1 n1 c1)).setCell ⟨N, 2, none⟩ (.slice a2 n2 c2)).setCell ⟨N, 3, none⟩ (.slice a3 n3 c3)).setCell ⟨N, 4, none⟩ (.slice a4 n4 c4)).setCell ⟨N, 5, none⟩ (.slice a5 n5 c5)).setCell ⟨N, 6, none⟩ (.slice a6 n6 c6)).heap[k]? = w9.heap[k]? := fun k hk => heap_setFrom_other N k (Ne.symm hk) [.slice a0 n0 c0, .slice a1 n1 c1, .slice a2 n2 c2, .slice a3 n3 c3, .slice a4 n4 c4, .slice a5 n5 c5, .slice a6 n6 c6] 0 w9
  have hzF : w9.heap.size ≤ (((((((w9.setCell ⟨N, 0, none⟩ (.slice a0 n0 c0)).setCell ⟨N, 1, none⟩ (.slice a1 n1 c1)).setCell ⟨N, 2, none⟩ (.slice a2 n2 c2)).setCell ⟨N, 3, none⟩ (.slice a3 n3 c3)).setCell ⟨N, 4, none⟩ (.slice a4 n4 c4)).setCell ⟨N, 5, none⟩ (.slice a5 n5 c5)).setCell ⟨N, 6, none⟩ (.slice a6 n6 c6)).heap.size := (below_setFrom (B := N) (b := N) (Nat.le_refl _) [.slice a0 n0 c0, .slice a1 n1 c1, .slice a2 n2 c2, .slice a3 n3 c3, .slice a4 n4 c4, .slice a5 n5 c5, .slice a6 n6 c6] 0 w9).size
  have E := (((((((CN9.put 0 (.slice a0 n0 c0) (by simp)).put 1 (.slice a1 n1 c1) (by simp)).put 2 (.slice a2 n2 c2) (by simp)).put 3 (.slice a3 n3 c3) (by simp)).put 4 (.slice a4 n4 c4) (by simp)).put 5 (.slice a5 n5 c5) (by simp)).put 6 (.slice a6 n6 c6) (by simp))
  have e0 : (((((((w9.setCell ⟨N, 0, none⟩ (.slice a0 n0 c0)).setCell ⟨N, 1, none⟩ (.slice a1 n1 c1)).setCell ⟨N, 2, none⟩ (.slice a2 n2 c2)).setCell ⟨N, 3, none⟩ (.slice a3 n3 c3)).setCell ⟨N, 4, none⟩ (.slice a4 n4 c4)).setCell ⟨N, 5, none⟩ (.slice a5 n5 c5)).setCell ⟨N, 6, none⟩ (.slice a6 n6 c6)).cell? ⟨N, 0, none⟩ = some (.slice a0 n0 c0) := E.2.1 0 _ rfl
  have e1 : (((((((w9.setCell ⟨N, 0, none⟩ (.slice a0 n0 c0)).setCell ⟨N, 1, none⟩ (.slice a1 n1 c1)).setCell ⟨N, 2, none⟩ (.slice a2 n2 c2)).setCell ⟨N, 3, none⟩ (.slice a3 n3 c3)).setCell ⟨N, 4, none⟩ (.slice a4 n4 c4)).setCell ⟨N, 5, none⟩ (.slice a5 n5 c5)).setCell ⟨N, 6, none⟩ (.slice a6 n6 c6)).cell? ⟨N, 1, none⟩ = some (.slice a1 n1 c1) := E.2.1 1 _ rfl
  have e2 : (((((((w9.setCell ⟨N, 0, none⟩ (.slice a0 n0 c0)).setCell ⟨N, 1, none⟩ (.slice a1 n1 c1)).setCell ⟨N, 2, none⟩ (.slice a2 n2 c2)).setCell ⟨N, 3, none⟩ (.slice a3 n3 c3)).setCell ⟨N, 4, none⟩ (.slice a4 n4 c4)).setCell ⟨N, 5, none⟩ (.slice a5 n5 c5)).setCell ⟨N, 6, none⟩ (.slice a6 n6 c6)).cell? ⟨N, 2, none⟩ = some (.slice a2 n2 c2) := E.2.1 2 _ rfl
  have e3 : (((((((w9.setCell ⟨N, 0, none⟩ (.slice a0 n0 c0)).setCell ⟨N, 1, none⟩ (.slice a1 n1 c1)).setCell ⟨N, 2, none⟩ (.slice a2 n2 c2)).setCell ⟨N, 3, none⟩ (.slice a3 n3 c3)).setCell ⟨N, 4, none⟩ (.slice a4 n4 c4)).setCell ⟨N, 5, none⟩ (.slice a5 n5 c5)).setCell ⟨N, 6, none⟩ (.slice a6 n6 c6)).cell? ⟨N, 3, none⟩ = some (.slice a3 n3 c3) := E.2.1 3 _ rfl
  have e4 : (((((((w9.setCell ⟨N, 0, none⟩ (.slice a0 n0 c0)).setCell ⟨N, 1, none⟩ (.slice a1 n1 c1)).setCell ⟨N, 2, none⟩ (.slice a2 n2 c2)).setCell ⟨N, 3, none⟩ (.slice a3 n3 c3)).setCell ⟨N, 4, none⟩ (.slice a4 n4 c4)).setCell ⟨N, 5, none⟩ (.slice a5 n5 c5)).setCell ⟨N, 6, none⟩ (.slice a6 n6 c6)).cell? ⟨N, 4, none⟩ = some (.slice a4 n4 c4) := E.2.1 4 _ rfl
  have e5 : (((((((w9.setCell ⟨N, 0, none⟩ (.slice a0 n0 c0)).setCell ⟨N, 1, none⟩ (.slice a1 n1 c1)).setCell ⟨N, 2, none⟩ (.slice a2 n2 c2)).setCell ⟨N, 3, none⟩ (.slice a3 n3 c3)).setCell ⟨N, 4, none⟩ (.slice a4 n4 c4)).setCell ⟨N, 5, none⟩ (.slice a5 n5 c5)).setCell ⟨N, 6, none⟩ (.slice a6 n6 c6)).cell? ⟨N, 5, none⟩ = some (.slice a5 n5 c5) := E.2.1 5 _ rfl
  have e6 : (((((((w9.setCell ⟨N, 0, none⟩ (.slice a0 n0 c0)).setCell ⟨N, 1, none⟩ (.slice a1 n1 c1)).setCell ⟨N, 2, none⟩ (.slice a2 n2 c2)).setCell ⟨N, 3, none⟩ (.slice a3 n3 c3)).setCell ⟨N, 4, none⟩ (.slice a4 n4 c4)).setCell ⟨N, 5, none⟩ (.slice a5 n5 c5)).setCell ⟨N, 6, none⟩ (.slice a6 n6 c6)).cell? ⟨N, 6, none⟩ = some (.slice a6 n6 c6) := E.2.1 6 _ rfl
  clear E
  go_simp
  generalize (((((((w9.setCell ⟨N, 0, none⟩ (.slice a0 n0 c0)).setCell ⟨N, 1, none⟩ (.slice a1 n1 c1)).setCell ⟨N, 2, none⟩ (.slice a2 n2 c2)).setCell ⟨N, 3, none⟩ (.slice a3 n3 c3)).setCell ⟨N, 4, none⟩ (.slice a4 n4 c4)).setCell ⟨N, 5, none⟩ (.slice a5 n5 c5)).setCell ⟨N, 6, none⟩ (.slice a6 n6 c6)) = wF at *
  refine hK.out _ _ (⟨hRKF, (World.cell?_of_block (hKP _ hRKF)).trans y0, (World.cell?_of_block (hKP _ hRKF)).trans y1, (World.cell?_of_block (hKP _ hRKF)).trans y2, (World.cell?_of_block (hKP _ hRKF)).trans y3, (World.cell?_of_block (hKP _ hRKF)).trans y4, (World.cell?_of_block (hKP _ hRKF)).trans y5, (World.cell?_of_block (hKP _ hRKF)).trans y6⟩) (fun hHeld => ?_)
  clear hK K
  refine held1 11 (some 3) hHeld ?_
  refine held1 12 (some 4) hHeld ?_
  refine held1 13 (some 5) hHeld ?_
  refine held1 14 (some 6) hHeld ?_
  refine wpAnyH_done (by kernel_rfl) ?_ _
  have hpF : PlantIn wF (⟨⟨a0, n0, c0⟩, ⟨a1, n1, c1⟩, ⟨a2, n2, c2⟩, ⟨a3, n3, c3⟩, ⟨a4, n4, c4⟩, ⟨a5, n5, c5⟩, ⟨a6, n6, c6⟩⟩ : PtR) p := HP1.out wF (fun k h1 h2 => (hRKF.blk k (by omega) (by omega) (by omega)).trans (hK6 k (by omega) (by omega)))
  have hdF : DemandsIn wF A2 ds.length ds := (hod6.blk (w' := wF) (fun k hlo hk hkl => hRKF.blk k (by omega) (hKg k hk) (by omega))).rows (by omega)
  have hlF : PlannedsIn wF B7 l.length l := (hol9.blk (w' := wF) (fun k hlo _ _ => hoF k (by have : w6.heap.size ≤ k := hlo; omega))).rows (by omega)
  have hbF := hRKF.bel
  clear hRK hRK7 hRK8 hRK9 hRKF CN6 CN9 CP6 hod6 hol9 hHeld
  go_wp2_with fail
  refine bodyPost_ret (v := .tuple #[.agg #[.slice a0 n0 c0, .slice a1 n1 c1, .slice a2 n2 c2, .slice a3 n3 c3, .slice a4 n4 c4, .slice a5 n5 c5, .slice a6 n6 c6], .slice A2 ds.length c2', .slice B7 l.length d7, .string s, .int .i64 day]) (by simp [results, Try.results5, go_sem, e0, e1, e2, e3, e4, e5, e6]) rfl ?_
  exact ⟨_, p, ds, A2, c2', l, B7, d7, s, day, rfl, HOK.out, HOD.out, hcap, HOL.out, hll, hsz, hday, hpF, hdF, hlF, by rw [hN]; exact hbF⟩
end Go.Proofs.Ytlkolehdikfddaa
