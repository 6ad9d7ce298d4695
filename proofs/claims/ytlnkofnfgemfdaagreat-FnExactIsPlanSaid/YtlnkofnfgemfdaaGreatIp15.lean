/- Part 15 of the texts of this claim: A plant: seven slices; the walks of the laws' own helpers on it; The walks of IsPlant. -/
import Derived.Test.YtlnkofnfgemfdaaGreatIp5
import Derived.Test.YtlnkofnfgemfdaaGreatIp2
import Derived.Test.YtlnkofnfgemfdaaGreatIp9
import Derived.Test.YtlnkofnfgemfdaaGreatIp12
import Derived.Test.YtlnkofnfgemfdaaGreatIp13
import Derived.Test.YtlnkofnfgemfdaaGreatIp14
import Derived.Test.YtlnkofnfgemfdaaGreatIp8
/- A plant: seven slices; the walks of the laws' own helpers on it. -/
namespace Go.Proofs.YtlnkofnfgemfdaaGreat
open Go.RowKit
/-- A slice's parts. -/
structure Sls where
  a : Option Addr
  n : Nat
  c : Nat
/-- A plant's slices: items, lines, the calendar's week and exceptions, choice, stock, receipts. -/
structure PtR where
  i : Sls
  l : Sls
  w : Sls
  e : Sls
  p : Sls
  s : Sls
  q : Sls
structure Pt where
  it : List It
  ls : List Bl
  wk : List Int
  ex : List Ex
  ch : List Pk
  st : List Nd
  rc : List Rc
abbrev PtR.v (r : PtR) : Value := .agg #[.slice r.i.a r.i.n r.i.c, .slice r.l.a r.l.n r.l.c, .slice r.w.a r.w.n r.w.c, .slice r.e.a r.e.n r.e.c, .slice r.p.a r.p.n r.p.c, .slice r.s.a r.s.n r.s.c, .slice r.q.a r.q.n r.q.c]
structure PlantIn (w : World) (r : PtR) (p : Pt) : Prop where
  it : ItemsIn w r.i.a r.i.n p.it
  ls : BillLinesIn w r.l.a r.l.n p.ls
  wk : IntsIn w r.w.a r.w.n p.wk
  ex : ExsIn w r.e.a r.e.n p.ex
  ch : PicksIn w r.p.a r.p.n p.ch
  st : NeedsIn w r.s.a r.s.n p.st
  rc : ReceiptsIn w r.q.a r.q.n p.rc
theorem PlantIn.keep {w w' : World} {r : PtR} {p : Pt} (h : PlantIn w r p) (hb : Below w.heap.size w w') : PlantIn w' r p := ⟨h.it.keep hb, h.ls.keep hb, h.wk.keep hb, h.ex.keep hb, h.ch.keep hb, h.st.keep hb, h.rc.keep hb⟩
structure okPt (p : Pt) : Prop where
  it : ∀ x ∈ p.it, okIt x
  ls : ∀ x ∈ p.ls, okBl x
  ch : ∀ x ∈ p.ch, okPk x
  st : ∀ x ∈ p.st, okNd x
  rc : ∀ x ∈ p.rc, okRc x
theorem BoxOf.seven {w : World} {N : Nat} {x0 x1 x2 x3 x4 x5 x6 : Value} (h : BoxOf w N [x0, x1, x2, x3, x4, x5, x6]) : w.cell? ⟨N, 0, none⟩ = some x0 ∧ w.cell? ⟨N, 1, none⟩ = some x1 ∧ w.cell? ⟨N, 2, none⟩ = some x2 ∧ w.cell? ⟨N, 3, none⟩ = some x3 ∧ w.cell? ⟨N, 4, none⟩ = some x4 ∧ w.cell? ⟨N, 5, none⟩ = some x5 ∧ w.cell? ⟨N, 6, none⟩ = some x6 ∧ N < w.heap.size := ⟨h.2 0 _ rfl, h.2 1 _ rfl, h.2 2 _ rfl, h.2 3 _ rfl, h.2 4 _ rfl, h.2 5 _ rfl, h.2 6 _ rfl, h.1⟩
theorem BoxOf.set {w : World} {N : Nat} {cs : List Value} (h : BoxOf w N cs) (hf : ∀ j, w.frozen? ⟨N, j, none⟩ = false) (j : Nat) (v : Value) (hj : j < cs.length) : BoxOf (w.setCell ⟨N, j, none⟩ v) N (cs.set j v) := by
  refine ⟨by simpa using h.1, fun i u hu => ?_⟩
  by_cases hij : j = i
  · subst hij
    rw [List.getElem?_set_self hj] at hu
    obtain rfl := Option.some.inj hu
    have := h.2 j _ (List.getElem?_eq_getElem hj)
    exact World.cell?_setCell_same _ _ _ this
  · rw [List.getElem?_set_ne hij] at hu
    rw [World.cell?_setCell_other _ _ _ _ (by intro e; injection e; contradiction)]
    exact h.2 i u hu
theorem BoxOf.off {w : World} {N : Nat} {cs : List Value} (h : BoxOf w N cs) {p : Addr} (hp : p.block ≠ N) (v : Value) : BoxOf (w.setCell p v) N cs :=
  ⟨by simpa using h.1, fun j u hu => by rw [World.cell?_setCell_other _ _ _ _ (by intro e; subst e; exact hp rfl)]; exact h.2 j u hu⟩
theorem frozen_set {w : World} {N M : Nat} (h : ∀ j, w.frozen? ⟨N, j, none⟩ = false) (i : Nat) (v : Value) : ∀ j, (w.setCell ⟨M, i, none⟩ v).frozen? ⟨N, j, none⟩ = false := fun j => by simp [go_sem, h]
set_option maxRecDepth 100000 in
set_option maxHeartbeats 4000000 in
theorem toPlant_any (r : PtR) (p : Pt) (w : World) (hp : PlantIn w r p) :
    Calls Tryz.prog 10 #[.agg #[.slice r.i.a r.i.n r.i.c, .slice r.l.a r.l.n r.l.c, .slice r.w.a r.w.n r.w.c, .slice r.e.a r.e.n r.e.c, .slice r.p.a r.p.n r.p.c, .slice r.s.a r.s.n r.s.c, .slice r.q.a r.q.n r.q.c]] w fun e w' => ∃ r' : PtR, e = .returned (.agg #[.slice r'.i.a r'.i.n r'.i.c, .slice r'.l.a r'.l.n r'.l.c, .slice r'.w.a r'.w.n r'.w.c, .slice r'.e.a r'.e.n r'.e.c, .slice r'.p.a r'.p.n r'.p.c, .slice r'.s.a r'.s.n r'.s.c, .slice r'.q.a r'.q.n r'.q.c]) ∧ PlantIn w' r' p ∧ Below w.heap.size w w' := by
  have hb0 : Below w.heap.size w (((w.alloc (.cells #[.slice r.i.a r.i.n r.i.c, .slice r.l.a r.l.n r.l.c, .slice r.w.a r.w.n r.w.c, .slice r.e.a r.e.n r.e.c, .slice r.p.a r.p.n r.p.c, .slice r.s.a r.s.n r.s.c, .slice r.q.a r.q.n r.q.c] 32)).alloc (.cells #[.slice none 0 0, .slice none 0 0, .slice none 0 0, .slice none 0 0, .slice none 0 0, .slice none 0 0, .slice none 0 0] 48)).alloc (.cells #[.slice none 0 0, .slice none 0 0, .slice none 0 0, .slice none 0 0, .slice none 0 0, .slice none 0 0, .slice none 0 0] 48)) := (((Below.refl _ _).alloc (Nat.le_refl _) _).alloc (by simp) _).alloc (by simp; omega) _
  have hz0 : (((w.alloc (.cells #[.slice r.i.a r.i.n r.i.c, .slice r.l.a r.l.n r.l.c, .slice r.w.a r.w.n r.w.c, .slice r.e.a r.e.n r.e.c, .slice r.p.a r.p.n r.p.c, .slice r.s.a r.s.n r.s.c, .slice r.q.a r.q.n r.q.c] 32)).alloc (.cells #[.slice none 0 0, .slice none 0 0, .slice none 0 0, .slice none 0 0, .slice none 0 0, .slice none 0 0, .slice none 0 0] 48)).alloc (.cells #[.slice none 0 0, .slice none 0 0, .slice none 0 0, .slice none 0 0, .slice none 0 0, .slice none 0 0, .slice none 0 0] 48)).heap.size = w.heap.size + 3 := by simp
  have B0 : BoxOf (((w.alloc (.cells #[.slice r.i.a r.i.n r.i.c, .slice r.l.a r.l.n r.l.c, .slice r.w.a r.w.n r.w.c, .slice r.e.a r.e.n r.e.c, .slice r.p.a r.p.n r.p.c, .slice r.s.a r.s.n r.s.c, .slice r.q.a r.q.n r.q.c] 32)).alloc (.cells #[.slice none 0 0, .slice none 0 0, .slice none 0 0, .slice none 0 0, .slice none 0 0, .slice none 0 0, .slice none 0 0] 48)).alloc (.cells #[.slice none 0 0, .slice none 0 0, .slice none 0 0, .slice none 0 0, .slice none 0 0, .slice none 0 0, .slice none 0 0] 48)) w.heap.size [.slice r.i.a r.i.n r.i.c, .slice r.l.a r.l.n r.l.c, .slice r.w.a r.w.n r.w.c, .slice r.e.a r.e.n r.e.c, .slice r.p.a r.p.n r.p.c, .slice r.s.a r.s.n r.s.c, .slice r.q.a r.q.n r.q.c] := ((boxOf_alloc w #[.slice r.i.a r.i.n r.i.c, .slice r.l.a r.l.n r.l.c, .slice r.w.a r.w.n r.w.c, .slice r.e.a r.e.n r.e.c, .slice r.p.a r.p.n r.p.c, .slice r.s.a r.s.n r.s.c, .slice r.q.a r.q.n r.q.c] 32).keep (below_alloc _ _)).keep (below_alloc _ _)
  have B1 : BoxOf (((w.alloc (.cells #[.slice r.i.a r.i.n r.i.c, .slice r.l.a r.l.n r.l.c, .slice r.w.a r.w.n r.w.c, .slice r.e.a r.e.n r.e.c, .slice r.p.a r.p.n r.p.c, .slice r.s.a r.s.n r.s.c, .slice r.q.a r.q.n r.q.c] 32)).alloc (.cells #[.slice none 0 0, .slice none 0 0, .slice none 0 0, .slice none 0 0, .slice none 0 0, .slice none 0 0, .slice none 0 0] 48)).alloc (.cells #[.slice none 0 0, .slice none 0 0, .slice none 0 0, .slice none 0 0, .slice none 0 0, .slice none 0 0, .slice none 0 0] 48)) (w.heap.size + 1) [.slice none 0 0, .slice none 0 0, .slice none 0 0, .slice none 0 0, .slice none 0 0, .slice none 0 0, .slice none 0 0] := by simpa using (boxOf_alloc (w.alloc (.cells #[.slice r.i.a r.i.n r.i.c, .slice r.l.a r.l.n r.l.c, .slice r.w.a r.w.n r.w.c, .slice r.e.a r.e.n r.e.c, .slice r.p.a r.p.n r.p.c, .slice r.s.a r.s.n r.s.c, .slice r.q.a r.q.n r.q.c] 32)) #[.slice none 0 0, .slice none 0 0, .slice none 0 0, .slice none 0 0, .slice none 0 0, .slice none 0 0, .slice none 0 0] 48).keep (below_alloc _ (.cells #[.slice none 0 0, .slice none 0 0, .slice none 0 0, .slice none 0 0, .slice none 0 0, .slice none 0 0, .slice none 0 0] 48))
  have B2 : BoxOf (((w.alloc (.cells #[.slice r.i.a r.i.n r.i.c, .slice r.l.a r.l.n r.l.c, .slice r.w.a r.w.n r.w.c, .slice r.e.a r.e.n r.e.c, .slice r.p.a r.p.n r.p.c, .slice r.s.a r.s.n r.s.c, .slice r.q.a r.q.n r.q.c] 32)).alloc (.cells #[.slice none 0 0, .slice none 0 0, .slice none 0 0, .slice none 0 0, .slice none 0 0, .slice none 0 0, .slice none 0 0] 48)).alloc (.cells #[.slice none 0 0, .slice none 0 0, .slice none 0 0, .slice none 0 0, .slice none 0 0, .slice none 0 0, .slice none 0 0] 48)) (w.heap.size + 1 + 1) [.slice none 0 0, .slice none 0 0, .slice none 0 0, .slice none 0 0, .slice none 0 0, .slice none 0 0, .slice none 0 0] := by simpa using boxOf_alloc ((w.alloc (.cells #[.slice r.i.a r.i.n r.i.c, .slice r.l.a r.l.n r.l.c, .slice r.w.a r.w.n r.w.c, .slice r.e.a r.e.n r.e.c, .slice r.p.a r.p.n r.p.c, .slice r.s.a r.s.n r.s.c, .slice r.q.a r.q.n r.q.c] 32)).alloc (.cells #[.slice none 0 0, .slice none 0 0, .slice none 0 0, .slice none 0 0, .slice none 0 0, .slice none 0 0, .slice none 0 0] 48)) #[.slice none 0 0, .slice none 0 0, .slice none 0 0, .slice none 0 0, .slice none 0 0, .slice none 0 0, .slice none 0 0] 48
  have f1 : ∀ j, (((w.alloc (.cells #[.slice r.i.a r.i.n r.i.c, .slice r.l.a r.l.n r.l.c, .slice r.w.a r.w.n r.w.c, .slice r.e.a r.e.n r.e.c, .slice r.p.a r.p.n r.p.c, .slice r.s.a r.s.n r.s.c, .slice r.q.a r.q.n r.q.c] 32)).alloc (.cells #[.slice none 0 0, .slice none 0 0, .slice none 0 0, .slice none 0 0, .slice none 0 0, .slice none 0 0, .slice none 0 0] 48)).alloc (.cells #[.slice none 0 0, .slice none 0 0, .slice none 0 0, .slice none 0 0, .slice none 0 0, .slice none 0 0, .slice none 0 0] 48)).frozen? ⟨w.heap.size + 1, j, none⟩ = false := fun j => by simp [go_sem]
  have f2 : ∀ j, (((w.alloc (.cells #[.slice r.i.a r.i.n r.i.c, .slice r.l.a r.l.n r.l.c, .slice r.w.a r.w.n r.w.c, .slice r.e.a r.e.n r.e.c, .slice r.p.a r.p.n r.p.c, .slice r.s.a r.s.n r.s.c, .slice r.q.a r.q.n r.q.c] 32)).alloc (.cells #[.slice none 0 0, .slice none 0 0, .slice none 0 0, .slice none 0 0, .slice none 0 0, .slice none 0 0, .slice none 0 0] 48)).alloc (.cells #[.slice none 0 0, .slice none 0 0, .slice none 0 0, .slice none 0 0, .slice none 0 0, .slice none 0 0, .slice none 0 0] 48)).frozen? ⟨w.heap.size + 1 + 1, j, none⟩ = false := fun j => by simp [go_sem]
  have HP := Lib.hid hp
  clear hp
  go_enter Tryz.func10, Tryz.ntmps10
  go_wp2_with fail
  generalize (((w.alloc (.cells #[.slice r.i.a r.i.n r.i.c, .slice r.l.a r.l.n r.l.c, .slice r.w.a r.w.n r.w.c, .slice r.e.a r.e.n r.e.c, .slice r.p.a r.p.n r.p.c, .slice r.s.a r.s.n r.s.c, .slice r.q.a r.q.n r.q.c] 32)).alloc (.cells #[.slice none 0 0, .slice none 0 0, .slice none 0 0, .slice none 0 0, .slice none 0 0, .slice none 0 0, .slice none 0 0] 48)).alloc (.cells #[.slice none 0 0, .slice none 0 0, .slice none 0 0, .slice none 0 0, .slice none 0 0, .slice none 0 0, .slice none 0 0] 48)) = W0 at *
  generalize hN2 : w.heap.size + 1 + 1 = N2 at *
  have lz : N2 + 1 ≤ W0.heap.size := by omega
  clear hz0
  have hq0 := HP.out.keep hb0
  have hlen0 := hq0.it.len
  refine (toItemS_any _ _ _ p.it _ hq0.it).mono ?_
  rintro e V0 ⟨A0, rfl, o0, hs⟩
  replace o0 := o0.lower lz
  clear hq0
  replace B0 := B0.keep hs
  replace f1 := fun j => (hs.frozen (p := ⟨w.heap.size + 1, j, none⟩) B1.1).trans (f1 j)
  replace f2 := fun j => (hs.frozen (p := ⟨N2, j, none⟩) B2.1).trans (f2 j)
  replace B1 := B1.keep hs
  replace B2 := B2.keep hs
  replace lz := Nat.le_trans lz hs.size
  replace hb0 := below_on hb0 hs
  clear hs
  obtain ⟨b0, b1, b2, b3, b4, b5, b6, bl⟩ := B0.seven
  obtain ⟨e0, e1, e2, e3, e4, e5, e6, el⟩ := B2.seven
  go_wp2_with fail
  clear b0 b1 b2 b3 b4 b5 b6 bl e0 e1 e2 e3 e4 e5 e6 el
  replace B2 := B2.set f2 0 (.slice A0 r.i.n r.i.n) (by simp)
  simp only [List.set_cons_zero, List.set_cons_succ] at B2
  replace f2 := frozen_set (M := N2) f2 0 (.slice A0 r.i.n r.i.n)
  replace f1 := frozen_set (M := N2) f1 0 (.slice A0 r.i.n r.i.n)
  replace B0 := B0.off (p := ⟨N2, 0, none⟩) (by show N2 ≠ _; omega) (.slice A0 r.i.n r.i.n)
  replace B1 := B1.off (p := ⟨N2, 0, none⟩) (by show N2 ≠ _; omega) (.slice A0 r.i.n r.i.n)
  replace o0 := o0.far (p := ⟨N2, 0, none⟩) (by show N2 < _; omega) (.slice A0 r.i.n r.i.n)
  replace hb0 := hb0.setCell (p := ⟨N2, 0, none⟩) (by show _ ≤ N2; omega) (.slice A0 r.i.n r.i.n)
  have lz2 : N2 + 1 ≤ (V0.setCell ⟨N2, 0, none⟩ (.slice A0 r.i.n r.i.n)).heap.size := by simpa using lz
  replace lz := lz2
  clear lz2
  generalize (V0.setCell ⟨N2, 0, none⟩ (.slice A0 r.i.n r.i.n)) = U0 at *
  have hq1 := HP.out.keep hb0
  have hlen1 := hq1.ls.len
  refine (toBillLineS_any _ _ _ p.ls _ hq1.ls).mono ?_
  rintro e V1 ⟨A1, rfl, o1, hs⟩
  replace o1 := o1.lower lz
  clear hq1
  replace o0 := o0.keep hs
  replace B0 := B0.keep hs
  replace f1 := fun j => (hs.frozen (p := ⟨w.heap.size + 1, j, none⟩) B1.1).trans (f1 j)
  replace f2 := fun j => (hs.frozen (p := ⟨N2, j, none⟩) B2.1).trans (f2 j)
  replace B1 := B1.keep hs
  replace B2 := B2.keep hs
  replace lz := Nat.le_trans lz hs.size
  replace hb0 := below_on hb0 hs
  clear hs
  obtain ⟨b0, b1, b2, b3, b4, b5, b6, bl⟩ := B0.seven
  obtain ⟨e0, e1, e2, e3, e4, e5, e6, el⟩ := B2.seven
  go_wp2_with fail
  clear b0 b1 b2 b3 b4 b5 b6 bl e0 e1 e2 e3 e4 e5 e6 el
  replace B2 := B2.set f2 1 (.slice A1 r.l.n r.l.n) (by simp)
  simp only [List.set_cons_zero, List.set_cons_succ] at B2
  replace f2 := frozen_set (M := N2) f2 1 (.slice A1 r.l.n r.l.n)
  replace f1 := frozen_set (M := N2) f1 1 (.slice A1 r.l.n r.l.n)
  replace B0 := B0.off (p := ⟨N2, 1, none⟩) (by show N2 ≠ _; omega) (.slice A1 r.l.n r.l.n)
  replace B1 := B1.off (p := ⟨N2, 1, none⟩) (by show N2 ≠ _; omega) (.slice A1 r.l.n r.l.n)
  replace o0 := o0.far (p := ⟨N2, 1, none⟩) (by show N2 < _; omega) (.slice A1 r.l.n r.l.n)
  replace o1 := o1.far (p := ⟨N2, 1, none⟩) (by show N2 < _; omega) (.slice A1 r.l.n r.l.n)
  replace hb0 := hb0.setCell (p := ⟨N2, 1, none⟩) (by show _ ≤ N2; omega) (.slice A1 r.l.n r.l.n)
  have lz2 : N2 + 1 ≤ (V1.setCell ⟨N2, 1, none⟩ (.slice A1 r.l.n r.l.n)).heap.size := by simpa using lz
  replace lz := lz2
  clear lz2
  generalize (V1.setCell ⟨N2, 1, none⟩ (.slice A1 r.l.n r.l.n)) = U1 at *
  have hq2 := HP.out.keep hb0
  have hlen2 := hq2.wk.len
  have hlen3 := hq2.ex.len
  refine (toCalendar_own _ _ _ _ _ _ p.wk p.ex _ hq2.wk hq2.ex).mono ?_
  rintro e V2 ⟨A2, A3, M, rfl, hM, o2, o3, hs⟩
  replace o2 := o2.own.lower lz
  replace o3 := o3.own.lower (Nat.le_trans lz hM)
  clear hM
  clear hq2
  replace o0 := o0.keep hs
  replace o1 := o1.keep hs
  replace B0 := B0.keep hs
  replace f1 := fun j => (hs.frozen (p := ⟨w.heap.size + 1, j, none⟩) B1.1).trans (f1 j)
  replace f2 := fun j => (hs.frozen (p := ⟨N2, j, none⟩) B2.1).trans (f2 j)
  replace B1 := B1.keep hs
  replace B2 := B2.keep hs
  replace lz := Nat.le_trans lz hs.size
  replace hb0 := below_on hb0 hs
  clear hs
  obtain ⟨b0, b1, b2, b3, b4, b5, b6, bl⟩ := B0.seven
  obtain ⟨e0, e1, e2, e3, e4, e5, e6, el⟩ := B2.seven
  go_wp2_with fail
  clear b0 b1 b2 b3 b4 b5 b6 bl e0 e1 e2 e3 e4 e5 e6 el
  replace B2 := B2.set f2 2 (.slice A2 r.w.n r.w.n) (by simp)
  simp only [List.set_cons_zero, List.set_cons_succ] at B2
  replace f2 := frozen_set (M := N2) f2 2 (.slice A2 r.w.n r.w.n)
  replace f1 := frozen_set (M := N2) f1 2 (.slice A2 r.w.n r.w.n)
  replace B0 := B0.off (p := ⟨N2, 2, none⟩) (by show N2 ≠ _; omega) (.slice A2 r.w.n r.w.n)
  replace B1 := B1.off (p := ⟨N2, 2, none⟩) (by show N2 ≠ _; omega) (.slice A2 r.w.n r.w.n)
  replace o0 := o0.far (p := ⟨N2, 2, none⟩) (by show N2 < _; omega) (.slice A2 r.w.n r.w.n)
  replace o1 := o1.far (p := ⟨N2, 2, none⟩) (by show N2 < _; omega) (.slice A2 r.w.n r.w.n)
  replace o2 := o2.far (p := ⟨N2, 2, none⟩) (by show N2 < _; omega) (.slice A2 r.w.n r.w.n)
  replace o3 := o3.far (p := ⟨N2, 2, none⟩) (by show N2 < _; omega) (.slice A2 r.w.n r.w.n)
  replace hb0 := hb0.setCell (p := ⟨N2, 2, none⟩) (by show _ ≤ N2; omega) (.slice A2 r.w.n r.w.n)
  replace B2 := B2.set f2 3 (.slice A3 r.e.n r.e.n) (by simp)
  simp only [List.set_cons_zero, List.set_cons_succ] at B2
  replace f2 := frozen_set (M := N2) f2 3 (.slice A3 r.e.n r.e.n)
  replace f1 := frozen_set (M := N2) f1 3 (.slice A3 r.e.n r.e.n)
  replace B0 := B0.off (p := ⟨N2, 3, none⟩) (by show N2 ≠ _; omega) (.slice A3 r.e.n r.e.n)
  replace B1 := B1.off (p := ⟨N2, 3, none⟩) (by show N2 ≠ _; omega) (.slice A3 r.e.n r.e.n)
  replace o0 := o0.far (p := ⟨N2, 3, none⟩) (by show N2 < _; omega) (.slice A3 r.e.n r.e.n)
  replace o1 := o1.far (p := ⟨N2, 3, none⟩) (by show N2 < _; omega) (.slice A3 r.e.n r.e.n)
  replace o2 := o2.far (p := ⟨N2, 3, none⟩) (by show N2 < _; omega) (.slice A3 r.e.n r.e.n)
  replace o3 := o3.far (p := ⟨N2, 3, none⟩) (by show N2 < _; omega) (.slice A3 r.e.n r.e.n)
  replace hb0 := hb0.setCell (p := ⟨N2, 3, none⟩) (by show _ ≤ N2; omega) (.slice A3 r.e.n r.e.n)
  have lz2 : N2 + 1 ≤ ((V2.setCell ⟨N2, 2, none⟩ (.slice A2 r.w.n r.w.n)).setCell ⟨N2, 3, none⟩ (.slice A3 r.e.n r.e.n)).heap.size := by simpa using lz
  replace lz := lz2
  clear lz2
  generalize ((V2.setCell ⟨N2, 2, none⟩ (.slice A2 r.w.n r.w.n)).setCell ⟨N2, 3, none⟩ (.slice A3 r.e.n r.e.n)) = U2 at *
  have hq3 := HP.out.keep hb0
  have hlen4 := hq3.ch.len
  refine (toPickS_any _ _ _ p.ch _ hq3.ch).mono ?_
  rintro e V3 ⟨A4, rfl, o4, hs⟩
  replace o4 := o4.lower lz
  clear hq3
  replace o0 := o0.keep hs
  replace o1 := o1.keep hs
  replace o2 := o2.keep hs
  replace o3 := o3.keep hs
  replace B0 := B0.keep hs
  replace f1 := fun j => (hs.frozen (p := ⟨w.heap.size + 1, j, none⟩) B1.1).trans (f1 j)
  replace f2 := fun j => (hs.frozen (p := ⟨N2, j, none⟩) B2.1).trans (f2 j)
  replace B1 := B1.keep hs
  replace B2 := B2.keep hs
  replace lz := Nat.le_trans lz hs.size
  replace hb0 := below_on hb0 hs
  clear hs
  obtain ⟨b0, b1, b2, b3, b4, b5, b6, bl⟩ := B0.seven
  obtain ⟨e0, e1, e2, e3, e4, e5, e6, el⟩ := B2.seven
  go_wp2_with fail
  clear b0 b1 b2 b3 b4 b5 b6 bl e0 e1 e2 e3 e4 e5 e6 el
  replace B2 := B2.set f2 4 (.slice A4 r.p.n r.p.n) (by simp)
  simp only [List.set_cons_zero, List.set_cons_succ] at B2
  replace f2 := frozen_set (M := N2) f2 4 (.slice A4 r.p.n r.p.n)
  replace f1 := frozen_set (M := N2) f1 4 (.slice A4 r.p.n r.p.n)
  replace B0 := B0.off (p := ⟨N2, 4, none⟩) (by show N2 ≠ _; omega) (.slice A4 r.p.n r.p.n)
  replace B1 := B1.off (p := ⟨N2, 4, none⟩) (by show N2 ≠ _; omega) (.slice A4 r.p.n r.p.n)
  replace o0 := o0.far (p := ⟨N2, 4, none⟩) (by show N2 < _; omega) (.slice A4 r.p.n r.p.n)
  replace o1 := o1.far (p := ⟨N2, 4, none⟩) (by show N2 < _; omega) (.slice A4 r.p.n r.p.n)
  replace o2 := o2.far (p := ⟨N2, 4, none⟩) (by show N2 < _; omega) (.slice A4 r.p.n r.p.n)
  replace o3 := o3.far (p := ⟨N2, 4, none⟩) (by show N2 < _; omega) (.slice A4 r.p.n r.p.n)
  replace o4 := o4.far (p := ⟨N2, 4, none⟩) (by show N2 < _; omega) (.slice A4 r.p.n r.p.n)
  replace hb0 := hb0.setCell (p := ⟨N2, 4, none⟩) (by show _ ≤ N2; omega) (.slice A4 r.p.n r.p.n)
  have lz2 : N2 + 1 ≤ (V3.setCell ⟨N2, 4, none⟩ (.slice A4 r.p.n r.p.n)).heap.size := by simpa using lz
  replace lz := lz2
  clear lz2
  generalize (V3.setCell ⟨N2, 4, none⟩ (.slice A4 r.p.n r.p.n)) = U3 at *
  have hq4 := HP.out.keep hb0
  have hlen5 := hq4.st.len
  refine (toNeedS_any _ _ _ p.st _ hq4.st).mono ?_
  rintro e V4 ⟨A5, rfl, o5, hs⟩
  replace o5 := o5.lower lz
  clear hq4
  replace o0 := o0.keep hs
  replace o1 := o1.keep hs
  replace o2 := o2.keep hs
  replace o3 := o3.keep hs
  replace o4 := o4.keep hs
  replace B0 := B0.keep hs
  replace f1 := fun j => (hs.frozen (p := ⟨w.heap.size + 1, j, none⟩) B1.1).trans (f1 j)
  replace f2 := fun j => (hs.frozen (p := ⟨N2, j, none⟩) B2.1).trans (f2 j)
  replace B1 := B1.keep hs
  replace B2 := B2.keep hs
  replace lz := Nat.le_trans lz hs.size
  replace hb0 := below_on hb0 hs
  clear hs
  obtain ⟨b0, b1, b2, b3, b4, b5, b6, bl⟩ := B0.seven
  obtain ⟨e0, e1, e2, e3, e4, e5, e6, el⟩ := B2.seven
  go_wp2_with fail
  clear b0 b1 b2 b3 b4 b5 b6 bl e0 e1 e2 e3 e4 e5 e6 el
  replace B2 := B2.set f2 5 (.slice A5 r.s.n r.s.n) (by simp)
  simp only [List.set_cons_zero, List.set_cons_succ] at B2
  replace f2 := frozen_set (M := N2) f2 5 (.slice A5 r.s.n r.s.n)
  replace f1 := frozen_set (M := N2) f1 5 (.slice A5 r.s.n r.s.n)
  replace B0 := B0.off (p := ⟨N2, 5, none⟩) (by show N2 ≠ _; omega) (.slice A5 r.s.n r.s.n)
  replace B1 := B1.off (p := ⟨N2, 5, none⟩) (by show N2 ≠ _; omega) (.slice A5 r.s.n r.s.n)
  replace o0 := o0.far (p := ⟨N2, 5, none⟩) (by show N2 < _; omega) (.slice A5 r.s.n r.s.n)
  replace o1 := o1.far (p := ⟨N2, 5, none⟩) (by show N2 < _; omega) (.slice A5 r.s.n r.s.n)
  replace o2 := o2.far (p := ⟨N2, 5, none⟩) (by show N2 < _; omega) (.slice A5 r.s.n r.s.n)
  replace o3 := o3.far (p := ⟨N2, 5, none⟩) (by show N2 < _; omega) (.slice A5 r.s.n r.s.n)
  replace o4 := o4.far (p := ⟨N2, 5, none⟩) (by show N2 < _; omega) (.slice A5 r.s.n r.s.n)
  replace o5 := o5.far (p := ⟨N2, 5, none⟩) (by show N2 < _; omega) (.slice A5 r.s.n r.s.n)
  replace hb0 := hb0.setCell (p := ⟨N2, 5, none⟩) (by show _ ≤ N2; omega) (.slice A5 r.s.n r.s.n)
  have lz2 : N2 + 1 ≤ (V4.setCell ⟨N2, 5, none⟩ (.slice A5 r.s.n r.s.n)).heap.size := by simpa using lz
  replace lz := lz2
  clear lz2
  generalize (V4.setCell ⟨N2, 5, none⟩ (.slice A5 r.s.n r.s.n)) = U4 at *
  have hq5 := HP.out.keep hb0
  have hlen6 := hq5.rc.len
  refine (toReceiptS_any _ _ _ p.rc _ hq5.rc).mono ?_
  rintro e V5 ⟨A6, rfl, o6, hs⟩
  replace o6 := o6.lower lz
  clear hq5
  replace o0 := o0.keep hs
  replace o1 := o1.keep hs
  replace o2 := o2.keep hs
  replace o3 := o3.keep hs
  replace o4 := o4.keep hs
  replace o5 := o5.keep hs
  replace B0 := B0.keep hs
  replace f1 := fun j => (hs.frozen (p := ⟨w.heap.size + 1, j, none⟩) B1.1).trans (f1 j)
  replace f2 := fun j => (hs.frozen (p := ⟨N2, j, none⟩) B2.1).trans (f2 j)
  replace B1 := B1.keep hs
  replace B2 := B2.keep hs
  replace lz := Nat.le_trans lz hs.size
  replace hb0 := below_on hb0 hs
  clear hs
  obtain ⟨b0, b1, b2, b3, b4, b5, b6, bl⟩ := B1.seven
  obtain ⟨e0, e1, e2, e3, e4, e5, e6, el⟩ := B2.seven
  go_wp2_with fail
  have hne : N2 ≠ w.heap.size + 1 := by omega
  have ll : w.heap.size + 1 < N2 := by omega
  refine bodyPost_ret (v := .agg #[.slice A0 r.i.n r.i.n, .slice A1 r.l.n r.l.n, .slice A2 r.w.n r.w.n, .slice A3 r.e.n r.e.n, .slice A4 r.p.n r.p.n, .slice A5 r.s.n r.s.n, .slice A6 r.q.n r.q.n]) (by simp [results, Tryz.results10, go_sem, b0, b1, b2, b3, b4, b5, b6, e0, e1, e2, e3, e4, e5, e6, f1, f2, hne, hne.symm]) rfl ⟨⟨⟨A0, r.i.n, r.i.n⟩, ⟨A1, r.l.n, r.l.n⟩, ⟨A2, r.w.n, r.w.n⟩, ⟨A3, r.e.n, r.e.n⟩, ⟨A4, r.p.n, r.p.n⟩, ⟨A5, r.s.n, r.s.n⟩, ⟨A6, r.q.n, r.q.n⟩⟩, rfl, ?_, ?_⟩
  · exact ⟨((((((((o0.far (by dsimp only; omega) _).far (by dsimp only; omega) _).far (by dsimp only; omega) _).far (by dsimp only; omega) _).far (by dsimp only; omega) _).far (by dsimp only; omega) _).far (by dsimp only; omega) _).far (by dsimp only; omega) _).rows hlen0, ((((((((o1.far (by dsimp only; omega) _).far (by dsimp only; omega) _).far (by dsimp only; omega) _).far (by dsimp only; omega) _).far (by dsimp only; omega) _).far (by dsimp only; omega) _).far (by dsimp only; omega) _).far (by dsimp only; omega) _).rows hlen1, ((((((((o2.far (by dsimp only; omega) _).far (by dsimp only; omega) _).far (by dsimp only; omega) _).far (by dsimp only; omega) _).far (by dsimp only; omega) _).far (by dsimp only; omega) _).far (by dsimp only; omega) _).far (by dsimp only; omega) _).ints hlen2, ((((((((o3.far (by dsimp only; omega) _).far (by dsimp only; omega) _).far (by dsimp only; omega) _).far (by dsimp only; omega) _).far (by dsimp only; omega) _).far (by dsimp only; omega) _).far (by dsimp only; omega) _).far (by dsimp only; omega) _).rows hlen3, ((((((((o4.far (by dsimp only; omega) _).far (by dsimp only; omega) _).far (by dsimp only; omega) _).far (by dsimp only; omega) _).far (by dsimp only; omega) _).far (by dsimp only; omega) _).far (by dsimp only; omega) _).far (by dsimp only; omega) _).rows hlen4, ((((((((o5.far (by dsimp only; omega) _).far (by dsimp only; omega) _).far (by dsimp only; omega) _).far (by dsimp only; omega) _).far (by dsimp only; omega) _).far (by dsimp only; omega) _).far (by dsimp only; omega) _).far (by dsimp only; omega) _).rows hlen5, ((((((((o6.far (by dsimp only; omega) _).far (by dsimp only; omega) _).far (by dsimp only; omega) _).far (by dsimp only; omega) _).far (by dsimp only; omega) _).far (by dsimp only; omega) _).far (by dsimp only; omega) _).far (by dsimp only; omega) _).rows hlen6⟩
  · exact ((((((((hb0.setCell (by simp; omega) _).setCell (by simp) _).setCell (by simp) _).setCell (by simp) _).setCell (by simp) _).setCell (by simp) _).setCell (by simp) _).setCell (by simp) _)
set_option maxRecDepth 100000 in
set_option maxHeartbeats 4000000 in
theorem eqPlant_yes (r t : PtR) (p : Pt) (w : World) (hr : PlantIn w r p) (ht : PlantIn w t p) :
    Calls Tryz.prog 14 #[.agg #[.slice r.i.a r.i.n r.i.c, .slice r.l.a r.l.n r.l.c, .slice r.w.a r.w.n r.w.c, .slice r.e.a r.e.n r.e.c, .slice r.p.a r.p.n r.p.c, .slice r.s.a r.s.n r.s.c, .slice r.q.a r.q.n r.q.c], .agg #[.slice t.i.a t.i.n t.i.c, .slice t.l.a t.l.n t.l.c, .slice t.w.a t.w.n t.w.c, .slice t.e.a t.e.n t.e.c, .slice t.p.a t.p.n t.p.c, .slice t.s.a t.s.n t.s.c, .slice t.q.a t.q.n t.q.c]] w fun e w' => e = .returned (.bool true) ∧ Below w.heap.size w w' := by
  have hb : Below w.heap.size w ((w.alloc (.cells #[.slice r.i.a r.i.n r.i.c, .slice r.l.a r.l.n r.l.c, .slice r.w.a r.w.n r.w.c, .slice r.e.a r.e.n r.e.c, .slice r.p.a r.p.n r.p.c, .slice r.s.a r.s.n r.s.c, .slice r.q.a r.q.n r.q.c] 48)).alloc (.cells #[.slice t.i.a t.i.n t.i.c, .slice t.l.a t.l.n t.l.c, .slice t.w.a t.w.n t.w.c, .slice t.e.a t.e.n t.e.c, .slice t.p.a t.p.n t.p.c, .slice t.s.a t.s.n t.s.c, .slice t.q.a t.q.n t.q.c] 48)) := ((Below.refl _ _).alloc (Nat.le_refl _) _).alloc (by simp) _
  have B0 : BoxOf ((w.alloc (.cells #[.slice r.i.a r.i.n r.i.c, .slice r.l.a r.l.n r.l.c, .slice r.w.a r.w.n r.w.c, .slice r.e.a r.e.n r.e.c, .slice r.p.a r.p.n r.p.c, .slice r.s.a r.s.n r.s.c, .slice r.q.a r.q.n r.q.c] 48)).alloc (.cells #[.slice t.i.a t.i.n t.i.c, .slice t.l.a t.l.n t.l.c, .slice t.w.a t.w.n t.w.c, .slice t.e.a t.e.n t.e.c, .slice t.p.a t.p.n t.p.c, .slice t.s.a t.s.n t.s.c, .slice t.q.a t.q.n t.q.c] 48)) w.heap.size [.slice r.i.a r.i.n r.i.c, .slice r.l.a r.l.n r.l.c, .slice r.w.a r.w.n r.w.c, .slice r.e.a r.e.n r.e.c, .slice r.p.a r.p.n r.p.c, .slice r.s.a r.s.n r.s.c, .slice r.q.a r.q.n r.q.c] := (boxOf_alloc w #[.slice r.i.a r.i.n r.i.c, .slice r.l.a r.l.n r.l.c, .slice r.w.a r.w.n r.w.c, .slice r.e.a r.e.n r.e.c, .slice r.p.a r.p.n r.p.c, .slice r.s.a r.s.n r.s.c, .slice r.q.a r.q.n r.q.c] 48).keep (below_alloc _ _)
  have B1 : BoxOf ((w.alloc (.cells #[.slice r.i.a r.i.n r.i.c, .slice r.l.a r.l.n r.l.c, .slice r.w.a r.w.n r.w.c, .slice r.e.a r.e.n r.e.c, .slice r.p.a r.p.n r.p.c, .slice r.s.a r.s.n r.s.c, .slice r.q.a r.q.n r.q.c] 48)).alloc (.cells #[.slice t.i.a t.i.n t.i.c, .slice t.l.a t.l.n t.l.c, .slice t.w.a t.w.n t.w.c, .slice t.e.a t.e.n t.e.c, .slice t.p.a t.p.n t.p.c, .slice t.s.a t.s.n t.s.c, .slice t.q.a t.q.n t.q.c] 48)) (w.heap.size + 1) [.slice t.i.a t.i.n t.i.c, .slice t.l.a t.l.n t.l.c, .slice t.w.a t.w.n t.w.c, .slice t.e.a t.e.n t.e.c, .slice t.p.a t.p.n t.p.c, .slice t.s.a t.s.n t.s.c, .slice t.q.a t.q.n t.q.c] := by simpa using boxOf_alloc (w.alloc (.cells #[.slice r.i.a r.i.n r.i.c, .slice r.l.a r.l.n r.l.c, .slice r.w.a r.w.n r.w.c, .slice r.e.a r.e.n r.e.c, .slice r.p.a r.p.n r.p.c, .slice r.s.a r.s.n r.s.c, .slice r.q.a r.q.n r.q.c] 48)) #[.slice t.i.a t.i.n t.i.c, .slice t.l.a t.l.n t.l.c, .slice t.w.a t.w.n t.w.c, .slice t.e.a t.e.n t.e.c, .slice t.p.a t.p.n t.p.c, .slice t.s.a t.s.n t.s.c, .slice t.q.a t.q.n t.q.c] 48
  go_enter Tryz.func14, Tryz.ntmps14
  go_wp2_with fail
  generalize ((w.alloc (.cells #[.slice r.i.a r.i.n r.i.c, .slice r.l.a r.l.n r.l.c, .slice r.w.a r.w.n r.w.c, .slice r.e.a r.e.n r.e.c, .slice r.p.a r.p.n r.p.c, .slice r.s.a r.s.n r.s.c, .slice r.q.a r.q.n r.q.c] 48)).alloc (.cells #[.slice t.i.a t.i.n t.i.c, .slice t.l.a t.l.n t.l.c, .slice t.w.a t.w.n t.w.c, .slice t.e.a t.e.n t.e.c, .slice t.p.a t.p.n t.p.c, .slice t.s.a t.s.n t.s.c, .slice t.q.a t.q.n t.q.c] 48)) = V at *
  have hr0 := hr.keep hb
  have ht0 := ht.keep hb
  refine (eqItemS_yes _ _ _ _ _ _ p.it _ hr0.it ht0.it).mono ?_
  rintro e V0 ⟨rfl, hs⟩
  replace hb := below_on hb hs
  replace B0 := B0.keep hs
  replace B1 := B1.keep hs
  clear hs hr0 ht0
  obtain ⟨b0, b1, b2, b3, b4, b5, b6, bl⟩ := B0.seven
  obtain ⟨e0, e1, e2, e3, e4, e5, e6, el⟩ := B1.seven
  go_wp2_with fail
  clear b0 b1 b2 b3 b4 b5 b6 bl e0 e1 e2 e3 e4 e5 e6 el
  have hr1 := hr.keep hb
  have ht1 := ht.keep hb
  refine (eqBillLineS_yes _ _ _ _ _ _ p.ls _ hr1.ls ht1.ls).mono ?_
  rintro e V1 ⟨rfl, hs⟩
  replace hb := below_on hb hs
  replace B0 := B0.keep hs
  replace B1 := B1.keep hs
  clear hs hr1 ht1
  obtain ⟨b0, b1, b2, b3, b4, b5, b6, bl⟩ := B0.seven
  obtain ⟨e0, e1, e2, e3, e4, e5, e6, el⟩ := B1.seven
  go_wp2_with fail
  clear b0 b1 b2 b3 b4 b5 b6 bl e0 e1 e2 e3 e4 e5 e6 el
  have hr2 := hr.keep hb
  have ht2 := ht.keep hb
  refine (eqCalendar_yes _ _ _ _ _ _ _ _ _ _ _ _ p.wk p.ex _ hr2.wk hr2.ex ht2.wk ht2.ex).mono ?_
  rintro e V2 ⟨rfl, hs⟩
  replace hb := below_on hb hs
  replace B0 := B0.keep hs
  replace B1 := B1.keep hs
  clear hs hr2 ht2
  obtain ⟨b0, b1, b2, b3, b4, b5, b6, bl⟩ := B0.seven
  obtain ⟨e0, e1, e2, e3, e4, e5, e6, el⟩ := B1.seven
  go_wp2_with fail
  clear b0 b1 b2 b3 b4 b5 b6 bl e0 e1 e2 e3 e4 e5 e6 el
  have hr3 := hr.keep hb
  have ht3 := ht.keep hb
  refine (eqPickS_yes _ _ _ _ _ _ p.ch _ hr3.ch ht3.ch).mono ?_
  rintro e V3 ⟨rfl, hs⟩
  replace hb := below_on hb hs
  replace B0 := B0.keep hs
  replace B1 := B1.keep hs
  clear hs hr3 ht3
  obtain ⟨b0, b1, b2, b3, b4, b5, b6, bl⟩ := B0.seven
  obtain ⟨e0, e1, e2, e3, e4, e5, e6, el⟩ := B1.seven
  go_wp2_with fail
  clear b0 b1 b2 b3 b4 b5 b6 bl e0 e1 e2 e3 e4 e5 e6 el
  have hr4 := hr.keep hb
  have ht4 := ht.keep hb
  refine (eqNeedS_yes _ _ _ _ _ _ p.st _ hr4.st ht4.st).mono ?_
  rintro e V4 ⟨rfl, hs⟩
  replace hb := below_on hb hs
  replace B0 := B0.keep hs
  replace B1 := B1.keep hs
  clear hs hr4 ht4
  obtain ⟨b0, b1, b2, b3, b4, b5, b6, bl⟩ := B0.seven
  obtain ⟨e0, e1, e2, e3, e4, e5, e6, el⟩ := B1.seven
  go_wp2_with fail
  clear b0 b1 b2 b3 b4 b5 b6 bl e0 e1 e2 e3 e4 e5 e6 el
  have hr5 := hr.keep hb
  have ht5 := ht.keep hb
  refine (eqReceiptS_yes _ _ _ _ _ _ p.rc _ hr5.rc ht5.rc).mono ?_
  rintro e V5 ⟨rfl, hs⟩
  replace hb := below_on hb hs
  replace B0 := B0.keep hs
  replace B1 := B1.keep hs
  clear hs hr5 ht5
  obtain ⟨b0, b1, b2, b3, b4, b5, b6, bl⟩ := B0.seven
  obtain ⟨e0, e1, e2, e3, e4, e5, e6, el⟩ := B1.seven
  go_wp2_with fail
  clear b0 b1 b2 b3 b4 b5 b6 bl e0 e1 e2 e3 e4 e5 e6 el
  go_ret
  exact ⟨rfl, hb⟩
structure PlantPre (w : World) (r : PtR) (p : Pt) : Prop where
  ni : r.i.n ≤ 9223372036854775807
  nl : r.l.n ≤ 9223372036854775807
  nw : r.w.n ≤ 9223372036854775807
  ne : r.e.n ≤ 9223372036854775807
  np : r.p.n ≤ 9223372036854775807
  ns : r.s.n ≤ 9223372036854775807
  nq : r.q.n ≤ 9223372036854775807
  it : r.i.n ≤ 1048576 → ItemsIn w r.i.a r.i.n p.it ∧ ∀ x ∈ p.it, okIt x
  ls : r.l.n ≤ 1048576 → BillLinePre w r.l.a r.l.n p.ls ∧ ∀ x ∈ p.ls, okBl x
  cal : r.w.n ≤ 1048576 → r.e.n ≤ 1048576 → IntsIn w r.w.a r.w.n p.wk ∧ ExsIn w r.e.a r.e.n p.ex
  ch : r.p.n ≤ 1048576 → PicksIn w r.p.a r.p.n p.ch ∧ ∀ x ∈ p.ch, okPk x
  st : r.s.n ≤ 1048576 → NeedsIn w r.s.a r.s.n p.st ∧ ∀ x ∈ p.st, okNd x
  rc : r.q.n ≤ 1048576 → ReceiptsIn w r.q.a r.q.n p.rc ∧ ∀ x ∈ p.rc, okRc x
set_option maxRecDepth 100000 in
set_option maxHeartbeats 4000000 in
theorem szPlant_any (r : PtR) (p : Pt) (left : Int) (w w0 : World) (hp : PlantPre w0 r p) (hbw : Below w0.heap.size w0 w) (hl0 : 0 ≤ left) (hl1 : left ≤ 1048576) :
    Calls Tryz.prog 7 #[.agg #[.slice r.i.a r.i.n r.i.c, .slice r.l.a r.l.n r.l.c, .slice r.w.a r.w.n r.w.c, .slice r.e.a r.e.n r.e.c, .slice r.p.a r.p.n r.p.c, .slice r.s.a r.s.n r.s.c, .slice r.q.a r.q.n r.q.c], .int .i64 left] w fun e w' => ∃ x : Int, e = .returned (.int .i64 x) ∧ -1 ≤ x ∧ x ≤ 1048576 ∧ (0 ≤ x → PlantIn w0 r p ∧ okPt p) ∧ Below w.heap.size w w' := by
  have hb := below_alloc w (.cells #[.slice r.i.a r.i.n r.i.c, .slice r.l.a r.l.n r.l.c, .slice r.w.a r.w.n r.w.c, .slice r.e.a r.e.n r.e.c, .slice r.p.a r.p.n r.p.c, .slice r.s.a r.s.n r.s.c, .slice r.q.a r.q.n r.q.c] 32)
  have B0 : BoxOf (w.alloc (.cells #[.slice r.i.a r.i.n r.i.c, .slice r.l.a r.l.n r.l.c, .slice r.w.a r.w.n r.w.c, .slice r.e.a r.e.n r.e.c, .slice r.p.a r.p.n r.p.c, .slice r.s.a r.s.n r.s.c, .slice r.q.a r.q.n r.q.c] 32)) w.heap.size [.slice r.i.a r.i.n r.i.c, .slice r.l.a r.l.n r.l.c, .slice r.w.a r.w.n r.w.c, .slice r.e.a r.e.n r.e.c, .slice r.p.a r.p.n r.p.c, .slice r.s.a r.s.n r.s.c, .slice r.q.a r.q.n r.q.c] := boxOf_alloc w #[.slice r.i.a r.i.n r.i.c, .slice r.l.a r.l.n r.l.c, .slice r.w.a r.w.n r.w.c, .slice r.e.a r.e.n r.e.c, .slice r.p.a r.p.n r.p.c, .slice r.s.a r.s.n r.s.c, .slice r.q.a r.q.n r.q.c] 32
  have HP := Lib.hid hp
  clear hp
  go_enter Tryz.func7, Tryz.ntmps7
  go_wp2_with fail
  generalize (w.alloc (.cells #[.slice r.i.a r.i.n r.i.c, .slice r.l.a r.l.n r.l.c, .slice r.w.a r.w.n r.w.c, .slice r.e.a r.e.n r.e.c, .slice r.p.a r.p.n r.p.c, .slice r.s.a r.s.n r.s.c, .slice r.q.a r.q.n r.q.c] 32)) = V at *
  by_cases big0 : left < (r.i.n : Int)
  · refine (szItemS_big _ _ _ _ _ big0 hl0 HP.out.ni).mono ?_
    rintro e w1 ⟨rfl, rfl⟩
    go_wp2_with fail
    go_ret
    exact ⟨-1, rfl, by omega, by omega, fun h => absurd h (by omega), hb⟩
  obtain ⟨ha0, hk0⟩ := HP.out.it (by omega)
  refine (szItemS_any _ _ _ p.it _ _ (by omega) hl1 ((ha0.keep hbw).keep hb) hk0).mono ?_
  rintro e V0 ⟨x0, rfl, y0, hd0, hs⟩
  replace hb := below_on hb hs
  replace B0 := B0.keep hs
  clear hs
  by_cases neg0 : x0 < 0
  · go_wp2_with fail
    go_ret
    exact ⟨-1, rfl, by omega, by omega, fun h => absurd h (by omega), hb⟩
  have hc0 : 0 ≤ x0 := by omega
  clear neg0 y0 big0
  have HK0 := Lib.hid hk0
  clear hk0
  obtain ⟨b0, b1, b2, b3, b4, b5, b6, bl⟩ := B0.seven
  go_wp2_with fail
  clear b0 b1 b2 b3 b4 b5 b6 bl
  by_cases big1 : x0 < (r.l.n : Int)
  · refine (szBillLineS_big _ _ _ _ _ big1 hc0 HP.out.nl).mono ?_
    rintro e w1 ⟨rfl, rfl⟩
    go_wp2_with fail
    go_ret
    exact ⟨-1, rfl, by omega, by omega, fun h => absurd h (by omega), hb⟩
  obtain ⟨ha1, hk1⟩ := HP.out.ls (by omega)
  refine (szBillLineS_any _ _ _ p.ls _ _ w0 (by omega) hd0 ha1 (below_on hbw hb) hk1).mono ?_
  rintro e V1 ⟨x1, rfl, y1, hd1, hin1, hs⟩
  replace hb := below_on hb hs
  replace B0 := B0.keep hs
  clear hs
  by_cases neg1 : x1 < 0
  · go_wp2_with fail
    go_ret
    exact ⟨-1, rfl, by omega, by omega, fun h => absurd h (by omega), hb⟩
  have hc1 : 0 ≤ x1 := by omega
  clear neg1 y1 big1
  replace ha1 := hin1 hc1
  clear hin1
  have HK1 := Lib.hid hk1
  clear hk1
  obtain ⟨b0, b1, b2, b3, b4, b5, b6, bl⟩ := B0.seven
  go_wp2_with fail
  clear b0 b1 b2 b3 b4 b5 b6 bl
  by_cases big2 : x1 < (r.w.n : Int) + r.e.n
  · refine (szCalendar_big _ _ _ _ _ _ _ _ big2 hc1 hd1 HP.out.nw HP.out.ne).mono ?_
    rintro e w1 ⟨rfl, hs⟩
    go_wp2_with fail
    go_ret
    exact ⟨-1, rfl, by omega, by omega, fun h => absurd h (by omega), below_on hb hs⟩
  obtain ⟨ha2, ha3⟩ := HP.out.cal (by omega) (by omega)
  refine (szCalendar_ok _ _ _ _ _ _ _ _ (by omega) hd1).mono ?_
  rintro e V2 ⟨rfl, hs⟩
  replace hb := below_on hb hs
  replace B0 := B0.keep hs
  clear hs
  obtain ⟨x2, hx2⟩ : ∃ x, x1 - (r.w.n : Int) - (r.e.n : Int) = x := ⟨_, rfl⟩
  rw [hx2]
  have hc2 : 0 ≤ x2 := by omega
  have hd2 : x2 ≤ 1048576 := by omega
  clear hx2 big2
  obtain ⟨b0, b1, b2, b3, b4, b5, b6, bl⟩ := B0.seven
  go_wp2_with fail
  clear b0 b1 b2 b3 b4 b5 b6 bl
  by_cases big3 : x2 < (r.p.n : Int)
  · refine (szPickS_big _ _ _ _ _ big3 hc2 HP.out.np).mono ?_
    rintro e w1 ⟨rfl, rfl⟩
    go_wp2_with fail
    go_ret
    exact ⟨-1, rfl, by omega, by omega, fun h => absurd h (by omega), hb⟩
  obtain ⟨ha4, hk4⟩ := HP.out.ch (by omega)
  refine (szPickS_any _ _ _ p.ch _ _ (by omega) hd2 ((ha4.keep hbw).keep hb) hk4).mono ?_
  rintro e V3 ⟨x3, rfl, y3, hd3, hs⟩
  replace hb := below_on hb hs
  replace B0 := B0.keep hs
  clear hs
  by_cases neg3 : x3 < 0
  · go_wp2_with fail
    go_ret
    exact ⟨-1, rfl, by omega, by omega, fun h => absurd h (by omega), hb⟩
  have hc3 : 0 ≤ x3 := by omega
  clear neg3 y3 big3
  have HK4 := Lib.hid hk4
  clear hk4
  obtain ⟨b0, b1, b2, b3, b4, b5, b6, bl⟩ := B0.seven
  go_wp2_with fail
  clear b0 b1 b2 b3 b4 b5 b6 bl
  by_cases big4 : x3 < (r.s.n : Int)
  · refine (szNeedS_big _ _ _ _ _ big4 hc3 HP.out.ns).mono ?_
    rintro e w1 ⟨rfl, rfl⟩
    go_wp2_with fail
    go_ret
    exact ⟨-1, rfl, by omega, by omega, fun h => absurd h (by omega), hb⟩
  obtain ⟨ha5, hk5⟩ := HP.out.st (by omega)
  refine (szNeedS_any _ _ _ p.st _ _ (by omega) hd3 ((ha5.keep hbw).keep hb) hk5).mono ?_
  rintro e V4 ⟨x4, rfl, y4, hd4, hs⟩
  replace hb := below_on hb hs
  replace B0 := B0.keep hs
  clear hs
  by_cases neg4 : x4 < 0
  · go_wp2_with fail
    go_ret
    exact ⟨-1, rfl, by omega, by omega, fun h => absurd h (by omega), hb⟩
  have hc4 : 0 ≤ x4 := by omega
  clear neg4 y4 big4
  have HK5 := Lib.hid hk5
  clear hk5
  obtain ⟨b0, b1, b2, b3, b4, b5, b6, bl⟩ := B0.seven
  go_wp2_with fail
  clear b0 b1 b2 b3 b4 b5 b6 bl
  by_cases big5 : x4 < (r.q.n : Int)
  · refine (szReceiptS_big _ _ _ _ _ big5 hc4 HP.out.nq).mono ?_
    rintro e w1 ⟨rfl, rfl⟩
    go_wp2_with fail
    go_ret
    exact ⟨-1, rfl, by omega, by omega, fun h => absurd h (by omega), hb⟩
  obtain ⟨ha6, hk6⟩ := HP.out.rc (by omega)
  refine (szReceiptS_any _ _ _ p.rc _ _ (by omega) hd4 ((ha6.keep hbw).keep hb) hk6).mono ?_
  rintro e V5 ⟨x5, rfl, y5, hd5, hs⟩
  replace hb := below_on hb hs
  replace B0 := B0.keep hs
  clear hs
  by_cases neg5 : x5 < 0
  · go_wp2_with fail
    go_ret
    exact ⟨-1, rfl, by omega, by omega, fun h => absurd h (by omega), hb⟩
  have hc5 : 0 ≤ x5 := by omega
  clear neg5 y5 big5
  have HK6 := Lib.hid hk6
  clear hk6
  go_wp2_with fail
  go_ret
  exact ⟨_, rfl, by omega, by omega, fun _ => ⟨⟨ha0, ha1, ha2, ha3, ha4, ha5, ha6⟩, ⟨HK0.out, HK1.out, HK4.out, HK5.out, HK6.out⟩⟩, hb⟩
end Go.Proofs.YtlnkofnfgemfdaaGreat
/- The walks of IsPlant. -/
namespace Go.Proofs.YtlnkofnfgemfdaaGreat
open Go.RowKit
def ndNone : Nd := (ByteArray.empty, 0)
def okStk (it : List It) (st : List Nd) (k : Nat) : Bool :=
  decide (0 ≤ findIt it (st.getD k ndNone).1) && (inB (st.getD k ndNone).2 0 100000 && (decide (k = 0) || itLt (st.getD (k - 1) ndNone).1 (st.getD k ndNone).1))
def okRcp (it : List It) (x : Rc) : Bool := decide (0 ≤ findIt it x.1) && (inB x.2.2 1 100000 && inB x.2.1 0 999)
def isPlant (p : Pt) : Bool :=
  (isBills p.it p.ls && (isCal p.wk p.ex && (decide ((p.st.length : Int) ≤ 12) && decide ((p.rc.length : Int) ≤ 16)))) && ((List.range p.st.length).all (okStk p.it p.st) && p.rc.all (okRcp p.it))
theorem nd_getD (l : List Nd) (k : Nat) (h : k < l.length) : l.getD k ndNone = l[k] := by
  rw [List.getD_eq_getElem?_getD, List.getElem?_eq_getElem h]; rfl
theorem isPlant_no {p : Pt} (h : (isBills p.it p.ls && (isCal p.wk p.ex && (decide ((p.st.length : Int) ≤ 12) && decide ((p.rc.length : Int) ≤ 16)))) = false) : isPlant p = false := by unfold isPlant; rw [h]; rfl
theorem isPlant_stk {p : Pt} {k : Nat} (hk : k < p.st.length) (h : okStk p.it p.st k = false) : isPlant p = false := by
  unfold isPlant
  have : (List.range p.st.length).all (okStk p.it p.st) = false := by rw [List.all_eq_false]; exact ⟨k, by simpa using hk, by simp [h]⟩
  rw [this]; simp
theorem isPlant_rcp {p : Pt} {k : Nat} (hk : k < p.rc.length) (h : okRcp p.it p.rc[k] = false) : isPlant p = false := by
  unfold isPlant; rw [all_false p.rc _ k hk h]; simp
theorem isPlant_yes {p : Pt} (h1 : isBills p.it p.ls = true) (h2 : isCal p.wk p.ex = true) (h3 : (p.st.length : Int) ≤ 12) (h4 : (p.rc.length : Int) ≤ 16) (h5 : ∀ j < p.st.length, okStk p.it p.st j = true) (h6 : (p.rc.take p.rc.length).all (okRcp p.it) = true) : isPlant p = true := by
  rw [List.take_length] at h6
  unfold isPlant
  have : (List.range p.st.length).all (okStk p.it p.st) = true := by rw [List.all_eq_true]; intro x hx; exact h5 x (by simpa using hx)
  rw [h1, h2, decide_eq_true h3, decide_eq_true h4, this, h6]; rfl
theorem okStk_of {it : List It} {st : List Nd} {k : Nat} (hk : k < st.length) : okStk it st k = (decide (0 ≤ findIt it st[k].1) && (inB st[k].2 0 100000 && (decide (k = 0) || itLt (st.getD (k - 1) ndNone).1 st[k].1))) := by
  unfold okStk; rw [nd_getD _ _ hk]
theorem okStk_find {it : List It} {st : List Nd} {k : Nat} (hk : k < st.length) (h : ¬ 0 ≤ findIt it st[k].1) : okStk it st k = false := by rw [okStk_of hk, decide_eq_false h]; rfl
theorem okStk_in {it : List It} {st : List Nd} {k : Nat} (hk : k < st.length) (h : inB st[k].2 0 100000 = false) : okStk it st k = false := by rw [okStk_of hk, h]; simp
theorem okStk_first {it : List It} {st : List Nd} {k : Nat} (hk : k < st.length) (h1 : 0 ≤ findIt it st[k].1) (h2 : inB st[k].2 0 100000 = true) (h0 : k = 0) : okStk it st k = true := by rw [okStk_of hk, decide_eq_true h1, h2, decide_eq_true h0]; rfl
theorem okStk_next {it : List It} {st : List Nd} {k : Nat} (hk : k < st.length) (h1 : 0 ≤ findIt it st[k].1) (h2 : inB st[k].2 0 100000 = true) (h0 : ¬ k = 0) (hp : k - 1 < st.length) : okStk it st k = itLt st[k - 1].1 st[k].1 := by rw [okStk_of hk, decide_eq_true h1, h2, decide_eq_false h0, nd_getD _ _ hp]; rfl
theorem okStk_more {it : List It} {st : List Nd} {k : Nat} (h : okStk it st k = true) (hI : ∀ j < k, okStk it st j = true) : ∀ j < k + 1, okStk it st j = true := fun j hj => by
  rcases Nat.lt_or_ge j k with h1 | h1
  · exact hI j h1
  · rw [show j = k by omega]; exact h
end Go.Proofs.YtlnkofnfgemfdaaGreat
