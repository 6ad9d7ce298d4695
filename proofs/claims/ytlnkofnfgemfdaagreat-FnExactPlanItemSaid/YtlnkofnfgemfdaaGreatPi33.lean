/- Part 33 of the texts of this claim: A plant each of whose rows lies in blocks of its own; the marks on it. -/
import Derived.Test.YtlnkofnfgemfdaaGreatPi10
import Derived.Test.YtlnkofnfgemfdaaGreatPi31
import Derived.Test.YtlnkofnfgemfdaaGreatPi32
/- A plant each of whose rows lies in blocks of its own; the marks on it. -/
namespace Go.Proofs.YtlnkofnfgemfdaaGreat
open Go.RowKit
theorem IntsAt.off {w : World} {lo hi : Nat} {A : Option Addr} {n c : Nat} {x : List Int} (h : IntsAt w lo hi A n c x) {p : Addr} (hp : p.block < lo ∨ hi ≤ p.block) (v : Value) : IntsAt (w.setCell p v) lo hi A n c x := by
  refine h.only (a := p.block) (b := p.block + 1) ⟨rfl, rfl, rfl, by simp, fun k _ hk => ?_⟩ (by omega)
  exact heap_setCell_other w p k v (by omega)
theorem RowsAt.lower {α : Type} {F : Flat α} {e : TypeId} {w : World} {lo lo' hi : Nat} {A : Option Addr} {n c : Nat} {l : List α} (h : RowsAt F e w lo hi A n c l) (hl : lo' ≤ lo) : RowsAt F e w lo' hi A n c l := ⟨h.1, own_lower h.2.1 hl, h.2.2⟩
theorem RowsAt.hiEq {α : Type} {F : Flat α} {e : TypeId} {w : World} {lo hi hi' : Nat} {A : Option Addr} {n c : Nat} {l : List α} (h : RowsAt F e w lo hi A n c l) (he : hi = hi') : RowsAt F e w lo hi' A n c l := he ▸ h
structure PlantAt (w : World) (lo hi : Nat) (r : PtR) (p : Pt) (m1 m2 m3 m4 m5 m6 : Nat) (R : List BlR) (mid : Nat) (m : Nat → Nat) : Prop where
  it : RowsAt itF 81 w lo m1 r.i.a r.i.n r.i.c p.it
  ls : BillLineAt w m1 m2 r.l.a r.l.n r.l.c p.ls R mid m
  wk : IntsAt w m2 m3 r.w.a r.w.n r.w.c p.wk
  ex : RowsAt exF 192 w m3 m4 r.e.a r.e.n r.e.c p.ex
  ch : RowsAt pkF 166 w m4 m5 r.p.a r.p.n r.p.c p.ch
  st : RowsAt ndF 152 w m5 m6 r.s.a r.s.n r.s.c p.st
  rc : RowsAt rcF 154 w m6 hi r.q.a r.q.n r.q.c p.rc
  h0 : lo ≤ m1
  h1 : m1 ≤ m2
  h2 : m2 ≤ m3
  h3 : m3 ≤ m4
  h4 : m4 ≤ m5
  h5 : m5 ≤ m6
  h6 : m6 ≤ hi
theorem PlantAt.keep {w w' : World} {lo hi : Nat} {r : PtR} {p : Pt} {m1 m2 m3 m4 m5 m6 : Nat} {R : List BlR} {mid : Nat} {m : Nat → Nat} (h : PlantAt w lo hi r p m1 m2 m3 m4 m5 m6 R mid m) (hb : Below w.heap.size w w') : PlantAt w' lo hi r p m1 m2 m3 m4 m5 m6 R mid m := ⟨h.it.keep hb, h.ls.keep hb, h.wk.keep hb, h.ex.keep hb, h.ch.keep hb, h.st.keep hb, h.rc.keep hb, h.h0, h.h1, h.h2, h.h3, h.h4, h.h5, h.h6⟩
theorem PlantAt.only {w w' : World} {lo hi a b : Nat} {r : PtR} {p : Pt} {m1 m2 m3 m4 m5 m6 : Nat} {R : List BlR} {mid : Nat} {m : Nat → Nat} (h : PlantAt w lo hi r p m1 m2 m3 m4 m5 m6 R mid m) (ho : Only a b w w') (hd : hi ≤ a ∨ b ≤ lo) : PlantAt w' lo hi r p m1 m2 m3 m4 m5 m6 R mid m := by
  have e0 := h.h0
  have e1 := h.h1
  have e2 := h.h2
  have e3 := h.h3
  have e4 := h.h4
  have e5 := h.h5
  have e6 := h.h6
  exact ⟨h.it.only ho (by omega), h.ls.only ho (by omega), h.wk.only ho (by omega), h.ex.only ho (by omega), h.ch.only ho (by omega), h.st.only ho (by omega), h.rc.only ho (by omega), e0, e1, e2, e3, e4, e5, e6⟩
theorem PlantAt.ins {w : World} {lo hi : Nat} {r : PtR} {p : Pt} {m1 m2 m3 m4 m5 m6 : Nat} {R : List BlR} {mid : Nat} {m : Nat → Nat} (h : PlantAt w lo hi r p m1 m2 m3 m4 m5 m6 R mid m) {w0 : World} {r0 : PtR} (h0 : PlantIn w0 r0 p) : PlantIn w r p := ⟨h.it.rows h0.it.len, h.ls.ins h0.ls.len, h.wk.rows h0.wk.len, h.ex.rows h0.ex.len, h.ch.rows h0.ch.len, h.st.rows h0.st.len, h.rc.rows h0.rc.len⟩
set_option maxRecDepth 100000 in
set_option maxHeartbeats 4000000 in
theorem toPlant_own (r : PtR) (p : Pt) (w : World) (hp : PlantIn w r p) :
    Calls Tryz.prog 10 #[.agg #[.slice r.i.a r.i.n r.i.c, .slice r.l.a r.l.n r.l.c, .slice r.w.a r.w.n r.w.c, .slice r.e.a r.e.n r.e.c, .slice r.p.a r.p.n r.p.c, .slice r.s.a r.s.n r.s.c, .slice r.q.a r.q.n r.q.c]] w fun e w' => ∃ (r' : PtR) (m1 m2 m3 m4 m5 m6 : Nat) (R : List BlR) (mid : Nat) (m : Nat → Nat), e = .returned (.agg #[.slice r'.i.a r'.i.n r'.i.c, .slice r'.l.a r'.l.n r'.l.c, .slice r'.w.a r'.w.n r'.w.c, .slice r'.e.a r'.e.n r'.e.c, .slice r'.p.a r'.p.n r'.p.c, .slice r'.s.a r'.s.n r'.s.c, .slice r'.q.a r'.q.n r'.q.c]) ∧ PlantAt w' w.heap.size w'.heap.size r' p m1 m2 m3 m4 m5 m6 R mid m ∧ Below w.heap.size w w' := by
  have hb0 : Below w.heap.size w (((w.alloc (.cells #[.slice r.i.a r.i.n r.i.c, .slice r.l.a r.l.n r.l.c, .slice r.w.a r.w.n r.w.c, .slice r.e.a r.e.n r.e.c, .slice r.p.a r.p.n r.p.c, .slice r.s.a r.s.n r.s.c, .slice r.q.a r.q.n r.q.c] 32)).alloc (.cells #[.slice none 0 0, .slice none 0 0, .slice none 0 0, .slice none 0 0, .slice none 0 0, .slice none 0 0, .slice none 0 0] 48)).alloc (.cells #[.slice none 0 0, .slice none 0 0, .slice none 0 0, .slice none 0 0, .slice none 0 0, .slice none 0 0, .slice none 0 0] 48)) := (((Below.refl _ _).alloc (Nat.le_refl _) _).alloc (by simp) _).alloc (by simp; omega) _
  have hz0 : (((w.alloc (.cells #[.slice r.i.a r.i.n r.i.c, .slice r.l.a r.l.n r.l.c, .slice r.w.a r.w.n r.w.c, .slice r.e.a r.e.n r.e.c, .slice r.p.a r.p.n r.p.c, .slice r.s.a r.s.n r.s.c, .slice r.q.a r.q.n r.q.c] 32)).alloc (.cells #[.slice none 0 0, .slice none 0 0, .slice none 0 0, .slice none 0 0, .slice none 0 0, .slice none 0 0, .slice none 0 0] 48)).alloc (.cells #[.slice none 0 0, .slice none 0 0, .slice none 0 0, .slice none 0 0, .slice none 0 0, .slice none 0 0, .slice none 0 0] 48)).heap.size = w.heap.size + 3 := by simp
  have B0 : BoxOf (((w.alloc (.cells #[.slice r.i.a r.i.n r.i.c, .slice r.l.a r.l.n r.l.c, .slice r.w.a r.w.n r.w.c, .slice r.e.a r.e.n r.e.c, .slice r.p.a r.p.n r.p.c, .slice r.s.a r.s.n r.s.c, .slice r.q.a r.q.n r.q.c] 32)).alloc (.cells #[.slice none 0 0, .slice none 0 0, .slice none 0 0, .slice none 0 0, .slice none 0 0, .slice none 0 0, .slice none 0 0] 48)).alloc (.cells #[.slice none 0 0, .slice none 0 0, .slice none 0 0, .slice none 0 0, .slice none 0 0, .slice none 0 0, .slice none 0 0] 48)) w.heap.size [.slice r.i.a r.i.n r.i.c, .slice r.l.a r.l.n r.l.c, .slice r.w.a r.w.n r.w.c, .slice r.e.a r.e.n r.e.c, .slice r.p.a r.p.n r.p.c, .slice r.s.a r.s.n r.s.c, .slice r.q.a r.q.n r.q.c] := ((boxOf_alloc w #[.slice r.i.a r.i.n r.i.c, .slice r.l.a r.l.n r.l.c, .slice r.w.a r.w.n r.w.c, .slice r.e.a r.e.n r.e.c, .slice r.p.a r.p.n r.p.c, .slice r.s.a r.s.n r.s.c, .slice r.q.a r.q.n r.q.c] 32).keep (below_alloc _ _)).keep (below_alloc _ _)
  have B1 : BoxOf (((w.alloc (.cells #[.slice r.i.a r.i.n r.i.c, .slice r.l.a r.l.n r.l.c, .slice r.w.a r.w.n r.w.c, .slice r.e.a r.e.n r.e.c, .slice r.p.a r.p.n r.p.c, .slice r.s.a r.s.n r.s.c, .slice r.q.a r.q.n r.q.c] 32)).alloc (.cells #[.slice none 0 0, .slice none 0 0, .slice none 0 0, .slice none 0 0, .slice none 0 0, .slice none 0 0, .slice none 0 0] 48)).alloc (.cells #[.slice none 0 0, .slice none 0 0, .slice none 0 0, .slice none 0 0, .slice none 0 0, .slice none 0 0, .slice none 0 0] 48)) (w.heap.size + 1) [.slice none 0 0, .slice none 0 0, .slice none 0 0, .slice none 0 0, .slice none 0 0, .slice none 0 0, .slice none 0 0] := by simpa using (boxOf_alloc (w.alloc (.cells #[.slice r.i.a r.i.n r.i.c, .slice r.l.a r.l.n r.l.c, .slice r.w.a r.w.n r.w.c, .slice r.e.a r.e.n r.e.c, .slice r.p.a r.p.n r.p.c, .slice r.s.a r.s.n r.s.c, .slice r.q.a r.q.n r.q.c] 32)) #[.slice none 0 0, .slice none 0 0, .slice none 0 0, .slice none 0 0, .slice none 0 0, .slice none 0 0, .slice none 0 0] 48).keep (below_alloc _ (.cells #[.slice none 0 0, .slice none 0 0, .slice none 0 0, .slice none 0 0, .slice none 0 0, .slice none 0 0, .slice none 0 0] 48))
  have B2 : BoxOf (((w.alloc (.cells #[.slice r.i.a r.i.n r.i.c, .slice r.l.a r.l.n r.l.c, .slice r.w.a r.w.n r.w.c, .slice r.e.a r.e.n r.e.c, .slice r.p.a r.p.n r.p.c, .slice r.s.a r.s.n r.s.c, .slice r.q.a r.q.n r.q.c] 32)).alloc (.cells #[.slice none 0 0, .slice none 0 0, .slice none 0 0, .slice none 0 0, .slice none 0 0, .slice none 0 0, .slice none 0 0] 48)).alloc (.cells #[.slice none 0 0, .slice none 0 0, .slice none 0 0, .slice none 0 0, .slice none 0 0, .slice none 0 0, .slice none 0 0] 48)) (w.heap.size + 1 + 1) [.slice none 0 0, .slice none 0 0, .slice none 0 0, .slice none 0 0, .slice none 0 0, .slice none 0 0, .slice none 0 0] := by simpa using boxOf_alloc ((w.alloc (.cells #[.slice r.i.a r.i.n r.i.c, .slice r.l.a r.l.n r.l.c, .slice r.w.a r.w.n r.w.c, .slice r.e.a r.e.n r.e.c, .slice r.p.a r.p.n r.p.c, .slice r.s.a r.s.n r.s.c, .slice r.q.a r.q.n r.q.c] 32)).alloc (.cells #[.slice none 0 0, .slice none 0 0, .slice none 0 0, .slice none 0 0, .slice none 0 0, .slice none 0 0, .slice none 0 0] 48)) #[.slice none 0 0, .slice none 0 0, .slice none 0 0, .slice none 0 0, .slice none 0 0, .slice none 0 0, .slice none 0 0] 48
  have f1 : ∀ j, (((w.alloc (.cells #[.slice r.i.a r.i.n r.i.c, .slice r.l.a r.l.n r.l.c, .slice r.w.a r.w.n r.w.c, .slice r.e.a r.e.n r.e.c, .slice r.p.a r.p.n r.p.c, .slice r.s.a r.s.n r.s.c, .slice r.q.a r.q.n r.q.c] 32)).alloc (.cells #[.slice none 0 0, .slice none 0 0, .slice none 0 0, .slice none 0 0, .slice none 0 0, .slice none 0 0, .slice none 0 0] 48)).alloc (.cells #[.slice none 0 0, .slice none 0 0, .slice none 0 0, .slice none 0 0, .slice none 0 0, .slice none 0 0, .slice none 0 0] 48)).frozen? ⟨w.heap.size + 1, j, none⟩ = false := fun j => by simp [go_sem]
  have f2 : ∀ j, (((w.alloc (.cells #[.slice r.i.a r.i.n r.i.c, .slice r.l.a r.l.n r.l.c, .slice r.w.a r.w.n r.w.c, .slice r.e.a r.e.n r.e.c, .slice r.p.a r.p.n r.p.c, .slice r.s.a r.s.n r.s.c, .slice r.q.a r.q.n r.q.c] 32)).alloc (.cells #[.slice none 0 0, .slice none 0 0, .slice none 0 0, .slice none 0 0, .slice none 0 0, .slice none 0 0, .slice none 0 0] 48)).alloc (.cells #[.slice none 0 0, .slice none 0 0, .slice none 0 0, .slice none 0 0, .slice none 0 0, .slice none 0 0, .slice none 0 0] 48)).frozen? ⟨w.heap.size + 1 + 1, j, none⟩ = false := fun j => by simp [go_sem]
  have HP := Lib.hid hp
  clear hp
  go_enter Tryz.func10, Tryz.ntmps10
  go_wp2_with fail
  generalize (((w.alloc (.cells #[.slice r.i.a r.i.n r.i.c, .slice r.l.a r.l.n r.l.c, .slice r.w.a r.w.n r.w.c, .slice r.e.a r.e.n r.e.c, .slice r.p.a r.p.n r.p.c, .slice r.s.a r.s.n r.s.c, .slice r.q.a r.q.n r.q.c] 32)).alloc (.cells #[.slice none 0 0, .slice none 0 0, .slice none 0 0, .slice none 0 0, .slice none 0 0, .slice none 0 0, .slice none 0 0] 48)).alloc (.cells #[.slice none 0 0, .slice none 0 0, .slice none 0 0, .slice none 0 0, .slice none 0 0, .slice none 0 0, .slice none 0 0] 48)) = W0 at *
  generalize hN2 : w.heap.size + 1 + 1 = N2 at *
  obtain ⟨s0, es0⟩ : ∃ s, s = W0.heap.size := ⟨_, rfl⟩
  have lz : N2 + 1 ≤ s0 := by omega
  clear hz0
  have hq0 := HP.out.keep hb0
  refine (toItemS_any _ _ _ p.it _ hq0.it).mono ?_
  rintro e V0 ⟨A0, rfl, o0, hs⟩
  replace o0 := o0.at_
  obtain ⟨s1, es1⟩ : ∃ s, s = V0.heap.size := ⟨_, rfl⟩
  rw [← es0, ← es1] at o0
  have hl0 : s0 ≤ s1 := by rw [es0, es1]; exact hs.size
  clear hq0
  replace B0 := B0.keep hs
  replace f1 := fun j => (hs.frozen (p := ⟨w.heap.size + 1, j, none⟩) B1.1).trans (f1 j)
  replace f2 := fun j => (hs.frozen (p := ⟨N2, j, none⟩) B2.1).trans (f2 j)
  replace B1 := B1.keep hs
  replace B2 := B2.keep hs
  replace hb0 := below_on hb0 hs
  clear hs es0
  obtain ⟨b0, b1, b2, b3, b4, b5, b6, bl⟩ := B0.seven
  obtain ⟨e0, e1, e2, e3, e4, e5, e6, el⟩ := B2.seven
  go_wp2_with fail
  clear b0 b1 b2 b3 b4 b5 b6 bl e0 e1 e2 e3 e4 e5 e6 el
  replace B2 := B2.set f2 0 (.slice A0 r.i.n r.i.n) (by simp)
  simp only [List.set_cons_zero, List.set_cons_succ] at B2
  replace f2 := frozen_set (M := N2) f2 0 (.slice A0 r.i.n r.i.n)
  replace f1 := frozen_set (M := N2) f1 0 (.slice A0 r.i.n r.i.n)
  replace B0 := B0.off (p := ⟨N2, 0, none⟩) (by show N2 ≠ _; omega) (.slice A0 r.i.n r.i.n)
  replace B1 := B1.off (p := ⟨N2, 0, none⟩) (by show N2 ≠ _; omega) (.slice A0 r.i.n r.i.n)
  replace o0 := o0.off (p := ⟨N2, 0, none⟩) (.inl (by show N2 < _; omega)) (.slice A0 r.i.n r.i.n)
  replace hb0 := hb0.setCell (p := ⟨N2, 0, none⟩) (by show _ ≤ N2; omega) (.slice A0 r.i.n r.i.n)
  have es12 : s1 = (V0.setCell ⟨N2, 0, none⟩ (.slice A0 r.i.n r.i.n)).heap.size := by simpa using es1
  replace es1 := es12
  clear es12
  generalize (V0.setCell ⟨N2, 0, none⟩ (.slice A0 r.i.n r.i.n)) = U0 at *
  have hq1 := HP.out.keep hb0
  refine (toBillLineS_own _ _ _ p.ls _ hq1.ls).mono ?_
  rintro e V1 ⟨A1, R, mid, m, rfl, o1, hs⟩
  obtain ⟨s2, es2⟩ : ∃ s, s = V1.heap.size := ⟨_, rfl⟩
  rw [← es1, ← es2] at o1
  have hl1 : s1 ≤ s2 := by rw [es1, es2]; exact hs.size
  clear hq1
  replace o0 := o0.keep hs
  replace B0 := B0.keep hs
  replace f1 := fun j => (hs.frozen (p := ⟨w.heap.size + 1, j, none⟩) B1.1).trans (f1 j)
  replace f2 := fun j => (hs.frozen (p := ⟨N2, j, none⟩) B2.1).trans (f2 j)
  replace B1 := B1.keep hs
  replace B2 := B2.keep hs
  replace hb0 := below_on hb0 hs
  clear hs es1
  obtain ⟨b0, b1, b2, b3, b4, b5, b6, bl⟩ := B0.seven
  obtain ⟨e0, e1, e2, e3, e4, e5, e6, el⟩ := B2.seven
  go_wp2_with fail
  clear b0 b1 b2 b3 b4 b5 b6 bl e0 e1 e2 e3 e4 e5 e6 el
  replace B2 := B2.set f2 1 (.slice A1 r.l.n r.l.n) (by simp)
  simp only [List.set_cons_zero, List.set_cons_succ] at B2
  replace f2 := frozen_set (M := N2) f2 1 (.slice A1 r.l.n r.l.n)
  replace f1 := frozen_set (M := N2) f1 1 (.slice A1 r.l.n r.l.n)
  replace B0 := B0.off (p := ⟨N2, 1, none⟩) (by show N2 ≠ _; omega) (.slice A1 r.l.n r.l.n)
  replace B1 := B1.off (p := ⟨N2, 1, none⟩) (by show N2 ≠ _; omega) (.slice A1 r.l.n r.l.n)
  replace o0 := o0.off (p := ⟨N2, 1, none⟩) (.inl (by show N2 < _; omega)) (.slice A1 r.l.n r.l.n)
  replace o1 := o1.off (p := ⟨N2, 1, none⟩) (.inl (by show N2 < _; omega)) (.slice A1 r.l.n r.l.n)
  replace hb0 := hb0.setCell (p := ⟨N2, 1, none⟩) (by show _ ≤ N2; omega) (.slice A1 r.l.n r.l.n)
  have es22 : s2 = (V1.setCell ⟨N2, 1, none⟩ (.slice A1 r.l.n r.l.n)).heap.size := by simpa using es2
  replace es2 := es22
  clear es22
  generalize (V1.setCell ⟨N2, 1, none⟩ (.slice A1 r.l.n r.l.n)) = U1 at *
  have hq2 := HP.out.keep hb0
  refine (toCalendar_own _ _ _ _ _ _ p.wk p.ex _ hq2.wk hq2.ex).mono ?_
  rintro e V2 ⟨A2, A3, sM, rfl, hM, o2, o3, hs⟩
  rw [← es2] at o2 hM
  have hM2 := o2.2.2.1
  obtain ⟨s3, es3⟩ : ∃ s, s = V2.heap.size := ⟨_, rfl⟩
  rw [← es3] at o3
  have hl2 : sM ≤ s3 := by rw [es3]; exact o2.2.2.1
  clear hq2
  replace o0 := o0.keep hs
  replace o1 := o1.keep hs
  replace B0 := B0.keep hs
  replace f1 := fun j => (hs.frozen (p := ⟨w.heap.size + 1, j, none⟩) B1.1).trans (f1 j)
  replace f2 := fun j => (hs.frozen (p := ⟨N2, j, none⟩) B2.1).trans (f2 j)
  replace B1 := B1.keep hs
  replace B2 := B2.keep hs
  replace hb0 := below_on hb0 hs
  clear hs es2
  obtain ⟨b0, b1, b2, b3, b4, b5, b6, bl⟩ := B0.seven
  obtain ⟨e0, e1, e2, e3, e4, e5, e6, el⟩ := B2.seven
  go_wp2_with fail
  clear b0 b1 b2 b3 b4 b5 b6 bl e0 e1 e2 e3 e4 e5 e6 el
  replace B2 := B2.set f2 2 (.slice A2 r.w.n r.w.n) (by simp)
  simp only [List.set_cons_zero, List.set_cons_succ] at B2
  replace f2 := frozen_set (M := N2) f2 2 (.slice A2 r.w.n r.w.n)
  replace f1 := frozen_set (M := N2) f1 2 (.slice A2 r.w.n r.w.n)
  replace B0 := B0.off (p := ⟨N2, 2, none⟩) (by show N2 ≠ _; omega) (.slice A2 r.w.n r.w.n)
  replace B1 := B1.off (p := ⟨N2, 2, none⟩) (by show N2 ≠ _; omega) (.slice A2 r.w.n r.w.n)
  replace o0 := o0.off (p := ⟨N2, 2, none⟩) (.inl (by show N2 < _; omega)) (.slice A2 r.w.n r.w.n)
  replace o1 := o1.off (p := ⟨N2, 2, none⟩) (.inl (by show N2 < _; omega)) (.slice A2 r.w.n r.w.n)
  replace o2 := o2.off (p := ⟨N2, 2, none⟩) (.inl (by show N2 < _; omega)) (.slice A2 r.w.n r.w.n)
  replace o3 := o3.off (p := ⟨N2, 2, none⟩) (.inl (by show N2 < _; omega)) (.slice A2 r.w.n r.w.n)
  replace hb0 := hb0.setCell (p := ⟨N2, 2, none⟩) (by show _ ≤ N2; omega) (.slice A2 r.w.n r.w.n)
  replace B2 := B2.set f2 3 (.slice A3 r.e.n r.e.n) (by simp)
  simp only [List.set_cons_zero, List.set_cons_succ] at B2
  replace f2 := frozen_set (M := N2) f2 3 (.slice A3 r.e.n r.e.n)
  replace f1 := frozen_set (M := N2) f1 3 (.slice A3 r.e.n r.e.n)
  replace B0 := B0.off (p := ⟨N2, 3, none⟩) (by show N2 ≠ _; omega) (.slice A3 r.e.n r.e.n)
  replace B1 := B1.off (p := ⟨N2, 3, none⟩) (by show N2 ≠ _; omega) (.slice A3 r.e.n r.e.n)
  replace o0 := o0.off (p := ⟨N2, 3, none⟩) (.inl (by show N2 < _; omega)) (.slice A3 r.e.n r.e.n)
  replace o1 := o1.off (p := ⟨N2, 3, none⟩) (.inl (by show N2 < _; omega)) (.slice A3 r.e.n r.e.n)
  replace o2 := o2.off (p := ⟨N2, 3, none⟩) (.inl (by show N2 < _; omega)) (.slice A3 r.e.n r.e.n)
  replace o3 := o3.off (p := ⟨N2, 3, none⟩) (.inl (by show N2 < _; omega)) (.slice A3 r.e.n r.e.n)
  replace hb0 := hb0.setCell (p := ⟨N2, 3, none⟩) (by show _ ≤ N2; omega) (.slice A3 r.e.n r.e.n)
  have es32 : s3 = ((V2.setCell ⟨N2, 2, none⟩ (.slice A2 r.w.n r.w.n)).setCell ⟨N2, 3, none⟩ (.slice A3 r.e.n r.e.n)).heap.size := by simpa using es3
  replace es3 := es32
  clear es32
  generalize ((V2.setCell ⟨N2, 2, none⟩ (.slice A2 r.w.n r.w.n)).setCell ⟨N2, 3, none⟩ (.slice A3 r.e.n r.e.n)) = U2 at *
  have hq3 := HP.out.keep hb0
  refine (toPickS_any _ _ _ p.ch _ hq3.ch).mono ?_
  rintro e V3 ⟨A4, rfl, o4, hs⟩
  replace o4 := o4.at_
  obtain ⟨s4, es4⟩ : ∃ s, s = V3.heap.size := ⟨_, rfl⟩
  rw [← es3, ← es4] at o4
  have hl3 : s3 ≤ s4 := by rw [es3, es4]; exact hs.size
  clear hq3
  replace o0 := o0.keep hs
  replace o1 := o1.keep hs
  replace o2 := o2.keep hs
  replace o3 := o3.keep hs
  replace B0 := B0.keep hs
  replace f1 := fun j => (hs.frozen (p := ⟨w.heap.size + 1, j, none⟩) B1.1).trans (f1 j)
  replace f2 := fun j => (hs.frozen (p := ⟨N2, j, none⟩) B2.1).trans (f2 j)
  replace B1 := B1.keep hs
  replace B2 := B2.keep hs
  replace hb0 := below_on hb0 hs
  clear hs es3
  obtain ⟨b0, b1, b2, b3, b4, b5, b6, bl⟩ := B0.seven
  obtain ⟨e0, e1, e2, e3, e4, e5, e6, el⟩ := B2.seven
  go_wp2_with fail
  clear b0 b1 b2 b3 b4 b5 b6 bl e0 e1 e2 e3 e4 e5 e6 el
  replace B2 := B2.set f2 4 (.slice A4 r.p.n r.p.n) (by simp)
  simp only [List.set_cons_zero, List.set_cons_succ] at B2
  replace f2 := frozen_set (M := N2) f2 4 (.slice A4 r.p.n r.p.n)
  replace f1 := frozen_set (M := N2) f1 4 (.slice A4 r.p.n r.p.n)
  replace B0 := B0.off (p := ⟨N2, 4, none⟩) (by show N2 ≠ _; omega) (.slice A4 r.p.n r.p.n)
  replace B1 := B1.off (p := ⟨N2, 4, none⟩) (by show N2 ≠ _; omega) (.slice A4 r.p.n r.p.n)
  replace o0 := o0.off (p := ⟨N2, 4, none⟩) (.inl (by show N2 < _; omega)) (.slice A4 r.p.n r.p.n)
  replace o1 := o1.off (p := ⟨N2, 4, none⟩) (.inl (by show N2 < _; omega)) (.slice A4 r.p.n r.p.n)
  replace o2 := o2.off (p := ⟨N2, 4, none⟩) (.inl (by show N2 < _; omega)) (.slice A4 r.p.n r.p.n)
  replace o3 := o3.off (p := ⟨N2, 4, none⟩) (.inl (by show N2 < _; omega)) (.slice A4 r.p.n r.p.n)
  replace o4 := o4.off (p := ⟨N2, 4, none⟩) (.inl (by show N2 < _; omega)) (.slice A4 r.p.n r.p.n)
  replace hb0 := hb0.setCell (p := ⟨N2, 4, none⟩) (by show _ ≤ N2; omega) (.slice A4 r.p.n r.p.n)
  have es42 : s4 = (V3.setCell ⟨N2, 4, none⟩ (.slice A4 r.p.n r.p.n)).heap.size := by simpa using es4
  replace es4 := es42
  clear es42
  generalize (V3.setCell ⟨N2, 4, none⟩ (.slice A4 r.p.n r.p.n)) = U3 at *
  have hq4 := HP.out.keep hb0
  refine (toNeedS_any _ _ _ p.st _ hq4.st).mono ?_
  rintro e V4 ⟨A5, rfl, o5, hs⟩
  replace o5 := o5.at_
  obtain ⟨s5, es5⟩ : ∃ s, s = V4.heap.size := ⟨_, rfl⟩
  rw [← es4, ← es5] at o5
  have hl4 : s4 ≤ s5 := by rw [es4, es5]; exact hs.size
  clear hq4
  replace o0 := o0.keep hs
  replace o1 := o1.keep hs
  replace o2 := o2.keep hs
  replace o3 := o3.keep hs
  replace o4 := o4.keep hs
  replace B0 := B0.keep hs
  replace f1 := fun j => (hs.frozen (p := ⟨w.heap.size + 1, j, none⟩) B1.1).trans (f1 j)
  replace f2 := fun j => (hs.frozen (p := ⟨N2, j, none⟩) B2.1).trans (f2 j)
  replace B1 := B1.keep hs
  replace B2 := B2.keep hs
  replace hb0 := below_on hb0 hs
  clear hs es4
  obtain ⟨b0, b1, b2, b3, b4, b5, b6, bl⟩ := B0.seven
  obtain ⟨e0, e1, e2, e3, e4, e5, e6, el⟩ := B2.seven
  go_wp2_with fail
  clear b0 b1 b2 b3 b4 b5 b6 bl e0 e1 e2 e3 e4 e5 e6 el
  replace B2 := B2.set f2 5 (.slice A5 r.s.n r.s.n) (by simp)
  simp only [List.set_cons_zero, List.set_cons_succ] at B2
  replace f2 := frozen_set (M := N2) f2 5 (.slice A5 r.s.n r.s.n)
  replace f1 := frozen_set (M := N2) f1 5 (.slice A5 r.s.n r.s.n)
  replace B0 := B0.off (p := ⟨N2, 5, none⟩) (by show N2 ≠ _; omega) (.slice A5 r.s.n r.s.n)
  replace B1 := B1.off (p := ⟨N2, 5, none⟩) (by show N2 ≠ _; omega) (.slice A5 r.s.n r.s.n)
  replace o0 := o0.off (p := ⟨N2, 5, none⟩) (.inl (by show N2 < _; omega)) (.slice A5 r.s.n r.s.n)
  replace o1 := o1.off (p := ⟨N2, 5, none⟩) (.inl (by show N2 < _; omega)) (.slice A5 r.s.n r.s.n)
  replace o2 := o2.off (p := ⟨N2, 5, none⟩) (.inl (by show N2 < _; omega)) (.slice A5 r.s.n r.s.n)
  replace o3 := o3.off (p := ⟨N2, 5, none⟩) (.inl (by show N2 < _; omega)) (.slice A5 r.s.n r.s.n)
  replace o4 := o4.off (p := ⟨N2, 5, none⟩) (.inl (by show N2 < _; omega)) (.slice A5 r.s.n r.s.n)
  replace o5 := o5.off (p := ⟨N2, 5, none⟩) (.inl (by show N2 < _; omega)) (.slice A5 r.s.n r.s.n)
  replace hb0 := hb0.setCell (p := ⟨N2, 5, none⟩) (by show _ ≤ N2; omega) (.slice A5 r.s.n r.s.n)
  have es52 : s5 = (V4.setCell ⟨N2, 5, none⟩ (.slice A5 r.s.n r.s.n)).heap.size := by simpa using es5
  replace es5 := es52
  clear es52
  generalize (V4.setCell ⟨N2, 5, none⟩ (.slice A5 r.s.n r.s.n)) = U4 at *
  have hq5 := HP.out.keep hb0
  refine (toReceiptS_any _ _ _ p.rc _ hq5.rc).mono ?_
  rintro e V5 ⟨A6, rfl, o6, hs⟩
  replace o6 := o6.at_
  obtain ⟨s6, es6⟩ : ∃ s, s = V5.heap.size := ⟨_, rfl⟩
  rw [← es5, ← es6] at o6
  have hl5 : s5 ≤ s6 := by rw [es5, es6]; exact hs.size
  clear hq5
  replace o0 := o0.keep hs
  replace o1 := o1.keep hs
  replace o2 := o2.keep hs
  replace o3 := o3.keep hs
  replace o4 := o4.keep hs
  replace o5 := o5.keep hs
  replace B0 := B0.keep hs
  replace f1 := fun j => (hs.frozen (p := ⟨w.heap.size + 1, j, none⟩) B1.1).trans (f1 j)
  replace f2 := fun j => (hs.frozen (p := ⟨N2, j, none⟩) B2.1).trans (f2 j)
  replace B1 := B1.keep hs
  replace B2 := B2.keep hs
  replace hb0 := below_on hb0 hs
  clear hs es5
  obtain ⟨b0, b1, b2, b3, b4, b5, b6, bl⟩ := B1.seven
  obtain ⟨e0, e1, e2, e3, e4, e5, e6, el⟩ := B2.seven
  go_wp2_with fail
  have hne : N2 ≠ w.heap.size + 1 := by omega
  have ll : w.heap.size + 1 < N2 := by omega
  refine bodyPost_ret (v := .agg #[.slice A0 r.i.n r.i.n, .slice A1 r.l.n r.l.n, .slice A2 r.w.n r.w.n, .slice A3 r.e.n r.e.n, .slice A4 r.p.n r.p.n, .slice A5 r.s.n r.s.n, .slice A6 r.q.n r.q.n]) (by simp [results, Tryz.results10, go_sem, b0, b1, b2, b3, b4, b5, b6, e0, e1, e2, e3, e4, e5, e6, f1, f2, hne, hne.symm]) rfl ⟨⟨⟨A0, r.i.n, r.i.n⟩, ⟨A1, r.l.n, r.l.n⟩, ⟨A2, r.w.n, r.w.n⟩, ⟨A3, r.e.n, r.e.n⟩, ⟨A4, r.p.n, r.p.n⟩, ⟨A5, r.s.n, r.s.n⟩, ⟨A6, r.q.n, r.q.n⟩⟩, s1, s2, sM, s3, s4, s5, R, mid, m, rfl, ⟨?_, ?_, ?_, ?_, ?_, ?_, ?_, by omega, by omega, by omega, by omega, by omega, by omega, ?_⟩, ?_⟩
  · exact RowsAt.lower ((((((((o0.off (.inl (by dsimp only; omega)) _).off (.inl (by dsimp only; omega)) _).off (.inl (by dsimp only; omega)) _).off (.inl (by dsimp only; omega)) _).off (.inl (by dsimp only; omega)) _).off (.inl (by dsimp only; omega)) _).off (.inl (by dsimp only; omega)) _).off (.inl (by dsimp only; omega)) _) (by omega)
  · exact ((((((((o1.off (.inl (by dsimp only; omega)) _).off (.inl (by dsimp only; omega)) _).off (.inl (by dsimp only; omega)) _).off (.inl (by dsimp only; omega)) _).off (.inl (by dsimp only; omega)) _).off (.inl (by dsimp only; omega)) _).off (.inl (by dsimp only; omega)) _).off (.inl (by dsimp only; omega)) _)
  · exact ((((((((o2.off (.inl (by dsimp only; omega)) _).off (.inl (by dsimp only; omega)) _).off (.inl (by dsimp only; omega)) _).off (.inl (by dsimp only; omega)) _).off (.inl (by dsimp only; omega)) _).off (.inl (by dsimp only; omega)) _).off (.inl (by dsimp only; omega)) _).off (.inl (by dsimp only; omega)) _)
  · exact ((((((((o3.off (.inl (by dsimp only; omega)) _).off (.inl (by dsimp only; omega)) _).off (.inl (by dsimp only; omega)) _).off (.inl (by dsimp only; omega)) _).off (.inl (by dsimp only; omega)) _).off (.inl (by dsimp only; omega)) _).off (.inl (by dsimp only; omega)) _).off (.inl (by dsimp only; omega)) _)
  · exact ((((((((o4.off (.inl (by dsimp only; omega)) _).off (.inl (by dsimp only; omega)) _).off (.inl (by dsimp only; omega)) _).off (.inl (by dsimp only; omega)) _).off (.inl (by dsimp only; omega)) _).off (.inl (by dsimp only; omega)) _).off (.inl (by dsimp only; omega)) _).off (.inl (by dsimp only; omega)) _)
  · exact ((((((((o5.off (.inl (by dsimp only; omega)) _).off (.inl (by dsimp only; omega)) _).off (.inl (by dsimp only; omega)) _).off (.inl (by dsimp only; omega)) _).off (.inl (by dsimp only; omega)) _).off (.inl (by dsimp only; omega)) _).off (.inl (by dsimp only; omega)) _).off (.inl (by dsimp only; omega)) _)
  · exact RowsAt.hiEq ((((((((o6.off (.inl (by dsimp only; omega)) _).off (.inl (by dsimp only; omega)) _).off (.inl (by dsimp only; omega)) _).off (.inl (by dsimp only; omega)) _).off (.inl (by dsimp only; omega)) _).off (.inl (by dsimp only; omega)) _).off (.inl (by dsimp only; omega)) _).off (.inl (by dsimp only; omega)) _) (by simp [es6])
  · simp [← es6]; omega
  · exact ((((((((hb0.setCell (by simp; omega) _).setCell (by simp) _).setCell (by simp) _).setCell (by simp) _).setCell (by simp) _).setCell (by simp) _).setCell (by simp) _).setCell (by simp) _)
set_option maxRecDepth 100000 in
set_option maxHeartbeats 4000000 in
theorem markPlant_any (r : PtR) (p : Pt) (lo hi : Nat) (m1 m2 m3 m4 m5 m6 : Nat) (R : List BlR) (mid : Nat) (m : Nat → Nat) (k0 : Int) (w w0 : World) (r0 : PtR) (h : PlantAt w lo hi r p m1 m2 m3 m4 m5 m6 R mid m) (hp0 : PlantIn w0 r0 p) (hk0 : 1 ≤ k0) (hk1 : k0 ≤ 1000000000) (hhi : hi ≤ w.heap.size) :
    Calls Tryz.prog 16 #[.agg #[.slice r.i.a r.i.n r.i.c, .slice r.l.a r.l.n r.l.c, .slice r.w.a r.w.n r.w.c, .slice r.e.a r.e.n r.e.c, .slice r.p.a r.p.n r.p.c, .slice r.s.a r.s.n r.s.c, .slice r.q.a r.q.n r.q.c], .int .i64 k0] w fun e w' => ∃ k1 : Int, e = .returned (.int .i64 k1) ∧ 1 ≤ k1 ∧ k1 ≤ 1000000000000000000 ∧ Only lo hi w w' := by
  have B0 : BoxOf (w.alloc (.cells #[.slice r.i.a r.i.n r.i.c, .slice r.l.a r.l.n r.l.c, .slice r.w.a r.w.n r.w.c, .slice r.e.a r.e.n r.e.c, .slice r.p.a r.p.n r.p.c, .slice r.s.a r.s.n r.s.c, .slice r.q.a r.q.n r.q.c] 48)) w.heap.size [.slice r.i.a r.i.n r.i.c, .slice r.l.a r.l.n r.l.c, .slice r.w.a r.w.n r.w.c, .slice r.e.a r.e.n r.e.c, .slice r.p.a r.p.n r.p.c, .slice r.s.a r.s.n r.s.c, .slice r.q.a r.q.n r.q.c] := boxOf_alloc w #[.slice r.i.a r.i.n r.i.c, .slice r.l.a r.l.n r.l.c, .slice r.w.a r.w.n r.w.c, .slice r.e.a r.e.n r.e.c, .slice r.p.a r.p.n r.p.c, .slice r.s.a r.s.n r.s.c, .slice r.q.a r.q.n r.q.c] 48
  have hA := below_alloc w (.cells #[.slice r.i.a r.i.n r.i.c, .slice r.l.a r.l.n r.l.c, .slice r.w.a r.w.n r.w.c, .slice r.e.a r.e.n r.e.c, .slice r.p.a r.p.n r.p.c, .slice r.s.a r.s.n r.s.c, .slice r.q.a r.q.n r.q.c] 48)
  have hO : Only lo hi w (w.alloc (.cells #[.slice r.i.a r.i.n r.i.c, .slice r.l.a r.l.n r.l.c, .slice r.w.a r.w.n r.w.c, .slice r.e.a r.e.n r.e.c, .slice r.p.a r.p.n r.p.c, .slice r.s.a r.s.n r.s.c, .slice r.q.a r.q.n r.q.c] 48)) := Only.of_below hA
  replace h := h.keep hA
  have n0 := hp0.it.len
  have n1 := hp0.ls.len
  have n2 := hp0.wk.len
  have n3 := hp0.ex.len
  have n4 := hp0.ch.len
  have n5 := hp0.st.len
  have n6 := hp0.rc.len
  have q0 := h.it
  have e0 := h.h0
  have q1 := h.ls
  have e1 := h.h1
  have q2 := h.wk
  have e2 := h.h2
  have q3 := h.ex
  have e3 := h.h3
  have q4 := h.ch
  have e4 := h.h4
  have q5 := h.st
  have e5 := h.h5
  have q6 := h.rc
  have e6 := h.h6
  clear h hA hp0
  go_enter Tryz.func16, Tryz.ntmps16
  go_wp2_with fail
  generalize w.alloc (.cells #[.slice r.i.a r.i.n r.i.c, .slice r.l.a r.l.n r.l.c, .slice r.w.a r.w.n r.w.c, .slice r.e.a r.e.n r.e.c, .slice r.p.a r.p.n r.p.c, .slice r.s.a r.s.n r.s.c, .slice r.q.a r.q.n r.q.c] 48) = V at *
  generalize hkk : k0 = x0
  have x0a : 1 ≤ x0 := by omega
  have x0b : x0 ≤ 1000000000 := by omega
  clear hkk hk0 hk1
  refine (markItemS_any _ _ _ _ _ p.it _ _ q0 (by omega) (by omega) n0).mono ?_
  rintro e V0 ⟨rfl, _, hs⟩
  obtain ⟨x1, hx1⟩ : ∃ x, x0 + 8 * p.it.length = x := ⟨_, rfl⟩
  rw [hx1]
  have x1a : 1 ≤ x1 := by omega
  have x1b : x1 ≤ 1134217728 := by omega
  clear hx1 x0a x0b
  replace q1 := q1.only hs (.inr (by omega))
  replace q2 := q2.only hs (.inr (by omega))
  replace q3 := q3.only hs (.inr (by omega))
  replace q4 := q4.only hs (.inr (by omega))
  replace q5 := q5.only hs (.inr (by omega))
  replace q6 := q6.only hs (.inr (by omega))
  replace B0 := B0.only hs (.inr (by omega))
  replace hO := hO.trans (hs.widen (by omega) (by omega))
  clear hs q0
  obtain ⟨b0, b1, b2, b3, b4, b5, b6, bl⟩ := B0.seven
  go_wp2_with fail
  clear b0 b1 b2 b3 b4 b5 b6 bl
  refine (markBillLineS_any _ _ _ _ _ p.ls R mid m _ _ q1 (by omega) (by omega) n1).mono ?_
  rintro e V1 ⟨x2, rfl, y1, z1, hs⟩
  have x2a : 1 ≤ x2 := by omega
  have x2b : x2 ≤ 100000000000000000 := by omega
  clear y1 z1 x1a x1b
  replace q2 := q2.only hs (.inr (by omega))
  replace q3 := q3.only hs (.inr (by omega))
  replace q4 := q4.only hs (.inr (by omega))
  replace q5 := q5.only hs (.inr (by omega))
  replace q6 := q6.only hs (.inr (by omega))
  replace B0 := B0.only hs (.inr (by omega))
  replace hO := hO.trans (hs.widen (by omega) (by omega))
  clear hs q1
  obtain ⟨b0, b1, b2, b3, b4, b5, b6, bl⟩ := B0.seven
  go_wp2_with fail
  clear b0 b1 b2 b3 b4 b5 b6 bl
  refine (markCalendar_any _ _ _ _ _ _ _ _ _ p.wk p.ex _ _ q2 q3 e2 e3 (by omega) (by omega) n2 n3).mono ?_
  rintro e V2 ⟨rfl, hs⟩
  obtain ⟨x3, hx3⟩ : ∃ x, x2 + p.wk.length + 2 * p.ex.length = x := ⟨_, rfl⟩
  rw [hx3]
  have x3a : 1 ≤ x3 := by omega
  have x3b : x3 ≤ 100000002000000000 := by omega
  clear hx3 x2a x2b
  replace q4 := q4.only hs (.inr (by omega))
  replace q5 := q5.only hs (.inr (by omega))
  replace q6 := q6.only hs (.inr (by omega))
  replace B0 := B0.only hs (.inr (by omega))
  replace hO := hO.trans (hs.widen (by omega) (by omega))
  clear hs q2 q3
  obtain ⟨b0, b1, b2, b3, b4, b5, b6, bl⟩ := B0.seven
  go_wp2_with fail
  clear b0 b1 b2 b3 b4 b5 b6 bl
  refine (markPickS_any _ _ _ _ _ p.ch _ _ q4 (by omega) (by omega) n4).mono ?_
  rintro e V3 ⟨rfl, _, hs⟩
  obtain ⟨x4, hx4⟩ : ∃ x, x3 + 2 * p.ch.length = x := ⟨_, rfl⟩
  rw [hx4]
  have x4a : 1 ≤ x4 := by omega
  have x4b : x4 ≤ 100000003000000000 := by omega
  clear hx4 x3a x3b
  replace q5 := q5.only hs (.inr (by omega))
  replace q6 := q6.only hs (.inr (by omega))
  replace B0 := B0.only hs (.inr (by omega))
  replace hO := hO.trans (hs.widen (by omega) (by omega))
  clear hs q4
  obtain ⟨b0, b1, b2, b3, b4, b5, b6, bl⟩ := B0.seven
  go_wp2_with fail
  clear b0 b1 b2 b3 b4 b5 b6 bl
  refine (markNeedS_any _ _ _ _ _ p.st _ _ q5 (by omega) (by omega) n5).mono ?_
  rintro e V4 ⟨rfl, _, hs⟩
  obtain ⟨x5, hx5⟩ : ∃ x, x4 + 2 * p.st.length = x := ⟨_, rfl⟩
  rw [hx5]
  have x5a : 1 ≤ x5 := by omega
  have x5b : x5 ≤ 100000004000000000 := by omega
  clear hx5 x4a x4b
  replace q6 := q6.only hs (.inr (by omega))
  replace B0 := B0.only hs (.inr (by omega))
  replace hO := hO.trans (hs.widen (by omega) (by omega))
  clear hs q5
  obtain ⟨b0, b1, b2, b3, b4, b5, b6, bl⟩ := B0.seven
  go_wp2_with fail
  clear b0 b1 b2 b3 b4 b5 b6 bl
  refine (markReceiptS_any _ _ _ _ _ p.rc _ _ q6 (by omega) (by omega) n6).mono ?_
  rintro e V5 ⟨rfl, _, hs⟩
  obtain ⟨x6, hx6⟩ : ∃ x, x5 + 3 * p.rc.length = x := ⟨_, rfl⟩
  rw [hx6]
  have x6a : 1 ≤ x6 := by omega
  have x6b : x6 ≤ 100000005000000000 := by omega
  clear hx6 x5a x5b
  replace B0 := B0.only hs (.inr (by omega))
  replace hO := hO.trans (hs.widen (by omega) (by omega))
  clear hs q6
  go_wp2_with fail
  go_ret
  exact ⟨x6, rfl, by omega, by omega, hO⟩
end Go.Proofs.YtlnkofnfgemfdaaGreat
