/- Part 17 of the texts of this claim: The walks of the laws' own helpers on calendars; Boxes in memory. -/
import Derived.Test.YtlnkofnfgemfdaaGreatBo16
import Derived.Test.YtlnkofnfgemfdaaGreatBo2
import Derived.Test.YtlnkofnfgemfdaaGreatBo6
/- The walks of the laws' own helpers on calendars. -/
namespace Go.Proofs.YtlnkofnfgemfdaaGreat
open Go.RowKit
theorem OwnInts.at_M {w : World} {lo lo' M : Nat} {A : Option Addr} {n c : Nat} {l : List Int} (h : OwnInts w lo A n c l) (hl : lo' ≤ lo) (hM : M ≤ w.heap.size) (hlt : ∀ a, A = some a → a.block < M) : IntsAt w lo' M A n c l := ⟨h.1, own_lower h.2 hl, hM, hlt⟩
set_option maxRecDepth 100000 in
set_option maxHeartbeats 2000000 in
theorem toCalendar_own (A B : Option Addr) (n m c d : Nat) (wk : List Int) (ex : List Ex) (w : World) (ha : IntsIn w A n wk) (hb : ExsIn w B m ex) :
    Calls Tryz.prog 48 #[.agg #[.slice A n c, .slice B m d]] w fun e w' => ∃ A' B' M, e = .returned (.agg #[.slice A' n n, .slice B' m m]) ∧ w.heap.size ≤ M ∧ IntsAt w' w.heap.size M A' n n wk ∧ RowsAt exF 192 w' M w'.heap.size B' m m ex ∧ Below w.heap.size w w' := by
  have HBX := hb
  have HNL := Lib.hid ha.len
  have HML := Lib.hid hb.len
  have hb0 : Below w.heap.size w (((w.alloc (.cells #[.slice A n c, .slice B m d] 27)).alloc (.cells #[.slice none 0 0, .slice none 0 0] 43)).alloc (.cells #[.slice none 0 0, .slice none 0 0] 43)) :=
    (((Below.refl _ _).alloc (Nat.le_refl _) _).alloc (by simp) _).alloc (by simp; omega) _
  have hz0 : (((w.alloc (.cells #[.slice A n c, .slice B m d] 27)).alloc (.cells #[.slice none 0 0, .slice none 0 0] 43)).alloc (.cells #[.slice none 0 0, .slice none 0 0] 43)).heap.size = w.heap.size + 3 := by simp
  have c00 : (((w.alloc (.cells #[.slice A n c, .slice B m d] 27)).alloc (.cells #[.slice none 0 0, .slice none 0 0] 43)).alloc (.cells #[.slice none 0 0, .slice none 0 0] 43)).cell? ⟨w.heap.size, 0, none⟩ = some (.slice A n c) := by simp [go_sem]
  have c01 : (((w.alloc (.cells #[.slice A n c, .slice B m d] 27)).alloc (.cells #[.slice none 0 0, .slice none 0 0] 43)).alloc (.cells #[.slice none 0 0, .slice none 0 0] 43)).cell? ⟨w.heap.size, 1, none⟩ = some (.slice B m d) := by simp [go_sem]
  have c10 : (((w.alloc (.cells #[.slice A n c, .slice B m d] 27)).alloc (.cells #[.slice none 0 0, .slice none 0 0] 43)).alloc (.cells #[.slice none 0 0, .slice none 0 0] 43)).cell? ⟨w.heap.size + 1, 0, none⟩ = some (.slice none 0 0) := by simp [go_sem]
  have c11 : (((w.alloc (.cells #[.slice A n c, .slice B m d] 27)).alloc (.cells #[.slice none 0 0, .slice none 0 0] 43)).alloc (.cells #[.slice none 0 0, .slice none 0 0] 43)).cell? ⟨w.heap.size + 1, 1, none⟩ = some (.slice none 0 0) := by simp [go_sem]
  have c20 : (((w.alloc (.cells #[.slice A n c, .slice B m d] 27)).alloc (.cells #[.slice none 0 0, .slice none 0 0] 43)).alloc (.cells #[.slice none 0 0, .slice none 0 0] 43)).cell? ⟨w.heap.size + 1 + 1, 0, none⟩ = some (.slice none 0 0) := by simp [go_sem]
  have c21 : (((w.alloc (.cells #[.slice A n c, .slice B m d] 27)).alloc (.cells #[.slice none 0 0, .slice none 0 0] 43)).alloc (.cells #[.slice none 0 0, .slice none 0 0] 43)).cell? ⟨w.heap.size + 1 + 1, 1, none⟩ = some (.slice none 0 0) := by simp [go_sem]
  have f1 : ∀ j, (((w.alloc (.cells #[.slice A n c, .slice B m d] 27)).alloc (.cells #[.slice none 0 0, .slice none 0 0] 43)).alloc (.cells #[.slice none 0 0, .slice none 0 0] 43)).frozen? ⟨w.heap.size + 1, j, none⟩ = false := fun j => by simp [go_sem]
  have f2 : ∀ j, (((w.alloc (.cells #[.slice A n c, .slice B m d] 27)).alloc (.cells #[.slice none 0 0, .slice none 0 0] 43)).alloc (.cells #[.slice none 0 0, .slice none 0 0] 43)).frozen? ⟨w.heap.size + 1 + 1, j, none⟩ = false := fun j => by simp [go_sem]
  go_enter Tryz.func48, Tryz.ntmps48
  go_wp2_with fail
  generalize (((w.alloc (.cells #[.slice A n c, .slice B m d] 27)).alloc (.cells #[.slice none 0 0, .slice none 0 0] 43)).alloc (.cells #[.slice none 0 0, .slice none 0 0] 43)) = W at *
  have l0 : w.heap.size < W.heap.size := by omega
  have l1 : w.heap.size + 1 < W.heap.size := by omega
  have l2 : w.heap.size + 1 + 1 < W.heap.size := by omega
  have HZ := Lib.hid hz0
  clear hz0
  refine (toIntS_any _ _ _ wk _ (ha.keep hb0)).mono ?_
  rintro e w1 ⟨A', rfl, hA, hs⟩
  replace hb := hb.keep hb0
  replace hb0 := below_on hb0 hs
  replace c00 := (hs.cell (p := ⟨w.heap.size, 0, none⟩) l0).trans c00
  replace c01 := (hs.cell (p := ⟨w.heap.size, 1, none⟩) l0).trans c01
  replace c10 := (hs.cell (p := ⟨w.heap.size + 1, 0, none⟩) l1).trans c10
  replace c11 := (hs.cell (p := ⟨w.heap.size + 1, 1, none⟩) l1).trans c11
  replace c20 := (hs.cell (p := ⟨w.heap.size + 1 + 1, 0, none⟩) l2).trans c20
  replace c21 := (hs.cell (p := ⟨w.heap.size + 1 + 1, 1, none⟩) l2).trans c21
  replace f1 := fun j => (hs.frozen (p := ⟨w.heap.size + 1, j, none⟩) l1).trans (f1 j)
  replace f2 := fun j => (hs.frozen (p := ⟨w.heap.size + 1 + 1, j, none⟩) l2).trans (f2 j)
  replace hb := hb.keep hs
  have l3 := hs.size
  clear hs
  go_wp2_with fail
  have d20 : (w1.setCell ⟨w.heap.size + 1 + 1, 0, none⟩ (.slice A' n n)).cell? ⟨w.heap.size + 1 + 1, 0, none⟩ = some (.slice A' n n) := by simp [go_sem, c20, f2]
  have d21 : (w1.setCell ⟨w.heap.size + 1 + 1, 0, none⟩ (.slice A' n n)).cell? ⟨w.heap.size + 1 + 1, 1, none⟩ = some (.slice none 0 0) := by simp [go_sem, c21]
  have d10 : (w1.setCell ⟨w.heap.size + 1 + 1, 0, none⟩ (.slice A' n n)).cell? ⟨w.heap.size + 1, 0, none⟩ = some (.slice none 0 0) := by simp [go_sem, c10]
  have d11 : (w1.setCell ⟨w.heap.size + 1 + 1, 0, none⟩ (.slice A' n n)).cell? ⟨w.heap.size + 1, 1, none⟩ = some (.slice none 0 0) := by simp [go_sem, c11]
  have e1 : ∀ j, (w1.setCell ⟨w.heap.size + 1 + 1, 0, none⟩ (.slice A' n n)).frozen? ⟨w.heap.size + 1, j, none⟩ = false := fun j => by simp [go_sem, f1]
  have e2 : ∀ j, (w1.setCell ⟨w.heap.size + 1 + 1, 0, none⟩ (.slice A' n n)).frozen? ⟨w.heap.size + 1 + 1, j, none⟩ = false := fun j => by simp [go_sem, f2]
  have hA1 := hA.far (p := ⟨w.heap.size + 1 + 1, 0, none⟩) l2 (.slice A' n n)
  have hb1 : Below w.heap.size w (w1.setCell ⟨w.heap.size + 1 + 1, 0, none⟩ (.slice A' n n)) := hb0.setCell (by simp; omega) _
  have hbx := HBX.keep hb1
  have lz : W.heap.size ≤ (w1.setCell ⟨w.heap.size + 1 + 1, 0, none⟩ (.slice A' n n)).heap.size := by simp; exact l3
  clear hA hb0 c00 c01 c10 c11 c20 c21 f1 f2 hb ha
  generalize w1.setCell ⟨w.heap.size + 1 + 1, 0, none⟩ (.slice A' n n) = w2 at *
  have hAl := own_lt hA1.2
  refine (toExceptionS_any _ _ _ ex _ hbx).mono ?_
  rintro e w3 ⟨B', rfl, hB, hs⟩
  have hA2 := hA1.keep hs
  have hb2 := below_on hb1 hs
  replace d20 := (hs.cell (p := ⟨w.heap.size + 1 + 1, 0, none⟩) (Nat.lt_of_lt_of_le l2 lz)).trans d20
  replace d21 := (hs.cell (p := ⟨w.heap.size + 1 + 1, 1, none⟩) (Nat.lt_of_lt_of_le l2 lz)).trans d21
  replace d10 := (hs.cell (p := ⟨w.heap.size + 1, 0, none⟩) (Nat.lt_of_lt_of_le l1 lz)).trans d10
  replace d11 := (hs.cell (p := ⟨w.heap.size + 1, 1, none⟩) (Nat.lt_of_lt_of_le l1 lz)).trans d11
  replace e1 := fun j => (hs.frozen (p := ⟨w.heap.size + 1, j, none⟩) (Nat.lt_of_lt_of_le l1 lz)).trans (e1 j)
  replace e2 := fun j => (hs.frozen (p := ⟨w.heap.size + 1 + 1, j, none⟩) (Nat.lt_of_lt_of_le l2 lz)).trans (e2 j)
  have l4 := HNL.out
  have l5 := HML.out
  have l6 := Nat.lt_of_lt_of_le l2 lz
  have l7 := Nat.lt_of_lt_of_le l1 lz
  go_wp2_with fail
  refine bodyPost_ret (v := .agg #[.slice A' n n, .slice B' m m]) (by simp [results, Tryz.results48, go_sem, d20, d21, d10, d11, e1, e2]) rfl ⟨A', B', w2.heap.size, rfl, by omega, ?_, ?_, ?_⟩
  · exact OwnInts.at_M (((hA2.far l2 _).far l1 _).far l1 _) (by omega) (by simp; exact hs.size) (fun a ha => (hAl a ha).2)
  · exact OwnRows.at_ (((hB.far l6 _).far l7 _).far l7 _)
  · exact ((hb2.setCell (by simp; omega) _).setCell (by simp) _).setCell (by simp) _
theorem toCalendar_any (A B : Option Addr) (n m c d : Nat) (wk : List Int) (ex : List Ex) (w : World) (ha : IntsIn w A n wk) (hb : ExsIn w B m ex) :
    Calls Tryz.prog 48 #[.agg #[.slice A n c, .slice B m d]] w fun e w' => ∃ A' B', e = .returned (.agg #[.slice A' n n, .slice B' m m]) ∧ IntsIn w' A' n wk ∧ ExsIn w' B' m ex ∧ Below w.heap.size w w' := by
  have h1 := ha.len
  have h2 := hb.len
  refine (toCalendar_own A B n m c d wk ex w ha hb).mono ?_
  rintro e w1 ⟨A', B', M, rfl, _, h3, h4, h5⟩
  exact ⟨A', B', rfl, h3.rows h1, h4.rows h2, h5⟩
set_option maxRecDepth 100000 in
theorem szIntS_ok (A : Option Addr) (n c : Nat) (left : Int) (w : World) (h : (n : Int) ≤ left) (hl : left ≤ 1048576) :
    Calls Tryz.prog 94 #[.slice A n c, .int .i64 left] w fun e w' => e = .returned (.int .i64 (left - n)) ∧ w = w' := by
  go_enter Tryz.func94, Tryz.ntmps94
  go_wp2
  go_ret
  exact ⟨rfl, rfl⟩
theorem szIntS_big (A : Option Addr) (n c : Nat) (left : Int) (w : World) (h : left < (n : Int)) (h0 : 0 ≤ left) (hn : n ≤ 9223372036854775807) :
    Calls Tryz.prog 94 #[.slice A n c, .int .i64 left] w fun e w' => e = .returned (.int .i64 (-1)) ∧ w = w' := by
  go_enter Tryz.func94, Tryz.ntmps94
  go_wp2
  go_ret
  exact ⟨rfl, rfl⟩
theorem szCalendar_ok (A B : Option Addr) (n m c d : Nat) (left : Int) (w : World) (h : (n : Int) + m ≤ left) (hl : left ≤ 1048576) :
    Calls Tryz.prog 33 #[.agg #[.slice A n c, .slice B m d], .int .i64 left] w fun e w' => e = .returned (.int .i64 (left - n - m)) ∧ Below w.heap.size w w' := by
  go_enter Tryz.func33, Tryz.ntmps33
  go_wp2_with (first
    | (go_at_call 94; refine (szIntS_ok _ _ _ _ _ (by omega) (by omega)).mono ?_; rintro e w' ⟨rfl, rfl⟩)
    | (go_at_call 95; refine (szExceptionS_ok _ _ _ _ _ (by omega) (by omega)).mono ?_; rintro e w' ⟨rfl, rfl⟩))
  go_ret
  exact ⟨rfl, below_alloc _ _⟩
theorem szCalendar_big (A B : Option Addr) (n m c d : Nat) (left : Int) (w : World) (h : left < (n : Int) + m) (h0 : 0 ≤ left) (hl : left ≤ 1048576) (hn : n ≤ 9223372036854775807) (hm : m ≤ 9223372036854775807) :
    Calls Tryz.prog 33 #[.agg #[.slice A n c, .slice B m d], .int .i64 left] w fun e w' => e = .returned (.int .i64 (-1)) ∧ Below w.heap.size w w' := by
  by_cases h1 : left < (n : Int)
  · go_enter Tryz.func33, Tryz.ntmps33
    go_wp2_with (go_at_call 94; refine (szIntS_big _ _ _ _ _ h1 (by omega) (by omega)).mono ?_; rintro e w' ⟨rfl, rfl⟩)
    go_ret
    exact ⟨rfl, below_alloc _ _⟩
  · go_enter Tryz.func33, Tryz.ntmps33
    go_wp2_with (first
      | (go_at_call 94; refine (szIntS_ok _ _ _ _ _ (by omega) (by omega)).mono ?_; rintro e w' ⟨rfl, rfl⟩)
      | (go_at_call 95; refine (szExceptionS_big _ _ _ _ _ (by omega) (by omega) hm).mono ?_; rintro e w' ⟨rfl, rfl⟩))
    go_ret
    exact ⟨rfl, below_alloc _ _⟩
set_option maxRecDepth 100000 in
set_option maxHeartbeats 1000000 in
theorem eqCalendar_yes (A B A2 B2 : Option Addr) (n m c d n2 m2 c2 d2 : Nat) (wk : List Int) (ex : List Ex) (w : World) (ha : IntsIn w A n wk) (hb : ExsIn w B m ex) (ha2 : IntsIn w A2 n2 wk) (hb2 : ExsIn w B2 m2 ex) :
    Calls Tryz.prog 65 #[.agg #[.slice A n c, .slice B m d], .agg #[.slice A2 n2 c2, .slice B2 m2 d2]] w fun e w' => e = .returned (.bool true) ∧ Below w.heap.size w w' := by
  have hbox := below_on (below_alloc w (.cells #[.slice A n c, .slice B m d] 43)) (below_alloc (w.alloc (.cells #[.slice A n c, .slice B m d] 43)) (.cells #[.slice A2 n2 c2, .slice B2 m2 d2] 43))
  go_enter Tryz.func65, Tryz.ntmps65
  go_wp2_with (first
    | (go_at_call 126; refine (eqIntS_yes _ _ _ _ _ _ wk _ (ha.keep hbox) (ha2.keep hbox)).mono ?_; rintro e w5 ⟨rfl, hs⟩; obtain ⟨q, rfl⟩ := hs; have hq := below_drewN hbox q)
    | (go_at_call 127; refine (eqExceptionS_yes _ _ _ _ _ _ ex _ (hb.keep hq) (hb2.keep hq)).mono ?_; rintro e w6 ⟨rfl, hs2⟩))
  go_ret
  exact ⟨rfl, below_on hq hs2⟩
end Go.Proofs.YtlnkofnfgemfdaaGreat
/- Boxes in memory. -/
namespace Go.Proofs.YtlnkofnfgemfdaaGreat
open Go.RowKit
/-- A box in memory: block N holds the cells cs. -/
def BoxOf (w : World) (N : Nat) (cs : List Value) : Prop := N < w.heap.size ∧ ∀ j u, cs[j]? = some u → w.cell? ⟨N, j, none⟩ = some u
theorem BoxOf.keep {w w' : World} {N : Nat} {cs : List Value} (h : BoxOf w N cs) (hb : Below w.heap.size w w') : BoxOf w' N cs :=
  ⟨Nat.lt_of_lt_of_le h.1 hb.size, fun j u hu => (hb.cell (p := ⟨N, j, none⟩) h.1).trans (h.2 j u hu)⟩
theorem BoxOf.two {w : World} {N : Nat} {x y : Value} (h : BoxOf w N [x, y]) : w.cell? ⟨N, 0, none⟩ = some x ∧ w.cell? ⟨N, 1, none⟩ = some y ∧ N < w.heap.size := ⟨h.2 0 x rfl, h.2 1 y rfl, h.1⟩
theorem boxOf_alloc (w : World) (cs : Array Value) (t : TypeId) : BoxOf (w.alloc (.cells cs t)) w.heap.size cs.toList := by
  refine ⟨by simp, fun j u hu => ?_⟩
  have := news_at (w := w) rfl cs t j u hu
  rwa [Addr.add_lit, Nat.zero_add] at this
end Go.Proofs.YtlnkofnfgemfdaaGreat
