/- FnExactTakenUpTo: for every input the law returns true; each argument reads behind the call as before. No condition. -/
import Derived.Test.YtlnkofnfgemfdaaGreatRows
import Derived.Test.YtlnkofnfgemfdaaGreatTu1
import Derived.ProofKit
import Derived.OpenShut
import Derived.ShutString
import Derived.ChangeOld
import Derived.Below
import Derived.Deep.Slices
import Derived.Deep.Fields
import Derived.Test.YtlnkofnfgemfdaaGreatTu2
import Derived.Test.YtlnkofnfgemfdaaGreatTu3
import Derived.Test.YtlnkofnfgemfdaaGreatTu7
import Derived.Test.YtlnkofnfgemfdaaGreatTu17
import Derived.Test.YtlnkofnfgemfdaaGreatTu9
import Derived.Test.YtlnkofnfgemfdaaGreatTu18
import Derived.Lib.SmallJoins
import Derived.Test.YtlnkofnfgemfdaaGreatTu12
import Derived.Test.YtlnkofnfgemfdaaGreatTu16
import Derived.Test.YtlnkofnfgemfdaaGreatTu19
import Derived.Test.YtlnkofnfgemfdaaGreatTu13
import Derived.Test.YtlnkofnfgemfdaaGreatTu22
import Derived.Test.YtlnkofnfgemfdaaGreatTu35
/- From the reading of a law's arguments to what the walks ask of them. -/
namespace Go.Proofs.YtlnkofnfgemfdaaGreat
open Go.ChangeShapes Go.WideShapes Go.ChangeAt Go.RowKit Go.Deep
theorem own : ownKnob Tryz.prog.godebug = none := by kernel_rfl
theorem laidOut : laidOutB Tryz.prog = true := by kernel_rfl
theorem lt_of_cell {w : World} {a : Addr} {v : Value} (h : w.cell? a = some v) : a.block < w.heap.size := by
  rcases Nat.lt_or_ge a.block w.heap.size with h1 | h1
  · exact h1
  · unfold World.cell? at h; rw [Array.getElem?_eq_none h1] at h; cases h
theorem spot_of_cell {w : World} {a : Addr} {v : Value} (h : w.cell? a = some v) : a = ⟨a.block, a.off, none⟩ := by
  have := World.cell?_spot h
  cases a
  simp_all

theorem choose_list {α : Type} (n : Nat) (p : Nat → α → Prop) (h : ∀ i < n, ∃ a, p i a) : ∃ l : List α, l.length = n ∧ ∀ i (hi : i < l.length), p i l[i] := by
  induction n with
  | zero => exact ⟨[], rfl, fun i hi => absurd hi (by simp)⟩
  | succ n ih =>
    obtain ⟨l, hl, hp⟩ := ih (fun i hi => h i (by omega))
    obtain ⟨a, ha⟩ := h n (by omega)
    refine ⟨l ++ [a], by simp [hl], fun i hi => ?_⟩
    simp at hi
    rcases Nat.lt_or_ge i l.length with h1 | h1
    · rw [List.getElem_append_left h1]; exact hp i h1
    · obtain rfl : i = l.length := by omega
      rw [List.getElem_append_right (Nat.le_refl _)]
      simp only [Nat.sub_self, List.getElem_cons_zero]
      rw [hl]; exact ha
/-- Rows out of their elements' cells. -/
theorem rowsIn_of {α : Type} (F : Flat α) (hsz : 0 < F.sz) (W : World) (b o n : Nat) (l : List α) (hl : l.length = n) (hn : n ≤ 16777216) (hb : 0 < n → b < W.heap.size)
    (hc : ∀ i (hi : i < l.length) j, j < F.sz → W.cell? ⟨b, o + (i * F.sz + j), none⟩ = (F.enc l[i])[j]?) : RowsIn F W (some ⟨b, o, none⟩) n l := by
  refine ⟨hl.symm, by rw [flatMap_len F.enc F.sz F.len, hl], hn, fun hpos => ⟨b, o, rfl, hb hpos, fun j u hu => ?_⟩⟩
  have hj : j < (l.flatMap F.enc).length := (List.getElem?_eq_some_iff.1 hu).1
  rw [flatMap_len F.enc F.sz F.len] at hj
  have h1 : j / F.sz < l.length := Nat.div_lt_of_lt_mul (by rw [Nat.mul_comm]; exact hj)
  have h2 : j % F.sz < F.sz := Nat.mod_lt _ hsz
  have h3 : j / F.sz * F.sz + j % F.sz = j := by rw [Nat.mul_comm]; exact Nat.div_add_mod j F.sz
  have h4 := flatMap_at F.enc F.sz F.len l (j / F.sz) (j % F.sz) h1 h2
  rw [h3, hu] at h4
  have h5 := hc (j / F.sz) h1 (j % F.sz) h2
  rw [h3] at h5
  rw [h5, ← h4]

theorem open_rows_ok {α : Type} (F : Flat α) (ok : α → Prop) {H : Type} {enc : TypeId × Value → H} {W : World} {t e : TypeId} {a : Option Addr} {len cap : Nat} {d : DataW H} {p : List MemPlace}
    (ht : Tryz.prog.underlying t = some (.slice e)) (hC : Tryz.prog.cellsOf e = F.sz) (hsz : 0 < F.sz)
    (hdec : ∀ fuel cs x, DataW.trod enc Tryz.prog W 0 (fun _ => true) true fuel e cs = some x → ∃ a, cs = F.enc a ∧ ok a)
    (h : DataW.Trod enc Tryz.prog W 0 (fun _ => true) true t (.slice a len cap) d p) : len ≤ 9223372036854775807 ∧ ∃ l, len ≤ 1048576 → RowsIn F W a len l ∧ ∀ x ∈ l, ok x := by
  obtain ⟨fuel, hf⟩ := h
  rcases open_slice ht hf with ⟨hcs, _⟩ | ⟨x, l, c, m, n, D, Pl, hcs, _, hl, hm, hmm, _, hi⟩
  · simp [Value.cells] at hcs
    obtain ⟨rfl, rfl, rfl⟩ := hcs
    exact ⟨by omega, [], fun _ => ⟨⟨rfl, Sl.nil _ _ _⟩, by simp⟩⟩
  · simp [Value.cells] at hcs
    obtain ⟨rfl, rfl, rfl⟩ := hcs
    simp at hmm
    obtain ⟨L, hL, hp⟩ := choose_list len (fun i a => W.cells? 0 (x.add (i * F.sz)) F.sz = some (F.enc a) ∧ ok a) (fun i hlt => by
      obtain ⟨cs', h1, h2⟩ := hi i (by omega)
      rw [hC] at h1
      obtain ⟨a, rfl, hk⟩ := hdec _ _ _ h2
      exact ⟨a, h1, hk⟩)
    refine ⟨by unfold maxLen at hm; omega, L, fun hle => ⟨?_, fun y hy => by
      obtain ⟨i, hi, rfl⟩ := List.getElem_of_mem hy
      exact (hp i hi).2⟩⟩
    by_cases h0 : len = 0
    · subst h0
      have : L = [] := List.eq_nil_of_length_eq_zero hL
      subst this
      exact ⟨rfl, Sl.nil _ _ _⟩
    · have hcell : ∀ i (hi : i < L.length) j, j < F.sz → W.cell? (x.add (i * F.sz + j)) = (F.enc L[i])[j]? := fun i hi j hj => by
        obtain ⟨_, _, h3⟩ := World.cells?_some (hp i hi).1
        have := h3 j hj
        rwa [add_add] at this
      have h00 := hcell 0 (by omega) 0 hsz
      have hlen0 := F.len (L[0]'(by omega))
      rw [List.getElem?_eq_getElem (by omega)] at h00
      have hx : x = ⟨x.block, x.off, none⟩ := by
        have := spot_of_cell h00
        rw [Nat.zero_mul, Nat.zero_add, add_zero] at this
        exact this
      have hlt := lt_of_cell h00
      rw [blk_add] at hlt
      rw [hx]
      refine rowsIn_of F hsz W _ _ len L hL (by omega) (fun _ => hlt) (fun i hi j hj => ?_)
      have := hcell i hi j hj
      rw [hx, Addr.add_lit] at this
      exact this

theorem open_rows {α : Type} (F : Flat α) {H : Type} {enc : TypeId × Value → H} {W : World} {t e : TypeId} {a : Option Addr} {len cap : Nat} {d : DataW H} {p : List MemPlace}
    (ht : Tryz.prog.underlying t = some (.slice e)) (hC : Tryz.prog.cellsOf e = F.sz) (hsz : 0 < F.sz)
    (hdec : ∀ fuel cs x, DataW.trod enc Tryz.prog W 0 (fun _ => true) true fuel e cs = some x → ∃ a, cs = F.enc a)
    (h : DataW.Trod enc Tryz.prog W 0 (fun _ => true) true t (.slice a len cap) d p) : len ≤ 9223372036854775807 ∧ ∃ l, len ≤ 1048576 → RowsIn F W a len l := by
  obtain ⟨h1, l, h2⟩ := open_rows_ok F (fun _ => True) ht hC hsz (fun fuel cs x hx => by obtain ⟨a, ha⟩ := hdec fuel cs x hx; exact ⟨a, ha, trivial⟩) h
  exact ⟨h1, l, fun hle => (h2 hle).1⟩

/-- The cells of a struct of one-cell fields, field by field. -/
theorem struct_fields {H : Type} {enc : TypeId × Value → H} {W : World} {fuel : Nat} {e : TypeId} {fs : Array Field} {cs : List Value} {x : DataW H × List MemPlace}
    (he : Tryz.prog.underlying e = some (.struct fs)) (hone : oneCellFields Tryz.prog fs = true) (h : DataW.trod enc Tryz.prog W 0 (fun _ => true) true fuel e cs = some x) :
    cs.length = Tryz.prog.cellsOf e ∧ ∃ n, ∀ i f, fs[i]? = some f → ∃ v y, (cs.drop i).take 1 = v ∧ DataW.trod enc Tryz.prog W 0 (fun _ => true) true n f.type v = some y := by
  obtain ⟨ys, n, _, _, hlen, hyl, hf⟩ := DataW.trod_struct he h
  refine ⟨hlen, n, fun i f hi => ?_⟩
  obtain ⟨ho, hk⟩ := hone_of hone i f hi
  have h1 := hf i f hi
  rw [ho, hk] at h1
  have hlt : i < ys.length := by rw [hyl]; exact (Array.getElem?_eq_some_iff.1 hi).1
  rw [List.getElem?_eq_getElem hlt] at h1
  exact ⟨_, _, rfl, h1⟩
end Go.Proofs.YtlnkofnfgemfdaaGreat
/- Lists of Item that came in. -/
namespace Go.Proofs.YtlnkofnfgemfdaaGreat
open Go.ChangeShapes Go.WideShapes Go.ChangeAt Go.RowKit Go.Deep
theorem open_itemsIn {H : Type} {enc : TypeId × Value → H} {W : World} {a : Option Addr} {len cap : Nat} {d : DataW H} {p : List MemPlace}
    (h : DataW.Trod enc Tryz.prog W 0 (fun _ => true) true 22 (.slice a len cap) d p) : len ≤ 9223372036854775807 ∧ ∃ l, len ≤ 1048576 → ItemsIn W a len l ∧ ∀ x ∈ l, okIt x := by
  refine open_rows_ok itF okIt Tryz.underlying22 (by kernel_rfl) (by decide) (fun fuel cs x hx => ?_) h
  obtain ⟨hl, n, hf⟩ := struct_fields Tryz.underlying134 (by kernel_rfl) hx
  have hC : Tryz.prog.cellsOf 134 = 8 := by kernel_rfl
  rw [hC] at hl
  match cs, hl with
  | [c0, c1, c2, c3, c4, c5, c6, c7], _ =>
    obtain ⟨v0, y0, e0, h0⟩ := hf 0 _ rfl
    obtain ⟨v1, y1, e1, h1⟩ := hf 1 _ rfl
    obtain ⟨v2, y2, e2, h2⟩ := hf 2 _ rfl
    obtain ⟨v3, y3, e3, h3⟩ := hf 3 _ rfl
    obtain ⟨v4, y4, e4, h4⟩ := hf 4 _ rfl
    obtain ⟨v5, y5, e5, h5⟩ := hf 5 _ rfl
    obtain ⟨v6, y6, e6, h6⟩ := hf 6 _ rfl
    obtain ⟨v7, y7, e7, h7⟩ := hf 7 _ rfl
    subst e0 e1 e2 e3 e4 e5 e6 e7
    obtain ⟨n0, g0, _, sz0⟩ := DataW.trod_string Tryz.underlying9 h0
    obtain ⟨n1, g1, _, sz1⟩ := DataW.trod_string Tryz.underlying9 h1
    obtain ⟨n2, g2, _⟩ := DataW.trod_int Tryz.underlying3 h2
    obtain ⟨n3, g3, _⟩ := DataW.trod_int Tryz.underlying3 h3
    obtain ⟨n4, g4, _⟩ := DataW.trod_int Tryz.underlying3 h4
    obtain ⟨n5, g5, _⟩ := DataW.trod_int Tryz.underlying3 h5
    obtain ⟨n6, g6, _⟩ := DataW.trod_int Tryz.underlying3 h6
    obtain ⟨n7, g7, _⟩ := DataW.trod_int Tryz.underlying3 h7
    simp at g0 g1 g2 g3 g4 g5 g6 g7
    subst g0 g1 g2 g3 g4 g5 g6 g7
    exact ⟨(n0, n1, n2, n3, n4, n5, n6, n7), rfl, by unfold okIt; unfold maxLen at sz0; unfold maxLen at sz1; exact ⟨sz0, sz1⟩⟩
end Go.Proofs.YtlnkofnfgemfdaaGreat
/- Lists of CondNode that came in. -/
namespace Go.Proofs.YtlnkofnfgemfdaaGreat
open Go.ChangeShapes Go.WideShapes Go.ChangeAt Go.RowKit Go.Deep
theorem open_condsIn {H : Type} {enc : TypeId × Value → H} {W : World} {a : Option Addr} {len cap : Nat} {d : DataW H} {p : List MemPlace}
    (h : DataW.Trod enc Tryz.prog W 0 (fun _ => true) true 136 (.slice a len cap) d p) : len ≤ 9223372036854775807 ∧ ∃ l, len ≤ 1048576 → CondsIn W a len l ∧ ∀ x ∈ l, okCn x := by
  refine open_rows_ok cnF okCn Tryz.underlying136 (by kernel_rfl) (by decide) (fun fuel cs x hx => ?_) h
  obtain ⟨hl, n, hf⟩ := struct_fields Tryz.underlying206 (by kernel_rfl) hx
  have hC : Tryz.prog.cellsOf 206 = 3 := by kernel_rfl
  rw [hC] at hl
  match cs, hl with
  | [c0, c1, c2], _ =>
    obtain ⟨v0, y0, e0, h0⟩ := hf 0 _ rfl
    obtain ⟨v1, y1, e1, h1⟩ := hf 1 _ rfl
    obtain ⟨v2, y2, e2, h2⟩ := hf 2 _ rfl
    subst e0 e1 e2
    obtain ⟨n0, g0, _⟩ := DataW.trod_int Tryz.underlying3 h0
    obtain ⟨n1, g1, _, sz1⟩ := DataW.trod_string Tryz.underlying9 h1
    obtain ⟨n2, g2, _, sz2⟩ := DataW.trod_string Tryz.underlying9 h2
    simp at g0 g1 g2
    subst g0 g1 g2
    exact ⟨(n0, n1, n2), rfl, by unfold okCn; unfold maxLen at sz1; unfold maxLen at sz2; exact ⟨sz1, sz2⟩⟩
end Go.Proofs.YtlnkofnfgemfdaaGreat
/- A field that is a slice. -/
namespace Go.Proofs.YtlnkofnfgemfdaaGreat
open Go.ChangeShapes Go.WideShapes Go.ChangeAt Go.RowKit Go.Deep
theorem slice_of_trod {H : Type} {enc : TypeId × Value → H} {W : World} {t e : TypeId} {v : Value} {n : Nat} {y : DataW H × List MemPlace} (ht : Tryz.prog.underlying t = some (.slice e))
    (h : DataW.trod enc Tryz.prog W 0 (fun _ => true) true n t [v] = some y) : ∃ A len cap, v = .slice A len cap ∧ DataW.Trod enc Tryz.prog W 0 (fun _ => true) true t (.slice A len cap) y.1 y.2 := by
  rcases open_slice ht h with ⟨hcs, _⟩ | ⟨x, l, c, m, n', D, Pl, hcs, _⟩
  · simp at hcs
    subst hcs
    exact ⟨_, _, _, rfl, n, h⟩
  · simp at hcs
    subst hcs
    exact ⟨_, _, _, rfl, n, h⟩
end Go.Proofs.YtlnkofnfgemfdaaGreat
/- Lists of BillLine that came in. -/
namespace Go.Proofs.YtlnkofnfgemfdaaGreat
open Go.ChangeShapes Go.WideShapes Go.ChangeAt Go.RowKit Go.Deep
set_option maxRecDepth 100000 in
theorem open_billLinesIn {H : Type} {enc : TypeId × Value → H} {W : World} {a : Option Addr} {len cap : Nat} {d : DataW H} {p : List MemPlace}
    (h : DataW.Trod enc Tryz.prog W 0 (fun _ => true) true 23 (.slice a len cap) d p) : len ≤ 9223372036854775807 ∧ ∃ l, len ≤ 1048576 → BillLinePre W a len l ∧ ∀ x ∈ l, okBl x := by
  obtain ⟨h1, R, h2⟩ := open_rows_ok blF (fun r => r.1.size ≤ 9223372036854775807 ∧ r.2.1.size ≤ 9223372036854775807 ∧ r.2.2.2.2.2.2.1 ≤ 9223372036854775807 ∧ ∃ l, (r.2.2.2.2.2.2.1 ≤ 1048576 → CondsIn W r.2.2.2.2.2.1 r.2.2.2.2.2.2.1 l) ∧ ∀ y ∈ l, okCn y) Tryz.underlying23 (by kernel_rfl) (by decide) (fun fuel cs x hx => by
    obtain ⟨hl, n, hf⟩ := struct_fields Tryz.underlying138 (by kernel_rfl) hx
    have hC : Tryz.prog.cellsOf 138 = 6 := by kernel_rfl
    rw [hC] at hl
    match cs, hl with
    | [c0, c1, c2, c3, c4, c5], _ =>
      obtain ⟨v0, y0, e0, h0⟩ := hf 0 _ rfl
      obtain ⟨v1, y1, e1, h1⟩ := hf 1 _ rfl
      obtain ⟨v2, y2, e2, h2⟩ := hf 2 _ rfl
      obtain ⟨v3, y3, e3, h3⟩ := hf 3 _ rfl
      obtain ⟨v4, y4, e4, h4⟩ := hf 4 _ rfl
      obtain ⟨v5, y5, e5, h5⟩ := hf 5 _ rfl
      subst e0 e1 e2 e3 e4 e5
      obtain ⟨n0, g0, _, sz0⟩ := DataW.trod_string Tryz.underlying9 h0
      obtain ⟨n1, g1, _, sz1⟩ := DataW.trod_string Tryz.underlying9 h1
      obtain ⟨n2, g2, _⟩ := DataW.trod_int Tryz.underlying3 h2
      obtain ⟨n3, g3, _⟩ := DataW.trod_int Tryz.underlying3 h3
      obtain ⟨n4, g4, _⟩ := DataW.trod_int Tryz.underlying3 h4
      obtain ⟨A, len, cap, g5, t⟩ := slice_of_trod Tryz.underlying136 (show DataW.trod enc Tryz.prog W 0 (fun _ => true) true n 136 [c5] = some y5 from h5)
      obtain ⟨m0, l, hl⟩ := open_condsIn t
      simp at g0 g1 g2 g3 g4
      subst g0 g1 g2 g3 g4 g5
      refine ⟨(n0, n1, n2, n3, n4, A, len, cap), rfl, by unfold maxLen at sz0; exact sz0, by unfold maxLen at sz1; exact sz1, m0, ?_⟩
      by_cases hlen : len ≤ 1048576
      · exact ⟨l, fun h => (hl h).1, (hl hlen).2⟩
      · exact ⟨[], fun h => absurd h hlen, by simp⟩) h
  by_cases hle : len ≤ 1048576
  case neg => exact ⟨h1, [], fun h => absurd h hle⟩
  obtain ⟨hR, hok⟩ := h2 hle
  obtain ⟨l, hl, hp⟩ := choose_list R.length (fun k (j : Bl) => ∀ hk : k < R.length, BlOf (fun A n l => n ≤ 9223372036854775807 ∧ (n ≤ 1048576 → CondsIn W A n l)) R[k] j ∧ okBl j) (fun k hk => by
    obtain ⟨z0, z1, m0, l, hl1, hl2⟩ := hok _ (List.getElem_mem hk)
    exact ⟨(R[k].1, R[k].2.1, R[k].2.2.1, R[k].2.2.2.1, R[k].2.2.2.2.1, l), fun _ => ⟨⟨rfl, rfl, rfl, rfl, rfl, m0, hl1⟩, ⟨z0, z1, hl2⟩⟩⟩)
  refine ⟨h1, l, fun _ => ⟨⟨R, hR, hl.symm, fun k h3 h4 => (hp k h4 h3).1⟩, fun x hx => ?_⟩⟩
  obtain ⟨k, hk, rfl⟩ := List.getElem_of_mem hx
  exact (hp k hk (by omega)).2
end Go.Proofs.YtlnkofnfgemfdaaGreat
/- Lists of Exception that came in. -/
namespace Go.Proofs.YtlnkofnfgemfdaaGreat
open Go.ChangeShapes Go.WideShapes Go.ChangeAt Go.RowKit Go.Deep
theorem open_exsIn {H : Type} {enc : TypeId × Value → H} {W : World} {a : Option Addr} {len cap : Nat} {d : DataW H} {p : List MemPlace}
    (h : DataW.Trod enc Tryz.prog W 0 (fun _ => true) true 25 (.slice a len cap) d p) : len ≤ 9223372036854775807 ∧ ∃ l, len ≤ 1048576 → ExsIn W a len l := by
  refine open_rows exF Tryz.underlying25 (by kernel_rfl) (by decide) (fun fuel cs x hx => ?_) h
  obtain ⟨hl, n, hf⟩ := struct_fields Tryz.underlying195 (by kernel_rfl) hx
  have hC : Tryz.prog.cellsOf 195 = 2 := by kernel_rfl
  rw [hC] at hl
  match cs, hl with
  | [c0, c1], _ =>
    obtain ⟨v0, y0, e0, h0⟩ := hf 0 _ rfl
    obtain ⟨v1, y1, e1, h1⟩ := hf 1 _ rfl
    subst e0 e1
    obtain ⟨n0, g0, _⟩ := DataW.trod_int Tryz.underlying3 h0
    obtain ⟨n1, g1, _⟩ := DataW.trod_int Tryz.underlying3 h1
    simp at g0 g1
    subst g0 g1
    exact ⟨(n0, n1), rfl⟩
end Go.Proofs.YtlnkofnfgemfdaaGreat
/- Slices of numbers that came in. -/
namespace Go.Proofs.YtlnkofnfgemfdaaGreat
open Go.ChangeShapes Go.WideShapes Go.ChangeAt Go.RowKit
/-- A slice of numbers that came in. -/
theorem open_intsIn {H : Type} {enc : TypeId × Value → H} {W : World} {a : Option Addr} {len cap : Nat} {d : DataW H} {p : List MemPlace}
    (h : DataW.Trod enc Tryz.prog W 0 (fun _ => true) true 24 (.slice a len cap) d p) : len ≤ 9223372036854775807 ∧ ∃ l, len ≤ 1048576 → IntsIn W a len l := by
  obtain ⟨h1, l, hl⟩ := open_rows_ok intF (fun _ => True) Tryz.underlying24 (by kernel_rfl) (by decide) (fun fuel cs x hx => by
    obtain ⟨n0, g0, _, _⟩ := DataW.trod_int Tryz.underlying3 hx
    subst g0
    exact ⟨n0, rfl, trivial⟩) h
  refine ⟨h1, l, fun hle => ?_⟩
  have h2 := (hl hle).1
  exact ⟨h2.1, by have h3 := h2.2; rw [intF_flat] at h3; exact h3⟩
end Go.Proofs.YtlnkofnfgemfdaaGreat
/- Calendars that came in. -/
namespace Go.Proofs.YtlnkofnfgemfdaaGreat
open Go.ChangeShapes Go.WideShapes Go.ChangeAt Go.RowKit Go.Deep Go.Joins
set_option maxRecDepth 100000 in
theorem open_calIn {H : Type} {enc : TypeId × Value → H} {W : World} {r : Reach} {b0 : Nat} {v : Value} {d : DataW H} {p : List MemPlace} (hv : Value.okWide Tryz.prog W r b0 27 v)
    (h : DataW.Trod enc Tryz.prog W 0 (fun _ => true) true 27 v d p) :
    ∃ A n c B m d, v = .agg #[.slice A n c, .slice B m d] ∧ n ≤ 9223372036854775807 ∧ m ≤ 9223372036854775807 ∧ ∃ wk ex, n ≤ 1048576 → m ≤ 1048576 → IntsIn W A n wk ∧ ExsIn W B m ex := by
  obtain ⟨v0, v1, y0, y1, n, rfl, rfl, rfl, h0, h1⟩ := open_agg2 Tryz.underlying27 (by kernel_rfl) (by kernel_rfl) hv h
  obtain ⟨A, n0, c0, rfl, t0⟩ := slice_of_trod Tryz.underlying24 h0
  obtain ⟨B, n1, c1, rfl, t1⟩ := slice_of_trod Tryz.underlying25 h1
  obtain ⟨m0, wk, w0⟩ := open_intsIn t0
  obtain ⟨m1, ex, w1⟩ := open_exsIn t1
  exact ⟨A, n0, c0, B, n1, c1, rfl, m0, m1, wk, ex, fun h2 h3 => ⟨w0 h2, w1 h3⟩⟩
end Go.Proofs.YtlnkofnfgemfdaaGreat
/- Lists of Pick that came in. -/
namespace Go.Proofs.YtlnkofnfgemfdaaGreat
open Go.ChangeShapes Go.WideShapes Go.ChangeAt Go.RowKit Go.Deep
theorem open_picksIn {H : Type} {enc : TypeId × Value → H} {W : World} {a : Option Addr} {len cap : Nat} {d : DataW H} {p : List MemPlace}
    (h : DataW.Trod enc Tryz.prog W 0 (fun _ => true) true 28 (.slice a len cap) d p) : len ≤ 9223372036854775807 ∧ ∃ l, len ≤ 1048576 → PicksIn W a len l ∧ ∀ x ∈ l, okPk x := by
  refine open_rows_ok pkF okPk Tryz.underlying28 (by kernel_rfl) (by decide) (fun fuel cs x hx => ?_) h
  obtain ⟨hl, n, hf⟩ := struct_fields Tryz.underlying143 (by kernel_rfl) hx
  have hC : Tryz.prog.cellsOf 143 = 2 := by kernel_rfl
  rw [hC] at hl
  match cs, hl with
  | [c0, c1], _ =>
    obtain ⟨v0, y0, e0, h0⟩ := hf 0 _ rfl
    obtain ⟨v1, y1, e1, h1⟩ := hf 1 _ rfl
    subst e0 e1
    obtain ⟨n0, g0, _, sz0⟩ := DataW.trod_string Tryz.underlying9 h0
    obtain ⟨n1, g1, _, sz1⟩ := DataW.trod_string Tryz.underlying9 h1
    simp at g0 g1
    subst g0 g1
    exact ⟨(n0, n1), rfl, by unfold okPk; unfold maxLen at sz0; unfold maxLen at sz1; exact ⟨sz0, sz1⟩⟩
end Go.Proofs.YtlnkofnfgemfdaaGreat
/- Lists of Need that came in. -/
namespace Go.Proofs.YtlnkofnfgemfdaaGreat
open Go.ChangeShapes Go.WideShapes Go.ChangeAt Go.RowKit Go.Deep
theorem open_needsIn {H : Type} {enc : TypeId × Value → H} {W : World} {a : Option Addr} {len cap : Nat} {d : DataW H} {p : List MemPlace}
    (h : DataW.Trod enc Tryz.prog W 0 (fun _ => true) true 29 (.slice a len cap) d p) : len ≤ 9223372036854775807 ∧ ∃ l, len ≤ 1048576 → NeedsIn W a len l ∧ ∀ x ∈ l, okNd x := by
  refine open_rows_ok ndF okNd Tryz.underlying29 (by kernel_rfl) (by decide) (fun fuel cs x hx => ?_) h
  obtain ⟨hl, n, hf⟩ := struct_fields Tryz.underlying146 (by kernel_rfl) hx
  have hC : Tryz.prog.cellsOf 146 = 2 := by kernel_rfl
  rw [hC] at hl
  match cs, hl with
  | [c0, c1], _ =>
    obtain ⟨v0, y0, e0, h0⟩ := hf 0 _ rfl
    obtain ⟨v1, y1, e1, h1⟩ := hf 1 _ rfl
    subst e0 e1
    obtain ⟨n0, g0, _, sz0⟩ := DataW.trod_string Tryz.underlying9 h0
    obtain ⟨n1, g1, _⟩ := DataW.trod_int Tryz.underlying3 h1
    simp at g0 g1
    subst g0 g1
    exact ⟨(n0, n1), rfl, by unfold okNd; unfold maxLen at sz0; exact sz0⟩
end Go.Proofs.YtlnkofnfgemfdaaGreat
/- Lists of Receipt that came in. -/
namespace Go.Proofs.YtlnkofnfgemfdaaGreat
open Go.ChangeShapes Go.WideShapes Go.ChangeAt Go.RowKit Go.Deep
theorem open_receiptsIn {H : Type} {enc : TypeId × Value → H} {W : World} {a : Option Addr} {len cap : Nat} {d : DataW H} {p : List MemPlace}
    (h : DataW.Trod enc Tryz.prog W 0 (fun _ => true) true 30 (.slice a len cap) d p) : len ≤ 9223372036854775807 ∧ ∃ l, len ≤ 1048576 → ReceiptsIn W a len l ∧ ∀ x ∈ l, okRc x := by
  refine open_rows_ok rcF okRc Tryz.underlying30 (by kernel_rfl) (by decide) (fun fuel cs x hx => ?_) h
  obtain ⟨hl, n, hf⟩ := struct_fields Tryz.underlying149 (by kernel_rfl) hx
  have hC : Tryz.prog.cellsOf 149 = 3 := by kernel_rfl
  rw [hC] at hl
  match cs, hl with
  | [c0, c1, c2], _ =>
    obtain ⟨v0, y0, e0, h0⟩ := hf 0 _ rfl
    obtain ⟨v1, y1, e1, h1⟩ := hf 1 _ rfl
    obtain ⟨v2, y2, e2, h2⟩ := hf 2 _ rfl
    subst e0 e1 e2
    obtain ⟨n0, g0, _, sz0⟩ := DataW.trod_string Tryz.underlying9 h0
    obtain ⟨n1, g1, _⟩ := DataW.trod_int Tryz.underlying3 h1
    obtain ⟨n2, g2, _⟩ := DataW.trod_int Tryz.underlying3 h2
    simp at g0 g1 g2
    subst g0 g1 g2
    exact ⟨(n0, n1, n2), rfl, by unfold okRc; unfold maxLen at sz0; exact sz0⟩
end Go.Proofs.YtlnkofnfgemfdaaGreat
/- Plants that came in. -/
namespace Go.Proofs.YtlnkofnfgemfdaaGreat
open Go.ChangeShapes Go.WideShapes Go.ChangeAt Go.RowKit Go.Deep
set_option maxRecDepth 100000 in
set_option maxHeartbeats 1000000 in
theorem open_plantIn {H : Type} {enc : TypeId × Value → H} {W : World} {b0 : Nat} {rch : Reach} {v : Value} {d : DataW H} {pl : List MemPlace} (hv : Value.okWide Tryz.prog W rch b0 32 v)
    (h : DataW.Trod enc Tryz.prog W 0 (fun _ => true) true 32 v d pl) : ∃ (r : PtR) (p : Pt), v = r.v ∧ PlantPre W r p := by
  obtain ⟨⟨l⟩, rfl, hsz⟩ := okWide_struct Tryz.underlying32 hv
  rw [show Tryz.prog.cellsOf 32 = 7 by kernel_rfl] at hsz
  obtain ⟨fuel, hf⟩ := h
  obtain ⟨xs, n, _, _, _, hxl, hg⟩ := DataW.trod_struct Tryz.underlying32 hf
  have hy : ∀ i, i < 6 → ∃ y, xs[i]? = some y := fun i hi => ⟨_, List.getElem?_eq_getElem (by rw [hxl]; exact hi)⟩
  match l, hsz with
  | [x0, x1, x2, x3, x4, x5, x6], _ =>
    obtain ⟨y0, e0⟩ := hy 0 (by omega)
    have g0 : DataW.trod enc Tryz.prog W 0 (fun _ => true) true n 22 (([x0, x1, x2, x3, x4, x5, x6].drop 0).take (Tryz.prog.cellsOf 22)) = xs[0]? := hg 0 _ rfl
    have k0 : Tryz.prog.cellsOf 22 = 1 := by kernel_rfl
    rw [e0, k0] at g0
    have h0 : DataW.trod enc Tryz.prog W 0 (fun _ => true) true n 22 [x0] = some y0 := g0
    obtain ⟨y1, e1⟩ := hy 1 (by omega)
    have g1 : DataW.trod enc Tryz.prog W 0 (fun _ => true) true n 23 (([x0, x1, x2, x3, x4, x5, x6].drop 1).take (Tryz.prog.cellsOf 23)) = xs[1]? := hg 1 _ rfl
    have k1 : Tryz.prog.cellsOf 23 = 1 := by kernel_rfl
    rw [e1, k1] at g1
    have h1 : DataW.trod enc Tryz.prog W 0 (fun _ => true) true n 23 [x1] = some y1 := g1
    obtain ⟨y2, e2⟩ := hy 2 (by omega)
    have g2 : DataW.trod enc Tryz.prog W 0 (fun _ => true) true n 27 (([x0, x1, x2, x3, x4, x5, x6].drop 2).take (Tryz.prog.cellsOf 27)) = xs[2]? := hg 2 _ rfl
    have k2 : Tryz.prog.cellsOf 27 = 2 := by kernel_rfl
    rw [e2, k2] at g2
    have h2 : DataW.trod enc Tryz.prog W 0 (fun _ => true) true n 27 [x2, x3] = some y2 := g2
    obtain ⟨y3, e3⟩ := hy 3 (by omega)
    have g3 : DataW.trod enc Tryz.prog W 0 (fun _ => true) true n 28 (([x0, x1, x2, x3, x4, x5, x6].drop 4).take (Tryz.prog.cellsOf 28)) = xs[3]? := hg 3 _ rfl
    have k3 : Tryz.prog.cellsOf 28 = 1 := by kernel_rfl
    rw [e3, k3] at g3
    have h3 : DataW.trod enc Tryz.prog W 0 (fun _ => true) true n 28 [x4] = some y3 := g3
    obtain ⟨y4, e4⟩ := hy 4 (by omega)
    have g4 : DataW.trod enc Tryz.prog W 0 (fun _ => true) true n 29 (([x0, x1, x2, x3, x4, x5, x6].drop 5).take (Tryz.prog.cellsOf 29)) = xs[4]? := hg 4 _ rfl
    have k4 : Tryz.prog.cellsOf 29 = 1 := by kernel_rfl
    rw [e4, k4] at g4
    have h4 : DataW.trod enc Tryz.prog W 0 (fun _ => true) true n 29 [x5] = some y4 := g4
    obtain ⟨y5, e5⟩ := hy 5 (by omega)
    have g5 : DataW.trod enc Tryz.prog W 0 (fun _ => true) true n 30 (([x0, x1, x2, x3, x4, x5, x6].drop 6).take (Tryz.prog.cellsOf 30)) = xs[5]? := hg 5 _ rfl
    have k5 : Tryz.prog.cellsOf 30 = 1 := by kernel_rfl
    rw [e5, k5] at g5
    have h5 : DataW.trod enc Tryz.prog W 0 (fun _ => true) true n 30 [x6] = some y5 := g5
    obtain ⟨A0, n0, c0, rfl, t0⟩ := slice_of_trod Tryz.underlying22 h0
    obtain ⟨m0, l0, w0⟩ := open_itemsIn t0
    obtain ⟨A1, n1, c1, rfl, t1⟩ := slice_of_trod Tryz.underlying23 h1
    obtain ⟨m1, l1, w1⟩ := open_billLinesIn t1
    obtain ⟨zs, n', _, _, _, hzl, hc⟩ := DataW.trod_struct Tryz.underlying27 h2
    have hz : ∀ i, i < 2 → ∃ y, zs[i]? = some y := fun i hi => ⟨_, List.getElem?_eq_getElem (by rw [hzl]; exact hi)⟩
    obtain ⟨z0, ez0⟩ := hz 0 (by omega)
    obtain ⟨z1, ez1⟩ := hz 1 (by omega)
    have gz0 : DataW.trod enc Tryz.prog W 0 (fun _ => true) true n' 24 (([x2, x3].drop 0).take (Tryz.prog.cellsOf 24)) = zs[0]? := hc 0 _ rfl
    have gz1 : DataW.trod enc Tryz.prog W 0 (fun _ => true) true n' 25 (([x2, x3].drop 1).take (Tryz.prog.cellsOf 25)) = zs[1]? := hc 1 _ rfl
    rw [ez0, show Tryz.prog.cellsOf 24 = 1 by kernel_rfl] at gz0
    rw [ez1, show Tryz.prog.cellsOf 25 = 1 by kernel_rfl] at gz1
    have hz0 : DataW.trod enc Tryz.prog W 0 (fun _ => true) true n' 24 [x2] = some z0 := gz0
    have hz1 : DataW.trod enc Tryz.prog W 0 (fun _ => true) true n' 25 [x3] = some z1 := gz1
    obtain ⟨A7, n7, c7, rfl, t7⟩ := slice_of_trod Tryz.underlying24 hz0
    obtain ⟨A8, n8, c8, rfl, t8⟩ := slice_of_trod Tryz.underlying25 hz1
    obtain ⟨m7, wk, w7⟩ := open_intsIn t7
    obtain ⟨m8, ex, w8⟩ := open_exsIn t8
    obtain ⟨A3, n3, c3, rfl, t3⟩ := slice_of_trod Tryz.underlying28 h3
    obtain ⟨m3, l3, w3⟩ := open_picksIn t3
    obtain ⟨A4, n4, c4, rfl, t4⟩ := slice_of_trod Tryz.underlying29 h4
    obtain ⟨m4, l4, w4⟩ := open_needsIn t4
    obtain ⟨A5, n5, c5, rfl, t5⟩ := slice_of_trod Tryz.underlying30 h5
    obtain ⟨m5, l5, w5⟩ := open_receiptsIn t5
    exact ⟨⟨⟨A0, n0, c0⟩, ⟨A1, n1, c1⟩, ⟨A7, n7, c7⟩, ⟨A8, n8, c8⟩, ⟨A3, n3, c3⟩, ⟨A4, n4, c4⟩, ⟨A5, n5, c5⟩⟩, ⟨l0, l1, wk, ex, l3, l4, l5⟩, rfl, ⟨m0, m1, m7, m8, m3, m4, m5, w0, w1, fun a b => ⟨w7 a, w8 b⟩, w3, w4, w5⟩⟩
end Go.Proofs.YtlnkofnfgemfdaaGreat
/- Lists of Demand that came in. -/
namespace Go.Proofs.YtlnkofnfgemfdaaGreat
open Go.ChangeShapes Go.WideShapes Go.ChangeAt Go.RowKit Go.Deep
theorem open_demandsIn {H : Type} {enc : TypeId × Value → H} {W : World} {a : Option Addr} {len cap : Nat} {d : DataW H} {p : List MemPlace}
    (h : DataW.Trod enc Tryz.prog W 0 (fun _ => true) true 59 (.slice a len cap) d p) : len ≤ 9223372036854775807 ∧ ∃ l, len ≤ 1048576 → DemandsIn W a len l ∧ ∀ x ∈ l, okDm x := by
  refine open_rows_ok dmF okDm Tryz.underlying59 (by kernel_rfl) (by decide) (fun fuel cs x hx => ?_) h
  obtain ⟨hl, n, hf⟩ := struct_fields Tryz.underlying120 (by kernel_rfl) hx
  have hC : Tryz.prog.cellsOf 120 = 5 := by kernel_rfl
  rw [hC] at hl
  match cs, hl with
  | [c0, c1, c2, c3, c4], _ =>
    obtain ⟨v0, y0, e0, h0⟩ := hf 0 _ rfl
    obtain ⟨v1, y1, e1, h1⟩ := hf 1 _ rfl
    obtain ⟨v2, y2, e2, h2⟩ := hf 2 _ rfl
    obtain ⟨v3, y3, e3, h3⟩ := hf 3 _ rfl
    obtain ⟨v4, y4, e4, h4⟩ := hf 4 _ rfl
    subst e0 e1 e2 e3 e4
    obtain ⟨n0, g0, _⟩ := DataW.trod_int Tryz.underlying3 h0
    obtain ⟨n1, g1, _, sz1⟩ := DataW.trod_string Tryz.underlying9 h1
    obtain ⟨n2, g2, _⟩ := DataW.trod_int Tryz.underlying3 h2
    obtain ⟨n3, g3, _⟩ := DataW.trod_int Tryz.underlying3 h3
    obtain ⟨n4, g4, _⟩ := DataW.trod_int Tryz.underlying3 h4
    simp at g0 g1 g2 g3 g4
    subst g0 g1 g2 g3 g4
    exact ⟨(n0, n1, n2, n3, n4), rfl, by unfold okDm; unfold maxLen at sz1; exact sz1⟩
end Go.Proofs.YtlnkofnfgemfdaaGreat
/- Lists of Planned that came in. -/
namespace Go.Proofs.YtlnkofnfgemfdaaGreat
open Go.ChangeShapes Go.WideShapes Go.ChangeAt Go.RowKit Go.Deep
theorem open_plannedsIn {H : Type} {enc : TypeId × Value → H} {W : World} {a : Option Addr} {len cap : Nat} {d : DataW H} {p : List MemPlace}
    (h : DataW.Trod enc Tryz.prog W 0 (fun _ => true) true 60 (.slice a len cap) d p) : len ≤ 9223372036854775807 ∧ ∃ l, len ≤ 1048576 → PlannedsIn W a len l ∧ ∀ x ∈ l, okPl x := by
  refine open_rows_ok plF okPl Tryz.underlying60 (by kernel_rfl) (by decide) (fun fuel cs x hx => ?_) h
  obtain ⟨hl, n, hf⟩ := struct_fields Tryz.underlying122 (by kernel_rfl) hx
  have hC : Tryz.prog.cellsOf 122 = 5 := by kernel_rfl
  rw [hC] at hl
  match cs, hl with
  | [c0, c1, c2, c3, c4], _ =>
    obtain ⟨v0, y0, e0, h0⟩ := hf 0 _ rfl
    obtain ⟨v1, y1, e1, h1⟩ := hf 1 _ rfl
    obtain ⟨v2, y2, e2, h2⟩ := hf 2 _ rfl
    obtain ⟨v3, y3, e3, h3⟩ := hf 3 _ rfl
    obtain ⟨v4, y4, e4, h4⟩ := hf 4 _ rfl
    subst e0 e1 e2 e3 e4
    obtain ⟨n0, g0, _, sz0⟩ := DataW.trod_string Tryz.underlying9 h0
    obtain ⟨n1, g1, _⟩ := DataW.trod_int Tryz.underlying3 h1
    obtain ⟨n2, g2, _⟩ := DataW.trod_int Tryz.underlying3 h2
    obtain ⟨n3, g3, _⟩ := DataW.trod_int Tryz.underlying3 h3
    obtain ⟨n4, g4, _⟩ := DataW.trod_bool Tryz.underlying4 h4
    simp at g0 g1 g2 g3 g4
    subst g0 g1 g2 g3 g4
    exact ⟨(n0, n1, n2, n3, n4), rfl, by unfold okPl; unfold maxLen at sz0; exact sz0⟩
end Go.Proofs.YtlnkofnfgemfdaaGreat
/- FnExactTakenUpTo: for every input the law returns true; each argument reads behind the call as before. No condition. -/
namespace Go.Proofs.YtlnkofnfgemfdaaGreat
open Go.ChangeShapes Go.WideShapes Go.ChangeAt Go.RowKit
namespace fnExactTakenUpTo
set_option maxRecDepth 100000 in
theorem lifted (os : Os) (started : os.Started) (H : Type) (enc : TypeId × Value → H) :
    ReturnsInHanded {} Tryz.checked os 5 .any (Rows.fnExactTakenUpToSpec.pre6 enc Tryz.prog Tryz.f5 Rows.fnExactTakenUpToRow.domain false) (Rows.fnExactTakenUpToSpec.post enc Tryz.prog Tryz.f5 false true false false) := by
  refine returnsInHanded_of_change (C := Tryz.checked) own started (by kernel_rfl) Tryz.func5
    (ChangeSpec.witness6 (enc := enc) (C := Tryz.checked) false ⟨#[], #[.agg #[.slice none 0 0, .slice none 0 0, .slice none 0 0, .slice none 0 0, .slice none 0 0, .slice none 0 0, .slice none 0 0], .slice none 0 0, .slice none 0 0, .string ByteArray.empty, .int .i64 0], []⟩ 8 (by kernel_rfl) (by kernel_rfl) (by kernel_rfl) (by kernel_rfl)) ?_
  intro W base args ds gs before hval0 hW hcnd _
  have hval : ∀ (j : Nat) t v, Tryz.f5.params[j]? = some t → args[j]? = some v → Value.okWide Tryz.prog W .any base t v := hval0
  have hW' := hW
  obtain ⟨p, q, hA0, hV, rfl, hfz, hnd⟩ := hW
  have hA : DataW.TrodAll enc Tryz.prog W 0 (fun _ => true) true Tryz.f5.params.toList args.toList ds p := hA0
  rw [Tryz.params5] at hA hval
  obtain ⟨v0, vs0, d0, ds0, p0, q0, hargs, rfl, rfl, h0, r0⟩ := trodAll_cons hA
  obtain ⟨v1, vs1, d1, ds1, p1, q1, rfl, rfl, rfl, h1, r1⟩ := trodAll_cons r0
  obtain ⟨v2, vs2, d2, ds2, p2, q2, rfl, rfl, rfl, h2, r2⟩ := trodAll_cons r1
  obtain ⟨v3, vs3, d3, ds3, p3, q3, rfl, rfl, rfl, h3, r3⟩ := trodAll_cons r2
  obtain ⟨v4, vs4, d4, ds4, p4, q4, rfl, rfl, rfl, h4, r4⟩ := trodAll_cons r3
  obtain ⟨rfl, rfl, rfl⟩ := trodAll_nil r4
  obtain rfl : args = #[v0, v1, v2, v3, v4] := by cases args; simp_all
  obtain ⟨rfl, rfl⟩ := trodVars_none hV
  have k0 := h0
  have lt0 : ∀ x ∈ p0, x.block < W.heap.size := by obtain ⟨m, hm⟩ := k0; exact DataW.trod_lt m _ _ _ hm
  obtain ⟨rr0, pp0, rfl, hpp0⟩ := open_plantIn (hval 0 32 v0 rfl rfl) h0
  have k1 := h1
  have lt1 : ∀ x ∈ p1, x.block < W.heap.size := by obtain ⟨m, hm⟩ := k1; exact DataW.trod_lt m _ _ _ hm
  obtain ⟨a1, len1, cap1, rfl⟩ := okWide_slice Tryz.underlying59 (hval 1 59 v1 rfl rfl)
  obtain ⟨m1, z1, w1⟩ := open_demandsIn h1
  have k2 := h2
  have lt2 : ∀ x ∈ p2, x.block < W.heap.size := by obtain ⟨m, hm⟩ := k2; exact DataW.trod_lt m _ _ _ hm
  obtain ⟨a2, len2, cap2, rfl⟩ := okWide_slice Tryz.underlying60 (hval 2 60 v2 rfl rfl)
  obtain ⟨m2, z2, w2⟩ := open_plannedsIn h2
  obtain ⟨a3, rfl, rfl, rfl, w3⟩ := ChangeMaps.open_string Tryz.underlying9 (hval 3 9 v3 rfl rfl) h3
  obtain ⟨a4, rfl, rfl, rfl, w4⟩ := open_int Tryz.underlying3 (hval 4 3 v4 rfl rfl) h4
  clear hA0 hval0
  refine (lawTakenUpTo rr0 pp0 hpp0 a1 len1 cap1 z1 w1 m1 a2 len2 cap2 z2 w2 m2 a3 w3 a4 w4).mono fun e W' ⟨he, bel⟩ => ?_
  subst he
  exact ⟨_, rfl, _, _, _, [], _, [], hW', trodAll_mk1 (shut_bool Tryz.underlying4 _), (trodAll_cons_mk (Below.trod laidOut (by kernel_rfl) (of_decide_eq_true (by kernel_rfl)) k0 bel lt0) (trodAll_cons_mk (Below.trod laidOut (by kernel_rfl) (of_decide_eq_true (by kernel_rfl)) k1 bel lt1) (trodAll_cons_mk (Below.trod laidOut (by kernel_rfl) (of_decide_eq_true (by kernel_rfl)) k2 bel lt2) (trodAll_cons_mk (ChangeMaps.shut_string Tryz.underlying9 w3) (trodAll_cons_mk (shut_int Tryz.underlying3 w4) trodAll_mk0))))), rfl, bel.frame _, fun h => by cases h⟩
theorem over : Rows.fnExactTakenUpToRow.holds Tryz.pinned (OpenSpec.ofChange Rows.fnExactTakenUpToSpec) :=
  OpenClaim.holds_of_wide 5 Tryz.f5 rfl rfl rfl rfl rfl rfl rfl ⟨rfl, rfl, rfl, rfl, rfl⟩ rfl rfl rfl rfl rfl (by kernel_rfl) Tryz.func5 (by kernel_rfl)
    (of_decide_eq_true (by kernel_rfl)) (by unfold Func.isWrapper; first | (rw [if_pos (by decide +kernel)]; kernel_rfl) | (rw [if_neg (by decide +kernel)]; exact ⟨rfl, rfl⟩))
    (fun os started H enc _ => lifted os started H enc)
theorem proved : Rows.FnExactTakenUpToSaid := over
#print axioms proved
end fnExactTakenUpTo
end Go.Proofs.YtlnkofnfgemfdaaGreat
