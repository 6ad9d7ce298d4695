/- From the reading of a law's arguments to what the walks ask of them. -/
import Derived.Test.YtajlfdofjegdjaaRows
import Derived.Test.YtajlfdofjegdjaaBase
import Derived.ProofKit
import Derived.OpenShut
import Derived.ShutString
import Derived.ChangeOld
import Derived.Below
import Derived.Deep.Slices
import Derived.Deep.Fields
namespace Go.Proofs.Ytajlfdofjegdjaa
open Go.ChangeShapes Go.WideShapes Go.ChangeAt Go.RowKit Go.Deep
theorem own : ownKnob Try.prog.godebug = none := by kernel_rfl
theorem laidOut : laidOutB Try.prog = true := by kernel_rfl
theorem lt_of_cell {w : World} {a : Addr} {v : Value} (h : w.cell? a = some v) : a.block < w.heap.size := by
  rcases Nat.lt_or_ge a.block w.heap.size with h1 | h1
  · exact h1
  · unfold World.cell? at h; rw [Array.getElem?_eq_none h1] at h; cases h
theorem spot_of_cell {w : World} {a : Addr} {v : Value} (h : w.cell? a = some v) : a = ⟨a.block, a.off, none⟩ := by
  have := World.cell?_spot h
  cases a
  simp_all

theorem choose_list {α : Type} (n : Nat) (p : Nat → α → Prop) (h : ∀ i < n, ∃ a, p i a) : ∃ l : List α, l.length = n ∧ ∀ i (hi : i < l.length), p i l[i] := by
  induction n with
  | zero => exact ⟨[], rfl, fun i hi => absurd hi (by simp)⟩
  | succ n ih =>
    obtain ⟨l, hl, hp⟩ := ih (fun i hi => h i (by omega))
    obtain ⟨a, ha⟩ := h n (by omega)
    refine ⟨l ++ [a], by simp [hl], fun i hi => ?_⟩
    simp at hi
    rcases Nat.lt_or_ge i l.length with h1 | h1
    · rw [List.getElem_append_left h1]; exact hp i h1
    · obtain rfl : i = l.length := by omega
      rw [List.getElem_append_right (Nat.le_refl _)]
      simp only [Nat.sub_self, List.getElem_cons_zero]
      rw [hl]; exact ha
/-- Rows out of their elements' cells. -/
theorem rowsIn_of {α : Type} (F : Flat α) (hsz : 0 < F.sz) (W : World) (b o n : Nat) (l : List α) (hl : l.length = n) (hn : n ≤ 16777216) (hb : 0 < n → b < W.heap.size)
    (hc : ∀ i (hi : i < l.length) j, j < F.sz → W.cell? ⟨b, o + (i * F.sz + j), none⟩ = (F.enc l[i])[j]?) : RowsIn F W (some ⟨b, o, none⟩) n l := by
  refine ⟨hl.symm, by rw [flatMap_len F.enc F.sz F.len, hl], hn, fun hpos => ⟨b, o, rfl, hb hpos, fun j u hu => ?_⟩⟩
  have hj : j < (l.flatMap F.enc).length := (List.getElem?_eq_some_iff.1 hu).1
  rw [flatMap_len F.enc F.sz F.len] at hj
  have h1 : j / F.sz < l.length := Nat.div_lt_of_lt_mul (by rw [Nat.mul_comm]; exact hj)
  have h2 : j % F.sz < F.sz := Nat.mod_lt _ hsz
  have h3 : j / F.sz * F.sz + j % F.sz = j := by rw [Nat.mul_comm]; exact Nat.div_add_mod j F.sz
  have h4 := flatMap_at F.enc F.sz F.len l (j / F.sz) (j % F.sz) h1 h2
  rw [h3, hu] at h4
  have h5 := hc (j / F.sz) h1 (j % F.sz) h2
  rw [h3] at h5
  rw [h5, ← h4]

theorem open_rows_ok {α : Type} (F : Flat α) (ok : α → Prop) {H : Type} {enc : TypeId × Value → H} {W : World} {t e : TypeId} {a : Option Addr} {len cap : Nat} {d : DataW H} {p : List MemPlace}
    (ht : Try.prog.underlying t = some (.slice e)) (hC : Try.prog.cellsOf e = F.sz) (hsz : 0 < F.sz)
    (hdec : ∀ fuel cs x, DataW.trod enc Try.prog W 0 (fun _ => true) true fuel e cs = some x → ∃ a, cs = F.enc a ∧ ok a)
    (h : DataW.Trod enc Try.prog W 0 (fun _ => true) true t (.slice a len cap) d p) : len ≤ 9223372036854775807 ∧ ∃ l, len ≤ 1048576 → RowsIn F W a len l ∧ ∀ x ∈ l, ok x := by
  obtain ⟨fuel, hf⟩ := h
  rcases open_slice ht hf with ⟨hcs, _⟩ | ⟨x, l, c, m, n, D, Pl, hcs, _, hl, hm, hmm, _, hi⟩
  · simp [Value.cells] at hcs
    obtain ⟨rfl, rfl, rfl⟩ := hcs
    exact ⟨by omega, [], fun _ => ⟨⟨rfl, Sl.nil _ _ _⟩, by simp⟩⟩
  · simp [Value.cells] at hcs
    obtain ⟨rfl, rfl, rfl⟩ := hcs
    simp at hmm
    obtain ⟨L, hL, hp⟩ := choose_list len (fun i a => W.cells? 0 (x.add (i * F.sz)) F.sz = some (F.enc a) ∧ ok a) (fun i hlt => by
      obtain ⟨cs', h1, h2⟩ := hi i (by omega)
      rw [hC] at h1
      obtain ⟨a, rfl, hk⟩ := hdec _ _ _ h2
      exact ⟨a, h1, hk⟩)
    refine ⟨by unfold maxLen at hm; omega, L, fun hle => ⟨?_, fun y hy => by
      obtain ⟨i, hi, rfl⟩ := List.getElem_of_mem hy
      exact (hp i hi).2⟩⟩
    by_cases h0 : len = 0
    · subst h0
      have : L = [] := List.eq_nil_of_length_eq_zero hL
      subst this
      exact ⟨rfl, Sl.nil _ _ _⟩
    · have hcell : ∀ i (hi : i < L.length) j, j < F.sz → W.cell? (x.add (i * F.sz + j)) = (F.enc L[i])[j]? := fun i hi j hj => by
        obtain ⟨_, _, h3⟩ := World.cells?_some (hp i hi).1
        have := h3 j hj
        rwa [add_add] at this
      have h00 := hcell 0 (by omega) 0 hsz
      have hlen0 := F.len (L[0]'(by omega))
      rw [List.getElem?_eq_getElem (by omega)] at h00
      have hx : x = ⟨x.block, x.off, none⟩ := by
        have := spot_of_cell h00
        rw [Nat.zero_mul, Nat.zero_add, add_zero] at this
        exact this
      have hlt := lt_of_cell h00
      rw [blk_add] at hlt
      rw [hx]
      refine rowsIn_of F hsz W _ _ len L hL (by omega) (fun _ => hlt) (fun i hi j hj => ?_)
      have := hcell i hi j hj
      rw [hx, Addr.add_lit] at this
      exact this

theorem open_rows {α : Type} (F : Flat α) {H : Type} {enc : TypeId × Value → H} {W : World} {t e : TypeId} {a : Option Addr} {len cap : Nat} {d : DataW H} {p : List MemPlace}
    (ht : Try.prog.underlying t = some (.slice e)) (hC : Try.prog.cellsOf e = F.sz) (hsz : 0 < F.sz)
    (hdec : ∀ fuel cs x, DataW.trod enc Try.prog W 0 (fun _ => true) true fuel e cs = some x → ∃ a, cs = F.enc a)
    (h : DataW.Trod enc Try.prog W 0 (fun _ => true) true t (.slice a len cap) d p) : len ≤ 9223372036854775807 ∧ ∃ l, len ≤ 1048576 → RowsIn F W a len l := by
  obtain ⟨h1, l, h2⟩ := open_rows_ok F (fun _ => True) ht hC hsz (fun fuel cs x hx => by obtain ⟨a, ha⟩ := hdec fuel cs x hx; exact ⟨a, ha, trivial⟩) h
  exact ⟨h1, l, fun hle => (h2 hle).1⟩

/-- The cells of a struct of one-cell fields, field by field. -/
theorem struct_fields {H : Type} {enc : TypeId × Value → H} {W : World} {fuel : Nat} {e : TypeId} {fs : Array Field} {cs : List Value} {x : DataW H × List MemPlace}
    (he : Try.prog.underlying e = some (.struct fs)) (hone : oneCellFields Try.prog fs = true) (h : DataW.trod enc Try.prog W 0 (fun _ => true) true fuel e cs = some x) :
    cs.length = Try.prog.cellsOf e ∧ ∃ n, ∀ i f, fs[i]? = some f → ∃ v y, (cs.drop i).take 1 = v ∧ DataW.trod enc Try.prog W 0 (fun _ => true) true n f.type v = some y := by
  obtain ⟨ys, n, _, _, hlen, hyl, hf⟩ := DataW.trod_struct he h
  refine ⟨hlen, n, fun i f hi => ?_⟩
  obtain ⟨ho, hk⟩ := hone_of hone i f hi
  have h1 := hf i f hi
  rw [ho, hk] at h1
  have hlt : i < ys.length := by rw [hyl]; exact (Array.getElem?_eq_some_iff.1 hi).1
  rw [List.getElem?_eq_getElem hlt] at h1
  exact ⟨_, _, rfl, h1⟩
end Go.Proofs.Ytajlfdofjegdjaa
