/- Part 6 of the texts of this claim: From the reading of a law's arguments to what the walks ask of them; Boxes in memory; Keys of two parts, a center and a day; an entry of an own map that is added to. -/
import Derived.Test.YtlnkofnfgemfdaaRows
import Derived.Test.YtlnkofnfgemfdaaLd1
import Derived.ProofKit
import Derived.OpenShut
import Derived.ShutString
import Derived.ChangeOld
import Derived.Below
import Derived.Deep.Slices
import Derived.Deep.Fields
import Derived.Test.YtlnkofnfgemfdaaLd2
import Derived.Test.YtlnkofnfgemfdaaLd5
import Derived.Maps.OwnSet
import Derived.Maps.RangeWalk
import Derived.Laws.Strings
import Derived.DeepKeys4
import Derived.WideKeyEntry
/- From the reading of a law's arguments to what the walks ask of them. -/
namespace Go.Proofs.Ytlnkofnfgemfdaa
open Go.ChangeShapes Go.WideShapes Go.ChangeAt Go.RowKit Go.Deep
theorem own : ownKnob Try.prog.godebug = none := by kernel_rfl
theorem laidOut : laidOutB Try.prog = true := by kernel_rfl
theorem lt_of_cell {w : World} {a : Addr} {v : Value} (h : w.cell? a = some v) : a.block < w.heap.size := by
  rcases Nat.lt_or_ge a.block w.heap.size with h1 | h1
  · exact h1
  · unfold World.cell? at h; rw [Array.getElem?_eq_none h1] at h; cases h
theorem spot_of_cell {w : World} {a : Addr} {v : Value} (h : w.cell? a = some v) : a = ⟨a.block, a.off, none⟩ := by
  have := World.cell?_spot h
  cases a
  simp_all

theorem choose_list {α : Type} (n : Nat) (p : Nat → α → Prop) (h : ∀ i < n, ∃ a, p i a) : ∃ l : List α, l.length = n ∧ ∀ i (hi : i < l.length), p i l[i] := by
  induction n with
  | zero => exact ⟨[], rfl, fun i hi => absurd hi (by simp)⟩
  | succ n ih =>
    obtain ⟨l, hl, hp⟩ := ih (fun i hi => h i (by omega))
    obtain ⟨a, ha⟩ := h n (by omega)
    refine ⟨l ++ [a], by simp [hl], fun i hi => ?_⟩
    simp at hi
    rcases Nat.lt_or_ge i l.length with h1 | h1
    · rw [List.getElem_append_left h1]; exact hp i h1
    · obtain rfl : i = l.length := by omega
      rw [List.getElem_append_right (Nat.le_refl _)]
      simp only [Nat.sub_self, List.getElem_cons_zero]
      rw [hl]; exact ha
/-- Rows out of their elements' cells. -/
theorem rowsIn_of {α : Type} (F : Flat α) (hsz : 0 < F.sz) (W : World) (b o n : Nat) (l : List α) (hl : l.length = n) (hn : n ≤ 16777216) (hb : 0 < n → b < W.heap.size)
    (hc : ∀ i (hi : i < l.length) j, j < F.sz → W.cell? ⟨b, o + (i * F.sz + j), none⟩ = (F.enc l[i])[j]?) : RowsIn F W (some ⟨b, o, none⟩) n l := by
  refine ⟨hl.symm, by rw [flatMap_len F.enc F.sz F.len, hl], hn, fun hpos => ⟨b, o, rfl, hb hpos, fun j u hu => ?_⟩⟩
  have hj : j < (l.flatMap F.enc).length := (List.getElem?_eq_some_iff.1 hu).1
  rw [flatMap_len F.enc F.sz F.len] at hj
  have h1 : j / F.sz < l.length := Nat.div_lt_of_lt_mul (by rw [Nat.mul_comm]; exact hj)
  have h2 : j % F.sz < F.sz := Nat.mod_lt _ hsz
  have h3 : j / F.sz * F.sz + j % F.sz = j := by rw [Nat.mul_comm]; exact Nat.div_add_mod j F.sz
  have h4 := flatMap_at F.enc F.sz F.len l (j / F.sz) (j % F.sz) h1 h2
  rw [h3, hu] at h4
  have h5 := hc (j / F.sz) h1 (j % F.sz) h2
  rw [h3] at h5
  rw [h5, ← h4]

theorem open_rows_ok {α : Type} (F : Flat α) (ok : α → Prop) {H : Type} {enc : TypeId × Value → H} {W : World} {t e : TypeId} {a : Option Addr} {len cap : Nat} {d : DataW H} {p : List MemPlace}
    (ht : Try.prog.underlying t = some (.slice e)) (hC : Try.prog.cellsOf e = F.sz) (hsz : 0 < F.sz)
    (hdec : ∀ fuel cs x, DataW.trod enc Try.prog W 0 (fun _ => true) true fuel e cs = some x → ∃ a, cs = F.enc a ∧ ok a)
    (h : DataW.Trod enc Try.prog W 0 (fun _ => true) true t (.slice a len cap) d p) : len ≤ 9223372036854775807 ∧ ∃ l, len ≤ 1048576 → RowsIn F W a len l ∧ ∀ x ∈ l, ok x := by
  obtain ⟨fuel, hf⟩ := h
  rcases open_slice ht hf with ⟨hcs, _⟩ | ⟨x, l, c, m, n, D, Pl, hcs, _, hl, hm, hmm, _, hi⟩
  · simp [Value.cells] at hcs
    obtain ⟨rfl, rfl, rfl⟩ := hcs
    exact ⟨by omega, [], fun _ => ⟨⟨rfl, Sl.nil _ _ _⟩, by simp⟩⟩
  · simp [Value.cells] at hcs
    obtain ⟨rfl, rfl, rfl⟩ := hcs
    simp at hmm
    obtain ⟨L, hL, hp⟩ := choose_list len (fun i a => W.cells? 0 (x.add (i * F.sz)) F.sz = some (F.enc a) ∧ ok a) (fun i hlt => by
      obtain ⟨cs', h1, h2⟩ := hi i (by omega)
      rw [hC] at h1
      obtain ⟨a, rfl, hk⟩ := hdec _ _ _ h2
      exact ⟨a, h1, hk⟩)
    refine ⟨by unfold maxLen at hm; omega, L, fun hle => ⟨?_, fun y hy => by
      obtain ⟨i, hi, rfl⟩ := List.getElem_of_mem hy
      exact (hp i hi).2⟩⟩
    by_cases h0 : len = 0
    · subst h0
      have : L = [] := List.eq_nil_of_length_eq_zero hL
      subst this
      exact ⟨rfl, Sl.nil _ _ _⟩
    · have hcell : ∀ i (hi : i < L.length) j, j < F.sz → W.cell? (x.add (i * F.sz + j)) = (F.enc L[i])[j]? := fun i hi j hj => by
        obtain ⟨_, _, h3⟩ := World.cells?_some (hp i hi).1
        have := h3 j hj
        rwa [add_add] at this
      have h00 := hcell 0 (by omega) 0 hsz
      have hlen0 := F.len (L[0]'(by omega))
      rw [List.getElem?_eq_getElem (by omega)] at h00
      have hx : x = ⟨x.block, x.off, none⟩ := by
        have := spot_of_cell h00
        rw [Nat.zero_mul, Nat.zero_add, add_zero] at this
        exact this
      have hlt := lt_of_cell h00
      rw [blk_add] at hlt
      rw [hx]
      refine rowsIn_of F hsz W _ _ len L hL (by omega) (fun _ => hlt) (fun i hi j hj => ?_)
      have := hcell i hi j hj
      rw [hx, Addr.add_lit] at this
      exact this

theorem open_rows {α : Type} (F : Flat α) {H : Type} {enc : TypeId × Value → H} {W : World} {t e : TypeId} {a : Option Addr} {len cap : Nat} {d : DataW H} {p : List MemPlace}
    (ht : Try.prog.underlying t = some (.slice e)) (hC : Try.prog.cellsOf e = F.sz) (hsz : 0 < F.sz)
    (hdec : ∀ fuel cs x, DataW.trod enc Try.prog W 0 (fun _ => true) true fuel e cs = some x → ∃ a, cs = F.enc a)
    (h : DataW.Trod enc Try.prog W 0 (fun _ => true) true t (.slice a len cap) d p) : len ≤ 9223372036854775807 ∧ ∃ l, len ≤ 1048576 → RowsIn F W a len l := by
  obtain ⟨h1, l, h2⟩ := open_rows_ok F (fun _ => True) ht hC hsz (fun fuel cs x hx => by obtain ⟨a, ha⟩ := hdec fuel cs x hx; exact ⟨a, ha, trivial⟩) h
  exact ⟨h1, l, fun hle => (h2 hle).1⟩

/-- The cells of a struct of one-cell fields, field by field. -/
theorem struct_fields {H : Type} {enc : TypeId × Value → H} {W : World} {fuel : Nat} {e : TypeId} {fs : Array Field} {cs : List Value} {x : DataW H × List MemPlace}
    (he : Try.prog.underlying e = some (.struct fs)) (hone : oneCellFields Try.prog fs = true) (h : DataW.trod enc Try.prog W 0 (fun _ => true) true fuel e cs = some x) :
    cs.length = Try.prog.cellsOf e ∧ ∃ n, ∀ i f, fs[i]? = some f → ∃ v y, (cs.drop i).take 1 = v ∧ DataW.trod enc Try.prog W 0 (fun _ => true) true n f.type v = some y := by
  obtain ⟨ys, n, _, _, hlen, hyl, hf⟩ := DataW.trod_struct he h
  refine ⟨hlen, n, fun i f hi => ?_⟩
  obtain ⟨ho, hk⟩ := hone_of hone i f hi
  have h1 := hf i f hi
  rw [ho, hk] at h1
  have hlt : i < ys.length := by rw [hyl]; exact (Array.getElem?_eq_some_iff.1 hi).1
  rw [List.getElem?_eq_getElem hlt] at h1
  exact ⟨_, _, rfl, h1⟩
end Go.Proofs.Ytlnkofnfgemfdaa
/- Boxes in memory. -/
namespace Go.Proofs.Ytlnkofnfgemfdaa
open Go.RowKit
/-- A box in memory: block N holds the cells cs. -/
def BoxOf (w : World) (N : Nat) (cs : List Value) : Prop := N < w.heap.size ∧ ∀ j u, cs[j]? = some u → w.cell? ⟨N, j, none⟩ = some u
theorem BoxOf.keep {w w' : World} {N : Nat} {cs : List Value} (h : BoxOf w N cs) (hb : Below w.heap.size w w') : BoxOf w' N cs :=
  ⟨Nat.lt_of_lt_of_le h.1 hb.size, fun j u hu => (hb.cell (p := ⟨N, j, none⟩) h.1).trans (h.2 j u hu)⟩
theorem BoxOf.two {w : World} {N : Nat} {x y : Value} (h : BoxOf w N [x, y]) : w.cell? ⟨N, 0, none⟩ = some x ∧ w.cell? ⟨N, 1, none⟩ = some y ∧ N < w.heap.size := ⟨h.2 0 x rfl, h.2 1 y rfl, h.1⟩
theorem boxOf_alloc (w : World) (cs : Array Value) (t : TypeId) : BoxOf (w.alloc (.cells cs t)) w.heap.size cs.toList := by
  refine ⟨by simp, fun j u hu => ?_⟩
  have := news_at (w := w) rfl cs t j u hu
  rwa [Addr.add_lit, Nat.zero_add] at this
end Go.Proofs.Ytlnkofnfgemfdaa
/- Keys of two parts, a center and a day; an entry of an own map that is added to. -/
namespace Go.Proofs.Ytlnkofnfgemfdaa
open Go.RowKit Go.Maps Go.WideMaps Go.WideElems
open Go.ChangeMaps (setBlock heap_setBlock_same heap_setBlock_other)
set_option maxRecDepth 100000
theorem zeroI (w : World) : (zeroValue 3).run Try.prog w = .ok (.int .i64 0) w := by kernel_rfl
theorem BoxOf.grown {w w' : World} {N : Nat} {cs : List Value} {row : Option Nat} (h : BoxOf w N cs) (hg : w.grownBy w' row) (hne : row ≠ some N) : BoxOf w' N cs :=
  ⟨Nat.lt_of_lt_of_le h.1 hg.size, fun j u hu => by rw [World.cell?_of_block (hg.block N h.1 (fun e => hne e.symm))]; exact h.2 j u hu⟩
theorem atRow : (142 : TypeId) < Try.prog.types.size := of_decide_eq_true (by kernel_rfl)
theorem atWide : (match Try.prog.underlying 142 with | some (.array _ _) | some (.struct _) => true | _ => false) = true := by rw [Try.underlying142]
theorem atLaw : KeyLaw Try.prog 142 := deep_law_laid laidOut (m := 2) (by omega) atRow (by kernel_rfl) atWide
theorem atKeyed : Keyed Try.prog 142 := Keyed.of_law atLaw
def keyP (c : ByteArray) (d : Int) : Lit := .string (keyBytes [.string c.data.toList, .int .i64 d])
def atV (c : ByteArray) (d : Int) : Value := .agg #[.string c, .int .i64 d]
theorem at_cells : Try.prog.cellsOf 142 = 2 := by kernel_rfl
theorem str_cells : Try.prog.cellsOf 9 = 1 := by kernel_rfl
theorem int_cells : Try.prog.cellsOf 3 = 1 := by kernel_rfl
theorem at_key : Try.prog.keyType 142 = true := by kernel_rfl
theorem size_succ : ∃ m, Try.prog.types.size = m + 1 := by
  have h : (142 : Nat) < Try.prog.types.size := atRow
  exact ⟨Try.prog.types.size - 1, by omega⟩
theorem keyLits_str (m : Nat) (a : Value) (l : List Lit) (h : Try.prog.keyLits (m + 1) 9 [a] = some l) : ∃ c, a = .string c ∧ l = [.string c.data.toList] ∧ c.size ≤ maxLen := by
  unfold Program.keyLits at h
  simp only [Try.underlying9] at h
  split at h
  all_goals first | (simp at *; done) | skip
  rename_i s hu ha
  injection ha with ha _
  split at h
  · injection h with h
    exact ⟨s, ha, h.symm, by assumption⟩
  · cases h
theorem keyLits_int (m : Nat) (a : Value) (l : List Lit) (h : Try.prog.keyLits (m + 1) 3 [a] = some l) : ∃ d, a = .int .i64 d ∧ l = [.int .i64 d] ∧ (Lit.int .i64 d).wf = true := by
  unfold Program.keyLits at h
  simp only [Try.underlying3] at h
  split at h
  all_goals first | (simp at *; done) | skip
  rename_i q q' d hu ha
  injection hu with hu
  injection hu with hu
  subst hu
  injection ha with ha _
  split at h
  · rename_i hh
    injection h with h
    exact ⟨d, by rw [ha, hh.1], h.symm, hh.2⟩
  · cases h
theorem keyLits_at (m : Nat) (xs : List Value) (L : List Lit) : Try.prog.keyLits (m + 2) 142 xs = some L ↔ ∃ c d, xs = [.string c, .int .i64 d] ∧ L = [.string c.data.toList, .int .i64 d] ∧ c.size ≤ maxLen ∧ (Lit.int .i64 d).wf = true := by
  constructor
  · intro h
    unfold Program.keyLits at h
    simp only [Try.underlying142] at h
    split at h
    · rename_i hl
      rw [at_cells] at hl
      have hl1 := hl.1
      clear hl
      match xs, hl1 with
      | [a, b], _ =>
        rw [Option.map_eq_some_iff] at h
        obtain ⟨ls, h, rfl⟩ := h
        rw [List.mapM_cons] at h
        simp only [Option.bind_eq_bind, Option.bind_eq_some_iff, List.mapM_cons, List.mapM_nil, Option.pure_def, str_cells, int_cells] at h
        obtain ⟨l1, h1, ls', ⟨l2, h2, ls'', h3, h4⟩, h5⟩ := h
        obtain ⟨c, rfl, rfl, hc⟩ := keyLits_str _ _ _ h1
        obtain ⟨d, rfl, rfl, hd⟩ := keyLits_int _ _ _ h2
        injection h3 with h3
        injection h4 with h4
        injection h5 with h5
        subst h3; subst h4; subst h5
        exact ⟨c, d, rfl, rfl, hc, hd⟩
    · cases h
  · rintro ⟨c, d, rfl, rfl, h1, h2⟩
    unfold Program.keyLits
    simp only [Try.underlying142]
    rw [if_pos ⟨by rw [at_cells]; rfl, by simp⟩]
    simp [str_cells, int_cells, Program.keyLits, Try.underlying9, Try.underlying3, h1, h2]
theorem keyOf_at {c : ByteArray} {d : Int} (hc : c.size ≤ maxLen) (hd : (Lit.int .i64 d).wf = true) : keyOf Try.prog 142 (atV c d) = some (keyP c d) := by
  obtain ⟨m, hm⟩ := size_succ
  have hL := (keyLits_at m [.string c, .int .i64 d] _).2 ⟨c, d, rfl, rfl, hc, hd⟩
  unfold keyOf
  simp only [Try.underlying142]
  rw [if_pos (by simp [at_key, atV, Value.formed, Try.underlying142, at_cells]), hm]
  show Option.map _ (Try.prog.keyLits (m + 2) 142 [.string c, .int .i64 d]) = _
  rw [hL]; rfl
theorem keyOf_at_inv {key : Value} {k : Lit} (h : keyOf Try.prog 142 key = some k) : ∃ c d, key = atV c d ∧ k = keyP c d ∧ c.size ≤ maxLen ∧ (Lit.int .i64 d).wf = true := by
  obtain ⟨xs, L, rfl, h1, rfl⟩ := keyOf_top atWide h
  obtain ⟨m, hm⟩ := size_succ
  rw [hm] at h1
  obtain ⟨c, d, h2, rfl, h3, h4⟩ := (keyLits_at m _ _).1 h1
  refine ⟨c, d, ?_, rfl, h3, h4⟩
  obtain ⟨l⟩ := xs
  simp only at h2
  subst h2; rfl
theorem keyP_inj {c c' : ByteArray} {d d' : Int} (hc : c.size ≤ maxLen) (hd : (Lit.int .i64 d).wf = true) (hc' : c'.size ≤ maxLen) (hd' : (Lit.int .i64 d').wf = true) (h : keyP c d = keyP c' d') : c = c' ∧ d = d' := by
  have h1 := keyOf_at hc hd
  rw [h] at h1
  have h2 := atLaw.inj h1 (keyOf_at hc' hd')
  unfold atV at h2
  injection h2 with h2
  simp at h2
  exact h2
theorem keyP_key (c : ByteArray) (d : Int) : WideAt.IsKeyLit (keyP c d) := by simp [keyP, WideAt.IsKeyLit]
section
variable {H : Type} {P : Program} {w : World} {t k e : TypeId}
theorem mapEntry_updates {R : Value → Option (DataW H × List MemPlace)} {b : Nat} {es : Array MapEntry} {clock : Nat} (K : KeyLaw P k) (ht : P.underlying t = some (.map k e)) {z : Value} (hz : ∀ u : World, (zeroValue e).run P u = .ok z u) (hb : w.heap[b]? = some (.map es clock)) (F : Fit P k R es clock)
    {key : Value} {kl : Lit} (hkey : keyOf P k key = some kl) :
    ∃ (v0 : Value) (st : Nat) (w2 : World), (Instr.mapEntry t (.map (some b)) key).run P w = .ok (.tuple #[v0, goInt st]) w2 ∧ (Instr.lookup t (.map (some b)) key false).run P w = .ok v0 w ∧ (Instr.mapUpdate t (.map (some b)) key v0).run P w = .ok () w2 := by
  rcases K.find w hkey es.toList F.keys with ⟨h1, h2⟩ | ⟨j, e0, h1, h2, h3⟩
  · refine ⟨z, clock, setBlock w b (.map (es.push ⟨key, z, clock⟩) (clock + 1)), ?_, ?_, ?_⟩
    · simp [Instr.mapEntry, run_underlying ht, MapKept.run_getObj_map hb, K.check w false hkey, h1, hz, MapKept.run_setObj_map _ hb, Result.andThen, setBlock]
    · simp [Instr.lookup, run_underlying ht, MapKept.run_getObj_map hb, K.check w _ hkey, h1, hz, Result.andThen]
    · simp [Instr.mapUpdate, run_underlying ht, MapKept.run_getObj_map hb, K.check w false hkey, h1, MapKept.run_setObj_map _ hb, Result.andThen, setBlock]
  · have hj : es[j]? = some e0 := by simpa using h2
    have hsame : ∀ f : MapEntry → MapEntry, f e0 = e0 → es.modify j f = es := fun f hf => by
      apply Array.ext'
      rw [Array.toList_modify, ChangeMaps.modify_eq_set _ _ _ _ h2, hf]
      exact set_self _ _ _ h2
    have s1 : es.modify j (fun e => { e with key := key }) = es := hsame _ (by rw [← h3])
    have s2 : es.modify j (fun e => { e with key := key, val := e0.val }) = es := hsame _ (by rw [← h3])
    refine ⟨e0.val, e0.born, setBlock w b (.map es clock), ?_, ?_, ?_⟩
    · simp [Instr.mapEntry, run_underlying ht, MapKept.run_getObj_map hb, K.check w false hkey, h1, hj, h3, K.stays w hkey, s1, MapKept.run_setObj_map _ hb, Result.andThen, setBlock]
    · simp [Instr.lookup, run_underlying ht, MapKept.run_getObj_map hb, K.check w _ hkey, h1, Result.andThen]
    · simp [Instr.mapUpdate, run_underlying ht, MapKept.run_getObj_map hb, K.check w false hkey, h1, hj, h3, K.stays w hkey, s2, MapKept.run_setObj_map _ hb, Result.andThen, setBlock]
theorem own_entry {b n : Nat} {D : DataW H} {q : IntKind} (h : w.ownsMap P k (plainElem P e) b n D) (K : KeyLaw P k) (ht : P.underlying t = some (.map k e)) (he : P.underlying e = some (.int q)) (hz : ∀ u : World, (zeroValue e).run P u = .ok (.int q 0) u) (hn : n < maxLen)
    {key : Value} {kl : Lit} (hkey : keyOf P k key = some kl) :
    ∃ (c : Int) (st : Nat) (w2 : World), D.atKey kl (.lit (.int q 0)) = .lit (.int q c) ∧ (Lit.int q c).wf = true ∧ (Instr.lookup t (.map (some b)) key false).run P w = .ok (.int q c) w ∧
      (Instr.mapEntry t (.map (some b)) key).run P w = .ok (.tuple #[.int q c, goInt st]) w2 ∧ (Instr.lookup t (.map (some b)) key false).run P w2 = .ok (.int q c) w2 ∧ w.grownBy w2 (some b) ∧
      ∀ x, (Lit.int q x).wf = true → ∃ w3, (Instr.entryStore t (.map (some b)) (goInt st) (.int q x)).run P w2 = .ok () w3 ∧ w3.ownsMap P k (plainElem P e) b (n + 1) (D.put kl (.lit (.int q x))) ∧ w.grownBy w3 (some b) := by
  have h0 := h
  obtain ⟨es, clock, hb, F, hs, hD⟩ := h0
  obtain ⟨v0, st, w2, hE, hL, hU⟩ := mapEntry_updates K ht hz hb F hkey
  obtain ⟨c, hrun, hat, hwc⟩ := h.lookup_int (Keyed.of_law K) ht he (hz _) hkey
  rw [hrun] at hL
  injection hL with hL1 _
  subst hL1
  obtain ⟨w', hu, ho, hg⟩ := h.update (Keyed.of_law K) ht hn hkey (plainElem_int he hwc)
  rw [hU] at hu
  injection hu with _ hu
  subst hu
  obtain ⟨c', hrun2, hat2, _⟩ := ho.lookup_int (Keyed.of_law K) ht he (hz _) hkey
  rw [atKey_put_same h.isMap ((Keyed.of_law K).key hkey)] at hat2
  injection hat2 with hat2
  injection hat2 with _ hat2
  subst hat2
  refine ⟨c, st, w2, hat, hwc, hrun, hE, hrun2, hg, fun x hx => ?_⟩
  obtain ⟨v1, st1, es1, clock1, hE1, _, hst⟩ := entry_then_store K ht hz hb F hkey
  rw [hE] at hE1
  injection hE1 with a1 a2
  injection a1 with a1
  simp [goInt] at a1
  obtain rfl : st = st1 := by have := a1; omega
  obtain ⟨es', clock', r1, r2⟩ := hst w2 (.int q x) (by rw [a2]; exact heap_setBlock_same hb _)
  obtain ⟨w', hu, ho, hg⟩ := h.update (Keyed.of_law K) ht hn hkey (plainElem_int he hx)
  rw [r2] at hu
  injection hu with _ hu
  have e2 : setBlock w2 b (.map es' clock') = setBlock w b (.map es' clock') := by
    rw [a2]; simp [setBlock]
  rw [← hu] at ho hg
  exact ⟨_, r1, by rw [e2]; exact ho, by rw [e2]; exact hg⟩
end
end Go.Proofs.Ytlnkofnfgemfdaa
