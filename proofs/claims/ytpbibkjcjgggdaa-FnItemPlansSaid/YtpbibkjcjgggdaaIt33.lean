/- FnItemPlans: for every input the law returns true; its argument reads behind the call as before. No condition. -/
import Derived.Test.YtpbibkjcjgggdaaRows
import Derived.Test.YtpbibkjcjgggdaaIt1
import Derived.ProofKit
import Derived.OpenShut
import Derived.ShutString
import Derived.ChangeOld
import Derived.Below
import Derived.Deep.Slices
import Derived.Deep.Fields
import Derived.Test.YtpbibkjcjgggdaaIt31
import Derived.Test.YtpbibkjcjgggdaaIt32
/- From the reading of a law's arguments to what the walks ask of them. -/
namespace Go.Proofs.Ytpbibkjcjgggdaa
open Go.ChangeShapes Go.WideShapes Go.ChangeAt Go.RowKit Go.Deep
theorem own : ownKnob Try.prog.godebug = none := by kernel_rfl
theorem laidOut : laidOutB Try.prog = true := by kernel_rfl
theorem lt_of_cell {w : World} {a : Addr} {v : Value} (h : w.cell? a = some v) : a.block < w.heap.size := by
  rcases Nat.lt_or_ge a.block w.heap.size with h1 | h1
  · exact h1
  · unfold World.cell? at h; rw [Array.getElem?_eq_none h1] at h; cases h
theorem spot_of_cell {w : World} {a : Addr} {v : Value} (h : w.cell? a = some v) : a = ⟨a.block, a.off, none⟩ := by
  have := World.cell?_spot h
  cases a
  simp_all

theorem choose_list {α : Type} (n : Nat) (p : Nat → α → Prop) (h : ∀ i < n, ∃ a, p i a) : ∃ l : List α, l.length = n ∧ ∀ i (hi : i < l.length), p i l[i] := by
  induction n with
  | zero => exact ⟨[], rfl, fun i hi => absurd hi (by simp)⟩
  | succ n ih =>
    obtain ⟨l, hl, hp⟩ := ih (fun i hi => h i (by omega))
    obtain ⟨a, ha⟩ := h n (by omega)
    refine ⟨l ++ [a], by simp [hl], fun i hi => ?_⟩
    simp at hi
    rcases Nat.lt_or_ge i l.length with h1 | h1
    · rw [List.getElem_append_left h1]; exact hp i h1
    · obtain rfl : i = l.length := by omega
      rw [List.getElem_append_right (Nat.le_refl _)]
      simp only [Nat.sub_self, List.getElem_cons_zero]
      rw [hl]; exact ha
/-- Rows out of their elements' cells. -/
theorem rowsIn_of {α : Type} (F : Flat α) (hsz : 0 < F.sz) (W : World) (b o n : Nat) (l : List α) (hl : l.length = n) (hn : n ≤ 16777216) (hb : 0 < n → b < W.heap.size)
    (hc : ∀ i (hi : i < l.length) j, j < F.sz → W.cell? ⟨b, o + (i * F.sz + j), none⟩ = (F.enc l[i])[j]?) : RowsIn F W (some ⟨b, o, none⟩) n l := by
  refine ⟨hl.symm, by rw [flatMap_len F.enc F.sz F.len, hl], hn, fun hpos => ⟨b, o, rfl, hb hpos, fun j u hu => ?_⟩⟩
  have hj : j < (l.flatMap F.enc).length := (List.getElem?_eq_some_iff.1 hu).1
  rw [flatMap_len F.enc F.sz F.len] at hj
  have h1 : j / F.sz < l.length := Nat.div_lt_of_lt_mul (by rw [Nat.mul_comm]; exact hj)
  have h2 : j % F.sz < F.sz := Nat.mod_lt _ hsz
  have h3 : j / F.sz * F.sz + j % F.sz = j := by rw [Nat.mul_comm]; exact Nat.div_add_mod j F.sz
  have h4 := flatMap_at F.enc F.sz F.len l (j / F.sz) (j % F.sz) h1 h2
  rw [h3, hu] at h4
  have h5 := hc (j / F.sz) h1 (j % F.sz) h2
  rw [h3] at h5
  rw [h5, ← h4]

theorem open_rows_ok {α : Type} (F : Flat α) (ok : α → Prop) {H : Type} {enc : TypeId × Value → H} {W : World} {t e : TypeId} {a : Option Addr} {len cap : Nat} {d : DataW H} {p : List MemPlace}
    (ht : Try.prog.underlying t = some (.slice e)) (hC : Try.prog.cellsOf e = F.sz) (hsz : 0 < F.sz)
    (hdec : ∀ fuel cs x, DataW.trod enc Try.prog W 0 (fun _ => true) true fuel e cs = some x → ∃ a, cs = F.enc a ∧ ok a)
    (h : DataW.Trod enc Try.prog W 0 (fun _ => true) true t (.slice a len cap) d p) : len ≤ 9223372036854775807 ∧ ∃ l, len ≤ 1048576 → RowsIn F W a len l ∧ ∀ x ∈ l, ok x := by
  obtain ⟨fuel, hf⟩ := h
  rcases open_slice ht hf with ⟨hcs, _⟩ | ⟨x, l, c, m, n, D, Pl, hcs, _, hl, hm, hmm, _, hi⟩
  · simp [Value.cells] at hcs
    obtain ⟨rfl, rfl, rfl⟩ := hcs
    exact ⟨by omega, [], fun _ => ⟨⟨rfl, Sl.nil _ _ _⟩, by simp⟩⟩
  · simp [Value.cells] at hcs
    obtain ⟨rfl, rfl, rfl⟩ := hcs
    simp at hmm
    obtain ⟨L, hL, hp⟩ := choose_list len (fun i a => W.cells? 0 (x.add (i * F.sz)) F.sz = some (F.enc a) ∧ ok a) (fun i hlt => by
      obtain ⟨cs', h1, h2⟩ := hi i (by omega)
      rw [hC] at h1
      obtain ⟨a, rfl, hk⟩ := hdec _ _ _ h2
      exact ⟨a, h1, hk⟩)
    refine ⟨by unfold maxLen at hm; omega, L, fun hle => ⟨?_, fun y hy => by
      obtain ⟨i, hi, rfl⟩ := List.getElem_of_mem hy
      exact (hp i hi).2⟩⟩
    by_cases h0 : len = 0
    · subst h0
      have : L = [] := List.eq_nil_of_length_eq_zero hL
      subst this
      exact ⟨rfl, Sl.nil _ _ _⟩
    · have hcell : ∀ i (hi : i < L.length) j, j < F.sz → W.cell? (x.add (i * F.sz + j)) = (F.enc L[i])[j]? := fun i hi j hj => by
        obtain ⟨_, _, h3⟩ := World.cells?_some (hp i hi).1
        have := h3 j hj
        rwa [add_add] at this
      have h00 := hcell 0 (by omega) 0 hsz
      have hlen0 := F.len (L[0]'(by omega))
      rw [List.getElem?_eq_getElem (by omega)] at h00
      have hx : x = ⟨x.block, x.off, none⟩ := by
        have := spot_of_cell h00
        rw [Nat.zero_mul, Nat.zero_add, add_zero] at this
        exact this
      have hlt := lt_of_cell h00
      rw [blk_add] at hlt
      rw [hx]
      refine rowsIn_of F hsz W _ _ len L hL (by omega) (fun _ => hlt) (fun i hi j hj => ?_)
      have := hcell i hi j hj
      rw [hx, Addr.add_lit] at this
      exact this

theorem open_rows {α : Type} (F : Flat α) {H : Type} {enc : TypeId × Value → H} {W : World} {t e : TypeId} {a : Option Addr} {len cap : Nat} {d : DataW H} {p : List MemPlace}
    (ht : Try.prog.underlying t = some (.slice e)) (hC : Try.prog.cellsOf e = F.sz) (hsz : 0 < F.sz)
    (hdec : ∀ fuel cs x, DataW.trod enc Try.prog W 0 (fun _ => true) true fuel e cs = some x → ∃ a, cs = F.enc a)
    (h : DataW.Trod enc Try.prog W 0 (fun _ => true) true t (.slice a len cap) d p) : len ≤ 9223372036854775807 ∧ ∃ l, len ≤ 1048576 → RowsIn F W a len l := by
  obtain ⟨h1, l, h2⟩ := open_rows_ok F (fun _ => True) ht hC hsz (fun fuel cs x hx => by obtain ⟨a, ha⟩ := hdec fuel cs x hx; exact ⟨a, ha, trivial⟩) h
  exact ⟨h1, l, fun hle => (h2 hle).1⟩

/-- The cells of a struct of one-cell fields, field by field. -/
theorem struct_fields {H : Type} {enc : TypeId × Value → H} {W : World} {fuel : Nat} {e : TypeId} {fs : Array Field} {cs : List Value} {x : DataW H × List MemPlace}
    (he : Try.prog.underlying e = some (.struct fs)) (hone : oneCellFields Try.prog fs = true) (h : DataW.trod enc Try.prog W 0 (fun _ => true) true fuel e cs = some x) :
    cs.length = Try.prog.cellsOf e ∧ ∃ n, ∀ i f, fs[i]? = some f → ∃ v y, (cs.drop i).take 1 = v ∧ DataW.trod enc Try.prog W 0 (fun _ => true) true n f.type v = some y := by
  obtain ⟨ys, n, _, _, hlen, hyl, hf⟩ := DataW.trod_struct he h
  refine ⟨hlen, n, fun i f hi => ?_⟩
  obtain ⟨ho, hk⟩ := hone_of hone i f hi
  have h1 := hf i f hi
  rw [ho, hk] at h1
  have hlt : i < ys.length := by rw [hyl]; exact (Array.getElem?_eq_some_iff.1 hi).1
  rw [List.getElem?_eq_getElem hlt] at h1
  exact ⟨_, _, rfl, h1⟩
end Go.Proofs.Ytpbibkjcjgggdaa
/- Bytes that came in. -/
namespace Go.Proofs.Ytpbibkjcjgggdaa
open Go.ChangeShapes Go.WideShapes Go.ChangeAt Go.RowKit Go.Deep
theorem open_bytesIn {H : Type} {enc : TypeId × Value → H} {W : World} {a : Option Addr} {len cap : Nat} {d : DataW H} {p : List MemPlace}
    (h : DataW.Trod enc Try.prog W 0 (fun _ => true) true 22 (.slice a len cap) d p) : len ≤ 9223372036854775807 ∧ ∃ l, len ≤ 1048576 → RowsIn byteF W a len l ∧ ∀ x ∈ l, okByte x := by
  refine open_rows_ok byteF okByte Try.underlying22 (by kernel_rfl) (by decide) (fun fuel cs x hx => ?_) h
  obtain ⟨n0, g0, _, hw⟩ := DataW.trod_int Try.underlying5 hx
  subst g0
  refine ⟨n0, rfl, ?_⟩
  simp [Lit.wf] at hw
  have e1 : IntKind.u8.min = 0 := by decide
  have e2 : IntKind.u8.max = 255 := by decide
  unfold okByte
  omega
end Go.Proofs.Ytpbibkjcjgggdaa
/- FnItemPlans: for every input the law returns true; its argument reads behind the call as before. No condition. -/
namespace Go.Proofs.Ytpbibkjcjgggdaa
open Go.ChangeShapes Go.WideShapes Go.ChangeAt Go.RowKit
namespace fnItemPlans
set_option maxRecDepth 100000 in
theorem lifted (os : Os) (started : os.Started) (H : Type) (enc : TypeId × Value → H) :
    ReturnsInHanded {} Try.checked os 3 .any (Rows.fnItemPlansSpec.pre6 enc Try.prog Try.f3 Rows.fnItemPlansRow.domain false) (Rows.fnItemPlansSpec.post enc Try.prog Try.f3 false true false false) := by
  refine returnsInHanded_of_change (C := Try.checked) own started (by kernel_rfl) Try.func3
    (ChangeSpec.witness6 (enc := enc) (C := Try.checked) false ⟨#[], #[.slice none 0 0], []⟩ 8 (by kernel_rfl) (by kernel_rfl) (by kernel_rfl) (by kernel_rfl)) ?_
  intro W base args ds gs before hval0 hW hcnd _
  have hval : ∀ (j : Nat) t v, Try.f3.params[j]? = some t → args[j]? = some v → Value.okWide Try.prog W .any base t v := hval0
  have hW' := hW
  obtain ⟨p, q, hA0, hV, rfl, hfz, hnd⟩ := hW
  have hA : DataW.TrodAll enc Try.prog W 0 (fun _ => true) true Try.f3.params.toList args.toList ds p := hA0
  rw [Try.params3] at hA hval
  obtain ⟨v0, vs0, d0, ds0, p0, q0, hargs, rfl, rfl, h0, r0⟩ := trodAll_cons hA
  obtain ⟨rfl, rfl, rfl⟩ := trodAll_nil r0
  obtain rfl : args = #[v0] := by cases args; simp_all
  obtain ⟨rfl, rfl⟩ := trodVars_none hV
  have k0 := h0
  have lt0 : ∀ x ∈ p0, x.block < W.heap.size := by obtain ⟨m, hm⟩ := k0; exact DataW.trod_lt m _ _ _ hm
  obtain ⟨a0, len0, cap0, rfl⟩ := okWide_slice Try.underlying22 (hval 0 22 v0 rfl rfl)
  obtain ⟨m0, z0, w0⟩ := open_bytesIn h0
  clear hA0 hval0
  refine (lawItemPlans a0 len0 cap0 z0 w0 m0).mono fun e W' ⟨he, bel⟩ => ?_
  subst he
  exact ⟨_, rfl, _, _, _, [], _, [], hW', trodAll_mk1 (shut_bool Try.underlying4 _), (trodAll_cons_mk (Below.trod laidOut (by kernel_rfl) (of_decide_eq_true (by kernel_rfl)) k0 bel lt0) trodAll_mk0), rfl, bel.frame _, fun h => by cases h⟩
theorem over : Rows.fnItemPlansRow.holds Try.pinned (OpenSpec.ofChange Rows.fnItemPlansSpec) :=
  OpenClaim.holds_of_wide 3 Try.f3 rfl rfl rfl rfl rfl rfl rfl ⟨rfl, rfl, rfl, rfl, rfl⟩ rfl rfl rfl rfl rfl (by kernel_rfl) Try.func3 (by kernel_rfl)
    (of_decide_eq_true (by kernel_rfl)) (by unfold Func.isWrapper; first | (rw [if_pos (by decide +kernel)]; kernel_rfl) | (rw [if_neg (by decide +kernel)]; exact ⟨rfl, rfl⟩))
    (fun os started H enc _ => lifted os started H enc)
theorem proved : Rows.FnItemPlansSaid := over
#print axioms proved
end fnItemPlans
end Go.Proofs.Ytpbibkjcjgggdaa
