/- Job: rows in rows; the walks of the laws' own helpers on lists of it. -/
import Derived.Test.YtmkfinahbelpdaaWorkTo
import Derived.Test.YtmkfinahbelpdaaFar
import Derived.StillTailTactics
namespace Go.Proofs.Ytmkfinahbelpdaa
open Go.RowKit
abbrev Jb := Int × Int × List Wk
abbrev JbR := Int × Int × (Option Addr × Nat × Nat)
def jbF : Flat JbR := ⟨fun f => [.int .i64 (f.1), .int .i64 (f.2.1), .slice f.2.2.1 f.2.2.2.1 f.2.2.2.2], 3, fun _ => rfl⟩
/-- A raw element and what it stands for. -/
def JbOf (P : Option Addr → Nat → List Wk → Prop) (r : JbR) (j : Jb) : Prop := r.1 = j.1 ∧ r.2.1 = j.2.1 ∧ P r.2.2.1 r.2.2.2.1 j.2.2
theorem JbOf.imp {P Q : Option Addr → Nat → List Wk → Prop} {r : JbR} {j : Jb} (h : JbOf P r j) (hi : ∀ A n l, P A n l → Q A n l) : JbOf Q r j := by
  simp only [JbOf] at h ⊢
  exact ⟨h.1, h.2.1, hi _ _ _ h.2.2⟩
def JobOfs (P : Option Addr → Nat → List Wk → Prop) (R : List JbR) (l : List Jb) : Prop := R.length = l.length ∧ ∀ k (h1 : k < R.length) (h2 : k < l.length), JbOf P R[k] l[k]
theorem JobOfs.imp {P Q : Option Addr → Nat → List Wk → Prop} {R : List JbR} {l : List Jb} (h : JobOfs P R l) (hi : ∀ A n l, P A n l → Q A n l) : JobOfs Q R l := ⟨h.1, fun k h1 h2 => (h.2 k h1 h2).imp hi⟩
theorem JobOfs.snoc {P : Option Addr → Nat → List Wk → Prop} {R : List JbR} {l : List Jb} {r : JbR} {j : Jb} (h : JobOfs P R l) (hj : JbOf P r j) : JobOfs P (R ++ [r]) (l ++ [j]) := by
  refine ⟨by simp [h.1], fun k h1 h2 => ?_⟩
  simp only [List.length_append, List.length_cons, List.length_nil] at h1
  have hl := h.1
  simp only [List.getElem_append]
  by_cases hk : k < R.length
  · rw [dif_pos hk, dif_pos (by omega)]; exact h.2 k hk (by omega)
  · rw [dif_neg hk, dif_neg (by omega)]
    simp only [List.getElem_singleton]; exact hj
def JobsIn (w : World) (A : Option Addr) (n : Nat) (l : List Jb) : Prop := ∃ R, RowsIn jbF w A n R ∧ JobOfs (WorksIn w) R l
/-- As it came in: a row within is read only where it is not too long. -/
def JobPre (w : World) (A : Option Addr) (n : Nat) (l : List Jb) : Prop := ∃ R, RowsIn jbF w A n R ∧ JobOfs (fun A n l => n ≤ 9223372036854775807 ∧ (n ≤ 1048576 → WorksIn w A n l)) R l
/-- Of the call's own, all rows in blocks from lo on. -/
def JobFrom (w : World) (lo : Nat) (A : Option Addr) (n c : Nat) (l : List Jb) : Prop := ∃ R, OwnRows jbF 44 w lo A n c R ∧ JobOfs (fun A n l => OwnRows wkF 46 w lo A n n l ∧ l.length ≤ 16777216) R l
section
variable {w w' : World} {A : Option Addr} {n c lo : Nat} {l : List Jb}
theorem JobsIn.keep (h : JobsIn w A n l) (hb : Below w.heap.size w w') : JobsIn w' A n l := by
  obtain ⟨R, h1, h2⟩ := h
  exact ⟨R, h1.keep hb, h2.imp (fun _ _ _ h => h.keep hb)⟩
theorem JobsIn.len (h : JobsIn w A n l) : l.length ≤ 16777216 := by obtain ⟨R, h1, h2⟩ := h; rw [← h2.1]; exact h1.len
theorem JobsIn.num (h : JobsIn w A n l) : n = l.length := by obtain ⟨R, h1, h2⟩ := h; rw [← h2.1]; exact h1.1
theorem JobPre.keep (h : JobPre w A n l) (hb : Below w.heap.size w w') : JobPre w' A n l := by
  obtain ⟨R, h1, h2⟩ := h
  exact ⟨R, h1.keep hb, h2.imp (fun _ _ _ h => ⟨h.1, fun hn => (h.2 hn).keep hb⟩)⟩
theorem JobPre.len (h : JobPre w A n l) : l.length ≤ 16777216 := by obtain ⟨R, h1, h2⟩ := h; rw [← h2.1]; exact h1.len
theorem JobFrom.keep (h : JobFrom w lo A n c l) (hb : Below w.heap.size w w') : JobFrom w' lo A n c l := by
  obtain ⟨R, h1, h2⟩ := h
  exact ⟨R, h1.keep hb, h2.imp (fun _ _ _ h => ⟨h.1.keep hb, h.2⟩)⟩
theorem JobFrom.far (h : JobFrom w lo A n c l) {p : Addr} (hp : p.block < lo) (x : Value) : JobFrom (w.setCell p x) lo A n c l := by
  obtain ⟨R, h1, h2⟩ := h
  exact ⟨R, h1.far hp x, h2.imp (fun _ _ _ h => ⟨h.1.far hp x, h.2⟩)⟩
theorem JobFrom.lower {lo' : Nat} (h : JobFrom w lo A n c l) (hl : lo' ≤ lo) : JobFrom w lo' A n c l := by
  obtain ⟨R, h1, h2⟩ := h
  exact ⟨R, h1.lower hl, h2.imp (fun _ _ _ h => ⟨h.1.lower hl, h.2⟩)⟩
theorem JobFrom.rows (h : JobFrom w lo A n c l) (hn : l.length ≤ 16777216) : JobsIn w A n l := by
  obtain ⟨R, h1, h2⟩ := h
  exact ⟨R, h1.rows (by rw [h2.1]; exact hn), h2.imp (fun _ _ _ h => h.1.rows h.2)⟩
theorem JobFrom.at_ (h : JobFrom w lo A n c l) : JobFrom w lo A n c l := h
theorem jb_at (h : JobsIn w A n l) {k : Nat} (hk : k < l.length) :
    ∃ b o B m c, A = some ⟨b, o, none⟩ ∧ b < w.heap.size ∧ w.cell? ⟨b, o + k * 3, none⟩ = some (.int .i64 (l[k].1)) ∧ w.cell? ⟨b, o + k * 3 + 1, none⟩ = some (.int .i64 (l[k].2.1)) ∧ w.cell? ⟨b, o + k * 3 + 2, none⟩ = some (.slice B m c) ∧ WorksIn w B m l[k].2.2 := by
  obtain ⟨R, h1, h2, h3⟩ := h
  obtain ⟨b, o, e, hlt, hc⟩ := h1.at_ (k := k) (by omega)
  have h4 := h3 k (by omega) hk
  simp only [JbOf] at h4
  refine ⟨b, o, _, _, _, e, hlt, by rw [← h4.1]; exact hc 0 _ rfl, by rw [← h4.2.1]; exact hc 1 _ rfl, hc 2 _ rfl, h4.2.2⟩
end
theorem jbInfo : (Try.prog.info? 44).map (fun i => (i.zero, i.size, i.bytes)) = some (some (.agg #[.int .i64 0, .int .i64 0, .slice none 0 0]), 3, 40) := by kernel_rfl

def okJb (x : Jb) : Prop := ∀ y ∈ x.2.2, okWk y
end Go.Proofs.Ytmkfinahbelpdaa
