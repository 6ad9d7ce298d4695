/- Part 5 of the texts of this claim: Rows of the call's own and stores far from them; BillLine: rows in rows; the walks of the laws' own helpers on lists of it. -/
import Derived.Test.YtlnkofnfgemfdaaGreatIp2
import Derived.StillTailTactics
/- Rows of the call's own and stores far from them. -/
namespace Go.Proofs.YtlnkofnfgemfdaaGreat
open Go.RowKit
theorem own_far {w : World} {lo : Nat} {e : TypeId} {sz n : Nat} {v : Value} {xs : List Value} (h : w.ownsRow lo e sz v n xs) {p : Addr} (hp : p.block < lo) (x : Value) : (w.setCell p x).ownsRow lo e sz v n xs := by
  refine World.ownsRow.kept h (row := some p.block) ⟨rfl, rfl, rfl, by simp, fun k _ hk => heap_setCell_other w p k x (fun e => hk (by simp [e]))⟩ (.inr ?_)
  intro he
  have := own_block h _ he
  omega
theorem OwnInts.far {w : World} {lo : Nat} {A : Option Addr} {n c : Nat} {l : List Int} (h : OwnInts w lo A n c l) {p : Addr} (hp : p.block < lo) (x : Value) : OwnInts (w.setCell p x) lo A n c l := ⟨h.1, own_far h.2 hp x⟩
theorem OwnRows.far {α : Type} {F : Flat α} {e : TypeId} {w : World} {lo : Nat} {A : Option Addr} {n c : Nat} {l : List α} (h : OwnRows F e w lo A n c l) {p : Addr} (hp : p.block < lo) (x : Value) : OwnRows F e (w.setCell p x) lo A n c l := ⟨h.1, own_far h.2 hp x⟩
theorem set_mid2 {α : Type} (a : List α) (x y : α) (b : List α) (i : Nat) (hi : i = a.length) : (a ++ x :: b).set i y = a ++ y :: b := by
  subst hi
  rw [List.set_append_right _ _ (Nat.le_refl _), Nat.sub_self, List.set_cons_zero]
end Go.Proofs.YtlnkofnfgemfdaaGreat
/- BillLine: rows in rows; the walks of the laws' own helpers on lists of it. -/
namespace Go.Proofs.YtlnkofnfgemfdaaGreat
open Go.RowKit
abbrev Bl := ByteArray × ByteArray × Int × Int × Int × List Cn
abbrev BlR := ByteArray × ByteArray × Int × Int × Int × (Option Addr × Nat × Nat)
def blF : Flat BlR := ⟨fun f => [.string (f.1), .string (f.2.1), .int .i64 (f.2.2.1), .int .i64 (f.2.2.2.1), .int .i64 (f.2.2.2.2.1), .slice f.2.2.2.2.2.1 f.2.2.2.2.2.2.1 f.2.2.2.2.2.2.2], 6, fun _ => rfl⟩
/-- A raw element and what it stands for. -/
def BlOf (P : Option Addr → Nat → List Cn → Prop) (r : BlR) (j : Bl) : Prop := r.1 = j.1 ∧ r.2.1 = j.2.1 ∧ r.2.2.1 = j.2.2.1 ∧ r.2.2.2.1 = j.2.2.2.1 ∧ r.2.2.2.2.1 = j.2.2.2.2.1 ∧ P r.2.2.2.2.2.1 r.2.2.2.2.2.2.1 j.2.2.2.2.2
theorem BlOf.imp {P Q : Option Addr → Nat → List Cn → Prop} {r : BlR} {j : Bl} (h : BlOf P r j) (hi : ∀ A n l, P A n l → Q A n l) : BlOf Q r j := by
  simp only [BlOf] at h ⊢
  exact ⟨h.1, h.2.1, h.2.2.1, h.2.2.2.1, h.2.2.2.2.1, hi _ _ _ h.2.2.2.2.2⟩
def BillLineOfs (P : Option Addr → Nat → List Cn → Prop) (R : List BlR) (l : List Bl) : Prop := R.length = l.length ∧ ∀ k (h1 : k < R.length) (h2 : k < l.length), BlOf P R[k] l[k]
theorem BillLineOfs.imp {P Q : Option Addr → Nat → List Cn → Prop} {R : List BlR} {l : List Bl} (h : BillLineOfs P R l) (hi : ∀ A n l, P A n l → Q A n l) : BillLineOfs Q R l := ⟨h.1, fun k h1 h2 => (h.2 k h1 h2).imp hi⟩
theorem BillLineOfs.snoc {P : Option Addr → Nat → List Cn → Prop} {R : List BlR} {l : List Bl} {r : BlR} {j : Bl} (h : BillLineOfs P R l) (hj : BlOf P r j) : BillLineOfs P (R ++ [r]) (l ++ [j]) := by
  refine ⟨by simp [h.1], fun k h1 h2 => ?_⟩
  simp only [List.length_append, List.length_cons, List.length_nil] at h1
  have hl := h.1
  simp only [List.getElem_append]
  by_cases hk : k < R.length
  · rw [dif_pos hk, dif_pos (by omega)]; exact h.2 k hk (by omega)
  · rw [dif_neg hk, dif_neg (by omega)]
    simp only [List.getElem_singleton]; exact hj
def BillLinesIn (w : World) (A : Option Addr) (n : Nat) (l : List Bl) : Prop := ∃ R, RowsIn blF w A n R ∧ BillLineOfs (CondsIn w) R l
/-- As it came in: a row within is read only where it is not too long. -/
def BillLinePre (w : World) (A : Option Addr) (n : Nat) (l : List Bl) : Prop := ∃ R, RowsIn blF w A n R ∧ BillLineOfs (fun A n l => n ≤ 9223372036854775807 ∧ (n ≤ 1048576 → CondsIn w A n l)) R l
/-- Of the call's own, all rows in blocks from lo on. -/
def BillLineFrom (w : World) (lo : Nat) (A : Option Addr) (n c : Nat) (l : List Bl) : Prop := ∃ R, OwnRows blF 162 w lo A n c R ∧ BillLineOfs (fun A n l => OwnRows cnF 201 w lo A n n l ∧ l.length ≤ 16777216) R l
section
variable {w w' : World} {A : Option Addr} {n c lo : Nat} {l : List Bl}
theorem BillLinesIn.keep (h : BillLinesIn w A n l) (hb : Below w.heap.size w w') : BillLinesIn w' A n l := by
  obtain ⟨R, h1, h2⟩ := h
  exact ⟨R, h1.keep hb, h2.imp (fun _ _ _ h => h.keep hb)⟩
theorem BillLinesIn.len (h : BillLinesIn w A n l) : l.length ≤ 16777216 := by obtain ⟨R, h1, h2⟩ := h; rw [← h2.1]; exact h1.len
theorem BillLinesIn.num (h : BillLinesIn w A n l) : n = l.length := by obtain ⟨R, h1, h2⟩ := h; rw [← h2.1]; exact h1.1
theorem BillLinePre.keep (h : BillLinePre w A n l) (hb : Below w.heap.size w w') : BillLinePre w' A n l := by
  obtain ⟨R, h1, h2⟩ := h
  exact ⟨R, h1.keep hb, h2.imp (fun _ _ _ h => ⟨h.1, fun hn => (h.2 hn).keep hb⟩)⟩
theorem BillLinePre.len (h : BillLinePre w A n l) : l.length ≤ 16777216 := by obtain ⟨R, h1, h2⟩ := h; rw [← h2.1]; exact h1.len
theorem BillLineFrom.keep (h : BillLineFrom w lo A n c l) (hb : Below w.heap.size w w') : BillLineFrom w' lo A n c l := by
  obtain ⟨R, h1, h2⟩ := h
  exact ⟨R, h1.keep hb, h2.imp (fun _ _ _ h => ⟨h.1.keep hb, h.2⟩)⟩
theorem BillLineFrom.far (h : BillLineFrom w lo A n c l) {p : Addr} (hp : p.block < lo) (x : Value) : BillLineFrom (w.setCell p x) lo A n c l := by
  obtain ⟨R, h1, h2⟩ := h
  exact ⟨R, h1.far hp x, h2.imp (fun _ _ _ h => ⟨h.1.far hp x, h.2⟩)⟩
theorem BillLineFrom.lower {lo' : Nat} (h : BillLineFrom w lo A n c l) (hl : lo' ≤ lo) : BillLineFrom w lo' A n c l := by
  obtain ⟨R, h1, h2⟩ := h
  exact ⟨R, h1.lower hl, h2.imp (fun _ _ _ h => ⟨h.1.lower hl, h.2⟩)⟩
theorem BillLineFrom.rows (h : BillLineFrom w lo A n c l) (hn : l.length ≤ 16777216) : BillLinesIn w A n l := by
  obtain ⟨R, h1, h2⟩ := h
  exact ⟨R, h1.rows (by rw [h2.1]; exact hn), h2.imp (fun _ _ _ h => h.1.rows h.2)⟩
theorem BillLineFrom.at_ (h : BillLineFrom w lo A n c l) : BillLineFrom w lo A n c l := h
theorem bl_at (h : BillLinesIn w A n l) {k : Nat} (hk : k < l.length) :
    ∃ b o B m c, A = some ⟨b, o, none⟩ ∧ b < w.heap.size ∧ w.cell? ⟨b, o + k * 6, none⟩ = some (.string (l[k].1)) ∧ w.cell? ⟨b, o + k * 6 + 1, none⟩ = some (.string (l[k].2.1)) ∧ w.cell? ⟨b, o + k * 6 + 2, none⟩ = some (.int .i64 (l[k].2.2.1)) ∧ w.cell? ⟨b, o + k * 6 + 3, none⟩ = some (.int .i64 (l[k].2.2.2.1)) ∧ w.cell? ⟨b, o + k * 6 + 4, none⟩ = some (.int .i64 (l[k].2.2.2.2.1)) ∧ w.cell? ⟨b, o + k * 6 + 5, none⟩ = some (.slice B m c) ∧ CondsIn w B m l[k].2.2.2.2.2 := by
  obtain ⟨R, h1, h2, h3⟩ := h
  obtain ⟨b, o, e, hlt, hc⟩ := h1.at_ (k := k) (by omega)
  have h4 := h3 k (by omega) hk
  simp only [BlOf] at h4
  refine ⟨b, o, _, _, _, e, hlt, by rw [← h4.1]; exact hc 0 _ rfl, by rw [← h4.2.1]; exact hc 1 _ rfl, by rw [← h4.2.2.1]; exact hc 2 _ rfl, by rw [← h4.2.2.2.1]; exact hc 3 _ rfl, by rw [← h4.2.2.2.2.1]; exact hc 4 _ rfl, hc 5 _ rfl, h4.2.2.2.2.2⟩
end
theorem blInfo : (Tryz.prog.info? 162).map (fun i => (i.zero, i.size, i.bytes)) = some (some (.agg #[.string { data := #[] }, .string { data := #[] }, .int .i64 0, .int .i64 0, .int .i64 0, .slice none 0 0]), 6, 80) := by kernel_rfl

set_option maxRecDepth 100000 in
set_option maxHeartbeats 2000000 in
theorem toBillLine_any (x0 : ByteArray) (x1 : ByteArray) (x2 : Int) (x3 : Int) (x4 : Int) (B : Option Addr) (m c : Nat) (l : List Cn) (w : World) (hl : CondsIn w B m l) :
    Calls Tryz.prog 109 #[.agg #[.string (x0), .string (x1), .int .i64 (x2), .int .i64 (x3), .int .i64 (x4), .slice B m c]] w fun e w' => ∃ B', e = .returned (.agg #[.string (x0), .string (x1), .int .i64 (x2), .int .i64 (x3), .int .i64 (x4), .slice B' m m]) ∧ OwnRows cnF 201 w' w.heap.size B' m m l ∧ Below w.heap.size w w' := by
  have HBX := hl
  have hb0 : Below w.heap.size w (((w.alloc (.cells #[.string (x0), .string (x1), .int .i64 (x2), .int .i64 (x3), .int .i64 (x4), .slice B m c] 138)).alloc (.cells #[.string { data := #[] }, .string { data := #[] }, .int .i64 0, .int .i64 0, .int .i64 0, .slice none 0 0] 162)).alloc (.cells #[.string (x0), .string (x1), .int .i64 (x2), .int .i64 (x3), .int .i64 (x4), .slice none 0 0] 162)) := (((Below.refl _ _).alloc (Nat.le_refl _) _).alloc (by simp) _).alloc (by simp; omega) _
  have hz0 : (((w.alloc (.cells #[.string (x0), .string (x1), .int .i64 (x2), .int .i64 (x3), .int .i64 (x4), .slice B m c] 138)).alloc (.cells #[.string { data := #[] }, .string { data := #[] }, .int .i64 0, .int .i64 0, .int .i64 0, .slice none 0 0] 162)).alloc (.cells #[.string (x0), .string (x1), .int .i64 (x2), .int .i64 (x3), .int .i64 (x4), .slice none 0 0] 162)).heap.size = w.heap.size + 3 := by simp
  have c10 : (((w.alloc (.cells #[.string (x0), .string (x1), .int .i64 (x2), .int .i64 (x3), .int .i64 (x4), .slice B m c] 138)).alloc (.cells #[.string { data := #[] }, .string { data := #[] }, .int .i64 0, .int .i64 0, .int .i64 0, .slice none 0 0] 162)).alloc (.cells #[.string (x0), .string (x1), .int .i64 (x2), .int .i64 (x3), .int .i64 (x4), .slice none 0 0] 162)).cell? ⟨w.heap.size + 1, 0, none⟩ = some (.string { data := #[] }) := by simp [go_sem]
  have c20 : (((w.alloc (.cells #[.string (x0), .string (x1), .int .i64 (x2), .int .i64 (x3), .int .i64 (x4), .slice B m c] 138)).alloc (.cells #[.string { data := #[] }, .string { data := #[] }, .int .i64 0, .int .i64 0, .int .i64 0, .slice none 0 0] 162)).alloc (.cells #[.string (x0), .string (x1), .int .i64 (x2), .int .i64 (x3), .int .i64 (x4), .slice none 0 0] 162)).cell? ⟨w.heap.size + 1 + 1, 0, none⟩ = some (.string (x0)) := by simp [go_sem]
  have c11 : (((w.alloc (.cells #[.string (x0), .string (x1), .int .i64 (x2), .int .i64 (x3), .int .i64 (x4), .slice B m c] 138)).alloc (.cells #[.string { data := #[] }, .string { data := #[] }, .int .i64 0, .int .i64 0, .int .i64 0, .slice none 0 0] 162)).alloc (.cells #[.string (x0), .string (x1), .int .i64 (x2), .int .i64 (x3), .int .i64 (x4), .slice none 0 0] 162)).cell? ⟨w.heap.size + 1, 1, none⟩ = some (.string { data := #[] }) := by simp [go_sem]
  have c21 : (((w.alloc (.cells #[.string (x0), .string (x1), .int .i64 (x2), .int .i64 (x3), .int .i64 (x4), .slice B m c] 138)).alloc (.cells #[.string { data := #[] }, .string { data := #[] }, .int .i64 0, .int .i64 0, .int .i64 0, .slice none 0 0] 162)).alloc (.cells #[.string (x0), .string (x1), .int .i64 (x2), .int .i64 (x3), .int .i64 (x4), .slice none 0 0] 162)).cell? ⟨w.heap.size + 1 + 1, 1, none⟩ = some (.string (x1)) := by simp [go_sem]
  have c12 : (((w.alloc (.cells #[.string (x0), .string (x1), .int .i64 (x2), .int .i64 (x3), .int .i64 (x4), .slice B m c] 138)).alloc (.cells #[.string { data := #[] }, .string { data := #[] }, .int .i64 0, .int .i64 0, .int .i64 0, .slice none 0 0] 162)).alloc (.cells #[.string (x0), .string (x1), .int .i64 (x2), .int .i64 (x3), .int .i64 (x4), .slice none 0 0] 162)).cell? ⟨w.heap.size + 1, 2, none⟩ = some (.int .i64 0) := by simp [go_sem]
  have c22 : (((w.alloc (.cells #[.string (x0), .string (x1), .int .i64 (x2), .int .i64 (x3), .int .i64 (x4), .slice B m c] 138)).alloc (.cells #[.string { data := #[] }, .string { data := #[] }, .int .i64 0, .int .i64 0, .int .i64 0, .slice none 0 0] 162)).alloc (.cells #[.string (x0), .string (x1), .int .i64 (x2), .int .i64 (x3), .int .i64 (x4), .slice none 0 0] 162)).cell? ⟨w.heap.size + 1 + 1, 2, none⟩ = some (.int .i64 (x2)) := by simp [go_sem]
  have c13 : (((w.alloc (.cells #[.string (x0), .string (x1), .int .i64 (x2), .int .i64 (x3), .int .i64 (x4), .slice B m c] 138)).alloc (.cells #[.string { data := #[] }, .string { data := #[] }, .int .i64 0, .int .i64 0, .int .i64 0, .slice none 0 0] 162)).alloc (.cells #[.string (x0), .string (x1), .int .i64 (x2), .int .i64 (x3), .int .i64 (x4), .slice none 0 0] 162)).cell? ⟨w.heap.size + 1, 3, none⟩ = some (.int .i64 0) := by simp [go_sem]
  have c23 : (((w.alloc (.cells #[.string (x0), .string (x1), .int .i64 (x2), .int .i64 (x3), .int .i64 (x4), .slice B m c] 138)).alloc (.cells #[.string { data := #[] }, .string { data := #[] }, .int .i64 0, .int .i64 0, .int .i64 0, .slice none 0 0] 162)).alloc (.cells #[.string (x0), .string (x1), .int .i64 (x2), .int .i64 (x3), .int .i64 (x4), .slice none 0 0] 162)).cell? ⟨w.heap.size + 1 + 1, 3, none⟩ = some (.int .i64 (x3)) := by simp [go_sem]
  have c14 : (((w.alloc (.cells #[.string (x0), .string (x1), .int .i64 (x2), .int .i64 (x3), .int .i64 (x4), .slice B m c] 138)).alloc (.cells #[.string { data := #[] }, .string { data := #[] }, .int .i64 0, .int .i64 0, .int .i64 0, .slice none 0 0] 162)).alloc (.cells #[.string (x0), .string (x1), .int .i64 (x2), .int .i64 (x3), .int .i64 (x4), .slice none 0 0] 162)).cell? ⟨w.heap.size + 1, 4, none⟩ = some (.int .i64 0) := by simp [go_sem]
  have c24 : (((w.alloc (.cells #[.string (x0), .string (x1), .int .i64 (x2), .int .i64 (x3), .int .i64 (x4), .slice B m c] 138)).alloc (.cells #[.string { data := #[] }, .string { data := #[] }, .int .i64 0, .int .i64 0, .int .i64 0, .slice none 0 0] 162)).alloc (.cells #[.string (x0), .string (x1), .int .i64 (x2), .int .i64 (x3), .int .i64 (x4), .slice none 0 0] 162)).cell? ⟨w.heap.size + 1 + 1, 4, none⟩ = some (.int .i64 (x4)) := by simp [go_sem]
  have c15 : (((w.alloc (.cells #[.string (x0), .string (x1), .int .i64 (x2), .int .i64 (x3), .int .i64 (x4), .slice B m c] 138)).alloc (.cells #[.string { data := #[] }, .string { data := #[] }, .int .i64 0, .int .i64 0, .int .i64 0, .slice none 0 0] 162)).alloc (.cells #[.string (x0), .string (x1), .int .i64 (x2), .int .i64 (x3), .int .i64 (x4), .slice none 0 0] 162)).cell? ⟨w.heap.size + 1, 5, none⟩ = some (.slice none 0 0) := by simp [go_sem]
  have c25 : (((w.alloc (.cells #[.string (x0), .string (x1), .int .i64 (x2), .int .i64 (x3), .int .i64 (x4), .slice B m c] 138)).alloc (.cells #[.string { data := #[] }, .string { data := #[] }, .int .i64 0, .int .i64 0, .int .i64 0, .slice none 0 0] 162)).alloc (.cells #[.string (x0), .string (x1), .int .i64 (x2), .int .i64 (x3), .int .i64 (x4), .slice none 0 0] 162)).cell? ⟨w.heap.size + 1 + 1, 5, none⟩ = some (.slice none 0 0) := by simp [go_sem]
  have f1 : ∀ j, (((w.alloc (.cells #[.string (x0), .string (x1), .int .i64 (x2), .int .i64 (x3), .int .i64 (x4), .slice B m c] 138)).alloc (.cells #[.string { data := #[] }, .string { data := #[] }, .int .i64 0, .int .i64 0, .int .i64 0, .slice none 0 0] 162)).alloc (.cells #[.string (x0), .string (x1), .int .i64 (x2), .int .i64 (x3), .int .i64 (x4), .slice none 0 0] 162)).frozen? ⟨w.heap.size + 1, j, none⟩ = false := fun j => by simp [go_sem]
  have f2 : ∀ j, (((w.alloc (.cells #[.string (x0), .string (x1), .int .i64 (x2), .int .i64 (x3), .int .i64 (x4), .slice B m c] 138)).alloc (.cells #[.string { data := #[] }, .string { data := #[] }, .int .i64 0, .int .i64 0, .int .i64 0, .slice none 0 0] 162)).alloc (.cells #[.string (x0), .string (x1), .int .i64 (x2), .int .i64 (x3), .int .i64 (x4), .slice none 0 0] 162)).frozen? ⟨w.heap.size + 1 + 1, j, none⟩ = false := fun j => by simp [go_sem]
  go_enter Tryz.func109, Tryz.ntmps109
  go_wp2_with fail
  generalize (((w.alloc (.cells #[.string (x0), .string (x1), .int .i64 (x2), .int .i64 (x3), .int .i64 (x4), .slice B m c] 138)).alloc (.cells #[.string { data := #[] }, .string { data := #[] }, .int .i64 0, .int .i64 0, .int .i64 0, .slice none 0 0] 162)).alloc (.cells #[.string (x0), .string (x1), .int .i64 (x2), .int .i64 (x3), .int .i64 (x4), .slice none 0 0] 162)) = W at *
  have l1 : w.heap.size + 1 < W.heap.size := by omega
  have l2 : w.heap.size + 1 + 1 < W.heap.size := by omega
  have l0 : w.heap.size ≤ W.heap.size := by omega
  clear hz0
  refine (toCondNodeS_any _ _ _ l _ (HBX.keep hb0)).mono ?_
  rintro e w1 ⟨B', rfl, hB, hs⟩
  replace hb0 := below_on hb0 hs
  replace c10 := (hs.cell (p := ⟨w.heap.size + 1, 0, none⟩) l1).trans c10
  replace c20 := (hs.cell (p := ⟨w.heap.size + 1 + 1, 0, none⟩) l2).trans c20
  replace c11 := (hs.cell (p := ⟨w.heap.size + 1, 1, none⟩) l1).trans c11
  replace c21 := (hs.cell (p := ⟨w.heap.size + 1 + 1, 1, none⟩) l2).trans c21
  replace c12 := (hs.cell (p := ⟨w.heap.size + 1, 2, none⟩) l1).trans c12
  replace c22 := (hs.cell (p := ⟨w.heap.size + 1 + 1, 2, none⟩) l2).trans c22
  replace c13 := (hs.cell (p := ⟨w.heap.size + 1, 3, none⟩) l1).trans c13
  replace c23 := (hs.cell (p := ⟨w.heap.size + 1 + 1, 3, none⟩) l2).trans c23
  replace c14 := (hs.cell (p := ⟨w.heap.size + 1, 4, none⟩) l1).trans c14
  replace c24 := (hs.cell (p := ⟨w.heap.size + 1 + 1, 4, none⟩) l2).trans c24
  replace c15 := (hs.cell (p := ⟨w.heap.size + 1, 5, none⟩) l1).trans c15
  replace c25 := (hs.cell (p := ⟨w.heap.size + 1 + 1, 5, none⟩) l2).trans c25
  replace f1 := fun j => (hs.frozen (p := ⟨w.heap.size + 1, j, none⟩) l1).trans (f1 j)
  replace f2 := fun j => (hs.frozen (p := ⟨w.heap.size + 1 + 1, j, none⟩) l2).trans (f2 j)
  clear hs
  go_wp2_with fail
  refine bodyPost_ret (v := .agg #[.string (x0), .string (x1), .int .i64 (x2), .int .i64 (x3), .int .i64 (x4), .slice B' m m]) (by simp [results, Tryz.results109, go_sem, c10, c20, c11, c21, c12, c22, c13, c23, c14, c24, c15, c25, f1, f2]) rfl ⟨B', rfl, ?_, ?_⟩
  · exact OwnRows.lower (((((((hB.far l2 _).far l1 _).far l1 _).far l1 _).far l1 _).far l1 _).far l1 _) l0
  · exact ((((((hb0.setCell (by simp; omega) _).setCell (by simp) _).setCell (by simp) _).setCell (by simp) _).setCell (by simp) _).setCell (by simp) _).setCell (by simp) _
set_option maxRecDepth 100000 in
set_option maxHeartbeats 4000000 in
theorem toBillLineS_any (A : Option Addr) (n c : Nat) (l : List Bl) (w : World) (hl : BillLinesIn w A n l) :
    Calls Tryz.prog 47 #[.slice A n c] w fun e w' => ∃ A', e = .returned (.slice A' n n) ∧ BillLineFrom w' w.heap.size A' n n l ∧ Below w.heap.size w w' := by
  obtain ⟨i0, hi0, hz0, hz1, hz2⟩ := info_parts blInfo
  have hn := hl.len
  obtain rfl := hl.num
  go_enter Tryz.func47, Tryz.ntmps47
  go_wp2_with (at_make; refine wpList_make_full _ rfl (.tmp 6) (.tmp 6) _ rfl w.heap.size 162 i0 _ 6 Tryz.underlying40 hi0 hz0 hz1 .i64 .i64 _ _ l.length rfl rfl rfl rfl (by rw [hz2]; omega) (by unfold maxLen; omega) (Nat.le_refl _) ?_; intro w1 hown hg)
  have hb1 := below_none hg
  generalize hzs : (madeCells (Value.agg #[.string { data := #[] }, .string { data := #[] }, .int .i64 0, .int .i64 0, .int .i64 0, .slice none 0 0]).cells (l.length * 6)).toList = zs at hown
  have hzl : zs.length = l.length * 6 := hown.1
  have hlo : w.heap.size < w1.heap.size := (own_lt hown _ rfl).2
  clear hg hzs
  have HZ := Lib.hid hzl; clear hzl
  go_loopw [4] (fun i wr => ∃ (k : Nat) (R : List BlR), k ≤ l.length ∧ i = .int .i64 k ∧ R.length = k ∧ wr.ownsRow w.heap.size 162 6 (.slice (some ⟨w.heap.size, 0, none⟩) l.length l.length) l.length (R.flatMap blF.enc ++ zs.drop (k * 6)) ∧ BillLineOfs (fun A n l => OwnRows cnF 201 wr w1.heap.size A n n l ∧ l.length ≤ 16777216) R (l.take k) ∧ w1.heap.size ≤ wr.heap.size ∧ Below w.heap.size w wr) (fun i _ => l.length - (intOf i).toNat)
  case atStart => exact ⟨0, [], by omega, rfl, rfl, by simpa using hown, ⟨by simp, fun k h1 => by simp at h1⟩, Nat.le_refl _, hb1⟩
  case round =>
    clear hown hb1
    obtain ⟨k, R, hk, rfl, hRk, hown, hO, hsz, hb⟩ := hrel
    by_cases hlt : k < l.length
    · obtain ⟨b, o, B, m, c2, rfl, _, hc0, hc1, hc2, hc3, hc4, hc5, hw⟩ := bl_at (hl.keep hb) hlt
      have HRK := Lib.hid hRk
      clear hRk
      go_wp2_with fail
      refine (toBillLine_any _ _ _ _ _ _ _ _ l[k].2.2.2.2.2 _ hw).mono ?_
      rintro e w2 ⟨B', rfl, hB, hb2⟩
      have hwl := hw.len
      have hlen : (R.flatMap blF.enc).length = k * 6 := by rw [flatMap_len blF.enc 6 blF.len, HRK.out]
      have hz := HZ.out
      have hdl : (k + 1) * 6 ≤ zs.length := by rw [hz]; exact Nat.mul_le_mul_right _ (by omega)
      have ho := own_keep hown hb2
      have e0 : zs.drop (k * 6) = zs[k * 6]'(by omega) :: zs[k * 6 + 1]'(by omega) :: zs[k * 6 + 2]'(by omega) :: zs[k * 6 + 3]'(by omega) :: zs[k * 6 + 4]'(by omega) :: zs[k * 6 + 5]'(by omega) :: zs.drop ((k + 1) * 6) := by
        rw [List.drop_eq_getElem_cons (i := k * 6) (by omega)]; rw [List.drop_eq_getElem_cons (i := k * 6 + 1) (by omega)]; rw [List.drop_eq_getElem_cons (i := k * 6 + 1 + 1) (by omega)]; rw [List.drop_eq_getElem_cons (i := k * 6 + 1 + 1 + 1) (by omega)]; rw [List.drop_eq_getElem_cons (i := k * 6 + 1 + 1 + 1 + 1) (by omega)]; rw [List.drop_eq_getElem_cons (i := k * 6 + 1 + 1 + 1 + 1 + 1) (by omega)]; rw [show (k + 1) * 6 = k * 6 + 1 + 1 + 1 + 1 + 1 + 1 by omega]
      rw [e0] at ho
      obtain ⟨u0, c0, f0⟩ := own_cell ho (k * 6) (by omega)
      obtain ⟨u1, c1, f1⟩ := own_cell ho (k * 6 + 1) (by omega)
      obtain ⟨u2, c2, f2⟩ := own_cell ho (k * 6 + 2) (by omega)
      obtain ⟨u3, c3, f3⟩ := own_cell ho (k * 6 + 3) (by omega)
      obtain ⟨u4, c4, f4⟩ := own_cell ho (k * 6 + 4) (by omega)
      obtain ⟨u5, c5, f5⟩ := own_cell ho (k * 6 + 5) (by omega)
      have s0 := (ho.stored (k * 6) (.string (l[k].1))).1
      rw [set_mid2 _ _ _ _ _ hlen.symm] at s0
      have s1 := (s0.stored (k * 6 + 1) (.string (l[k].2.1))).1
      rw [show R.flatMap blF.enc ++ .string (l[k].1) :: zs[k * 6 + 1]'(by omega) :: zs[k * 6 + 2]'(by omega) :: zs[k * 6 + 3]'(by omega) :: zs[k * 6 + 4]'(by omega) :: zs[k * 6 + 5]'(by omega) :: zs.drop ((k + 1) * 6) = (R.flatMap blF.enc ++ [.string (l[k].1)]) ++ zs[k * 6 + 1]'(by omega) :: zs[k * 6 + 2]'(by omega) :: zs[k * 6 + 3]'(by omega) :: zs[k * 6 + 4]'(by omega) :: zs[k * 6 + 5]'(by omega) :: zs.drop ((k + 1) * 6) by simp, set_mid2 _ _ _ _ _ (by rw [List.length_append, hlen]; rfl)] at s1
      rw [show (R.flatMap blF.enc ++ [.string (l[k].1)]) ++ .string (l[k].2.1) :: zs[k * 6 + 2]'(by omega) :: zs[k * 6 + 3]'(by omega) :: zs[k * 6 + 4]'(by omega) :: zs[k * 6 + 5]'(by omega) :: zs.drop ((k + 1) * 6) = R.flatMap blF.enc ++ .string (l[k].1) :: .string (l[k].2.1) :: zs[k * 6 + 2]'(by omega) :: zs[k * 6 + 3]'(by omega) :: zs[k * 6 + 4]'(by omega) :: zs[k * 6 + 5]'(by omega) :: zs.drop ((k + 1) * 6) by simp] at s1
      have s2 := (s1.stored (k * 6 + 2) (.int .i64 (l[k].2.2.1))).1
      rw [show R.flatMap blF.enc ++ .string (l[k].1) :: .string (l[k].2.1) :: zs[k * 6 + 2]'(by omega) :: zs[k * 6 + 3]'(by omega) :: zs[k * 6 + 4]'(by omega) :: zs[k * 6 + 5]'(by omega) :: zs.drop ((k + 1) * 6) = (R.flatMap blF.enc ++ [.string (l[k].1), .string (l[k].2.1)]) ++ zs[k * 6 + 2]'(by omega) :: zs[k * 6 + 3]'(by omega) :: zs[k * 6 + 4]'(by omega) :: zs[k * 6 + 5]'(by omega) :: zs.drop ((k + 1) * 6) by simp, set_mid2 _ _ _ _ _ (by rw [List.length_append, hlen]; rfl)] at s2
      rw [show (R.flatMap blF.enc ++ [.string (l[k].1), .string (l[k].2.1)]) ++ .int .i64 (l[k].2.2.1) :: zs[k * 6 + 3]'(by omega) :: zs[k * 6 + 4]'(by omega) :: zs[k * 6 + 5]'(by omega) :: zs.drop ((k + 1) * 6) = R.flatMap blF.enc ++ .string (l[k].1) :: .string (l[k].2.1) :: .int .i64 (l[k].2.2.1) :: zs[k * 6 + 3]'(by omega) :: zs[k * 6 + 4]'(by omega) :: zs[k * 6 + 5]'(by omega) :: zs.drop ((k + 1) * 6) by simp] at s2
      have s3 := (s2.stored (k * 6 + 3) (.int .i64 (l[k].2.2.2.1))).1
      rw [show R.flatMap blF.enc ++ .string (l[k].1) :: .string (l[k].2.1) :: .int .i64 (l[k].2.2.1) :: zs[k * 6 + 3]'(by omega) :: zs[k * 6 + 4]'(by omega) :: zs[k * 6 + 5]'(by omega) :: zs.drop ((k + 1) * 6) = (R.flatMap blF.enc ++ [.string (l[k].1), .string (l[k].2.1), .int .i64 (l[k].2.2.1)]) ++ zs[k * 6 + 3]'(by omega) :: zs[k * 6 + 4]'(by omega) :: zs[k * 6 + 5]'(by omega) :: zs.drop ((k + 1) * 6) by simp, set_mid2 _ _ _ _ _ (by rw [List.length_append, hlen]; rfl)] at s3
      rw [show (R.flatMap blF.enc ++ [.string (l[k].1), .string (l[k].2.1), .int .i64 (l[k].2.2.1)]) ++ .int .i64 (l[k].2.2.2.1) :: zs[k * 6 + 4]'(by omega) :: zs[k * 6 + 5]'(by omega) :: zs.drop ((k + 1) * 6) = R.flatMap blF.enc ++ .string (l[k].1) :: .string (l[k].2.1) :: .int .i64 (l[k].2.2.1) :: .int .i64 (l[k].2.2.2.1) :: zs[k * 6 + 4]'(by omega) :: zs[k * 6 + 5]'(by omega) :: zs.drop ((k + 1) * 6) by simp] at s3
      have s4 := (s3.stored (k * 6 + 4) (.int .i64 (l[k].2.2.2.2.1))).1
      rw [show R.flatMap blF.enc ++ .string (l[k].1) :: .string (l[k].2.1) :: .int .i64 (l[k].2.2.1) :: .int .i64 (l[k].2.2.2.1) :: zs[k * 6 + 4]'(by omega) :: zs[k * 6 + 5]'(by omega) :: zs.drop ((k + 1) * 6) = (R.flatMap blF.enc ++ [.string (l[k].1), .string (l[k].2.1), .int .i64 (l[k].2.2.1), .int .i64 (l[k].2.2.2.1)]) ++ zs[k * 6 + 4]'(by omega) :: zs[k * 6 + 5]'(by omega) :: zs.drop ((k + 1) * 6) by simp, set_mid2 _ _ _ _ _ (by rw [List.length_append, hlen]; rfl)] at s4
      rw [show (R.flatMap blF.enc ++ [.string (l[k].1), .string (l[k].2.1), .int .i64 (l[k].2.2.1), .int .i64 (l[k].2.2.2.1)]) ++ .int .i64 (l[k].2.2.2.2.1) :: zs[k * 6 + 5]'(by omega) :: zs.drop ((k + 1) * 6) = R.flatMap blF.enc ++ .string (l[k].1) :: .string (l[k].2.1) :: .int .i64 (l[k].2.2.1) :: .int .i64 (l[k].2.2.2.1) :: .int .i64 (l[k].2.2.2.2.1) :: zs[k * 6 + 5]'(by omega) :: zs.drop ((k + 1) * 6) by simp] at s4
      have s5 := (s4.stored (k * 6 + 5) (.slice B' m m)).1
      rw [show R.flatMap blF.enc ++ .string (l[k].1) :: .string (l[k].2.1) :: .int .i64 (l[k].2.2.1) :: .int .i64 (l[k].2.2.2.1) :: .int .i64 (l[k].2.2.2.2.1) :: zs[k * 6 + 5]'(by omega) :: zs.drop ((k + 1) * 6) = (R.flatMap blF.enc ++ [.string (l[k].1), .string (l[k].2.1), .int .i64 (l[k].2.2.1), .int .i64 (l[k].2.2.2.1), .int .i64 (l[k].2.2.2.2.1)]) ++ zs[k * 6 + 5]'(by omega) :: zs.drop ((k + 1) * 6) by simp, set_mid2 _ _ _ _ _ (by rw [List.length_append, hlen]; rfl)] at s5
      rw [show (R.flatMap blF.enc ++ [.string (l[k].1), .string (l[k].2.1), .int .i64 (l[k].2.2.1), .int .i64 (l[k].2.2.2.1), .int .i64 (l[k].2.2.2.2.1)]) ++ .slice B' m m :: zs.drop ((k + 1) * 6) = R.flatMap blF.enc ++ .string (l[k].1) :: .string (l[k].2.1) :: .int .i64 (l[k].2.2.1) :: .int .i64 (l[k].2.2.2.1) :: .int .i64 (l[k].2.2.2.2.1) :: .slice B' m m :: zs.drop ((k + 1) * 6) by simp] at s5
      rw [show R.flatMap blF.enc ++ .string (l[k].1) :: .string (l[k].2.1) :: .int .i64 (l[k].2.2.1) :: .int .i64 (l[k].2.2.2.1) :: .int .i64 (l[k].2.2.2.2.1) :: .slice B' m m :: zs.drop ((k + 1) * 6) = (R ++ [(l[k].1, l[k].2.1, l[k].2.2.1, l[k].2.2.2.1, l[k].2.2.2.2.1, B', m, m)]).flatMap blF.enc ++ zs.drop ((k + 1) * 6) by rw [List.flatMap_append]; simp [blF]] at s5
      have hb3 : Below w.heap.size w w2 := hb.trans (hb2.mono hb.size)
      have hsz2 : w1.heap.size ≤ w2.heap.size := Nat.le_trans hsz hb2.size
      have hO2 : BillLineOfs (fun A' n' l' => OwnRows cnF 201 ((((((w2.setCell ⟨w.heap.size, k * 6, none⟩ (.string (l[k].1))).setCell ⟨w.heap.size, k * 6 + 1, none⟩ (.string (l[k].2.1))).setCell ⟨w.heap.size, k * 6 + 2, none⟩ (.int .i64 (l[k].2.2.1))).setCell ⟨w.heap.size, k * 6 + 3, none⟩ (.int .i64 (l[k].2.2.2.1))).setCell ⟨w.heap.size, k * 6 + 4, none⟩ (.int .i64 (l[k].2.2.2.2.1))).setCell ⟨w.heap.size, k * 6 + 5, none⟩ (.slice B' m m)) w1.heap.size A' n' n' l' ∧ l'.length ≤ 16777216) (R ++ [(l[k].1, l[k].2.1, l[k].2.2.1, l[k].2.2.2.1, l[k].2.2.2.2.1, B', m, m)]) (l.take (k + 1)) := by
        rw [List.take_succ_eq_append_getElem hlt]
        refine BillLineOfs.snoc (hO.imp (fun _ _ _ h => ⟨((((((h.1.keep hb2).far hlo _).far hlo _).far hlo _).far hlo _).far hlo _).far hlo _, h.2⟩)) ?_
        exact ⟨rfl, rfl, rfl, rfl, rfl, ((((((OwnRows.lower hB hsz).far hlo _).far hlo _).far hlo _).far hlo _).far hlo _).far hlo _, hwl⟩
      have hRL : (R ++ [(l[k].1, l[k].2.1, l[k].2.2.1, l[k].2.2.2.1, l[k].2.2.2.2.1, B', m, m)]).length = k + 1 := by rw [List.length_append, HRK.out]; rfl
      have S2 := Lib.hid s5
      have SO := Lib.hid hO2
      have SR := Lib.hid hRL
      clear ho e0 s0 s1 s2 s3 s4 s5 hown hz hlen hb hb2 hO hO2 hRL hdl
      go_wp2
      go_roundw
      case rel => exact ⟨k + 1, _, by omega, by go_num, SR.out, S2.out, SO.out, by simp; exact hsz2, ((((((hb3.setCell (Nat.le_refl _) _).setCell (Nat.le_refl _) _).setCell (Nat.le_refl _) _).setCell (Nat.le_refl _) _).setCell (Nat.le_refl _) _).setCell (Nat.le_refl _) _)⟩
      case measure => simp [intOf]; omega
    · obtain rfl : k = l.length := by omega
      go_wp2
      go_ret
      refine ⟨_, rfl, ⟨R, ⟨hRk.symm, ?_⟩, ?_⟩, hb⟩
      · have h3 : zs.drop (l.length * 6) = [] := List.drop_eq_nil_of_le (by rw [HZ.out]; exact Nat.le_refl _)
        rw [h3, List.append_nil] at hown
        exact hown
      · rw [List.take_length] at hO
        exact hO.imp (fun _ _ _ h => ⟨h.1.lower (Nat.le_of_lt hlo), h.2⟩)
theorem eqBillLine_yes (x0 : ByteArray) (x1 : ByteArray) (x2 : Int) (x3 : Int) (x4 : Int) (B B2 : Option Addr) (m c m2 c2 : Nat) (l : List Cn) (w : World) (ha : CondsIn w B m l) (hb : CondsIn w B2 m2 l) :
    Calls Tryz.prog 125 #[.agg #[.string (x0), .string (x1), .int .i64 (x2), .int .i64 (x3), .int .i64 (x4), .slice B m c], .agg #[.string (x0), .string (x1), .int .i64 (x2), .int .i64 (x3), .int .i64 (x4), .slice B2 m2 c2]] w fun e w' => e = .returned (.bool true) ∧ Below w.heap.size w w' := by
  have hbox := ((Below.refl w.heap.size w).alloc (Nat.le_refl _) (.cells #[.string (x0), .string (x1), .int .i64 (x2), .int .i64 (x3), .int .i64 (x4), .slice B m c] 162)).alloc (by simp) (.cells #[.string (x0), .string (x1), .int .i64 (x2), .int .i64 (x3), .int .i64 (x4), .slice B2 m2 c2] 162)
  go_enter Tryz.func125, Tryz.ntmps125
  go_wp2_with (go_at_call 152; refine (eqCondNodeS_yes _ _ _ _ _ _ l _ (ha.keep hbox) (hb.keep hbox)).mono ?_; rintro e w5 ⟨rfl, hs⟩)
  go_ret
  exact ⟨rfl, below_on hbox hs⟩
set_option maxRecDepth 100000 in
set_option maxHeartbeats 2000000 in
theorem eqBillLineS_yes (A B : Option Addr) (n m c d : Nat) (l : List Bl) (w : World) (ha : BillLinesIn w A n l) (hb : BillLinesIn w B m l) :
    Calls Tryz.prog 64 #[.slice A n c, .slice B m d] w fun e w' => e = .returned (.bool true) ∧ Below w.heap.size w w' := by
  have hn := ha.len
  obtain rfl := ha.num
  obtain rfl := hb.num
  go_enter Tryz.func64, Tryz.ntmps64
  go_wp2
  go_loopw [5] (fun i wr => ∃ k : Nat, k ≤ l.length ∧ i = .int .i64 k ∧ Below w.heap.size w wr) (fun i _ => l.length - (intOf i).toNat)
  case atStart => exact ⟨0, by omega, rfl, Below.refl _ _⟩
  case round =>
    obtain ⟨k, hk, rfl, HD⟩ := hrel
    by_cases hlt : k < l.length
    · obtain ⟨b1, o1, B1, m1, c1, rfl, _, hc0, hc1, hc2, hc3, hc4, hc5, hw1⟩ := bl_at (ha.keep HD) hlt
      obtain ⟨b2, o2, B2, m2, c2, rfl, _, hd0, hd1, hd2, hd3, hd4, hd5, hw2⟩ := bl_at (hb.keep HD) hlt
      replace hw1 := hw1.keep (Below.refl wr.heap.size wr).drew
      replace hw2 := hw2.keep (Below.refl wr.heap.size wr).drew
      go_wp2
      go_still_tail 8, (by kernel_rfl)
      change wpList _ _ _ _ _ wr.drew
      have HE : Below w.heap.size w wr.drew := HD.drew
      generalize wr.drew = w2 at *
      go_wp2_with (go_at_call 125; refine (eqBillLine_yes _ _ _ _ _ _ _ _ _ _ _ _ _ hw1 hw2).mono ?_; rintro e w3 ⟨rfl, hb3⟩)
      go_roundw
      case rel => exact ⟨k + 1, by omega, by go_num, HE.trans (hb3.mono HE.size)⟩
      case measure => simp [intOf]; omega
    · obtain rfl : k = l.length := by omega
      go_wp2
      go_ret
      exact ⟨rfl, HD⟩
def okBl (x : Bl) : Prop := x.1.size ≤ 9223372036854775807 ∧ x.2.1.size ≤ 9223372036854775807 ∧ ∀ y ∈ x.2.2.2.2.2, okCn y
set_option maxRecDepth 100000 in
theorem szBillLine_any (x0 : ByteArray) (x1 : ByteArray) (x2 : Int) (x3 : Int) (x4 : Int) (B : Option Addr) (m c : Nat) (l : List Cn) (left : Int) (w : World) (h0 : 0 ≤ left) (h1 : left ≤ 1048576) (hs0 : x0.size ≤ 9223372036854775807) (hs1 : x1.size ≤ 9223372036854775807) (hm : m ≤ 9223372036854775807) (hl : m ≤ 1048576 → CondsIn w B m l) (hok : ∀ y ∈ l, okCn y) :
    Calls Tryz.prog 93 #[.agg #[.string (x0), .string (x1), .int .i64 (x2), .int .i64 (x3), .int .i64 (x4), .slice B m c], .int .i64 left] w fun e w' => ∃ r : Int, e = .returned (.int .i64 r) ∧ -1 ≤ r ∧ r ≤ 1048576 ∧ (0 ≤ r → m ≤ 1048576) ∧ Below w.heap.size w w' := by
  have hbox := below_alloc w (.cells #[.string (x0), .string (x1), .int .i64 (x2), .int .i64 (x3), .int .i64 (x4), .slice B m c] 138)
  by_cases q0 : left < (x0.size : Int)
  · go_enter Tryz.func93, Tryz.ntmps93
    go_wp2_with fail
    go_ret
    exact ⟨-1, rfl, by omega, by omega, fun h => absurd h (by omega), hbox⟩
  by_cases q1 : left - (x0.size : Int) < (x1.size : Int)
  · go_enter Tryz.func93, Tryz.ntmps93
    go_wp2_with fail
    go_ret
    exact ⟨-1, rfl, by omega, by omega, fun h => absurd h (by omega), hbox⟩
  by_cases hbig : left - (x0.size : Int) - (x1.size : Int) < (m : Int)
  · go_enter Tryz.func93, Tryz.ntmps93
    go_wp2_with (go_at_call 141; refine (szCondNodeS_big _ _ _ _ _ hbig (by omega) hm).mono ?_; rintro e w5 ⟨rfl, rfl⟩)
    go_ret
    exact ⟨-1, rfl, by omega, by omega, fun h => absurd h (by omega), hbox⟩
  have hsm : (m : Int) ≤ left - (x0.size : Int) - (x1.size : Int) := by omega
  have hms : m ≤ 1048576 := by omega
  clear hbig
  go_enter Tryz.func93, Tryz.ntmps93
  go_wp2_with fail
  refine (szCondNodeS_any _ _ _ l _ _ hsm (by omega) ((hl hms).keep hbox) hok).mono ?_
  rintro e w5 ⟨r, rfl, r0, r1, hs⟩
  by_cases hneg : r < 0
  · go_wp2_with fail
    go_ret
    exact ⟨-1, rfl, by omega, by omega, fun h => absurd h (by omega), below_on hbox hs⟩
  · go_wp2_with fail
    go_ret
    exact ⟨r, rfl, by omega, by omega, fun _ => hms, below_on hbox hs⟩
theorem szBillLineS_big (A : Option Addr) (n c : Nat) (left : Int) (w : World) (h : left < (n : Int)) (h0 : 0 ≤ left) (hn : n ≤ 9223372036854775807) :
    Calls Tryz.prog 32 #[.slice A n c, .int .i64 left] w fun e w' => e = .returned (.int .i64 (-1)) ∧ w = w' := by
  go_enter Tryz.func32, Tryz.ntmps32
  go_wp2
  go_ret
  exact ⟨rfl, rfl⟩
set_option maxRecDepth 100000 in
set_option maxHeartbeats 2000000 in
theorem szBillLineS_any (A : Option Addr) (n c : Nat) (l : List Bl) (left : Int) (w w0 : World) (h : (n : Int) ≤ left) (hl : left ≤ 1048576) (ha : BillLinePre w0 A n l) (hbw : Below w0.heap.size w0 w) (hok : ∀ x ∈ l, okBl x) :
    Calls Tryz.prog 32 #[.slice A n c, .int .i64 left] w fun e w' => ∃ r : Int, e = .returned (.int .i64 r) ∧ -1 ≤ r ∧ r ≤ 1048576 ∧ (0 ≤ r → BillLinesIn w0 A n l) ∧ Below w.heap.size w w' := by
  obtain ⟨R, hR, hO⟩ := ha
  have hn := hR.len
  have hl0 := hO.1
  obtain rfl := hR.1
  have HO := Lib.hid hok
  have HP := Lib.hid hO
  have HL := Lib.hid hl0
  clear hok hO hl0
  go_enter Tryz.func32, Tryz.ntmps32
  go_wp2
  go_loopw [1, 5] (fun r i wr => ∃ (k : Nat) (x : Int), k ≤ R.length ∧ i = .int .i64 k ∧ r = .int .i64 x ∧ 0 ≤ x ∧ x ≤ 1048576 ∧ Hid (∀ j (hj : j < R.length), j < k → R[j].2.2.2.2.2.2.1 ≤ 1048576) ∧ Below w.heap.size w wr) (fun _ i _ => R.length - (intOf i).toNat)
  case atStart => exact ⟨0, _, by omega, rfl, rfl, by omega, by omega, fun j _ h => absurd h (by omega), Below.refl _ _⟩
  case round =>
    obtain ⟨k, x, hk, rfl, rfl, x0, x1, HI, HR⟩ := hrel
    by_cases hlt : k < R.length
    · have hlt2 : k < l.length := by rw [← HL.out]; exact hlt
      obtain ⟨b, o, rfl, _, hc⟩ := ((hR.keep hbw).keep HR).at_ hlt
      have hj := HP.out.2 k hlt hlt2
      simp only [BlOf] at hj
      obtain ⟨je0, je1, je2, je3, je4, hm, hw⟩ := hj
      have hok := HO.out _ (List.getElem_mem hlt2)
      simp only [okBl] at hok
      have hc0 : wr.cell? ⟨b, o + k * 6, none⟩ = some (.string (R[k].1)) := hc 0 _ rfl
      have hc1 : wr.cell? ⟨b, o + k * 6 + 1, none⟩ = some (.string (R[k].2.1)) := hc 1 _ rfl
      have hc2 : wr.cell? ⟨b, o + k * 6 + 2, none⟩ = some (.int .i64 (R[k].2.2.1)) := hc 2 _ rfl
      have hc3 : wr.cell? ⟨b, o + k * 6 + 3, none⟩ = some (.int .i64 (R[k].2.2.2.1)) := hc 3 _ rfl
      have hc4 : wr.cell? ⟨b, o + k * 6 + 4, none⟩ = some (.int .i64 (R[k].2.2.2.2.1)) := hc 4 _ rfl
      have hc5 : wr.cell? ⟨b, o + k * 6 + 5, none⟩ = some (.slice R[k].2.2.2.2.2.1 R[k].2.2.2.2.2.2.1 R[k].2.2.2.2.2.2.2) := hc 5 _ rfl
      have HW := Lib.hid hw
      have HOK := Lib.hid hok
      clear hc hw hok je2 je3 je4
      go_wp2_with fail
      refine (szBillLine_any _ _ _ _ _ _ _ _ l[k].2.2.2.2.2 _ _ x0 x1 (by first | exact HOK.out.1 | (rw [je0]; exact HOK.out.1)) (by first | exact HOK.out.2.1 | (rw [je1]; exact HOK.out.2.1)) hm (fun h => ((HW.out h).keep hbw).keep HR) HOK.out.2.2).mono ?_
      rintro e v ⟨r, rfl, r0, r1, rm, hb⟩
      by_cases hneg : r < 0
      · go_wp2_with fail
        go_ret
        exact ⟨-1, rfl, by omega, by omega, fun h => absurd h (by omega), below_on HR hb⟩
      · have hm2 := rm (by omega)
        have HI2 : Hid (∀ j (hj : j < R.length), j < k + 1 → R[j].2.2.2.2.2.2.1 ≤ 1048576) := fun j hj h => by
          rcases Nat.lt_or_ge j k with h1 | h1
          · exact HI.out j hj h1
          · obtain rfl : j = k := by omega
            exact hm2
        go_wp2_with fail
        go_roundw
        case rel => exact ⟨k + 1, _, by omega, by go_num, rfl, by omega, by omega, HI2, below_on HR hb⟩
        case measure => simp [intOf]; omega
    · obtain rfl : k = R.length := by omega
      go_wp2
      go_ret
      exact ⟨x, rfl, by omega, by omega, fun _ => ⟨R, hR, HP.out.1, fun j h1 h2 => by
        have h3 := HP.out.2 j h1 h2
        simp only [BlOf] at h3 ⊢
        exact ⟨h3.1, h3.2.1, h3.2.2.1, h3.2.2.2.1, h3.2.2.2.2.1, h3.2.2.2.2.2.2 (HI.out j h1 h1)⟩⟩, HR⟩
end Go.Proofs.YtlnkofnfgemfdaaGreat
