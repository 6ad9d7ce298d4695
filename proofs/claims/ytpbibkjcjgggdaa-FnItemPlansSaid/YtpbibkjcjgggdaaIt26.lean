/- Part 26 of the texts of this claim: The walk of through: what of a part lies in an item, over the lines in force; The walks of copyLine and inForce. -/
import Derived.Test.YtpbibkjcjgggdaaIt25
/- The walk of through: what of a part lies in an item, over the lines in force. -/
namespace Go.Proofs.Ytpbibkjcjgggdaa
open Go.RowKit
def FlatL (w : World) (A : Option Addr) (n : Nat) (l : List Bl) : Prop := ∃ R, RowsIn blF w A n R ∧ BillLineOfs (fun _ _ _ => True) R l
theorem FlatL.keep {w w' : World} {A : Option Addr} {n : Nat} {l : List Bl} (h : FlatL w A n l) (hb : Below w.heap.size w w') : FlatL w' A n l := by
  obtain ⟨R, h1, h2⟩ := h
  exact ⟨R, h1.keep hb, h2⟩
theorem FlatL.len {w : World} {A : Option Addr} {n : Nat} {l : List Bl} (h : FlatL w A n l) : l.length ≤ 16777216 := by obtain ⟨R, h1, h2⟩ := h; rw [← h2.1]; exact h1.len
theorem FlatL.num {w : World} {A : Option Addr} {n : Nat} {l : List Bl} (h : FlatL w A n l) : n = l.length := by obtain ⟨R, h1, h2⟩ := h; rw [← h2.1]; exact h1.1
theorem flat_at {w : World} {A : Option Addr} {n : Nat} {l : List Bl} (h : FlatL w A n l) {k : Nat} (hk : k < l.length) :
    ∃ b o B m c, A = some ⟨b, o, none⟩ ∧ b < w.heap.size ∧ w.cell? ⟨b, o + k * 6, none⟩ = some (.string (l[k].1)) ∧ w.cell? ⟨b, o + k * 6 + 1, none⟩ = some (.string (l[k].2.1)) ∧ w.cell? ⟨b, o + k * 6 + 2, none⟩ = some (.int .i64 (l[k].2.2.1)) ∧ w.cell? ⟨b, o + k * 6 + 3, none⟩ = some (.int .i64 (l[k].2.2.2.1)) ∧ w.cell? ⟨b, o + k * 6 + 4, none⟩ = some (.int .i64 (l[k].2.2.2.2.1)) ∧ w.cell? ⟨b, o + k * 6 + 5, none⟩ = some (.slice B m c) := by
  obtain ⟨R, h1, h2, h3⟩ := h
  obtain ⟨b, o, e, hlt, hc⟩ := h1.at_ (k := k) (by omega)
  have h4 := h3 k (by omega) hk
  simp only [BlOf] at h4
  exact ⟨b, o, _, _, _, e, hlt, by rw [← h4.1]; exact hc 0 _ rfl, by rw [← h4.2.1]; exact hc 1 _ rfl, by rw [← h4.2.2.1]; exact hc 2 _ rfl, by rw [← h4.2.2.2.1]; exact hc 3 _ rfl, by rw [← h4.2.2.2.2.1]; exact hc 4 _ rfl, hc 5 _ rfl⟩
/-- One line in force. -/
def thrS (it : List It) (part code : ByteArray) (f : ByteArray → Int) (s : Int) (x : Bl) : Int :=
  if x.1.toList == code.toList then (if x.2.1.toList == part.toList then min (s + x.2.2.1) 1000000001 else if phan it x.2.1 then min (s + x.2.2.1 * f x.2.1) 1000000001 else s) else s
theorem thr_force (it : List It) (ls : List Bl) (on : Bl → Bool) (part code : ByteArray) (f : ByteArray → Int) : ls.foldl (thrStep it on part code f) 0 = (ls.filter on).foldl (thrS it part code f) 0 := by
  rw [List.foldl_filter]
  refine foldl_ext' _ _ _ (fun s x _ => ?_) 0
  unfold thrStep thrS
  cases on x <;> simp
theorem thrS_bd (it : List It) (part code : ByteArray) (f : ByteArray → Int) (hf : ∀ c, 0 ≤ f c) (l : List Bl) (hl : ∀ x ∈ l, 1 ≤ x.2.2.1) (k : Nat) : 0 ≤ (l.take k).foldl (thrS it part code f) 0 ∧ (l.take k).foldl (thrS it part code f) 0 ≤ 1000000001 := by
  induction k with
  | zero => exact ⟨by simp, by simp⟩
  | succ k ih =>
    by_cases hk : k < l.length
    · rw [List.take_add_one, List.getElem?_eq_getElem hk, Option.toList_some, List.foldl_append]
      simp only [List.foldl_cons, List.foldl_nil]
      have h1 := hl _ (List.getElem_mem hk)
      have h2 := Int.mul_nonneg (show 0 ≤ l[k].2.2.1 by omega) (hf l[k].2.1)
      generalize (l.take k).foldl (thrS it part code f) 0 = s at *
      unfold thrS
      split
      · split
        · omega
        · split <;> omega
      · exact ih
    · rw [List.take_of_length_le (by omega)]
      rw [List.take_of_length_le (by omega)] at ih
      exact ih
theorem thrS_take (it : List It) (part code : ByteArray) (f : ByteArray → Int) (l : List Bl) (k : Nat) (h : k < l.length) : (l.take (k + 1)).foldl (thrS it part code f) 0 = thrS it part code f ((l.take k).foldl (thrS it part code f) 0) l[k] := by
  rw [List.take_add_one, List.getElem?_eq_getElem h, Option.toList_some, List.foldl_append]; rfl
end Go.Proofs.Ytpbibkjcjgggdaa
/- The walks of copyLine and inForce. -/
namespace Go.Proofs.Ytpbibkjcjgggdaa
open Go.RowKit
theorem cnOne : ∀ (a : Cn), ∀ u ∈ cnF.enc a, u.oneCell' = true := by
  intro a u hu
  simp [cnF] at hu
  rcases hu with rfl | rfl | rfl <;> rfl
theorem blElem : ElemOk blF 25 103 := by
  obtain ⟨i, h1, h2, h3, h4⟩ := info_parts blInfo
  exact ⟨i, _, _, Try.underlying25, h1, h2, h3, h4, rfl, by decide, by omega⟩
theorem run_results_bl {fn : Func} {p : Tmp} (h : fn.results = #[.cell p 103]) (tmps : Array Value) (W : World) (N : Nat) (hp : tmps.getD p undef = .pointer (some ⟨N, 0, none⟩)) {a0 a1 a2 a3 a4 a5 : Value} (HB : BoxOf W N [a0, a1, a2, a3, a4, a5]) : (results fn tmps).run Try.prog W = .ok (.agg #[a0, a1, a2, a3, a4, a5]) W := by
  have z0 := HB.2 0 _ rfl
  have z1 := HB.2 1 _ rfl
  have z2 := HB.2 2 _ rfl
  have z3 := HB.2 3 _ rfl
  have z4 := HB.2 4 _ rfl
  have z5 := HB.2 5 _ rfl
  have hp' : tmps[p]?.getD undef = .pointer (some ⟨N, 0, none⟩) := by simpa using hp
  simp [results, h, hp', asAddr]
  go_simp

theorem filter_take1 {α : Type} (q : α → Bool) (l : List α) (k : Nat) (h : k < l.length) : (l.take (k + 1)).filter q = (l.take k).filter q ++ (if q l[k] = true then [l[k]] else []) := by
  rw [List.take_add_one, List.getElem?_eq_getElem h, Option.toList_some, List.filter_append]
  congr 1
  by_cases hq : q l[k] = true
  · rw [if_pos hq, List.filter_cons_of_pos hq]; rfl
  · rw [if_neg hq, List.filter_cons_of_neg hq]; rfl
end Go.Proofs.Ytpbibkjcjgggdaa
