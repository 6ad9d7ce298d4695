/- Jobs whose rows lie in memory of the call's own, with any room behind them; a text that is picked. -/
import Derived.Test.YtmkfinahbelpdaaDrawBest
import Derived.Test.YtmkfinahbelpdaaJobs
namespace Go.Proofs.Ytmkfinahbelpdaa
open Go.RowKit
def strF : Flat ByteArray := ⟨fun s => [.string s], 1, fun _ => rfl⟩
/-- The ending of a call that draws a text. -/
def DrawnText (P : ByteArray → Prop) (w : World) (base g : Nat) (e : Ending) (w' : World) : Prop := ∃ s : ByteArray, e = .returned (.string s) ∧ P s ∧ CurAt w' base g ∧ Only g (g + 1) w w'
theorem lit_strs {w : World} {H : Nat} {t : TypeId} (hH : w.heap.size = H) (cs : Array Value) (l : List ByteArray) (n : Nat) (hn : n = l.length) (hcs : cs.toList = l.flatMap strF.enc) (hl : l.length ≤ 16777216) : RowsIn strF (w.alloc (.cells cs t)) (some ⟨H, 0, none⟩) n l := by
  refine ⟨hn, by rw [flatMap_len strF.enc 1 strF.len, hn]; rfl, by omega, fun _ => ⟨H, 0, rfl, by simp; omega, fun j u hu => ?_⟩⟩
  have := news_at hH cs t j u (by rw [hcs]; exact hu)
  rwa [Addr.add_lit] at this
set_option maxRecDepth 100000 in
theorem l1Pick_any (A : Option Addr) (n c : Nat) (l : List ByteArray) (w : World) (base g : Nat) (hl : RowsIn strF w A n l) (hn : 1 ≤ n) (hA : ∀ a, A = some a → a.block ≠ g) (hc : CurAt w base g) : Calls Try.prog 66 #[.pointer (some ⟨g, 0, none⟩), .slice A n c] w (DrawnText (fun x => x ∈ l) w base g) := by
  have hln := hl.len
  obtain rfl := hl.1
  go_enter Try.func66, Try.ntmps66
  go_wp2_with fail
  refine (l1Below_any _ _ _ _ (by omega) hc).mono ?_
  rintro e w1 ⟨x, rfl, ⟨x0, x1⟩, hc1, HO⟩
  obtain ⟨k, rfl⟩ : ∃ k : Nat, x = (k : Int) := ⟨_, (Int.toNat_of_nonneg x0).symm⟩
  have hk : k < l.length := by omega
  obtain ⟨b, o, rfl, hb, hcell⟩ := hl.at_ hk
  have hne := hA _ rfl
  have hcell1 : w1.cell? ⟨b, o + k, none⟩ = some (.string l[k]) := by
    rw [World.cell?_of_block (HO.block b hb (by simp at hne; omega))]
    have := hcell 0 _ rfl
    simpa [strF] using this
  go_wp2_with fail
  go_ret
  exact ⟨_, rfl, List.getElem_mem hk, hc1, HO⟩
/-- A raw job and what it stands for, its row of the call's own. -/
def JbOwn (w : World) (lo : Nat) (r : JbR) (j : Jb) : Prop := r.1 = j.1 ∧ r.2.1 = j.2.1 ∧ j.2.2.length ≤ 16777216 ∧ OwnRows wkF 46 w lo r.2.2.1 r.2.2.2.1 r.2.2.2.2 j.2.2
/-- Raw jobs and what they stand for. -/
def JbsOwn (w : World) (lo : Nat) (R : List JbR) (l : List Jb) : Prop := R.length = l.length ∧ ∀ k (h1 : k < R.length) (h2 : k < l.length), JbOwn w lo R[k] l[k]
theorem JbOwn.only {w w' : World} {lo a b : Nat} {r : JbR} {j : Jb} (h : JbOwn w lo r j) (ho : Only a b w w') (hb : b ≤ lo) : JbOwn w' lo r j := by
  simp only [JbOwn] at h ⊢
  exact ⟨h.1, h.2.1, h.2.2.1, h.2.2.2.only ho hb⟩
theorem JbOwn.keep {w w' : World} {lo : Nat} {r : JbR} {j : Jb} (h : JbOwn w lo r j) (hb : Below w.heap.size w w') : JbOwn w' lo r j := by
  simp only [JbOwn] at h ⊢
  exact ⟨h.1, h.2.1, h.2.2.1, h.2.2.2.keep hb⟩
theorem JbOwn.lower {w : World} {lo lo' : Nat} {r : JbR} {j : Jb} (h : JbOwn w lo r j) (hl : lo' ≤ lo) : JbOwn w lo' r j := by
  simp only [JbOwn] at h ⊢
  exact ⟨h.1, h.2.1, h.2.2.1, h.2.2.2.lower hl⟩
theorem JbsOwn.only {w w' : World} {lo a b : Nat} {R : List JbR} {l : List Jb} (h : JbsOwn w lo R l) (ho : Only a b w w') (hb : b ≤ lo) : JbsOwn w' lo R l := ⟨h.1, fun k h1 h2 => (h.2 k h1 h2).only ho hb⟩
theorem JbsOwn.keep {w w' : World} {lo : Nat} {R : List JbR} {l : List Jb} (h : JbsOwn w lo R l) (hb : Below w.heap.size w w') : JbsOwn w' lo R l := ⟨h.1, fun k h1 h2 => (h.2 k h1 h2).keep hb⟩
theorem JbsOwn.lower {w : World} {lo lo' : Nat} {R : List JbR} {l : List Jb} (h : JbsOwn w lo R l) (hl : lo' ≤ lo) : JbsOwn w lo' R l := ⟨h.1, fun k h1 h2 => (h.2 k h1 h2).lower hl⟩
theorem JbsOwn.nil {w : World} {lo : Nat} : JbsOwn w lo [] [] := ⟨rfl, fun k h1 => by simp at h1⟩
theorem JbsOwn.snoc {w : World} {lo : Nat} {R : List JbR} {l : List Jb} {r : JbR} {j : Jb} (h : JbsOwn w lo R l) (hj : JbOwn w lo r j) : JbsOwn w lo (R ++ [r]) (l ++ [j]) := by
  refine ⟨by simp [h.1], fun k h1 h2 => ?_⟩
  simp only [List.length_append, List.length_cons, List.length_nil] at h1
  have hl := h.1
  simp only [List.getElem_append]
  by_cases hk : k < R.length
  · rw [dif_pos hk, dif_pos (by omega)]; exact h.2 k hk (by omega)
  · rw [dif_neg hk, dif_neg (by omega)]
    simp only [List.getElem_singleton]; exact hj
theorem JbsOwn.jobs {w : World} {lo n c : Nat} {A : Option Addr} {R : List JbR} {l : List Jb} (hr : OwnRows jbF 44 w lo A n c R) (h : JbsOwn w lo R l) (hn : l.length ≤ 16777216) : JobsIn w A n l := by
  refine ⟨R, hr.rows (by rw [h.1]; exact hn), h.1, fun k h1 h2 => ?_⟩
  have h3 := h.2 k h1 h2
  simp only [JbOwn] at h3
  simp only [JbOf]
  exact ⟨h3.1, h3.2.1, h3.2.2.2.rows h3.2.2.1⟩
theorem jbElem : ElemOk jbF 36 44 := by
  obtain ⟨i, h1, h2, h3, h4⟩ := info_parts jbInfo
  exact ⟨i, _, 40, Try.underlying36, h1, h2, h3, h4, rfl, by decide, by omega⟩
theorem jbOne : ∀ (a : JbR), ∀ u ∈ jbF.enc a, u.oneCell' = true := by
  intro a u hu
  simp [jbF] at hu
  rcases hu with rfl | rfl | rfl <;> rfl
theorem wkOne : ∀ (a : Wk), ∀ u ∈ wkF.enc a, u.oneCell' = true := by
  intro a u hu
  simp [wkF] at hu
  rcases hu with rfl | rfl <;> rfl
end Go.Proofs.Ytmkfinahbelpdaa
