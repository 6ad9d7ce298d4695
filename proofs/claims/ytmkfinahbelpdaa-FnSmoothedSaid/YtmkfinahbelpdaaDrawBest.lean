/- How the law on best lots draws its inputs. -/
import Derived.Test.YtmkfinahbelpdaaDrawCore
import Derived.Test.YtmkfinahbelpdaaNums
namespace Go.Proofs.Ytmkfinahbelpdaa
open Go.RowKit
theorem CurAt.lt {w : World} {base g : Nat} (h : CurAt w base g) : g < w.heap.size := by obtain ⟨A, n, c, i, h, h1, h2, h3, _⟩ := h; exact h3
theorem NumRow.only {w w' : World} {lo a b g n c : Nat} {l : List Int} (h : NumRow w lo g n c l) (ho : Only a b w w') (hb : b ≤ lo) : NumRow w' lo g n c l := by
  obtain ⟨rfl, h⟩ := h
  have h2 : RowVal intF 3 w lo (.slice (some ⟨g, 0, none⟩) l.length c) l := by unfold RowVal; rw [intF_flat]; exact h
  have h3 := h2.only ho hb
  refine ⟨rfl, ?_⟩
  unfold RowVal at h3
  rw [intF_flat] at h3
  exact h3
/-- The ending of a call that draws a row of numbers. -/
def DrawnNums (w : World) (base g : Nat) (e : Ending) (w' : World) : Prop := ∃ (l : List Int) (b c : Nat), e = .returned (.slice (some ⟨b, 0, none⟩) l.length c) ∧ l.length ≤ c ∧ l.length ≤ 8 ∧ NumRow w' w.heap.size b l.length c l ∧ CurAt w' base g ∧ Only g (g + 1) w w'
theorem numRow_cap {w : World} {lo g n c : Nat} {l : List Int} (h : NumRow w lo g n c l) : n ≤ c := by
  rcases h.2.2 with ⟨hv, _⟩ | ⟨g2, cap, cur, hv, _, _, hr⟩
  · cases hv
  · have : c = cap := by injection hv
    subst this
    exact hr.1
end Go.Proofs.Ytmkfinahbelpdaa
