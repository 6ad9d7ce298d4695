/- The walk of the reference's WorkBound. -/
import Derived.Test.YtmkfinahbelpdaaWorkPlain
import Derived.Deep.RegionHeld3
import Derived.Deep.DeepMust
namespace Go.Proofs.Ytmkfinahbelpdaa
open Go.RowKit
theorem jb_all {w : World} {A : Option Addr} {n : Nat} {l : List Jb} (h : JobsIn w A n l) {k : Nat} (hk : k < l.length) :
    ∃ b o B m c, A = some ⟨b, o, none⟩ ∧ b < w.heap.size ∧ (∀ w', Below w.heap.size w w' → w'.cell? ⟨b, o + k * 3, none⟩ = some (.int .i64 l[k].1) ∧ w'.cell? ⟨b, o + k * 3 + 1, none⟩ = some (.int .i64 l[k].2.1) ∧ w'.cell? ⟨b, o + k * 3 + 2, none⟩ = some (.slice B m c)) ∧ WorksIn w B m l[k].2.2 := by
  obtain ⟨b, o, B, m, c, e, hlt, h0, h1, h2, hw⟩ := jb_at h hk
  exact ⟨b, o, B, m, c, e, hlt, fun w' hb => ⟨(hb.cell (p := ⟨b, o + k * 3, none⟩) hlt).trans h0, (hb.cell (p := ⟨b, o + k * 3 + 1, none⟩) hlt).trans h1, (hb.cell (p := ⟨b, o + k * 3 + 2, none⟩) hlt).trans h2⟩, hw⟩
theorem leftN_bd {l : List Wk} (h : MinOk l) (k : Nat) (hk : k ≤ l.length) : 0 ≤ leftN l k ∧ leftN l k ≤ 5000 := by
  have h1 := h.1
  have mono : ∀ d, beforeN l k ≤ beforeN l (k + d) := by
    intro d
    induction d with
    | zero => exact Int.le_refl _
    | succ d ih => have := (h.at_ (k + d)).1; rw [show k + (d + 1) = (k + d) + 1 by omega]; simp only [beforeN]; omega
  have h2 := mono (l.length - k)
  rw [show k + (l.length - k) = l.length by omega] at h2
  have h3 := beforeN_bd h l.length
  have h4 := beforeN_bd h k
  unfold leftN; omega
set_option maxRecDepth 100000 in
set_option maxHeartbeats 2000000 in
theorem specLeft_any (x0 x1 : Int) (B : Option Addr) (m c : Nat) (l : List Wk) (k : Nat) (kk : Int) (w : World) (hkk : kk = (k : Int)) (hl : WorksIn w B m l) (hm : MinOk l) (hk : k ≤ l.length) :
    Calls Try.prog 75 #[.agg #[.int .i64 x0, .int .i64 x1, .slice B m c], .int .i64 kk] w fun e w' => e = .returned (.int .i64 (leftN l k)) ∧ Below w.heap.size w w' := by
  subst hkk
  have h5 := hm.1
  obtain rfl := hl.1
  have HM := Lib.hid hm
  clear hm
  have hb := below_alloc w (.cells #[.int .i64 x0, .int .i64 x1, .slice B l.length c] 44)
  have g2 : (w.alloc (.cells #[.int .i64 x0, .int .i64 x1, .slice B l.length c] 44)).cell? ⟨w.heap.size, 2, none⟩ = some (.slice B l.length c) := by simp [go_sem]
  have hl2 := hl.keep hb
  go_enter Try.func75, Try.ntmps75
  go_wp2_with fail
  generalize w.alloc (.cells #[.int .i64 x0, .int .i64 x1, .slice B l.length c] 44) = w1 at *
  go_loop [5, 6] (fun s i => ∃ j : Nat, k ≤ j ∧ j ≤ l.length ∧ i = .int .i64 j ∧ s = .int .i64 (beforeN l j - beforeN l k)) (fun _ i => l.length - (intOf i).toNat)
  case atStart => exact ⟨k, Nat.le_refl _, hk, rfl, by rw [Int.sub_self]⟩
  case round =>
    obtain ⟨j, hkj, hj, rfl, rfl⟩ := hrel
    have b1 := beforeN_bd HM.out j
    have b2 := beforeN_bd HM.out k
    by_cases hlt : j < l.length
    · obtain ⟨b, o, rfl, _, hd0, hd1⟩ := work_at hl2 hlt
      obtain ⟨z1, z2⟩ := HM.out.2 j hlt
      have HS : Hid (beforeN l (j + 1) - beforeN l k = beforeN l j - beforeN l k + l[j].2) := by
        show beforeN l (j + 1) - beforeN l k = _
        simp only [beforeN]; rw [wk_getD _ _ hlt]; omega
      go_wp2
      go_round
      case rel => exact ⟨j + 1, by omega, by omega, by go_num, by rw [HS.out]⟩
      case measure => simp [intOf]; omega
    · obtain rfl : j = l.length := by omega
      go_wp2
      go_ret
      exact ⟨rfl, hb⟩
end Go.Proofs.Ytmkfinahbelpdaa
