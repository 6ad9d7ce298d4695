/- The walks of the small functions on needs of periods. -/
import Derived.Test.YtajlfdofjegdjaaAppend
import Derived.Test.YtajlfdofjegdjaaNums
namespace Go.Proofs.Ytajlfdofjegdjaa
open Go.RowKit

def arePeriods (l : List Int) (s h : Int) : Bool := l.all (inB · 0 1000) && (decide ((l.length : Int) ≤ 10) && (inB s 0 10000 && inB h 0 10000))

set_option maxRecDepth 100000 in
set_option maxHeartbeats 400000 in
theorem toIntS_any (A : Option Addr) (n c : Nat) (l : List Int) (w : World) (hl : IntsIn w A n l) :
    Calls Try.prog 100 #[.slice A n c] w fun e w' => ∃ A', e = .returned (.slice A' n n) ∧ OwnInts w' w.heap.size A' n n l ∧ Below w.heap.size w w' := by
  obtain ⟨i0, hi0, hz0, hz1, hz2⟩ := info_parts intInfo
  have hn := hl.2.len
  obtain rfl := hl.1
  go_enter Try.func100, Try.ntmps100
  go_wp2_with (at_make; refine wpList_make_full _ rfl (.tmp 6) (.tmp 6) _ rfl w.heap.size 3 i0 _ 1 Try.underlying24 hi0 hz0 hz1 .i64 .i64 _ _ l.length rfl rfl rfl rfl (by rw [hz2]; omega) (by unfold maxLen; omega) (Nat.le_refl _) ?_; intro w1 hown hg)
  have hown1 : w1.ownsRow w.heap.size 3 1 (.slice (some ⟨w.heap.size, 0, none⟩) l.length l.length) l.length (fillC (List.replicate l.length (.int .i64 0)) (ints l) 0) := by
    rw [fillC_zero]; rw [show (Value.int .i64 0).cells = #[.int .i64 0] from rfl, Nat.mul_one, toList_madeCells_one] at hown; exact hown
  have hb1 := below_none hg
  clear hown hg
  go_loopw [4] (fun i wr => ∃ k : Nat, k ≤ l.length ∧ i = .int .i64 k ∧ wr.ownsRow w.heap.size 3 1 (.slice (some ⟨w.heap.size, 0, none⟩) l.length l.length) l.length (fillC (List.replicate l.length (.int .i64 0)) (ints l) k) ∧ Below w.heap.size w wr) (fun i _ => l.length - (intOf i).toNat)
  case atStart => exact ⟨0, by omega, rfl, hown1, hb1⟩
  case round =>
    obtain ⟨k, hk, rfl, hown, hb⟩ := hrel
    by_cases hlt : k < l.length
    · obtain ⟨b, o, rfl, _, hcell⟩ := (hl.keep hb).at_ hlt
      have hc1 := hown.cellAt k (by omega)
      rw [fillC_at _ _ k (by simp; omega), List.getElem?_replicate, if_pos hlt] at hc1
      have hf1 := hown.frozenAt k
      have hst := hown.stored k (.int .i64 l[k])
      rw [fillC_set _ _ k _ (by simp [hlt]) (by simp)] at hst
      have HS := Lib.hid hst; clear hst
      go_wp2
      go_roundw
      case rel => exact ⟨k + 1, by omega, by go_num, HS.out.1, hb.setCell (Nat.le_refl _) _⟩
      case measure => simp [intOf]; omega
    · obtain rfl : k = l.length := by omega
      go_wp2
      go_ret
      refine ⟨_, rfl, ⟨rfl, ?_⟩, hb⟩
      have hl2 : (ints l).length = l.length := by simp
      rw [← hl2, fillC_all _ _ (by simp), hl2] at hown
      exact hown

set_option maxRecDepth 100000 in
set_option maxHeartbeats 400000 in
theorem eqIntS_yes (A B : Option Addr) (n m c d : Nat) (l : List Int) (w : World) (ha : IntsIn w A n l) (hb : IntsIn w B m l) :
    Calls Try.prog 110 #[.slice A n c, .slice B m d] w fun e w' => e = .returned (.bool true) ∧ ∃ q, w' = w.drewN q := by
  have hn := ha.2.len
  obtain rfl := ha.1
  obtain rfl := hb.1
  go_enter Try.func110, Try.ntmps110
  go_wp2
  go_loopw [5] (fun i wr => ∃ k q : Nat, k ≤ l.length ∧ i = .int .i64 k ∧ wr = w.drewN q) (fun i _ => l.length - (intOf i).toNat)
  case atStart => exact ⟨0, 0, by omega, rfl, rfl⟩
  case round =>
    obtain ⟨k, q, hk, rfl, rfl⟩ := hrel
    by_cases hlt : k < l.length
    · obtain ⟨b, o, rfl, _, hcell⟩ := ha.at_ hlt
      obtain ⟨b2, o2, rfl, _, hcell2⟩ := hb.at_ hlt
      go_wp2
      go_quiet (fail)
      go_wp2
      go_roundw
      case rel => exact ⟨k + 1, _, by omega, by go_num, rfl⟩
      case measure => simp [intOf]; omega
    · obtain rfl : k = l.length := by omega
      go_wp2
      go_ret
      exact ⟨rfl, _, rfl⟩
end Go.Proofs.Ytajlfdofjegdjaa
