/- The bytes a law is drawn from. -/
import Derived.Test.YtmkfinahbelpdaaDraw
namespace Go.Proofs.Ytmkfinahbelpdaa
open Go.RowKit
def byteF : Flat Int := ⟨fun x => [.int .u8 x], 1, fun _ => rfl⟩
def okByte (x : Int) : Prop := 0 ≤ x ∧ x ≤ 255
theorem bytesAt_of {w : World} {A : Option Addr} {n : Nat} {l : List Int} (h : RowsIn byteF w A n l) (hok : ∀ x ∈ l, okByte x) : BytesAt w w.heap.size A n := by
  have hn := h.1
  refine ⟨by have := h.len; omega, fun k hk => ?_⟩
  obtain ⟨b, o, e, hlt, hc⟩ := h.at_ (k := k) (by omega)
  have hx := hok _ (List.getElem_mem (show k < l.length by omega))
  refine ⟨b, o, l[k]'(by omega), e, hlt, hx.1, hx.2, ?_⟩
  have := hc 0 (.int .u8 (l[k]'(by omega))) rfl
  rw [show o + k * byteF.sz + 0 = o + k by simp [byteF]] at this
  exact this
theorem big_yes (A : Option Addr) (n c : Nat) (w : World) (h : 1048576 < n) (hn : n ≤ 9223372036854775807) : Calls Try.prog 7 #[.slice A n c] w fun e w' => e = .returned (.bool true) ∧ w = w' := by
  go_enter Try.func7, Try.ntmps7
  go_wp2
  go_ret
  exact ⟨ret_bool (decide_eq_true (by omega)), rfl⟩
theorem big_no (A : Option Addr) (n c : Nat) (w : World) (h : ¬ 1048576 < n) : Calls Try.prog 7 #[.slice A n c] w fun e w' => e = .returned (.bool false) ∧ w = w' := by
  have h2 : (n : Int) ≤ 1048576 := by omega
  go_enter Try.func7, Try.ntmps7
  go_wp2
  go_ret
  exact ⟨ret_bool (decide_eq_false (by omega)), rfl⟩
end Go.Proofs.Ytmkfinahbelpdaa
