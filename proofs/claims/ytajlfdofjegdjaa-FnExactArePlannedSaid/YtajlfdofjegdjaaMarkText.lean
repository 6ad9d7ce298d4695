/- The walk of the laws' own marks that are texts: some text comes back. -/
import Derived.Test.YtajlfdofjegdjaaBase
import Derived.Laws.BytesArg
namespace Go.Proofs.Ytajlfdofjegdjaa
open Go.RowKit
def SomeText (w : World) (e : Ending) (w' : World) : Prop := ∃ s : ByteArray, e = .returned (.string s) ∧ Below w.heap.size w w'
set_option maxRecDepth 100000 in
set_option maxHeartbeats 1000000 in
theorem markText_some (k : Int) (w : World) (h0 : 1 ≤ k) (h1 : k ≤ 4000000000000000000) : Calls Try.prog 134 #[.int .i64 k] w (SomeText w) := by
  go_enter Try.func134, Try.ntmps134
  go_wp2
  go_loopw [0, 3] (fun i v wr => ∃ (x : Int) (s : ByteArray), 0 ≤ x ∧ i = .int .i64 x ∧ v = .string s ∧ (s.size : Int) + x ≤ 4000000000000000000 ∧ Below w.heap.size w wr) (fun i _ _ => (intOf i).toNat)
  case atStart => exact ⟨k, ByteArray.empty, by omega, rfl, rfl, by simp; omega, Below.refl _ _⟩
  case round =>
    obtain ⟨x, s, x0, rfl, rfl, hs, HR⟩ := hrel
    have hsz := HR.size
    by_cases hlt : 0 < x
    · have hm1 := Int.emod_nonneg x (show (10 : Int) ≠ 0 by omega)
      have hm2 := Int.emod_lt_of_pos x (show (0 : Int) < 10 by omega)
      have hcell : ∀ i, i < 1 → (wr.alloc (.cells #[.int .u8 (48 + x % 10)] 5)).cell? ⟨wr.heap.size, 0 + i, none⟩ = some (.int .u8 ([48 + x % 10].getD i 0)) := fun i hi => by
        have h0 : i = 0 := by omega
        subst h0
        simp [go_sem]
      obtain ⟨t, ht, hts⟩ : ∃ t : ByteArray, (convert 50 9 (.slice (some ⟨wr.heap.size, 0, none⟩) 1 1)).run Try.prog (wr.alloc (.cells #[.int .u8 (48 + x % 10)] 5)) = .ok (.string t) (wr.alloc (.cells #[.int .u8 (48 + x % 10)] 5)) ∧ t.size = 1 :=
        ⟨_, run_convert_bytes_arg _ 50 5 Try.underlying50 Try.underlying5 wr.heap.size 0 1 1 [48 + x % 10] rfl hcell 9 Try.underlying9, by rw [strOfNums_size]; rfl⟩
      clear hcell
      have hfit : ¬ 9223372036854775807 < t.size + s.size := by omega
      have HTS := Lib.hid hts
      clear hts
      go_wp2
      go_roundw
      case rel => exact ⟨x / 10, t ++ s, by omega, rfl, rfl, by rw [ByteArray.size_append, HTS.out]; omega, HR.alloc hsz _⟩
      case measure => simp [intOf]; omega
    · obtain rfl : x = 0 := by omega
      have hfit : ¬ 9223372036854775807 < 1 + s.size := by omega
      go_wp2
      go_ret
      exact ⟨_, rfl, HR⟩
end Go.Proofs.Ytajlfdofjegdjaa
