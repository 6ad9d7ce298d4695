/- Part 32 of the texts of this claim: The walk of the laws' marks on calendars. -/
import Derived.Test.YtlnkofnfgemfdaaGreatPi31
import Derived.Test.YtlnkofnfgemfdaaGreatPi9
/- The walk of the laws' marks on calendars. -/
namespace Go.Proofs.YtlnkofnfgemfdaaGreat
open Go.RowKit
theorem BoxOf.only {w w' : World} {lo hi N : Nat} {cs : List Value} (h : BoxOf w N cs) (ho : Only lo hi w w') (hd : N < lo ∨ hi ≤ N) : BoxOf w' N cs :=
  ⟨Nat.lt_of_lt_of_le h.1 ho.size, fun j u hu => by rw [World.cell?_of_block (ho.block N h.1 (by omega))]; exact h.2 j u hu⟩
set_option maxRecDepth 100000 in
set_option maxHeartbeats 1000000 in
theorem markCalendar_any (A B : Option Addr) (n m c d lo M hi : Nat) (wk : List Int) (ex : List Ex) (k0 : Int) (w : World) (ha : IntsAt w lo M A n c wk) (hb : RowsAt exF 192 w M hi B m d ex) (hlM : lo ≤ M) (hMh : M ≤ hi) (hk0 : 0 ≤ k0) (hk1 : k0 ≤ 1000000000000000000) (h1 : wk.length ≤ 16777216) (h2 : ex.length ≤ 16777216) :
    Calls Tryz.prog 72 #[.agg #[.slice A n c, .slice B m d], .int .i64 k0] w fun e w' => e = .returned (.int .i64 (k0 + wk.length + 2 * ex.length)) ∧ Only lo hi w w' := by
  have hs := below_alloc w (.cells #[.slice A n c, .slice B m d] 43)
  have hx := boxOf_alloc w #[.slice A n c, .slice B m d] 43
  simp only at hx
  have hwz : M ≤ w.heap.size := ha.2.2.1
  have hwh : hi ≤ w.heap.size := hb.2.2.1
  have ho : Only lo hi w (w.alloc (.cells #[.slice A n c, .slice B m d] 43)) := Only.of_below hs
  replace ha := ha.keep hs
  replace hb := hb.keep hs
  obtain ⟨g0, g1, gl⟩ := hx.two
  clear hs
  go_enter Tryz.func72, Tryz.ntmps72
  go_wp2_with fail
  generalize w.alloc (.cells #[.slice A n c, .slice B m d] 43) = w1 at *
  refine (markIntS_any _ _ _ _ _ wk _ _ ha hk0 (by omega) h1).mono ?_
  rintro e w2 ⟨rfl, _, hs⟩
  have hb2 := hb.only hs (.inr (Nat.le_refl _))
  have hx2 := hx.only hs (.inr (by omega))
  have ho2 : Only lo hi w w2 := ho.trans ⟨hs.os, hs.tape, hs.output, hs.size, fun k hk hn => hs.block k hk (fun h => hn ⟨h.1, by omega⟩)⟩
  clear g0 g1 gl ha
  obtain ⟨g0, g1, gl⟩ := hx2.two
  go_wp2_with fail
  refine (markExceptionS_any _ _ _ _ _ ex _ _ hb2 (by omega) (by omega) h2).mono ?_
  rintro e w3 ⟨rfl, _, hs3⟩
  have ho3 : Only lo hi w w3 := ho2.trans ⟨hs3.os, hs3.tape, hs3.output, hs3.size, fun k hk hn => hs3.block k hk (fun h => hn ⟨by omega, h.2⟩)⟩
  go_wp2_with fail
  go_ret
  exact ⟨rfl, ho3⟩
end Go.Proofs.YtlnkofnfgemfdaaGreat
