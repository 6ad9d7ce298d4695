/- Part 29 of the texts of this claim: The walks of the laws' marks on numbers; The walk of the laws' marks on calendars. -/
import Derived.Test.YtajlfdofjegdjaaRf10
import Derived.Test.YtajlfdofjegdjaaRf1
import Derived.Test.YtajlfdofjegdjaaRf11
/- The walks of the laws' marks on numbers. -/
namespace Go.Proofs.Ytajlfdofjegdjaa
open Go.RowKit
/-- What the marks from k on make of a list of numbers. -/
def marksInt : List Int → Int → List Int
  | [], _ => []
  | _ :: t, k => k :: marksInt t (k + 1)
theorem marksInt_len (l : List Int) (k : Int) : (marksInt l k).length = l.length := by
  induction l generalizing k with
  | nil => rfl
  | cons f t ih => simp [marksInt, ih]
theorem marksInt_at (l : List Int) (k : Int) (j : Nat) (h : j < (marksInt l k).length) : (marksInt l k)[j] = k + j := by
  induction l generalizing k j with
  | nil => simp [marksInt] at h
  | cons f t ih =>
    cases j with
    | zero => simp [marksInt]
    | succ j =>
      simp only [marksInt, List.getElem_cons_succ]
      rw [ih]
      omega
set_option maxRecDepth 100000 in
set_option maxHeartbeats 1000000 in
theorem markIntS_any (A : Option Addr) (n c lo hi : Nat) (l : List Int) (k0 : Int) (w : World) (ha : IntsAt w lo hi A n c l) (hk0 : 0 ≤ k0) (hk1 : k0 ≤ 2000000000000000000) (hn : l.length ≤ 16777216) :
    Calls Try.prog 136 #[.slice A n c, .int .i64 k0] w fun e w' => e = .returned (.int .i64 (k0 + l.length)) ∧ IntsAt w' lo hi A n c (marksInt l k0) ∧ Only lo hi w w' := by
  obtain rfl := ha.1
  have hml := marksInt_len l k0
  have hlen : (ints l).length = l.length := by simp
  have hlen2 : (ints (marksInt l k0)).length = l.length := by simp [hml]
  have HZ := Lib.hid (hlen.trans hlen2.symm)
  have HL := Lib.hid hlen2
  have HM := Lib.hid hml
  clear hml hlen hlen2
  obtain ⟨_, ⟨hown, hhi, hlt⟩⟩ := ha
  have HT := Lib.hid hlt
  clear hlt
  go_enter Try.func136, Try.ntmps136
  go_wp2
  go_loopw [1, 5] (fun m i wr => ∃ k : Nat, k ≤ l.length ∧ i = .int .i64 k ∧ m = .int .i64 (k0 + k) ∧ wr.ownsRow lo 3 1 (.slice A l.length c) l.length (fillC (ints l) (ints (marksInt l k0)) k) ∧ Only lo hi w wr) (fun _ i _ => l.length - (intOf i).toNat)
  case atStart => exact ⟨0, by omega, rfl, by go_num, by rw [fillC_zero]; exact hown, Only.refl _ _ _⟩
  case round =>
    obtain ⟨k, hk, rfl, rfl, ho, HO⟩ := hrel
    by_cases hlt : k < l.length
    · have hA : ∃ g, A = some ⟨g, 0, none⟩ := by
        rcases ho.2 with ⟨hv, h0⟩ | ⟨g, cap, cur, hv, _⟩
        · omega
        · exact ⟨g, by injection hv⟩
      obtain ⟨g, rfl⟩ := hA
      have hm : k < (marksInt l k0).length := by rw [HM.out]; exact hlt
      have e1 : (ints (marksInt l k0))[k]? = some (.int .i64 (k0 + k)) := by
        rw [List.getElem?_map, List.getElem?_eq_getElem hm, marksInt_at _ _ _ hm]; rfl
      obtain ⟨u1, c1, f1⟩ := own_cell ho k (by omega)
      have s1 := (ho.stored k (.int .i64 (k0 + k)))
      rw [fillC_set _ _ _ _ e1 HZ.out] at s1
      have hgl : lo ≤ g ∧ g < hi := ⟨(own_lt ho _ rfl).1, HT.out _ rfl⟩
      have HO2 : Only lo hi w _ := (HO.trans (Only.of_grown s1.2 (fun x hx => by injection hx with hx; subst hx; exact hgl)))
      have S2 := Lib.hid s1.1
      clear e1 s1 ho
      go_wp2
      go_roundw
      case rel => exact ⟨k + 1, by omega, by go_num, by go_num, S2.out, HO2⟩
      case measure => simp [intOf]; omega
    · obtain rfl : k = l.length := by omega
      go_wp2
      go_ret
      have hf := fillC_all (ints l) (ints (marksInt l k0)) HZ.out
      rw [HL.out] at hf
      rw [hf] at ho
      exact ⟨rfl, ⟨HM.out.symm, ⟨ho, Nat.le_trans hhi HO.size, HT.out⟩⟩, HO⟩
end Go.Proofs.Ytajlfdofjegdjaa
/- The walk of the laws' marks on calendars. -/
namespace Go.Proofs.Ytajlfdofjegdjaa
open Go.RowKit
theorem BoxOf.only {w w' : World} {lo hi N : Nat} {cs : List Value} (h : BoxOf w N cs) (ho : Only lo hi w w') (hd : N < lo ∨ hi ≤ N) : BoxOf w' N cs :=
  ⟨Nat.lt_of_lt_of_le h.1 ho.size, fun j u hu => by rw [World.cell?_of_block (ho.block N h.1 (by omega))]; exact h.2 j u hu⟩
set_option maxRecDepth 100000 in
set_option maxHeartbeats 1000000 in
theorem markCalendar_any (A B : Option Addr) (n m c d lo M hi : Nat) (wk : List Int) (ex : List Ex) (k0 : Int) (w : World) (ha : IntsAt w lo M A n c wk) (hb : RowsAt exF 152 w M hi B m d ex) (hlM : lo ≤ M) (hMh : M ≤ hi) (hk0 : 0 ≤ k0) (hk1 : k0 ≤ 1000000000000000000) (h1 : wk.length ≤ 16777216) (h2 : ex.length ≤ 16777216) :
    Calls Try.prog 84 #[.agg #[.slice A n c, .slice B m d], .int .i64 k0] w fun e w' => e = .returned (.int .i64 (k0 + wk.length + 2 * ex.length)) ∧ Only lo hi w w' := by
  have hs := below_alloc w (.cells #[.slice A n c, .slice B m d] 39)
  have hx := boxOf_alloc w #[.slice A n c, .slice B m d] 39
  simp only at hx
  have hwz : M ≤ w.heap.size := ha.2.2.1
  have hwh : hi ≤ w.heap.size := hb.2.2.1
  have ho : Only lo hi w (w.alloc (.cells #[.slice A n c, .slice B m d] 39)) := Only.of_below hs
  replace ha := ha.keep hs
  replace hb := hb.keep hs
  obtain ⟨g0, g1, gl⟩ := hx.two
  clear hs
  go_enter Try.func84, Try.ntmps84
  go_wp2_with fail
  generalize w.alloc (.cells #[.slice A n c, .slice B m d] 39) = w1 at *
  refine (markIntS_any _ _ _ _ _ wk _ _ ha hk0 (by omega) h1).mono ?_
  rintro e w2 ⟨rfl, _, hs⟩
  have hb2 := hb.only hs (.inr (Nat.le_refl _))
  have hx2 := hx.only hs (.inr (by omega))
  have ho2 : Only lo hi w w2 := ho.trans ⟨hs.os, hs.tape, hs.output, hs.size, fun k hk hn => hs.block k hk (fun h => hn ⟨h.1, by omega⟩)⟩
  clear g0 g1 gl ha
  obtain ⟨g0, g1, gl⟩ := hx2.two
  go_wp2_with fail
  refine (markExceptionS_any _ _ _ _ _ ex _ _ hb2 (by omega) (by omega) h2).mono ?_
  rintro e w3 ⟨rfl, _, hs3⟩
  have ho3 : Only lo hi w w3 := ho2.trans ⟨hs3.os, hs3.tape, hs3.output, hs3.size, fun k hk hn => hs3.block k hk (fun h => hn ⟨by omega, h.2⟩)⟩
  go_wp2_with fail
  go_ret
  exact ⟨rfl, ho3⟩
end Go.Proofs.Ytajlfdofjegdjaa
