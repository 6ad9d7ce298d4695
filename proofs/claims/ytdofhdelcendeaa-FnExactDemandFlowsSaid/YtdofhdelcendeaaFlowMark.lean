/- The walks of the laws' marks on flows. -/
import Derived.Test.YtdofhdelcendeaaFlowTo
import Derived.Test.YtdofhdelcendeaaOwn
namespace Go.Proofs.Ytdofhdelcendeaa
open Go.RowKit
/-- What the marks from k on make of a list of flows. -/
def marksFl : List Fl → Int → List Fl
  | [], _ => []
  | _ :: t, k => (k, k + 1) :: marksFl t (k + 2)
theorem marksFl_len (l : List Fl) (k : Int) : (marksFl l k).length = l.length := by
  induction l generalizing k with
  | nil => rfl
  | cons f t ih => simp [marksFl, ih]
theorem marksFl_at (l : List Fl) (k : Int) (j : Nat) (h : j < (marksFl l k).length) : (marksFl l k)[j] = (k + 2 * j, k + 2 * j + 1) := by
  induction l generalizing k j with
  | nil => simp [marksFl] at h
  | cons f t ih =>
    cases j with
    | zero => simp [marksFl]
    | succ j =>
      simp only [marksFl, List.getElem_cons_succ]
      rw [ih]
      simp only [Prod.mk.injEq]
      omega
/-- The least that the law of a mark says. -/
theorem szFlowS_ok (A : Option Addr) (n c : Nat) (left : Int) (w : World) (h : (n : Int) ≤ left) (hl : left ≤ 1048576) :
    Calls Try.prog 14 #[.slice A n c, .int .i64 left] w fun e w' => e = .returned (.int .i64 (left - n)) ∧ w = w' := by
  go_enter Try.func14, Try.ntmps14
  go_wp2
  go_ret
  exact ⟨rfl, rfl⟩
theorem szFlowS_big (A : Option Addr) (n c : Nat) (left : Int) (w : World) (h : left < (n : Int)) (h0 : 0 ≤ left) (hn : n ≤ 9223372036854775807) :
    Calls Try.prog 14 #[.slice A n c, .int .i64 left] w fun e w' => e = .returned (.int .i64 (-1)) ∧ w = w' := by
  go_enter Try.func14, Try.ntmps14
  go_wp2
  go_ret
  exact ⟨rfl, rfl⟩

set_option maxRecDepth 100000 in
set_option maxHeartbeats 1000000 in
theorem markFlowS_any (A : Option Addr) (n c lo hi : Nat) (l : List Fl) (k0 : Int) (w : World) (ha : RowsAt flF 51 w lo hi A n c l) (hk0 : 0 ≤ k0) (hk1 : k0 ≤ 1000000000) (hn : l.length ≤ 16777216) :
    Calls Try.prog 24 #[.slice A n c, .int .i64 k0] w fun e w' => e = .returned (.int .i64 (k0 + 2 * l.length)) ∧ RowsAt flF 51 w' lo hi A n c (marksFl l k0) ∧ Only lo hi w w' := by
  obtain rfl := ha.1
  have hml := marksFl_len l k0
  have hlen : (l.flatMap flF.enc).length = l.length * 2 := flatMap_len flF.enc 2 flF.len l
  have hlen2 : ((marksFl l k0).flatMap flF.enc).length = l.length * 2 := by rw [flatMap_len flF.enc 2 flF.len, hml]
  have HZ := Lib.hid (hlen.trans hlen2.symm)
  have HL := Lib.hid hlen2
  have HM := Lib.hid hml
  clear hml hlen hlen2
  obtain ⟨_, ⟨hown, hhi, hlt⟩⟩ := ha
  have HT := Lib.hid hlt
  clear hlt
  go_enter Try.func24, Try.ntmps24
  go_wp2
  go_loopw [1, 5] (fun m i wr => ∃ k : Nat, k ≤ l.length ∧ i = .int .i64 k ∧ m = .int .i64 (k0 + 2 * k) ∧ wr.ownsRow lo 51 2 (.slice A l.length c) l.length (fillC (l.flatMap flF.enc) ((marksFl l k0).flatMap flF.enc) (k * 2)) ∧ Only lo hi w wr) (fun _ i _ => l.length - (intOf i).toNat)
  case atStart => exact ⟨0, by omega, rfl, by go_num, by rw [Nat.zero_mul, fillC_zero]; exact hown, Only.refl _ _ _⟩
  case round =>
    obtain ⟨k, hk, rfl, rfl, ho, HO⟩ := hrel
    by_cases hlt : k < l.length
    · have hA : ∃ g, A = some ⟨g, 0, none⟩ := by
        rcases ho.2 with ⟨hv, h0⟩ | ⟨g, cap, cur, hv, _⟩
        · omega
        · exact ⟨g, by injection hv⟩
      obtain ⟨g, rfl⟩ := hA
      have hm : k < (marksFl l k0).length := by rw [HM.out]; exact hlt
      have e1 : ((marksFl l k0).flatMap flF.enc)[k * 2]? = some (.int .i64 (k0 + 2 * k)) := by
        rw [show k * 2 = k * 2 + 0 from rfl, flatMap_at flF.enc 2 flF.len _ k 0 hm (by omega), marksFl_at _ _ _ hm]; rfl
      have e2 : ((marksFl l k0).flatMap flF.enc)[k * 2 + 1]? = some (.int .i64 (k0 + 2 * k + 1)) := by
        rw [flatMap_at flF.enc 2 flF.len _ k 1 hm (by omega), marksFl_at _ _ _ hm]; rfl
      obtain ⟨u1, c1, f1⟩ := own_cell ho (k * 2) (by omega)
      obtain ⟨u2, c2, f2⟩ := own_cell ho (k * 2 + 1) (by omega)
      have s1 := (ho.stored (k * 2) (.int .i64 (k0 + 2 * k)))
      rw [fillC_set _ _ _ _ e1 HZ.out] at s1
      have s2 := (s1.1.stored (k * 2 + 1) (.int .i64 (k0 + 2 * k + 1)))
      rw [fillC_set _ _ _ _ e2 HZ.out] at s2
      have hgl : lo ≤ g ∧ g < hi := ⟨(own_lt ho _ rfl).1, HT.out _ rfl⟩
      have HO2 : Only lo hi w _ := (HO.trans (Only.of_grown s1.2 (fun x hx => by injection hx with hx; subst hx; exact hgl))).trans (Only.of_grown s2.2 (fun x hx => by injection hx with hx; subst hx; exact hgl))
      have S2 := Lib.hid s2.1
      clear e1 e2 s1 s2 ho
      go_wp2
      go_roundw
      case rel => exact ⟨k + 1, by omega, by go_num, by go_num, by rw [show (k + 1) * 2 = k * 2 + 1 + 1 by omega]; exact S2.out, HO2⟩
      case measure => simp [intOf]; omega
    · obtain rfl : k = l.length := by omega
      go_wp2
      go_ret
      rw [← HL.out, fillC_all _ _ HZ.out] at ho
      exact ⟨rfl, ⟨HM.out.symm, ho, Nat.le_trans hhi HO.size, HT.out⟩, HO⟩
set_option maxRecDepth 100000 in
set_option maxHeartbeats 1000000 in
theorem heldFlowS_any (A : Option Addr) (n c : Nat) (l : List Fl) (k0 : Int) (w : World) (ha : FlowsIn w A n (marksFl l k0)) (hk0 : 0 ≤ k0) (hk1 : k0 ≤ 1000000000) :
    Calls Try.prog 25 #[.slice A n c, .int .i64 k0] w fun e w' => e = .returned (.int .i64 (k0 + 2 * l.length)) ∧ w = w' := by
  have hn := ha.len
  rw [marksFl_len] at hn
  have HM := Lib.hid (marksFl_len l k0)
  obtain rfl : n = l.length := ha.1.trans HM.out
  go_enter Try.func25, Try.ntmps25
  go_wp2
  go_loop [1, 5] (fun m i => ∃ k : Nat, k ≤ l.length ∧ i = .int .i64 k ∧ m = .int .i64 (k0 + 2 * k)) (fun _ i => l.length - (intOf i).toNat)
  case atStart => exact ⟨0, by omega, rfl, by go_num⟩
  case round =>
    obtain ⟨k, hk, rfl, rfl⟩ := hrel
    by_cases hlt : k < l.length
    · have hm : k < (marksFl l k0).length := by rw [HM.out]; exact hlt
      obtain ⟨b, o, rfl, _, hc1, hc2⟩ := flow_at ha hm
      rw [marksFl_at _ _ _ hm] at hc1 hc2
      dsimp only at hc1 hc2
      clear hm
      go_wp2
      go_round
      case rel => exact ⟨k + 1, by omega, by go_num, by go_num⟩
      case measure => simp [intOf]; omega
    · obtain rfl : k = l.length := by omega
      go_wp2
      go_ret
      exact ⟨rfl, rfl⟩
end Go.Proofs.Ytdofhdelcendeaa
