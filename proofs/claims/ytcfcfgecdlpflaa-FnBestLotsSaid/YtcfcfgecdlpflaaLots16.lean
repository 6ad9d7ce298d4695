/- The walk of the reference's lots from starts. -/
import Derived.Test.YtcfcfgecdlpflaaPartImpl
namespace Go.Proofs.Ytcfcfgecdlpflaa
open Go.RowKit

theorem IntsIn.cut {w : World} {b o n : Nat} {l : List Int} (h : IntsIn w (some ⟨b, o, none⟩) n l) (a e : Nat) (hae : a ≤ e) (he : e ≤ l.length) : IntsIn w (some ⟨b, o + a, none⟩) (e - a) ((l.drop a).take (e - a)) := by
  obtain ⟨h1, _, h3, h4⟩ := h
  refine ⟨(cut_len l a e hae he).symm, by simp; omega, by omega, fun hpos => ?_⟩
  obtain ⟨b2, o2, e2, hlt, hc⟩ := h4 (by omega)
  injection e2 with e2
  injection e2 with e3 e4
  subst e3
  subst e4
  refine ⟨b, o + a, rfl, hlt, fun j u hu => ?_⟩
  have hj : j < e - a := by
    have := (List.getElem?_eq_some_iff.1 hu).1
    simp at this; omega
  rw [Nat.add_assoc]
  refine hc (a + j) u ?_
  rw [← hu, List.getElem?_map, List.getElem?_map, List.getElem?_take_of_lt hj, List.getElem?_drop]
set_option maxRecDepth 100000 in
set_option maxHeartbeats 2000000 in
theorem specLots16_any (A B : Option Addr) (n m c d : Nat) (needs : List Int) (S : List Nat) (w : World) (ha : IntsIn w A n needs) (hb : IntsIn w B m (S.map Int.ofNat)) (hcap : needs.length ≤ c) (hP : ∀ x ∈ needs, 0 ≤ x ∧ x ≤ 1000) (h10 : needs.length ≤ 10) (hu : Ups S) (hS : ∀ i ∈ S, i < needs.length) :
    Calls Try.prog 60 #[.slice A n c, .slice B m d] w fun e w' => ∃ g, e = .returned (.slice (some ⟨g, 0, none⟩) needs.length needs.length) ∧ NumRow w' w.heap.size g needs.length needs.length (lots16 needs S needs.length S.length) ∧ Below w.heap.size w w' := by
  have hln := ha.len
  have hlm := hb.len
  have hm : m = S.length := by have := hb.1; simpa using this
  subst hm
  obtain rfl := ha.1
  have HP := Lib.hid hP; clear hP
  have HU := Lib.hid hu; clear hu
  have HS := Lib.hid hS; clear hS
  have hlm2 : S.length ≤ 16777216 := by simpa using hlm
  clear hlm
  go_enter Try.func60, Try.ntmps60
  go_wp2_with (at_make; refine wpList_make_nums rfl (.tmp 9) (.tmp 9) rfl w.heap.size needs.length rfl rfl rfl rfl (by omega) (Nat.le_refl _) ?_; intro w1 hA hA2 hA3)
  go_loopw [6] (fun i wr => ∃ k : Nat, k ≤ S.length ∧ i = .int .i64 k ∧ NumRow wr w.heap.size w.heap.size needs.length needs.length (lots16 needs S needs.length k) ∧ Below w.heap.size w wr) (fun i _ => S.length - (intOf i).toNat)
  case atStart => exact ⟨0, by omega, rfl, hA, hA2⟩
  case round =>
    clear hA hA2 hA3
    obtain ⟨k, hk, rfl, hA, HR⟩ := hrel
    by_cases hlt : k < S.length
    · have hlt2 : k < (S.map Int.ofNat).length := by simpa using hlt
      obtain ⟨b2, o2, rfl, hbl2, hcell2⟩ := (hb.keep HR).at_ hlt2
      have hk0 := HS.out _ (List.getElem_mem hlt)
      obtain ⟨b, o, rfl, hbl, hz0⟩ := (ha.keep HR).at_ (k := 0) (by omega)
      clear hz0
      rw [List.getElem_map] at hcell2
      replace hcell2 : wr.cell? ⟨b2, o2 + k, none⟩ = some (.int .i64 (S[k] : Int)) := hcell2
      have HT := Lib.hid (show lots16 needs S needs.length (k + 1) = (lots16 needs S needs.length k).set S[k] (seg needs S[k] (S.getD (k + 1) needs.length)) by
        simp only [lots16]; rw [List.getD_eq_getElem?_getD, List.getElem?_eq_getElem hlt]; rfl)
      have hcut := fun e (h1 : S[k] ≤ e) (h2 : e ≤ needs.length) => (show Calls Try.prog 94 #[.slice (some ⟨b, o + S[k], none⟩) (e - S[k]) (c - S[k])] wr.drew fun e' w' => e' = .returned (.int .i64 (seg needs S[k] e)) ∧ wr.drew = w' by
        have := specSum_any (some ⟨b, o + S[k], none⟩) (e - S[k]) (c - S[k]) _ wr.drew ((ha.keep HR.drew).cut S[k] e h1 h2) (cut_in HP.out _ _) (by simp; omega)
        rw [cut_seg needs _ _ h1 h2] at this
        exact this)
      have HK := Lib.hid hcut
      clear hcut
      have hne : ¬ c = S[k] := by omega
      by_cases hnx : k + 1 < S.length
      · have hlt3 : k + 1 < (S.map Int.ofNat).length := by simpa using hnx
        obtain ⟨b3, o3, e3, _, hcell3⟩ := (hb.keep HR).at_ hlt3
        obtain ⟨rfl, rfl⟩ : b2 = b3 ∧ o2 = o3 := by simpa using e3
        clear e3
        rw [List.getElem_map] at hcell3
        replace hcell3 : wr.cell? ⟨b2, o2 + (k + 1), none⟩ = some (.int .i64 (S[k + 1] : Int)) := hcell3
        have hk1 := HS.out _ (List.getElem_mem hnx)
        have hk2 := HU.out k (k + 1) hnx (by omega)
        have HG : Hid (S.getD (k + 1) needs.length = S[k + 1]) := by
          show S.getD (k + 1) needs.length = _
          rw [List.getD_eq_getElem?_getD, List.getElem?_eq_getElem hnx]; rfl
        have hE := HK.out S[k + 1] (by omega) (by omega)
        clear HK
        have f1 := hA.frozen S[k]
        have f2 := hA.cell (j := S[k]) (by rw [lots16_len]; omega)
        generalize (lots16 needs S needs.length k)[S[k]]'(by rw [lots16_len]; omega) = old at f2
        have j1 : (0 : Int) ≤ (S[k] : Int) := by omega
        have j2 : (S[k] : Int) < (needs.length : Int) := by omega
        generalize S[k] = a at *
        go_wp2_with fail
        go_region_with (go_at_call 94; refine hE.mono ?_; rintro e w' ⟨rfl, rfl⟩)
        all_goals
          go_wp2
          go_round
          case rel =>
            refine ⟨k + 1, by omega, by go_num, ?_, HR.drew.setCell (Nat.le_refl _) _⟩
            rw [HT.out, HG.out]; exact hA.drew.set a _
          case measure => simp [intOf]; omega
      · have HG : Hid (S.getD (k + 1) needs.length = needs.length) := by
          show S.getD (k + 1) needs.length = _
          rw [List.getD_eq_getElem?_getD, List.getElem?_eq_none (by omega)]; rfl
        have hE := HK.out needs.length (by omega) (Nat.le_refl _)
        clear HK
        have f1 := hA.frozen S[k]
        have f2 := hA.cell (j := S[k]) (by rw [lots16_len]; omega)
        generalize (lots16 needs S needs.length k)[S[k]]'(by rw [lots16_len]; omega) = old at f2
        have j1 : (0 : Int) ≤ (S[k] : Int) := by omega
        have j2 : (S[k] : Int) < (needs.length : Int) := by omega
        generalize S[k] = a at *
        go_wp2_with fail
        go_region_with (go_at_call 94; refine hE.mono ?_; rintro e w' ⟨rfl, rfl⟩)
        all_goals
          go_wp2
          go_round
          case rel =>
            refine ⟨k + 1, by omega, by go_num, ?_, HR.drew.setCell (Nat.le_refl _) _⟩
            rw [HT.out, HG.out]; exact hA.drew.set a _
          case measure => simp [intOf]; omega
    · obtain rfl : k = S.length := by omega
      go_wp2
      go_ret
      exact ⟨_, rfl, hA, HR⟩
end Go.Proofs.Ytcfcfgecdlpflaa
