/- The walks of OpenOn and PromiseDay. -/
import Derived.Test.YtdofhdelcendeaaKept
namespace Go.Proofs.Ytdofhdelcendeaa
open Go.RowKit
theorem openOn_no {sup prom : List Fl} {d : Int} (h : (isKept sup prom && inB d 0 999) = false) : openOn sup prom d = 0 := by simp [openOn, h]
theorem openOn_yes {sup prom : List Fl} {d : Int} (h1 : isKept sup prom = true) (h2 : inB d 0 999 = true) : openOn sup prom d = openTo sup prom d prom.length := by simp [openOn, h1, h2]
theorem openTo_succ (sup prom : List Fl) (d : Int) (k : Nat) (h : k < prom.length) :
    openTo sup prom d (k + 1) = if d < prom[k].1 then min (openTo sup prom d k) (flowUpTo sup prom[k].1 - flowUpTo prom prom[k].1) else openTo sup prom d k := by
  rw [openTo, getD_at _ _ _ h]

set_option maxRecDepth 100000 in
set_option maxHeartbeats 1000000 in
theorem specOpenOn_any (A B : Option Addr) (n m c c2 : Nat) (sup prom : List Fl) (d : Int) (w : World) (ha : FlowsIn w A n sup) (hb : FlowsIn w B m prom) :
    Calls Try.prog 90 #[.slice A n c, .slice B m c2, .int .i64 d] w fun e w' => e = .returned (.int .i64 (openOn sup prom d)) ∧ Drew w w' := by
  have hn := ha.len
  have hm := hb.len
  obtain rfl := ha.1
  obtain rfl := hb.1
  cases h1 : isKept sup prom
  · go_enter Try.func90, Try.ntmps90
    go_wp2_with fail
    refine (specIsKept_any _ _ _ _ _ _ sup prom _ ha hb).mono ?_
    rintro e w1 ⟨rfl, HD⟩
    go_wp2_with fail
    go_ret
    exact ⟨ret_int (openOn_no (by simp [h1])).symm, HD⟩
  cases h2 : inB d 0 999
  · go_enter Try.func90, Try.ntmps90
    go_wp2_with fail
    refine (specIsKept_any _ _ _ _ _ _ sup prom _ ha hb).mono ?_
    rintro e w1 ⟨rfl, HD⟩
    go_wp2_with fail
    refine (l1In_any _ _ _ _).mono ?_
    rintro e w2 ⟨rfl, rfl⟩
    go_wp2_with fail
    go_ret
    exact ⟨ret_int (openOn_no (by simp [h2])).symm, HD⟩
  obtain ⟨b1, b2⟩ := flowUpTo_bd sup d
  obtain ⟨b3, b4⟩ := flowUpTo_bd prom d
  go_enter Try.func90, Try.ntmps90
  go_wp2_with fail
  refine (specIsKept_any _ _ _ _ _ _ sup prom _ ha hb).mono ?_
  rintro e w1 ⟨rfl, HD⟩
  go_wp2_with fail
  refine (l1In_any _ _ _ _).mono ?_
  rintro e w2 ⟨rfl, rfl⟩
  go_wp2_with fail
  refine (specFlowUpTo_any _ _ _ sup d _ (ha.keep (HD.below _))).mono ?_
  rintro e w2 ⟨rfl, HD2⟩
  have HD12 := HD.trans HD2
  go_wp2_with fail
  refine (specFlowUpTo_any _ _ _ prom d _ (hb.keep (HD12.below _))).mono ?_
  rintro e w3 ⟨rfl, HD3⟩
  have HD13 := HD12.trans HD3
  go_wp2_with fail
  go_loopw [7, 8] (fun s i wr => ∃ k : Nat, k ≤ prom.length ∧ i = .int .i64 k ∧ s = .int .i64 (openTo sup prom d k) ∧ Drew w wr) (fun _ i _ => prom.length - (intOf i).toNat)
  case atStart => exact ⟨0, by omega, rfl, rfl, HD13⟩
  case round =>
    obtain ⟨k, hk, rfl, rfl, HR⟩ := hrel
    by_cases hlt : k < prom.length
    · obtain ⟨b, o, rfl, _, hc1, hc2⟩ := flow_at (hb.keep (HR.below _)) hlt
      have HT := Lib.hid (openTo_succ sup prom d k hlt)
      obtain ⟨b5, b6⟩ := flowUpTo_bd sup prom[k].1
      obtain ⟨b7, b8⟩ := flowUpTo_bd prom prom[k].1
      obtain ⟨b9, b10⟩ := openTo_bd sup prom d k
      by_cases hday : d < prom[k].1
      · go_wp2_with fail
        go_quiet ((first | (go_at_call_of 35 (Value.slice (some ⟨b, o, none⟩) prom.length c2); exact quietD (fun W hW => specFlowUpTo_any _ _ _ prom _ _ (hb.keep ((HR.trans hW).below _)))) | (go_at_call 35; exact quietD (fun W hW => specFlowUpTo_any _ _ _ sup _ _ (ha.keep ((HR.trans hW).below _))))))
        go_wp2
        go_roundw
        case rel => exact ⟨k + 1, by omega, by go_num, by rw [HT.out, min_if, if_pos (by omega)], HR.more _⟩
        case measure => simp [intOf]; omega
      · go_wp2_with fail
        go_roundw
        case rel => exact ⟨k + 1, by omega, by go_num, by rw [HT.out, if_neg (by omega)], HR⟩
        case measure => simp [intOf]; omega
    · obtain rfl : k = prom.length := by omega
      go_wp2_with fail
      go_ret
      exact ⟨ret_int (openOn_yes h1 h2).symm, HR⟩
set_option maxRecDepth 100000 in
set_option maxHeartbeats 1000000 in
theorem implOpenOn_any (A B : Option Addr) (n m c c2 : Nat) (sup prom : List Fl) (d : Int) (w : World) (ha : FlowsIn w A n sup) (hm : FlowsIn w B m prom) :
    Calls Try.prog 58 #[.slice A n c, .slice B m c2, .int .i64 d] w fun e w' => e = .returned (.int .i64 (openOn sup prom d)) ∧ Below w.heap.size w w' := by
  have hn1 := ha.len
  have hn2 := hm.len
  obtain rfl := ha.1
  obtain rfl := hm.1
  have hb : Below w.heap.size w w := Below.refl _ _
  obtain ⟨b1, b2⟩ := flowUpTo_bd sup d
  obtain ⟨b3, b4⟩ := flowUpTo_bd prom d
  go_enter Try.func58, Try.ntmps58
  go_wp2_with fail
  refine (implIsKept_any _ _ _ _ _ _ sup prom _ (ha.keep hb) (hm.keep hb)).mono ?_
  rintro e u1 ⟨rfl, hs⟩
  replace hb := below_on hb hs
  clear hs
  cases g1 : isKept sup prom
  · go_wp2_with fail
    go_ret
    exact ⟨ret_int (openOn_no (by simp [g1])).symm, hb⟩
  go_wp2_with fail
  refine (in_any _ _ _ _).mono ?_
  rintro e v ⟨rfl, rfl⟩
  cases g2 : inB d 0 999
  · go_wp2_with fail
    go_ret
    exact ⟨ret_int (openOn_no (by simp [g2])).symm, hb⟩
  go_wp2_with fail
  refine (implFlowUpTo_any _ _ _ sup d _ (ha.keep hb)).mono ?_
  rintro e v1 ⟨rfl, hs⟩
  replace hb := below_on hb hs
  clear hs
  go_wp2_with fail
  refine (implFlowUpTo_any _ _ _ prom d _ (hm.keep hb)).mono ?_
  rintro e v2 ⟨rfl, hs⟩
  replace hb := below_on hb hs
  clear hs
  go_wp2_with fail
  go_loopw [7, 28] (fun s i wr => ∃ k : Nat, k ≤ prom.length ∧ i = .int .i64 k ∧ s = .int .i64 (openTo sup prom d k) ∧ Below w.heap.size w wr) (fun _ i _ => prom.length - (intOf i).toNat)
  case atStart => exact ⟨0, by omega, rfl, rfl, hb⟩
  case round =>
    obtain ⟨k, hk, rfl, rfl, HR⟩ := hrel
    clear hb
    by_cases hlt : k < prom.length
    · obtain ⟨b, o, rfl, _, hc1, hc2⟩ := flow_at (hm.keep HR) hlt
      have HT := Lib.hid (openTo_succ sup prom d k hlt)
      obtain ⟨b5, b6⟩ := flowUpTo_bd sup prom[k].1
      obtain ⟨b7, b8⟩ := flowUpTo_bd prom prom[k].1
      obtain ⟨b9, b10⟩ := openTo_bd sup prom d k
      have hsz := HR.size
      have HA := HR.alloc hsz (.cells #[.int .i64 prom[k].1, .int .i64 prom[k].2] 51)
      by_cases hday : d < prom[k].1
      · have hwr : IntKind.i64.wrap (flowUpTo sup prom[k].1 - flowUpTo prom prom[k].1) = flowUpTo sup prom[k].1 - flowUpTo prom prom[k].1 := IntWalk.i64_in _ (by omega)
        go_wp2_with fail
        go_region_held3 (fun w' => w'.cell? ⟨wr.heap.size, 0, none⟩ = some (.int .i64 prom[k].1) ∧ wr.heap.size < w'.heap.size ∧ Below w.heap.size w w')
          (first
            | exact ⟨by simp [go_sem], by simp, HA.drew⟩
            | (go_split_ands; refine ⟨?_, ?_, ?_⟩ <;> with_reducible assumption)
            | (go_split_ands; exact ⟨(hb3.cell (by with_reducible assumption)).trans (by with_reducible assumption), Nat.lt_of_lt_of_le (by with_reducible assumption) hb3.size, below_on (by with_reducible assumption) hb3⟩))
          (first
            | ((with_reducible refine (implFlowUpTo_any (some ⟨b, o, none⟩) prom.length c2 prom _ _ (hm.keep ?_)).mono ?_); (go_split_ands; with_reducible assumption); rintro e w3 ⟨rfl, hb3⟩)
            | ((with_reducible refine (implFlowUpTo_any A sup.length c sup _ _ (ha.keep ?_)).mono ?_); (go_split_ands; with_reducible assumption); rintro e w3 ⟨rfl, hb3⟩))
        clear hwr
        go_split_ands
        go_wp2
        go_roundw
        case rel => exact ⟨k + 1, by omega, by go_num, by rw [HT.out, min_if, if_pos (by omega)], by with_reducible assumption⟩
        case measure => simp [intOf]; omega
      · go_wp2_with fail
        go_roundw
        case rel => exact ⟨k + 1, by omega, by go_num, by rw [HT.out, if_neg (by omega)], HA⟩
        case measure => simp [intOf]; omega
    · obtain rfl : k = prom.length := by omega
      go_wp2_with fail
      go_ret
      exact ⟨ret_int (openOn_yes g1 g2).symm, HR⟩
end Go.Proofs.Ytdofhdelcendeaa
