/- The walks of PegInOrder and PegInTime. -/
import Derived.Test.YtdofhdelcendeaaPegsPlain
import Derived.Test.YtdofhdelcendeaaRowMore
import Derived.Test.YtdofhdelcendeaaFlow
import Derived.StillTailTactics
namespace Go.Proofs.Ytdofhdelcendeaa
open Go.RowKit
theorem fillS_no {t : Bool} {d : Int} {i : Nat} {sup : List Fl} {k : Nat} {used left : Int} (h : ¬ 0 < left ∨ sup.length ≤ k ∨ (t = true ∧ ∃ hk : k < sup.length, d < sup[k].1)) : fillS t d i (sup.drop k) k used left = ([], k, used) := by
  by_cases hk : k < sup.length
  · rw [List.drop_eq_getElem_cons hk, fillS, if_neg]
    rintro ⟨h1, h2⟩
    rcases h with h | h | ⟨h3, _, h4⟩
    · exact h h1
    · omega
    · rcases h2 with h2 | h2
      · rw [h2] at h3; cases h3
      · omega
  · rw [List.drop_eq_nil_of_le (by omega), fillS]
theorem fillS_full {t : Bool} {d : Int} {i : Nat} {sup : List Fl} {k : Nat} {used left : Int} (hk : k < sup.length) (h0 : 0 < left) (ht : t = false ∨ sup[k].1 ≤ d) (hq : sup[k].2 - used ≤ left) :
    fillS t d i (sup.drop k) k used left = (((i : Int), (k : Int), sup[k].2 - used) :: (fillS t d i (sup.drop (k + 1)) (k + 1) 0 (left - (sup[k].2 - used))).1, (fillS t d i (sup.drop (k + 1)) (k + 1) 0 (left - (sup[k].2 - used))).2) := by
  rw [List.drop_eq_getElem_cons hk, fillS, if_pos ⟨h0, ht⟩, if_pos (by omega), show min left (sup[k].2 - used) = sup[k].2 - used by omega]
theorem fillS_part {t : Bool} {d : Int} {i : Nat} {sup : List Fl} {k : Nat} {used left : Int} (hk : k < sup.length) (h0 : 0 < left) (ht : t = false ∨ sup[k].1 ≤ d) (hq : left < sup[k].2 - used) :
    fillS t d i (sup.drop k) k used left = ([((i : Int), (k : Int), left)], k, used + left) := by
  rw [List.drop_eq_getElem_cons hk, fillS, if_pos ⟨h0, ht⟩, if_neg (by omega), show min left (sup[k].2 - used) = left by omega]
theorem pegsS_at {t : Bool} {sup dem : List Fl} {i k : Nat} {used : Int} (hi : i < dem.length) : pegsS t sup (dem.drop i) i k used =
    (fillS t dem[i].1 i (sup.drop k) k used dem[i].2).1 ++ pegsS t sup (dem.drop (i + 1)) (i + 1) (fillS t dem[i].1 i (sup.drop k) k used dem[i].2).2.1 (fillS t dem[i].1 i (sup.drop k) k used dem[i].2).2.2 := by
  rw [List.drop_eq_getElem_cons hi, pegsS]
theorem pegOne : ∀ (a : Pg), ∀ u ∈ pgF.enc a, u.oneCell' = true := by
  intro a u hu
  simp [pgF] at hu
  rcases hu with rfl | rfl | rfl <;> rfl
/-- A round of the reference's outer loop, behind the inner one. -/
theorem pegs_round {t : Bool} {sup dem : List Fl} {i k k2 : Nat} {used used2 left2 : Int} {out out2 T : List Pg} (hi : i < dem.length) (hT : out ++ pegsS t sup (dem.drop i) i k used = T)
    (h1 : out2 ++ (fillS t dem[i].1 i (sup.drop k2) k2 used2 left2).1 = out ++ (fillS t dem[i].1 i (sup.drop k) k used dem[i].2).1) (h2 : (fillS t dem[i].1 i (sup.drop k2) k2 used2 left2).2 = (fillS t dem[i].1 i (sup.drop k) k used dem[i].2).2)
    (h : ¬ 0 < left2 ∨ sup.length ≤ k2 ∨ (t = true ∧ ∃ hk : k2 < sup.length, dem[i].1 < sup[k2].1)) : out2 ++ pegsS t sup (dem.drop (i + 1)) (i + 1) k2 used2 = T := by
  rw [fillS_no h] at h1 h2
  rw [pegsS_at hi, ← List.append_assoc, ← h1, ← h2] at hT
  simpa using hT
set_option maxRecDepth 100000 in
set_option maxHeartbeats 4000000 in
theorem l19Pegs_any (A B : Option Addr) (n m c c2 : Nat) (dem sup : List Fl) (t : Bool) (w : World) (ha : FlowsIn w A n dem) (hm : FlowsIn w B m sup) (g1 : areFlows dem = true) (g2 : areFlows sup = true) :
    Calls Try.prog 78 #[.slice A n c, .slice B m c2, .bool t] w (OneRowOf pgF 49 w (pegsS t sup dem 0 0 0)) := by
  have hn1 := (areFlows_parts g1).2
  have hn2 := (areFlows_parts g2).2
  obtain rfl := ha.1
  obtain rfl := hm.1
  have HL := Lib.hid (pegsS_bd (t := t) g1 g2)
  have HM := Lib.hid (areFlows_mem g1)
  have HS := Lib.hid (areFlows_mem g2)
  have HP := Lib.hid (place_zero (l := sup) (fun f hf => (areFlows_mem g2 f hf).2.1))
  clear g1 g2
  have hb0 := below_alloc w (.cells #[] 49)
  have hv0 : RowVal pgF 49 (w.alloc (.cells #[] 49)) w.heap.size (.slice (some ⟨w.heap.size, 0, none⟩) 0 0) [] := empty_row rfl (Nat.le_refl _)
  have H0 : Hid ([] ++ pegsS t sup (dem.drop 0) 0 0 0 = pegsS t sup dem 0 0 0) := by show _ = _; simp
  go_enter Try.func78, Try.ntmps78
  go_wp2
  go_loopw [7, 8, 9, 10] (fun v kk uu ii wr => ∃ (i k : Nat) (used : Int) (out : List Pg), i ≤ dem.length ∧ ii = .int .i64 i ∧ kk = .int .i64 k ∧ uu = .int .i64 used ∧ Hid (Place sup k used) ∧ Hid (out ++ pegsS t sup (dem.drop i) i k used = pegsS t sup dem 0 0 0) ∧ RowVal pgF 49 wr w.heap.size v out ∧ Below w.heap.size w wr) (fun _ _ _ ii _ => dem.length - (intOf ii).toNat)
  case atStart => exact ⟨0, 0, 0, [], by omega, rfl, rfl, rfl, HP, H0, hv0, hb0⟩
  case round =>
    clear hv0 hb0 H0
    obtain ⟨i, k, used, out, hi, rfl, rfl, rfl, HPL, HT, hrow, HR⟩ := hrel
    by_cases hlt : i < dem.length
    · obtain ⟨b, o, rfl, hbl, hc1, hc2⟩ := flow_at ha hlt
      have hd1 := below_in HR hbl hc1
      have hd2 := below_in HR hbl hc2
      obtain ⟨⟨m1, m2⟩, m3, m4⟩ := HM.out _ (List.getElem_mem hlt)
      have hlb : out.length ≤ 1600 := by have h := HL.out; rw [← HT.out] at h; simp at h; omega
      have HE : Hid (∀ k2 used2 left2 out2, out2 ++ (fillS t dem[i].1 i (sup.drop k2) k2 used2 left2).1 = out ++ (fillS t dem[i].1 i (sup.drop k) k used dem[i].2).1 → out2.length ≤ 1600) := fun k2 used2 left2 out2 h => by
        have h1 := HL.out
        rw [← HT.out, pegsS_at hlt, ← List.append_assoc, ← h] at h1
        simp at h1; omega
      go_wp2
      go_loopw [7, 8, 9, 11] (fun v kk uu ll wr => ∃ (k2 : Nat) (used2 left2 : Int) (out2 : List Pg), kk = .int .i64 k2 ∧ uu = .int .i64 used2 ∧ ll = .int .i64 left2 ∧ 0 ≤ left2 ∧ left2 ≤ 1000000000 ∧ Hid (Place sup k2 used2) ∧ Hid (out2 ++ (fillS t dem[i].1 i (sup.drop k2) k2 used2 left2).1 = out ++ (fillS t dem[i].1 i (sup.drop k) k used dem[i].2).1) ∧
        Hid ((fillS t dem[i].1 i (sup.drop k2) k2 used2 left2).2 = (fillS t dem[i].1 i (sup.drop k) k used dem[i].2).2) ∧ RowVal pgF 49 wr w.heap.size v out2 ∧ Below w.heap.size w wr) (fun _ kk _ ll _ => 2 * (sup.length - (intOf kk).toNat) + min 1 (intOf ll).toNat)
      case atStart => exact ⟨k, used, dem[i].2, out, rfl, rfl, rfl, by omega, by omega, HPL, rfl, rfl, hrow, HR⟩
      case round =>
        clear hrow HR HPL hd1 hd2
        obtain ⟨k2, used2, left2, out2, rfl, rfl, rfl, l0, l1, HPL, H1, H2, hrow, HR⟩ := hrel
        have hlb2 := HE.out _ _ _ _ H1.out
        have hd1 := below_in HR hbl hc1
        obtain ⟨p1, p2, p3⟩ := HPL.out
        by_cases hp : 0 < left2
        · by_cases hk : k2 < sup.length
          · have p4 := p3 hk
            clear p3
            obtain ⟨b2, o2, rfl, hbl2, hs1, hs2⟩ := flow_at hm hk
            have he1 := below_in HR hbl2 hs1
            have he2 := below_in HR hbl2 hs2
            obtain ⟨⟨n1, n2⟩, n3, n4⟩ := HS.out _ (List.getElem_mem hk)
            have hz1 : decide (0 < left2) = true := by simpa using hp
            have hz2 : decide (k2 < sup.length) = true := by simpa using hk
            have hgo : t = false ∨ sup[k2].1 ≤ dem[i].1 ∨ (t = true ∧ dem[i].1 < sup[k2].1) := by
              cases t
              · exact .inl rfl
              · rcases Int.lt_or_le dem[i].1 sup[k2].1 with h | h
                · exact .inr (.inr ⟨rfl, h⟩)
                · exact .inr (.inl h)
            have hstop : (t = true ∧ dem[i].1 < sup[k2].1) → Hid (out2 ++ pegsS t sup (dem.drop (i + 1)) (i + 1) k2 used2 = pegsS t sup dem 0 0 0) := fun h => pegs_round hlt HT.out H1.out H2.out (.inr (.inr ⟨h.1, hk, h.2⟩))
            have HST := Lib.hid hstop
            clear hstop
            by_cases hq : left2 < sup[k2].2 - used2
            · have hpart : (t = false ∨ sup[k2].1 ≤ dem[i].1) → Hid (out2 ++ [((i : Int), (k2 : Int), left2)] ++ (fillS t dem[i].1 i (sup.drop k2) k2 (used2 + left2) 0).1 = out ++ (fillS t dem[i].1 i (sup.drop k) k used dem[i].2).1) ∧
                  Hid ((fillS t dem[i].1 i (sup.drop k2) k2 (used2 + left2) 0).2 = (fillS t dem[i].1 i (sup.drop k) k used dem[i].2).2) := fun ht => by
                have e1 := H1.out
                have e2 := H2.out
                rw [fillS_part hk hp ht hq] at e1 e2
                rw [fillS_no (.inl (by omega))]
                exact ⟨by show _ = _; simpa using e1, by show _ = _; simpa using e2⟩
              have HPA := Lib.hid hpart
              clear hpart
              have HP2 : Hid (Place sup k2 (used2 + left2)) := ⟨by omega, by omega, fun _ => by omega⟩
              have hz4 : ((used2 + left2) == sup[k2].2) = false := by rw [beq_eq_false_iff_ne]; omega
              have hz5 : left2 - left2 = 0 := by omega
              cases t
              · obtain ⟨R1, R2⟩ := HPA.out (.inl rfl)
                go_wp2_with fail
                go_quiet (fail)
                have hrow0 : RowVal pgF 49 (wr.drewN nq) w.heap.size _ out2 := hrow.keep (below_drewN (Below.refl _ _) _)
                have HR0 : Below w.heap.size w (wr.drewN nq) := below_drewN HR _
                clear hrow HR
                generalize wr.drewN nq = W1 at *
                have hsz := HR0.size
                have he4 := below_in HR0 hbl2 hs2
                go_wp2_with (at_builtin; refine wpList_append_one pegElem rfl (.tmp 59) (.tmp 64) rfl rfl (l := out2) hrow0 (by omega) ((i : Int), (k2 : Int), left2) #[.int .i64 i, .int .i64 k2, .int .i64 (left2)] rfl (by simp [Value.oneCell']) W1.heap.size _ rfl rfl hsz ?_; intro v' w2 hrow' hbl' hgr; have HR2 : Below w.heap.size w w2 := HR0.trans (hbl' _ (Nat.le_refl _) hsz); have he3 := below_in HR2 hbl2 hs2)
                go_roundw
                case rel => exact ⟨k2, used2 + left2, 0, out2 ++ [((i : Int), (k2 : Int), left2)], rfl, rfl, by go_num, by omega, by omega, HP2, R1, R2, hrow', HR2⟩
                case measure => simp [intOf]; omega
              · by_cases hday : sup[k2].1 ≤ dem[i].1
                · obtain ⟨R1, R2⟩ := HPA.out (.inr hday)
                  have hz3 : decide (sup[k2].1 ≤ dem[i].1) = true := by simpa using hday
                  go_wp2_with fail
                  go_quiet (fail)
                  have hrow0 : RowVal pgF 49 (wr.drewN nq) w.heap.size _ out2 := hrow.keep (below_drewN (Below.refl _ _) _)
                  have HR0 : Below w.heap.size w (wr.drewN nq) := below_drewN HR _
                  clear hrow HR
                  generalize wr.drewN nq = W1 at *
                  have hsz := HR0.size
                  have he4 := below_in HR0 hbl2 hs2
                  go_wp2_with (at_builtin; refine wpList_append_one pegElem rfl (.tmp 59) (.tmp 64) rfl rfl (l := out2) hrow0 (by omega) ((i : Int), (k2 : Int), left2) #[.int .i64 i, .int .i64 k2, .int .i64 (left2)] rfl (by simp [Value.oneCell']) W1.heap.size _ rfl rfl hsz ?_; intro v' w2 hrow' hbl' hgr; have HR2 : Below w.heap.size w w2 := HR0.trans (hbl' _ (Nat.le_refl _) hsz); have he3 := below_in HR2 hbl2 hs2)
                  go_roundw
                  case rel => exact ⟨k2, used2 + left2, 0, out2 ++ [((i : Int), (k2 : Int), left2)], rfl, rfl, by go_num, by omega, by omega, HP2, R1, R2, hrow', HR2⟩
                  case measure => simp [intOf]; omega
                · have HX := HST.out ⟨rfl, by omega⟩
                  have hz3 : decide (sup[k2].1 ≤ dem[i].1) = false := by simpa using hday
                  go_wp2_with fail
                  go_quiet (fail)
                  go_wp2
                  go_roundw
                  case rel => exact ⟨i + 1, k2, used2, out2, by omega, by go_num, rfl, rfl, HPL, HX, hrow.keep (below_drewN (Below.refl _ _) _), below_drewN HR _⟩
                  case measure => simp [intOf]; omega
            · have hfull : (t = false ∨ sup[k2].1 ≤ dem[i].1) → Hid (out2 ++ [((i : Int), (k2 : Int), sup[k2].2 - used2)] ++ (fillS t dem[i].1 i (sup.drop (k2 + 1)) (k2 + 1) 0 (left2 - (sup[k2].2 - used2))).1 = out ++ (fillS t dem[i].1 i (sup.drop k) k used dem[i].2).1) ∧
                  Hid ((fillS t dem[i].1 i (sup.drop (k2 + 1)) (k2 + 1) 0 (left2 - (sup[k2].2 - used2))).2 = (fillS t dem[i].1 i (sup.drop k) k used dem[i].2).2) := fun ht => by
                have e1 := H1.out
                have e2 := H2.out
                rw [fillS_full hk hp ht (by omega)] at e1 e2
                exact ⟨by show _ = _; simpa using e1, by show _ = _; simpa using e2⟩
              have HPA := Lib.hid hfull
              clear hfull
              have HP2 : Hid (Place sup (k2 + 1) 0) := ⟨by omega, by omega, fun h => by have := (HS.out _ (List.getElem_mem h)).2; omega⟩
              have hz4 : ((used2 + (sup[k2].2 - used2)) == sup[k2].2) = true := by rw [beq_iff_eq]; omega
              have hq2 : sup[k2].2 - used2 ≤ left2 := by omega
              generalize sup[k2].2 = sq at *
              have hz6 : (if sq - used2 < left2 then sq - used2 else left2) = sq - used2 := by split <;> omega
              cases t
              · obtain ⟨R1, R2⟩ := HPA.out (.inl rfl)
                go_wp2_with fail
                go_quiet (fail)
                have hrow0 : RowVal pgF 49 (wr.drewN nq) w.heap.size _ out2 := hrow.keep (below_drewN (Below.refl _ _) _)
                have HR0 : Below w.heap.size w (wr.drewN nq) := below_drewN HR _
                clear hrow HR
                generalize wr.drewN nq = W1 at *
                have hsz := HR0.size
                have he4 := below_in HR0 hbl2 hs2
                go_wp2_with (at_builtin; refine wpList_append_one pegElem rfl _ _ rfl rfl (l := out2) hrow0 (by omega) ((i : Int), (k2 : Int), (sq - used2)) #[.int .i64 i, .int .i64 k2, .int .i64 (sq - used2)] rfl (by simp [Value.oneCell']) W1.heap.size _ rfl rfl hsz ?_; intro v' w2 hrow' hbl' hgr; have HR2 : Below w.heap.size w w2 := HR0.trans (hbl' _ (Nat.le_refl _) hsz); have he3 := below_in HR2 hbl2 hs2)
                go_roundw
                case rel => exact ⟨k2 + 1, 0, left2 - (sq - used2), out2 ++ [((i : Int), (k2 : Int), sq - used2)], by go_num, rfl, rfl, by omega, by omega, HP2, R1, R2, hrow', HR2⟩
                case measure => simp [intOf]; omega
              · by_cases hday : sup[k2].1 ≤ dem[i].1
                · obtain ⟨R1, R2⟩ := HPA.out (.inr hday)
                  have hz3 : decide (sup[k2].1 ≤ dem[i].1) = true := by simpa using hday
                  go_wp2_with fail
                  go_quiet (fail)
                  have hrow0 : RowVal pgF 49 (wr.drewN nq) w.heap.size _ out2 := hrow.keep (below_drewN (Below.refl _ _) _)
                  have HR0 : Below w.heap.size w (wr.drewN nq) := below_drewN HR _
                  clear hrow HR
                  generalize wr.drewN nq = W1 at *
                  have hsz := HR0.size
                  have he4 := below_in HR0 hbl2 hs2
                  go_wp2_with (at_builtin; refine wpList_append_one pegElem rfl _ _ rfl rfl (l := out2) hrow0 (by omega) ((i : Int), (k2 : Int), (sq - used2)) #[.int .i64 i, .int .i64 k2, .int .i64 (sq - used2)] rfl (by simp [Value.oneCell']) W1.heap.size _ rfl rfl hsz ?_; intro v' w2 hrow' hbl' hgr; have HR2 : Below w.heap.size w w2 := HR0.trans (hbl' _ (Nat.le_refl _) hsz); have he3 := below_in HR2 hbl2 hs2)
                  go_roundw
                  case rel => exact ⟨k2 + 1, 0, left2 - (sq - used2), out2 ++ [((i : Int), (k2 : Int), sq - used2)], by go_num, rfl, rfl, by omega, by omega, HP2, R1, R2, hrow', HR2⟩
                  case measure => simp [intOf]; omega
                · have HX := HST.out ⟨rfl, by omega⟩
                  have hz3 : decide (sup[k2].1 ≤ dem[i].1) = false := by simpa using hday
                  go_wp2_with fail
                  go_quiet (fail)
                  go_wp2
                  go_roundw
                  case rel => exact ⟨i + 1, k2, used2, out2, by omega, by go_num, rfl, rfl, HPL, HX, hrow.keep (below_drewN (Below.refl _ _) _), below_drewN HR _⟩
                  case measure => simp [intOf]; omega
          · clear p3
            have hz1 : decide (0 < left2) = true := by simpa using hp
            have hz2 : decide (k2 < sup.length) = false := by simpa using hk
            have HX := Lib.hid (pegs_round hlt HT.out H1.out H2.out (.inr (.inl (by omega))))
            go_wp2_with fail
            go_quiet (fail)
            go_wp2
            go_roundw
            case rel => exact ⟨i + 1, k2, used2, out2, by omega, by go_num, rfl, rfl, HPL, HX, hrow.keep (below_drewN (Below.refl _ _) _), below_drewN HR _⟩
            case measure => simp [intOf]; omega
        · obtain rfl : left2 = 0 := by omega
          clear p3
          have HX := Lib.hid (pegs_round hlt HT.out H1.out H2.out (.inl (by omega)))
          go_wp2_with fail
          go_quiet (fail)
          go_wp2
          go_roundw
          case rel => exact ⟨i + 1, k2, used2, out2, by omega, by go_num, rfl, rfl, HPL, HX, hrow.keep (below_drewN (Below.refl _ _) _), below_drewN HR _⟩
          case measure => simp [intOf]; omega
    · obtain rfl : i = dem.length := by omega
      have h := HT.out
      rw [List.drop_length, pegsS, List.append_nil] at h
      have HX := Lib.hid h
      clear h
      go_wp2
      go_ret
      rw [HX.out] at hrow
      exact oneRowOf_mk hrow HR
end Go.Proofs.Ytdofhdelcendeaa
