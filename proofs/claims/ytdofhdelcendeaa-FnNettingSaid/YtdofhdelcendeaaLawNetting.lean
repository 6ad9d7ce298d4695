/- The walk of the law FnNetting: for every input it returns true, and no memory that was there is written. -/
import Derived.Test.YtdofhdelcendeaaBytes
import Derived.Test.YtdofhdelcendeaaDrawNet
import Derived.Test.YtdofhdelcendeaaNetLaw
import Derived.Test.YtdofhdelcendeaaMerge
namespace Go.Proofs.Ytdofhdelcendeaa
open Go.RowKit
theorem lessOne_len (m : List Fl) (k : Nat) : (lessOne m k).length ≤ 2 * m.length + 1 := by
  unfold lessOne
  split <;> simp <;> omega
def lessTail (m : List Fl) (k : Nat) (l : List Fl) : List Fl := l ++ m.drop (k + 1)
theorem lessOne_more (m : List Fl) (k : Nat) (hk : k < m.length) (h : 1 < m[k].2) : lessOne m k = lessTail m k (m.take k ++ [(m[k].1, m[k].2 - 1)]) := by
  unfold lessOne lessTail; rw [getD_at _ _ _ hk, if_pos h]
theorem lessOne_none (m : List Fl) (k : Nat) (hk : k < m.length) (h : ¬ 1 < m[k].2) : lessOne m k = lessTail m k (m.take k) := by
  unfold lessOne lessTail; rw [getD_at _ _ _ hk, if_neg h]
set_option maxRecDepth 100000 in
set_option maxHeartbeats 4000000 in
theorem lawNetting {w : World} (A : Option Addr) (n c : Nat) (l : List Int) (hl : n ≤ 1048576 → RowsIn byteF w A n l ∧ ∀ x ∈ l, okByte x) (hn : n ≤ 9223372036854775807) :
    Calls Try.prog 10 #[.slice A n c] w fun e w' => e = .returned (.bool true) ∧ Below w.heap.size w w' := by
  by_cases big : 1048576 < n
  · go_enter Try.func10, Try.ntmps10
    go_wp2_with fail
    refine (big_yes _ _ _ _ big hn).mono ?_
    rintro e w1 ⟨rfl, rfl⟩
    go_wp2_with fail
    go_ret
    exact ⟨rfl, Below.refl _ _⟩
  obtain ⟨hi, hok⟩ := hl (by omega)
  have hby := bytesAt_of hi hok
  clear hl hi hok
  go_enter Try.func10, Try.ntmps10
  go_wp2_with fail
  refine (big_no _ _ _ _ big).mono ?_
  rintro e w1 ⟨rfl, rfl⟩
  go_wp2_with fail
  refine (DrawNetNeeds_any _ _ _ _ hby).mono ?_
  rintro e w1 ⟨stock, safety, a, b, A1, c1, A2, c2, rfl, l1, l2, oa, ob, hb1⟩
  have ra := oa.rows (by omega)
  have rb := ob.rows (by omega)
  clear oa ob hby
  obtain ⟨m, is, hN⟩ : ∃ m is, netNeeds a b stock safety = (m, is) := ⟨_, _, rfl⟩
  have hml : m.length ≤ 16777216 := by have := netNeeds_len a b stock safety; rw [hN] at this; exact this
  have hm0 : is = false → m = [] := fun h => by have := netNeeds_nil (rcv := a) (dem := b) (stock := stock) (safety := safety) (by rw [hN]; exact h); rw [hN] at this; exact this
  have K1 := implNetNeeds_any A1 A2 a.length b.length c1 c2 a b stock safety w1 ra rb
  rw [hN] at K1
  have HN := Lib.hid hN
  clear hN
  go_wp2_with fail
  refine K1.mono ?_
  rintro e w2 ⟨X1, C1, rfl, o1, hb2⟩
  obtain ⟨hcap, hcap2⟩ := own_cap o1
  have r1 := o1.rows (by simp only; omega)
  have K2 := specNetNeeds_any A1 A2 a.length b.length c1 c2 a b stock safety w2 (ra.keep hb2) (rb.keep hb2)
  rw [HN.out] at K2
  clear o1 K1
  dsimp only at r1 hcap ⊢
  go_wp2_with fail
  refine K2.mono ?_
  rintro e w3 ⟨X2, C2, rfl, _, hb3⟩
  dsimp only
  cases is
  · obtain rfl := hm0 rfl
    go_wp2_with fail
    go_ret
    exact ⟨rfl, below_on (below_on hb1 hb2) hb3⟩
  clear hm0
  obtain ⟨e1, e2, e3, e4, e5, e6⟩ := netNeeds_all HN.out
  have hm40 := (areFlows_parts e5).2
  have HMM := Lib.hid (areFlows_mem e5)
  have HIF : Hid (isCovered a b stock safety = ((m.length : Int) == 0)) := by
    show _ = _
    rw [net_iff HN.out, Bool.eq_iff_iff, decide_eq_true_eq, beq_iff_eq]
    omega
  clear e1 e2 e3 e4 e5 e6
  have ra3 := (ra.keep hb2).keep hb3
  have rb3 := (rb.keep hb2).keep hb3
  have r13 := r1.keep hb3
  have HB3 := below_on (below_on hb1 hb2) hb3
  clear ra rb r1 hb2 hb3 hb1 K2
  obtain ⟨all, fits, hA⟩ : ∃ all fits, mergeFlows a m = (all, fits) := ⟨_, _, rfl⟩
  have hall : all.length ≤ 16777216 := by have := mergeFlows_len a m; rw [hA] at this; exact this
  have HCO : Hid (fits = true → isCovered all b stock safety = true) := fun h => by subst h; exact net_covered HN.out hA
  have HJU : Hid (fits = true → ∀ f ∈ m, projected all b stock f.1 = safety) := fun h => by subst h; exact net_just HN.out hA
  have K4 := specMergeFlows_any A1 X1 a.length m.length c1 C1 a m w3 ra3 r13
  rw [hA] at K4
  clear hA
  go_wp2_with fail
  refine K4.mono ?_
  rintro e w4 ⟨X4, C4, rfl, o4, hb4⟩
  have rall := o4.rows (by simp only; omega)
  dsimp only at rall ⊢
  have ra4 := ra3.keep hb4
  have rb4 := rb3.keep hb4
  have r14 := r13.keep hb4
  have HB4 := below_on HB3 hb4
  clear ra3 rb3 r13 hb4 HB3 K4 o4
  have hz0 : (((m.length : Int) == 0) != ((m.length : Int) == 0)) = false := by simp
  have HB0 : Below w4.heap.size w4 w4 := Below.refl _ _
  have ra0 := ra4
  have rb0 := rb4
  cases fits
  · go_wp2_with fail
    refine (specIsCovered_any _ _ _ _ _ _ a b stock safety _ ra4 rb4).mono ?_
    rintro e w6 ⟨rfl, hb6⟩
    rw [HIF.out]
    replace HB0 := HB0.trans (hb6.below _)
    clear hb6 ra0 rb0 HCO HJU
    go_wp2_with fail
    go_loopw [13] (fun i wr => ∃ k : Nat, k ≤ m.length ∧ i = .int .i64 k ∧ Below w4.heap.size w4 wr) (fun i _ => m.length - (intOf i).toNat)
    case atStart => exact ⟨0, by omega, rfl, HB0⟩
    case round =>
      clear HB0
      obtain ⟨k, hk, rfl, HR⟩ := hrel
      by_cases hlt : k < m.length
      · obtain ⟨_, q1, q2⟩ := HMM.out _ (List.getElem_mem hlt)
        obtain ⟨b1, o1, rfl, hbl, hc0, hc1⟩ := flow_at r14 hlt
        have hkC : k ≤ C1 := by omega
        have hsz := HR.size
        have HTK : Hid (∀ W, Below w4.heap.size w4 W → RowsIn flF W (some ⟨b1, o1, none⟩) k (m.take k)) := fun W hW => (r14.keep hW).take (by omega)
        by_cases hq1 : 1 < m[k].2
        · have HLQ : Hid (lessOne m k = lessTail m k (m.take k ++ [(m[k].1, m[k].2 - 1)])) := lessOne_more m k hlt hq1
          go_wp2_with (at_builtin; refine wpList_append_copy flowElem flOne rfl _ _ rfl rfl (lo := w4.heap.size) (empty_row rfl hsz) rfl (HTK.out _ (HR.alloc hsz _)) (by simp; omega) ?_; intro A5 c5 w5 ho5 hbl5; have HR5 : Below w4.heap.size w4 w5 := (HR.alloc hsz _).trans (hbl5 _ (Nat.le_refl _) (by simp; omega)); have hy0 := below_in HR5 hbl hc0; have hy1 := below_in HR5 hbl hc1)
          have m3 : IntKind.i64.wrap (m[k].2 - 1) = m[k].2 - 1 := IntWalk.i64_in _ (by omega)
          have hv5 : RowVal flF 51 ((w5.alloc (.cells #[.int .i64 m[k].1, .int .i64 (m[k].2 - 1)] 51)).drew) w4.heap.size (.slice A5 k c5) (m.take k) := RowVal.drew (RowVal.alloc ho5.val _)
          have hsrc : RowsIn flF ((w5.alloc (.cells #[.int .i64 m[k].1, .int .i64 (m[k].2 - 1)] 51)).drew) (some ⟨w5.heap.size, 0, none⟩) 1 [(m[k].1, m[k].2 - 1)] := RowsIn.drew (new_row w5 rfl m[k].1 (m[k].2 - 1))
          have hsz5 := HR5.size
          have HR6 : Below w4.heap.size w4 ((w5.alloc (.cells #[.int .i64 m[k].1, .int .i64 (m[k].2 - 1)] 51)).drew) := (HR5.alloc hsz5 _).drew
          have hsz6 := HR6.size
          have hlt6 : (m.take k).length ≤ 16777216 := by simp; omega
          clear hbl5 ho5
          go_region_law (refine step_append_rows flowElem flOne rfl (.tmp 93) (.tmp 106) rfl ((w5.alloc (.cells #[.int .i64 m[k].1, .int .i64 (m[k].2 - 1)] 51)).drew) (lo := w4.heap.size) rfl hv5 hlt6 rfl hsrc hsz6 ?_; intro v7 W hless hg7; have HRW : Below w4.heap.size w4 W := HR6.trans (RowVal.below hv5 hg7 (Nat.le_refl _) hsz6); have hszW := HRW.size; clear hg7)
          all_goals
            clear m3 hv5 hsrc HR6 hsz6 hy0 hy1 hlt6
            have hLLl : (m.take k ++ [(m[k].1, m[k].2 - 1)]).length ≤ 16777216 := by simp; omega
            generalize m.take k ++ [(m[k].1, m[k].2 - 1)] = LL at HLQ hLLl hless

            by_cases hlast : k + 1 < m.length
            · have hck : ¬ C1 = k + 1 := by omega
              have HDR : Hid (∀ W, Below w4.heap.size w4 W → RowsIn flF W (some ⟨b1, o1 + (k + 1) * 2, none⟩) (m.length - (k + 1)) (m.drop (k + 1))) := fun W hW => by
                have := (r14.keep hW).drop (k := k + 1) (cap := C1) (by omega) hcap
                rw [if_neg hck] at this
                simp only [Option.map_some, Addr.add_lit] at this
                exact this
              have HLE : Hid (LL ++ (m.drop (k + 1)) = lessOne m k) := by show _ = _; rw [HLQ.out]; unfold lessTail; rfl
              go_wp2_with (at_builtin; refine wpList_append_src flowElem flOne rfl _ _ rfl rfl hless hLLl rfl (l2 := (m.drop (k + 1))) (HDR.out _ HRW) hszW ?_; intro v8 w8 hrow8 hbl8)
              have HR8 := HRW.trans (hbl8 _ (Nat.le_refl _) hszW)
              obtain ⟨A8, c8, rfl, ho8⟩ := hrow8.form
              rw [HLE.out] at ho8
              rw [HLE.out]
              have r8 := ho8.rows (by have := lessOne_len m k; omega)
              obtain ⟨ms, few, hMS⟩ : ∃ ms few, mergeFlows a (lessOne m k) = (ms, few) := ⟨_, _, rfl⟩
              have hmsl : ms.length ≤ 16777216 := by have := mergeFlows_len a (lessOne m k); rw [hMS] at this; exact this
              have K8 := specMergeFlows_any A1 A8 a.length (lessOne m k).length c1 c8 a (lessOne m k) w8 (ra4.keep HR8) r8
              rw [hMS] at K8
              have HMS := Lib.hid hMS
              clear hMS
              go_wp2_with fail
              refine K8.mono ?_
              rintro e w9 ⟨X9, C9, rfl, o9, hb9⟩
              have HR9 := below_on HR8 hb9
              have r9 := o9.rows (by simp only; omega)
              dsimp only at r9 ⊢
              clear K8 o9
              cases few
              · go_wp2_with fail
                go_roundw
                case rel => exact ⟨k + 1, by omega, by go_num, HR9⟩
                case measure => simp [intOf]; omega
              · have HIC := Lib.hid (net_less HN.out k hlt HMS.out)
                go_wp2_with fail
                refine (specIsCovered_any _ _ _ _ _ _ ms b stock safety _ r9 (rb4.keep HR9)).mono ?_
                rintro e w10 ⟨rfl, hb10⟩
                have HR10 := HR9.trans (hb10.below _)
                rw [HIC.out]
                go_wp2_with fail
                go_roundw
                case rel => exact ⟨k + 1, by omega, by go_num, HR10⟩
                case measure => simp [intOf]; omega

            · have hke : k + 1 = m.length := by omega
              have hdn : m.drop (k + 1) = [] := List.drop_eq_nil_of_le (by omega)
              have hml0 : m.length - (k + 1) = 0 := by omega
              by_cases hck : C1 = k + 1
              · have hckT : (C1 = k + 1) = True := eq_true hck
                clear hck
                have HLE : Hid (LL ++ [] = lessOne m k) := by show _ = _; rw [HLQ.out]; unfold lessTail; rw [hdn]
                clear hdn hke
                go_wp2_with (at_builtin; refine wpList_append_src flowElem flOne rfl _ _ rfl rfl hless hLLl rfl (l2 := []) (RowsIn.nil_ _ _) hszW ?_; intro v8 w8 hrow8 hbl8)
                have HR8 := HRW.trans (hbl8 _ (Nat.le_refl _) hszW)
                obtain ⟨A8, c8, rfl, ho8⟩ := hrow8.form
                rw [HLE.out] at ho8
                rw [HLE.out]
                have r8 := ho8.rows (by have := lessOne_len m k; omega)
                obtain ⟨ms, few, hMS⟩ : ∃ ms few, mergeFlows a (lessOne m k) = (ms, few) := ⟨_, _, rfl⟩
                have hmsl : ms.length ≤ 16777216 := by have := mergeFlows_len a (lessOne m k); rw [hMS] at this; exact this
                have K8 := specMergeFlows_any A1 A8 a.length (lessOne m k).length c1 c8 a (lessOne m k) w8 (ra4.keep HR8) r8
                rw [hMS] at K8
                have HMS := Lib.hid hMS
                clear hMS
                go_wp2_with fail
                refine K8.mono ?_
                rintro e w9 ⟨X9, C9, rfl, o9, hb9⟩
                have HR9 := below_on HR8 hb9
                have r9 := o9.rows (by simp only; omega)
                dsimp only at r9 ⊢
                clear K8 o9
                cases few
                · go_wp2_with fail
                  go_roundw
                  case rel => exact ⟨k + 1, by omega, by go_num, HR9⟩
                  case measure => simp [intOf]; omega
                · have HIC := Lib.hid (net_less HN.out k hlt HMS.out)
                  go_wp2_with fail
                  refine (specIsCovered_any _ _ _ _ _ _ ms b stock safety _ r9 (rb4.keep HR9)).mono ?_
                  rintro e w10 ⟨rfl, hb10⟩
                  have HR10 := HR9.trans (hb10.below _)
                  rw [HIC.out]
                  go_wp2_with fail
                  go_roundw
                  case rel => exact ⟨k + 1, by omega, by go_num, HR10⟩
                  case measure => simp [intOf]; omega

              · have HLE : Hid (LL ++ [] = lessOne m k) := by show _ = _; rw [HLQ.out]; unfold lessTail; rw [hdn]
                clear hdn hke
                go_wp2_with (at_builtin; refine wpList_append_src flowElem flOne rfl _ _ rfl rfl hless hLLl rfl (l2 := []) (RowsIn.nil_ _ _) hszW ?_; intro v8 w8 hrow8 hbl8)
                have HR8 := HRW.trans (hbl8 _ (Nat.le_refl _) hszW)
                obtain ⟨A8, c8, rfl, ho8⟩ := hrow8.form
                rw [HLE.out] at ho8
                rw [HLE.out]
                have r8 := ho8.rows (by have := lessOne_len m k; omega)
                obtain ⟨ms, few, hMS⟩ : ∃ ms few, mergeFlows a (lessOne m k) = (ms, few) := ⟨_, _, rfl⟩
                have hmsl : ms.length ≤ 16777216 := by have := mergeFlows_len a (lessOne m k); rw [hMS] at this; exact this
                have K8 := specMergeFlows_any A1 A8 a.length (lessOne m k).length c1 c8 a (lessOne m k) w8 (ra4.keep HR8) r8
                rw [hMS] at K8
                have HMS := Lib.hid hMS
                clear hMS
                go_wp2_with fail
                refine K8.mono ?_
                rintro e w9 ⟨X9, C9, rfl, o9, hb9⟩
                have HR9 := below_on HR8 hb9
                have r9 := o9.rows (by simp only; omega)
                dsimp only at r9 ⊢
                clear K8 o9
                cases few
                · go_wp2_with fail
                  go_roundw
                  case rel => exact ⟨k + 1, by omega, by go_num, HR9⟩
                  case measure => simp [intOf]; omega
                · have HIC := Lib.hid (net_less HN.out k hlt HMS.out)
                  go_wp2_with fail
                  refine (specIsCovered_any _ _ _ _ _ _ ms b stock safety _ r9 (rb4.keep HR9)).mono ?_
                  rintro e w10 ⟨rfl, hb10⟩
                  have HR10 := HR9.trans (hb10.below _)
                  rw [HIC.out]
                  go_wp2_with fail
                  go_roundw
                  case rel => exact ⟨k + 1, by omega, by go_num, HR10⟩
                  case measure => simp [intOf]; omega


        · have HLQ : Hid (lessOne m k = lessTail m k (m.take k)) := lessOne_none m k hlt hq1
          have hLLl : (m.take k).length ≤ 16777216 := by simp; omega
          have HLT : Hid (∀ (A5 : Option Addr) (c5 : Nat) (W : World), OwnRows flF 51 W w4.heap.size A5 k c5 (m.take k) → RowVal flF 51 W w4.heap.size (.slice A5 k c5) (m.take k)) := fun _ _ _ h => h.val
          generalize hLL : m.take k = LL at *
          clear hLL

          by_cases hlast : k + 1 < m.length
          · have hck : ¬ C1 = k + 1 := by omega
            have HDR : Hid (∀ W, Below w4.heap.size w4 W → RowsIn flF W (some ⟨b1, o1 + (k + 1) * 2, none⟩) (m.length - (k + 1)) (m.drop (k + 1))) := fun W hW => by
              have := (r14.keep hW).drop (k := k + 1) (cap := C1) (by omega) hcap
              rw [if_neg hck] at this
              simp only [Option.map_some, Addr.add_lit] at this
              exact this
            have HLE : Hid (LL ++ (m.drop (k + 1)) = lessOne m k) := by show _ = _; rw [HLQ.out]; unfold lessTail; rfl
            go_wp2_with (first | (at_builtin; refine wpList_append_copy flowElem flOne rfl _ _ rfl rfl (lo := w4.heap.size) (empty_row rfl hsz) rfl (HTK.out _ (HR.alloc hsz _)) (by simp; omega) ?_; intro A5 c5 W ho5 hbl5; have HRW : Below w4.heap.size w4 W := (HR.alloc hsz _).trans (hbl5 _ (Nat.le_refl _) (by simp; omega)); have hy1 := below_in HRW hbl hc1; have hless := HLT.out _ _ _ ho5; have hszW := HRW.size) | (at_builtin; refine wpList_append_src flowElem flOne rfl _ _ rfl rfl hless hLLl rfl (l2 := (m.drop (k + 1))) (HDR.out _ HRW) hszW ?_; intro v8 w8 hrow8 hbl8))
            have HR8 := HRW.trans (hbl8 _ (Nat.le_refl _) hszW)
            obtain ⟨A8, c8, rfl, ho8⟩ := hrow8.form
            rw [HLE.out] at ho8
            rw [HLE.out]
            have r8 := ho8.rows (by have := lessOne_len m k; omega)
            obtain ⟨ms, few, hMS⟩ : ∃ ms few, mergeFlows a (lessOne m k) = (ms, few) := ⟨_, _, rfl⟩
            have hmsl : ms.length ≤ 16777216 := by have := mergeFlows_len a (lessOne m k); rw [hMS] at this; exact this
            have K8 := specMergeFlows_any A1 A8 a.length (lessOne m k).length c1 c8 a (lessOne m k) w8 (ra4.keep HR8) r8
            rw [hMS] at K8
            have HMS := Lib.hid hMS
            clear hMS
            go_wp2_with fail
            refine K8.mono ?_
            rintro e w9 ⟨X9, C9, rfl, o9, hb9⟩
            have HR9 := below_on HR8 hb9
            have r9 := o9.rows (by simp only; omega)
            dsimp only at r9 ⊢
            clear K8 o9
            cases few
            · go_wp2_with fail
              go_roundw
              case rel => exact ⟨k + 1, by omega, by go_num, HR9⟩
              case measure => simp [intOf]; omega
            · have HIC := Lib.hid (net_less HN.out k hlt HMS.out)
              go_wp2_with fail
              refine (specIsCovered_any _ _ _ _ _ _ ms b stock safety _ r9 (rb4.keep HR9)).mono ?_
              rintro e w10 ⟨rfl, hb10⟩
              have HR10 := HR9.trans (hb10.below _)
              rw [HIC.out]
              go_wp2_with fail
              go_roundw
              case rel => exact ⟨k + 1, by omega, by go_num, HR10⟩
              case measure => simp [intOf]; omega

          · have hke : k + 1 = m.length := by omega
            have hdn : m.drop (k + 1) = [] := List.drop_eq_nil_of_le (by omega)
            have hml0 : m.length - (k + 1) = 0 := by omega
            by_cases hck : C1 = k + 1
            · have hckT : (C1 = k + 1) = True := eq_true hck
              clear hck
              have HLE : Hid (LL ++ [] = lessOne m k) := by show _ = _; rw [HLQ.out]; unfold lessTail; rw [hdn]
              clear hdn hke
              go_wp2_with (first | (at_builtin; refine wpList_append_copy flowElem flOne rfl _ _ rfl rfl (lo := w4.heap.size) (empty_row rfl hsz) rfl (HTK.out _ (HR.alloc hsz _)) (by simp; omega) ?_; intro A5 c5 W ho5 hbl5; have HRW : Below w4.heap.size w4 W := (HR.alloc hsz _).trans (hbl5 _ (Nat.le_refl _) (by simp; omega)); have hy1 := below_in HRW hbl hc1; have hless := HLT.out _ _ _ ho5; have hszW := HRW.size) | (at_builtin; refine wpList_append_src flowElem flOne rfl _ _ rfl rfl hless hLLl rfl (l2 := []) (RowsIn.nil_ _ _) hszW ?_; intro v8 w8 hrow8 hbl8))
              have HR8 := HRW.trans (hbl8 _ (Nat.le_refl _) hszW)
              obtain ⟨A8, c8, rfl, ho8⟩ := hrow8.form
              rw [HLE.out] at ho8
              rw [HLE.out]
              have r8 := ho8.rows (by have := lessOne_len m k; omega)
              obtain ⟨ms, few, hMS⟩ : ∃ ms few, mergeFlows a (lessOne m k) = (ms, few) := ⟨_, _, rfl⟩
              have hmsl : ms.length ≤ 16777216 := by have := mergeFlows_len a (lessOne m k); rw [hMS] at this; exact this
              have K8 := specMergeFlows_any A1 A8 a.length (lessOne m k).length c1 c8 a (lessOne m k) w8 (ra4.keep HR8) r8
              rw [hMS] at K8
              have HMS := Lib.hid hMS
              clear hMS
              go_wp2_with fail
              refine K8.mono ?_
              rintro e w9 ⟨X9, C9, rfl, o9, hb9⟩
              have HR9 := below_on HR8 hb9
              have r9 := o9.rows (by simp only; omega)
              dsimp only at r9 ⊢
              clear K8 o9
              cases few
              · go_wp2_with fail
                go_roundw
                case rel => exact ⟨k + 1, by omega, by go_num, HR9⟩
                case measure => simp [intOf]; omega
              · have HIC := Lib.hid (net_less HN.out k hlt HMS.out)
                go_wp2_with fail
                refine (specIsCovered_any _ _ _ _ _ _ ms b stock safety _ r9 (rb4.keep HR9)).mono ?_
                rintro e w10 ⟨rfl, hb10⟩
                have HR10 := HR9.trans (hb10.below _)
                rw [HIC.out]
                go_wp2_with fail
                go_roundw
                case rel => exact ⟨k + 1, by omega, by go_num, HR10⟩
                case measure => simp [intOf]; omega

            · have HLE : Hid (LL ++ [] = lessOne m k) := by show _ = _; rw [HLQ.out]; unfold lessTail; rw [hdn]
              clear hdn hke
              go_wp2_with (first | (at_builtin; refine wpList_append_copy flowElem flOne rfl _ _ rfl rfl (lo := w4.heap.size) (empty_row rfl hsz) rfl (HTK.out _ (HR.alloc hsz _)) (by simp; omega) ?_; intro A5 c5 W ho5 hbl5; have HRW : Below w4.heap.size w4 W := (HR.alloc hsz _).trans (hbl5 _ (Nat.le_refl _) (by simp; omega)); have hy1 := below_in HRW hbl hc1; have hless := HLT.out _ _ _ ho5; have hszW := HRW.size) | (at_builtin; refine wpList_append_src flowElem flOne rfl _ _ rfl rfl hless hLLl rfl (l2 := []) (RowsIn.nil_ _ _) hszW ?_; intro v8 w8 hrow8 hbl8))
              have HR8 := HRW.trans (hbl8 _ (Nat.le_refl _) hszW)
              obtain ⟨A8, c8, rfl, ho8⟩ := hrow8.form
              rw [HLE.out] at ho8
              rw [HLE.out]
              have r8 := ho8.rows (by have := lessOne_len m k; omega)
              obtain ⟨ms, few, hMS⟩ : ∃ ms few, mergeFlows a (lessOne m k) = (ms, few) := ⟨_, _, rfl⟩
              have hmsl : ms.length ≤ 16777216 := by have := mergeFlows_len a (lessOne m k); rw [hMS] at this; exact this
              have K8 := specMergeFlows_any A1 A8 a.length (lessOne m k).length c1 c8 a (lessOne m k) w8 (ra4.keep HR8) r8
              rw [hMS] at K8
              have HMS := Lib.hid hMS
              clear hMS
              go_wp2_with fail
              refine K8.mono ?_
              rintro e w9 ⟨X9, C9, rfl, o9, hb9⟩
              have HR9 := below_on HR8 hb9
              have r9 := o9.rows (by simp only; omega)
              dsimp only at r9 ⊢
              clear K8 o9
              cases few
              · go_wp2_with fail
                go_roundw
                case rel => exact ⟨k + 1, by omega, by go_num, HR9⟩
                case measure => simp [intOf]; omega
              · have HIC := Lib.hid (net_less HN.out k hlt HMS.out)
                go_wp2_with fail
                refine (specIsCovered_any _ _ _ _ _ _ ms b stock safety _ r9 (rb4.keep HR9)).mono ?_
                rintro e w10 ⟨rfl, hb10⟩
                have HR10 := HR9.trans (hb10.below _)
                rw [HIC.out]
                go_wp2_with fail
                go_roundw
                case rel => exact ⟨k + 1, by omega, by go_num, HR10⟩
                case measure => simp [intOf]; omega


      · go_wp2_with fail
        go_ret
        exact ⟨rfl, below_on HB4 HR⟩
  · go_wp2_with fail
    refine (implIsCovered_any _ _ _ _ _ _ all b stock safety _ rall rb4).mono ?_
    rintro e w5 ⟨rfl, hb5⟩
    rw [HCO.out (by trivial)]
    replace HB0 := below_on HB0 hb5
    replace ra0 := ra0.keep hb5
    replace rb0 := rb0.keep hb5
    clear hb5
    go_wp2_with fail
    refine (specIsCovered_any _ _ _ _ _ _ a b stock safety _ ra0 rb0).mono ?_
    rintro e w6 ⟨rfl, hb6⟩
    rw [HIF.out]
    replace HB0 := HB0.trans (hb6.below _)
    clear hb6 ra0 rb0 HCO
    go_wp2_with fail
    go_loopw [13] (fun i wr => ∃ k : Nat, k ≤ m.length ∧ i = .int .i64 k ∧ Below w4.heap.size w4 wr) (fun i _ => m.length - (intOf i).toNat)
    case atStart => exact ⟨0, by omega, rfl, HB0⟩
    case round =>
      clear HB0
      obtain ⟨k, hk, rfl, HR⟩ := hrel
      by_cases hlt : k < m.length
      · obtain ⟨_, q1, q2⟩ := HMM.out _ (List.getElem_mem hlt)
        obtain ⟨b1, o1, rfl, hbl, hc0, hc1⟩ := flow_at r14 hlt
        have hkC : k ≤ C1 := by omega
        have hsz := HR.size
        have HTK : Hid (∀ W, Below w4.heap.size w4 W → RowsIn flF W (some ⟨b1, o1, none⟩) k (m.take k)) := fun W hW => (r14.keep hW).take (by omega)
        by_cases hq1 : 1 < m[k].2
        · have HLQ : Hid (lessOne m k = lessTail m k (m.take k ++ [(m[k].1, m[k].2 - 1)])) := lessOne_more m k hlt hq1
          go_wp2_with (at_builtin; refine wpList_append_copy flowElem flOne rfl _ _ rfl rfl (lo := w4.heap.size) (empty_row rfl hsz) rfl (HTK.out _ (HR.alloc hsz _)) (by simp; omega) ?_; intro A5 c5 w5 ho5 hbl5; have HR5 : Below w4.heap.size w4 w5 := (HR.alloc hsz _).trans (hbl5 _ (Nat.le_refl _) (by simp; omega)); have hy0 := below_in HR5 hbl hc0; have hy1 := below_in HR5 hbl hc1)
          have m3 : IntKind.i64.wrap (m[k].2 - 1) = m[k].2 - 1 := IntWalk.i64_in _ (by omega)
          have hv5 : RowVal flF 51 ((w5.alloc (.cells #[.int .i64 m[k].1, .int .i64 (m[k].2 - 1)] 51)).drew) w4.heap.size (.slice A5 k c5) (m.take k) := RowVal.drew (RowVal.alloc ho5.val _)
          have hsrc : RowsIn flF ((w5.alloc (.cells #[.int .i64 m[k].1, .int .i64 (m[k].2 - 1)] 51)).drew) (some ⟨w5.heap.size, 0, none⟩) 1 [(m[k].1, m[k].2 - 1)] := RowsIn.drew (new_row w5 rfl m[k].1 (m[k].2 - 1))
          have hsz5 := HR5.size
          have HR6 : Below w4.heap.size w4 ((w5.alloc (.cells #[.int .i64 m[k].1, .int .i64 (m[k].2 - 1)] 51)).drew) := (HR5.alloc hsz5 _).drew
          have hsz6 := HR6.size
          have hlt6 : (m.take k).length ≤ 16777216 := by simp; omega
          clear hbl5 ho5
          go_region_law (refine step_append_rows flowElem flOne rfl (.tmp 93) (.tmp 106) rfl ((w5.alloc (.cells #[.int .i64 m[k].1, .int .i64 (m[k].2 - 1)] 51)).drew) (lo := w4.heap.size) rfl hv5 hlt6 rfl hsrc hsz6 ?_; intro v7 W hless hg7; have HRW : Below w4.heap.size w4 W := HR6.trans (RowVal.below hv5 hg7 (Nat.le_refl _) hsz6); have hszW := HRW.size; clear hg7)
          all_goals
            clear m3 hv5 hsrc HR6 hsz6 hy0 hy1 hlt6
            have hLLl : (m.take k ++ [(m[k].1, m[k].2 - 1)]).length ≤ 16777216 := by simp; omega
            generalize m.take k ++ [(m[k].1, m[k].2 - 1)] = LL at HLQ hLLl hless

            by_cases hlast : k + 1 < m.length
            · have hck : ¬ C1 = k + 1 := by omega
              have HDR : Hid (∀ W, Below w4.heap.size w4 W → RowsIn flF W (some ⟨b1, o1 + (k + 1) * 2, none⟩) (m.length - (k + 1)) (m.drop (k + 1))) := fun W hW => by
                have := (r14.keep hW).drop (k := k + 1) (cap := C1) (by omega) hcap
                rw [if_neg hck] at this
                simp only [Option.map_some, Addr.add_lit] at this
                exact this
              have HLE : Hid (LL ++ (m.drop (k + 1)) = lessOne m k) := by show _ = _; rw [HLQ.out]; unfold lessTail; rfl
              go_wp2_with (at_builtin; refine wpList_append_src flowElem flOne rfl _ _ rfl rfl hless hLLl rfl (l2 := (m.drop (k + 1))) (HDR.out _ HRW) hszW ?_; intro v8 w8 hrow8 hbl8)
              have HR8 := HRW.trans (hbl8 _ (Nat.le_refl _) hszW)
              obtain ⟨A8, c8, rfl, ho8⟩ := hrow8.form
              rw [HLE.out] at ho8
              rw [HLE.out]
              have r8 := ho8.rows (by have := lessOne_len m k; omega)
              obtain ⟨ms, few, hMS⟩ : ∃ ms few, mergeFlows a (lessOne m k) = (ms, few) := ⟨_, _, rfl⟩
              have hmsl : ms.length ≤ 16777216 := by have := mergeFlows_len a (lessOne m k); rw [hMS] at this; exact this
              have K8 := specMergeFlows_any A1 A8 a.length (lessOne m k).length c1 c8 a (lessOne m k) w8 (ra4.keep HR8) r8
              rw [hMS] at K8
              have HMS := Lib.hid hMS
              clear hMS
              go_wp2_with fail
              refine K8.mono ?_
              rintro e w9 ⟨X9, C9, rfl, o9, hb9⟩
              have HR9 := below_on HR8 hb9
              have r9 := o9.rows (by simp only; omega)
              dsimp only at r9 ⊢
              clear K8 o9
              cases few
              · obtain ⟨bb, oo, e9, _, hd0, _⟩ := flow_at (r14.keep HR9) hlt
                simp only [Option.some.injEq, Addr.mk.injEq, and_true] at e9
                obtain ⟨rfl, rfl⟩ := e9
                go_wp2_with fail
                refine (implProjected_any _ _ _ _ _ _ all b stock m[k].1 _ (rall.keep HR9) (rb4.keep HR9)).mono ?_
                rintro e w11 ⟨rfl, hb11⟩
                have HR11 := below_on HR9 hb11
                rw [HJU.out (by trivial) _ (List.getElem_mem hlt)]
                have hz : (safety != safety) = false := by simp
                go_wp2_with fail
                go_roundw
                case rel => exact ⟨k + 1, by omega, by go_num, HR11⟩
                case measure => simp [intOf]; omega
              · have HIC := Lib.hid (net_less HN.out k hlt HMS.out)
                go_wp2_with fail
                refine (specIsCovered_any _ _ _ _ _ _ ms b stock safety _ r9 (rb4.keep HR9)).mono ?_
                rintro e w10 ⟨rfl, hb10⟩
                have HR10 := HR9.trans (hb10.below _)
                rw [HIC.out]
                obtain ⟨bb, oo, e9, _, hd0, _⟩ := flow_at (r14.keep HR10) hlt
                simp only [Option.some.injEq, Addr.mk.injEq, and_true] at e9
                obtain ⟨rfl, rfl⟩ := e9
                go_wp2_with fail
                refine (implProjected_any _ _ _ _ _ _ all b stock m[k].1 _ (rall.keep HR10) (rb4.keep HR10)).mono ?_
                rintro e w11 ⟨rfl, hb11⟩
                have HR11 := below_on HR10 hb11
                rw [HJU.out (by trivial) _ (List.getElem_mem hlt)]
                have hz : (safety != safety) = false := by simp
                go_wp2_with fail
                go_roundw
                case rel => exact ⟨k + 1, by omega, by go_num, HR11⟩
                case measure => simp [intOf]; omega

            · have hke : k + 1 = m.length := by omega
              have hdn : m.drop (k + 1) = [] := List.drop_eq_nil_of_le (by omega)
              have hml0 : m.length - (k + 1) = 0 := by omega
              by_cases hck : C1 = k + 1
              · have hckT : (C1 = k + 1) = True := eq_true hck
                clear hck
                have HLE : Hid (LL ++ [] = lessOne m k) := by show _ = _; rw [HLQ.out]; unfold lessTail; rw [hdn]
                clear hdn hke
                go_wp2_with (at_builtin; refine wpList_append_src flowElem flOne rfl _ _ rfl rfl hless hLLl rfl (l2 := []) (RowsIn.nil_ _ _) hszW ?_; intro v8 w8 hrow8 hbl8)
                have HR8 := HRW.trans (hbl8 _ (Nat.le_refl _) hszW)
                obtain ⟨A8, c8, rfl, ho8⟩ := hrow8.form
                rw [HLE.out] at ho8
                rw [HLE.out]
                have r8 := ho8.rows (by have := lessOne_len m k; omega)
                obtain ⟨ms, few, hMS⟩ : ∃ ms few, mergeFlows a (lessOne m k) = (ms, few) := ⟨_, _, rfl⟩
                have hmsl : ms.length ≤ 16777216 := by have := mergeFlows_len a (lessOne m k); rw [hMS] at this; exact this
                have K8 := specMergeFlows_any A1 A8 a.length (lessOne m k).length c1 c8 a (lessOne m k) w8 (ra4.keep HR8) r8
                rw [hMS] at K8
                have HMS := Lib.hid hMS
                clear hMS
                go_wp2_with fail
                refine K8.mono ?_
                rintro e w9 ⟨X9, C9, rfl, o9, hb9⟩
                have HR9 := below_on HR8 hb9
                have r9 := o9.rows (by simp only; omega)
                dsimp only at r9 ⊢
                clear K8 o9
                cases few
                · obtain ⟨bb, oo, e9, _, hd0, _⟩ := flow_at (r14.keep HR9) hlt
                  simp only [Option.some.injEq, Addr.mk.injEq, and_true] at e9
                  obtain ⟨rfl, rfl⟩ := e9
                  go_wp2_with fail
                  refine (implProjected_any _ _ _ _ _ _ all b stock m[k].1 _ (rall.keep HR9) (rb4.keep HR9)).mono ?_
                  rintro e w11 ⟨rfl, hb11⟩
                  have HR11 := below_on HR9 hb11
                  rw [HJU.out (by trivial) _ (List.getElem_mem hlt)]
                  have hz : (safety != safety) = false := by simp
                  go_wp2_with fail
                  go_roundw
                  case rel => exact ⟨k + 1, by omega, by go_num, HR11⟩
                  case measure => simp [intOf]; omega
                · have HIC := Lib.hid (net_less HN.out k hlt HMS.out)
                  go_wp2_with fail
                  refine (specIsCovered_any _ _ _ _ _ _ ms b stock safety _ r9 (rb4.keep HR9)).mono ?_
                  rintro e w10 ⟨rfl, hb10⟩
                  have HR10 := HR9.trans (hb10.below _)
                  rw [HIC.out]
                  obtain ⟨bb, oo, e9, _, hd0, _⟩ := flow_at (r14.keep HR10) hlt
                  simp only [Option.some.injEq, Addr.mk.injEq, and_true] at e9
                  obtain ⟨rfl, rfl⟩ := e9
                  go_wp2_with fail
                  refine (implProjected_any _ _ _ _ _ _ all b stock m[k].1 _ (rall.keep HR10) (rb4.keep HR10)).mono ?_
                  rintro e w11 ⟨rfl, hb11⟩
                  have HR11 := below_on HR10 hb11
                  rw [HJU.out (by trivial) _ (List.getElem_mem hlt)]
                  have hz : (safety != safety) = false := by simp
                  go_wp2_with fail
                  go_roundw
                  case rel => exact ⟨k + 1, by omega, by go_num, HR11⟩
                  case measure => simp [intOf]; omega

              · have HLE : Hid (LL ++ [] = lessOne m k) := by show _ = _; rw [HLQ.out]; unfold lessTail; rw [hdn]
                clear hdn hke
                go_wp2_with (at_builtin; refine wpList_append_src flowElem flOne rfl _ _ rfl rfl hless hLLl rfl (l2 := []) (RowsIn.nil_ _ _) hszW ?_; intro v8 w8 hrow8 hbl8)
                have HR8 := HRW.trans (hbl8 _ (Nat.le_refl _) hszW)
                obtain ⟨A8, c8, rfl, ho8⟩ := hrow8.form
                rw [HLE.out] at ho8
                rw [HLE.out]
                have r8 := ho8.rows (by have := lessOne_len m k; omega)
                obtain ⟨ms, few, hMS⟩ : ∃ ms few, mergeFlows a (lessOne m k) = (ms, few) := ⟨_, _, rfl⟩
                have hmsl : ms.length ≤ 16777216 := by have := mergeFlows_len a (lessOne m k); rw [hMS] at this; exact this
                have K8 := specMergeFlows_any A1 A8 a.length (lessOne m k).length c1 c8 a (lessOne m k) w8 (ra4.keep HR8) r8
                rw [hMS] at K8
                have HMS := Lib.hid hMS
                clear hMS
                go_wp2_with fail
                refine K8.mono ?_
                rintro e w9 ⟨X9, C9, rfl, o9, hb9⟩
                have HR9 := below_on HR8 hb9
                have r9 := o9.rows (by simp only; omega)
                dsimp only at r9 ⊢
                clear K8 o9
                cases few
                · obtain ⟨bb, oo, e9, _, hd0, _⟩ := flow_at (r14.keep HR9) hlt
                  simp only [Option.some.injEq, Addr.mk.injEq, and_true] at e9
                  obtain ⟨rfl, rfl⟩ := e9
                  go_wp2_with fail
                  refine (implProjected_any _ _ _ _ _ _ all b stock m[k].1 _ (rall.keep HR9) (rb4.keep HR9)).mono ?_
                  rintro e w11 ⟨rfl, hb11⟩
                  have HR11 := below_on HR9 hb11
                  rw [HJU.out (by trivial) _ (List.getElem_mem hlt)]
                  have hz : (safety != safety) = false := by simp
                  go_wp2_with fail
                  go_roundw
                  case rel => exact ⟨k + 1, by omega, by go_num, HR11⟩
                  case measure => simp [intOf]; omega
                · have HIC := Lib.hid (net_less HN.out k hlt HMS.out)
                  go_wp2_with fail
                  refine (specIsCovered_any _ _ _ _ _ _ ms b stock safety _ r9 (rb4.keep HR9)).mono ?_
                  rintro e w10 ⟨rfl, hb10⟩
                  have HR10 := HR9.trans (hb10.below _)
                  rw [HIC.out]
                  obtain ⟨bb, oo, e9, _, hd0, _⟩ := flow_at (r14.keep HR10) hlt
                  simp only [Option.some.injEq, Addr.mk.injEq, and_true] at e9
                  obtain ⟨rfl, rfl⟩ := e9
                  go_wp2_with fail
                  refine (implProjected_any _ _ _ _ _ _ all b stock m[k].1 _ (rall.keep HR10) (rb4.keep HR10)).mono ?_
                  rintro e w11 ⟨rfl, hb11⟩
                  have HR11 := below_on HR10 hb11
                  rw [HJU.out (by trivial) _ (List.getElem_mem hlt)]
                  have hz : (safety != safety) = false := by simp
                  go_wp2_with fail
                  go_roundw
                  case rel => exact ⟨k + 1, by omega, by go_num, HR11⟩
                  case measure => simp [intOf]; omega


        · have HLQ : Hid (lessOne m k = lessTail m k (m.take k)) := lessOne_none m k hlt hq1
          have hLLl : (m.take k).length ≤ 16777216 := by simp; omega
          have HLT : Hid (∀ (A5 : Option Addr) (c5 : Nat) (W : World), OwnRows flF 51 W w4.heap.size A5 k c5 (m.take k) → RowVal flF 51 W w4.heap.size (.slice A5 k c5) (m.take k)) := fun _ _ _ h => h.val
          generalize hLL : m.take k = LL at *
          clear hLL

          by_cases hlast : k + 1 < m.length
          · have hck : ¬ C1 = k + 1 := by omega
            have HDR : Hid (∀ W, Below w4.heap.size w4 W → RowsIn flF W (some ⟨b1, o1 + (k + 1) * 2, none⟩) (m.length - (k + 1)) (m.drop (k + 1))) := fun W hW => by
              have := (r14.keep hW).drop (k := k + 1) (cap := C1) (by omega) hcap
              rw [if_neg hck] at this
              simp only [Option.map_some, Addr.add_lit] at this
              exact this
            have HLE : Hid (LL ++ (m.drop (k + 1)) = lessOne m k) := by show _ = _; rw [HLQ.out]; unfold lessTail; rfl
            go_wp2_with (first | (at_builtin; refine wpList_append_copy flowElem flOne rfl _ _ rfl rfl (lo := w4.heap.size) (empty_row rfl hsz) rfl (HTK.out _ (HR.alloc hsz _)) (by simp; omega) ?_; intro A5 c5 W ho5 hbl5; have HRW : Below w4.heap.size w4 W := (HR.alloc hsz _).trans (hbl5 _ (Nat.le_refl _) (by simp; omega)); have hy1 := below_in HRW hbl hc1; have hless := HLT.out _ _ _ ho5; have hszW := HRW.size) | (at_builtin; refine wpList_append_src flowElem flOne rfl _ _ rfl rfl hless hLLl rfl (l2 := (m.drop (k + 1))) (HDR.out _ HRW) hszW ?_; intro v8 w8 hrow8 hbl8))
            have HR8 := HRW.trans (hbl8 _ (Nat.le_refl _) hszW)
            obtain ⟨A8, c8, rfl, ho8⟩ := hrow8.form
            rw [HLE.out] at ho8
            rw [HLE.out]
            have r8 := ho8.rows (by have := lessOne_len m k; omega)
            obtain ⟨ms, few, hMS⟩ : ∃ ms few, mergeFlows a (lessOne m k) = (ms, few) := ⟨_, _, rfl⟩
            have hmsl : ms.length ≤ 16777216 := by have := mergeFlows_len a (lessOne m k); rw [hMS] at this; exact this
            have K8 := specMergeFlows_any A1 A8 a.length (lessOne m k).length c1 c8 a (lessOne m k) w8 (ra4.keep HR8) r8
            rw [hMS] at K8
            have HMS := Lib.hid hMS
            clear hMS
            go_wp2_with fail
            refine K8.mono ?_
            rintro e w9 ⟨X9, C9, rfl, o9, hb9⟩
            have HR9 := below_on HR8 hb9
            have r9 := o9.rows (by simp only; omega)
            dsimp only at r9 ⊢
            clear K8 o9
            cases few
            · obtain ⟨bb, oo, e9, _, hd0, _⟩ := flow_at (r14.keep HR9) hlt
              simp only [Option.some.injEq, Addr.mk.injEq, and_true] at e9
              obtain ⟨rfl, rfl⟩ := e9
              go_wp2_with fail
              refine (implProjected_any _ _ _ _ _ _ all b stock m[k].1 _ (rall.keep HR9) (rb4.keep HR9)).mono ?_
              rintro e w11 ⟨rfl, hb11⟩
              have HR11 := below_on HR9 hb11
              rw [HJU.out (by trivial) _ (List.getElem_mem hlt)]
              have hz : (safety != safety) = false := by simp
              go_wp2_with fail
              go_roundw
              case rel => exact ⟨k + 1, by omega, by go_num, HR11⟩
              case measure => simp [intOf]; omega
            · have HIC := Lib.hid (net_less HN.out k hlt HMS.out)
              go_wp2_with fail
              refine (specIsCovered_any _ _ _ _ _ _ ms b stock safety _ r9 (rb4.keep HR9)).mono ?_
              rintro e w10 ⟨rfl, hb10⟩
              have HR10 := HR9.trans (hb10.below _)
              rw [HIC.out]
              obtain ⟨bb, oo, e9, _, hd0, _⟩ := flow_at (r14.keep HR10) hlt
              simp only [Option.some.injEq, Addr.mk.injEq, and_true] at e9
              obtain ⟨rfl, rfl⟩ := e9
              go_wp2_with fail
              refine (implProjected_any _ _ _ _ _ _ all b stock m[k].1 _ (rall.keep HR10) (rb4.keep HR10)).mono ?_
              rintro e w11 ⟨rfl, hb11⟩
              have HR11 := below_on HR10 hb11
              rw [HJU.out (by trivial) _ (List.getElem_mem hlt)]
              have hz : (safety != safety) = false := by simp
              go_wp2_with fail
              go_roundw
              case rel => exact ⟨k + 1, by omega, by go_num, HR11⟩
              case measure => simp [intOf]; omega

          · have hke : k + 1 = m.length := by omega
            have hdn : m.drop (k + 1) = [] := List.drop_eq_nil_of_le (by omega)
            have hml0 : m.length - (k + 1) = 0 := by omega
            by_cases hck : C1 = k + 1
            · have hckT : (C1 = k + 1) = True := eq_true hck
              clear hck
              have HLE : Hid (LL ++ [] = lessOne m k) := by show _ = _; rw [HLQ.out]; unfold lessTail; rw [hdn]
              clear hdn hke
              go_wp2_with (first | (at_builtin; refine wpList_append_copy flowElem flOne rfl _ _ rfl rfl (lo := w4.heap.size) (empty_row rfl hsz) rfl (HTK.out _ (HR.alloc hsz _)) (by simp; omega) ?_; intro A5 c5 W ho5 hbl5; have HRW : Below w4.heap.size w4 W := (HR.alloc hsz _).trans (hbl5 _ (Nat.le_refl _) (by simp; omega)); have hy1 := below_in HRW hbl hc1; have hless := HLT.out _ _ _ ho5; have hszW := HRW.size) | (at_builtin; refine wpList_append_src flowElem flOne rfl _ _ rfl rfl hless hLLl rfl (l2 := []) (RowsIn.nil_ _ _) hszW ?_; intro v8 w8 hrow8 hbl8))
              have HR8 := HRW.trans (hbl8 _ (Nat.le_refl _) hszW)
              obtain ⟨A8, c8, rfl, ho8⟩ := hrow8.form
              rw [HLE.out] at ho8
              rw [HLE.out]
              have r8 := ho8.rows (by have := lessOne_len m k; omega)
              obtain ⟨ms, few, hMS⟩ : ∃ ms few, mergeFlows a (lessOne m k) = (ms, few) := ⟨_, _, rfl⟩
              have hmsl : ms.length ≤ 16777216 := by have := mergeFlows_len a (lessOne m k); rw [hMS] at this; exact this
              have K8 := specMergeFlows_any A1 A8 a.length (lessOne m k).length c1 c8 a (lessOne m k) w8 (ra4.keep HR8) r8
              rw [hMS] at K8
              have HMS := Lib.hid hMS
              clear hMS
              go_wp2_with fail
              refine K8.mono ?_
              rintro e w9 ⟨X9, C9, rfl, o9, hb9⟩
              have HR9 := below_on HR8 hb9
              have r9 := o9.rows (by simp only; omega)
              dsimp only at r9 ⊢
              clear K8 o9
              cases few
              · obtain ⟨bb, oo, e9, _, hd0, _⟩ := flow_at (r14.keep HR9) hlt
                simp only [Option.some.injEq, Addr.mk.injEq, and_true] at e9
                obtain ⟨rfl, rfl⟩ := e9
                go_wp2_with fail
                refine (implProjected_any _ _ _ _ _ _ all b stock m[k].1 _ (rall.keep HR9) (rb4.keep HR9)).mono ?_
                rintro e w11 ⟨rfl, hb11⟩
                have HR11 := below_on HR9 hb11
                rw [HJU.out (by trivial) _ (List.getElem_mem hlt)]
                have hz : (safety != safety) = false := by simp
                go_wp2_with fail
                go_roundw
                case rel => exact ⟨k + 1, by omega, by go_num, HR11⟩
                case measure => simp [intOf]; omega
              · have HIC := Lib.hid (net_less HN.out k hlt HMS.out)
                go_wp2_with fail
                refine (specIsCovered_any _ _ _ _ _ _ ms b stock safety _ r9 (rb4.keep HR9)).mono ?_
                rintro e w10 ⟨rfl, hb10⟩
                have HR10 := HR9.trans (hb10.below _)
                rw [HIC.out]
                obtain ⟨bb, oo, e9, _, hd0, _⟩ := flow_at (r14.keep HR10) hlt
                simp only [Option.some.injEq, Addr.mk.injEq, and_true] at e9
                obtain ⟨rfl, rfl⟩ := e9
                go_wp2_with fail
                refine (implProjected_any _ _ _ _ _ _ all b stock m[k].1 _ (rall.keep HR10) (rb4.keep HR10)).mono ?_
                rintro e w11 ⟨rfl, hb11⟩
                have HR11 := below_on HR10 hb11
                rw [HJU.out (by trivial) _ (List.getElem_mem hlt)]
                have hz : (safety != safety) = false := by simp
                go_wp2_with fail
                go_roundw
                case rel => exact ⟨k + 1, by omega, by go_num, HR11⟩
                case measure => simp [intOf]; omega

            · have HLE : Hid (LL ++ [] = lessOne m k) := by show _ = _; rw [HLQ.out]; unfold lessTail; rw [hdn]
              clear hdn hke
              go_wp2_with (first | (at_builtin; refine wpList_append_copy flowElem flOne rfl _ _ rfl rfl (lo := w4.heap.size) (empty_row rfl hsz) rfl (HTK.out _ (HR.alloc hsz _)) (by simp; omega) ?_; intro A5 c5 W ho5 hbl5; have HRW : Below w4.heap.size w4 W := (HR.alloc hsz _).trans (hbl5 _ (Nat.le_refl _) (by simp; omega)); have hy1 := below_in HRW hbl hc1; have hless := HLT.out _ _ _ ho5; have hszW := HRW.size) | (at_builtin; refine wpList_append_src flowElem flOne rfl _ _ rfl rfl hless hLLl rfl (l2 := []) (RowsIn.nil_ _ _) hszW ?_; intro v8 w8 hrow8 hbl8))
              have HR8 := HRW.trans (hbl8 _ (Nat.le_refl _) hszW)
              obtain ⟨A8, c8, rfl, ho8⟩ := hrow8.form
              rw [HLE.out] at ho8
              rw [HLE.out]
              have r8 := ho8.rows (by have := lessOne_len m k; omega)
              obtain ⟨ms, few, hMS⟩ : ∃ ms few, mergeFlows a (lessOne m k) = (ms, few) := ⟨_, _, rfl⟩
              have hmsl : ms.length ≤ 16777216 := by have := mergeFlows_len a (lessOne m k); rw [hMS] at this; exact this
              have K8 := specMergeFlows_any A1 A8 a.length (lessOne m k).length c1 c8 a (lessOne m k) w8 (ra4.keep HR8) r8
              rw [hMS] at K8
              have HMS := Lib.hid hMS
              clear hMS
              go_wp2_with fail
              refine K8.mono ?_
              rintro e w9 ⟨X9, C9, rfl, o9, hb9⟩
              have HR9 := below_on HR8 hb9
              have r9 := o9.rows (by simp only; omega)
              dsimp only at r9 ⊢
              clear K8 o9
              cases few
              · obtain ⟨bb, oo, e9, _, hd0, _⟩ := flow_at (r14.keep HR9) hlt
                simp only [Option.some.injEq, Addr.mk.injEq, and_true] at e9
                obtain ⟨rfl, rfl⟩ := e9
                go_wp2_with fail
                refine (implProjected_any _ _ _ _ _ _ all b stock m[k].1 _ (rall.keep HR9) (rb4.keep HR9)).mono ?_
                rintro e w11 ⟨rfl, hb11⟩
                have HR11 := below_on HR9 hb11
                rw [HJU.out (by trivial) _ (List.getElem_mem hlt)]
                have hz : (safety != safety) = false := by simp
                go_wp2_with fail
                go_roundw
                case rel => exact ⟨k + 1, by omega, by go_num, HR11⟩
                case measure => simp [intOf]; omega
              · have HIC := Lib.hid (net_less HN.out k hlt HMS.out)
                go_wp2_with fail
                refine (specIsCovered_any _ _ _ _ _ _ ms b stock safety _ r9 (rb4.keep HR9)).mono ?_
                rintro e w10 ⟨rfl, hb10⟩
                have HR10 := HR9.trans (hb10.below _)
                rw [HIC.out]
                obtain ⟨bb, oo, e9, _, hd0, _⟩ := flow_at (r14.keep HR10) hlt
                simp only [Option.some.injEq, Addr.mk.injEq, and_true] at e9
                obtain ⟨rfl, rfl⟩ := e9
                go_wp2_with fail
                refine (implProjected_any _ _ _ _ _ _ all b stock m[k].1 _ (rall.keep HR10) (rb4.keep HR10)).mono ?_
                rintro e w11 ⟨rfl, hb11⟩
                have HR11 := below_on HR10 hb11
                rw [HJU.out (by trivial) _ (List.getElem_mem hlt)]
                have hz : (safety != safety) = false := by simp
                go_wp2_with fail
                go_roundw
                case rel => exact ⟨k + 1, by omega, by go_num, HR11⟩
                case measure => simp [intOf]; omega


      · go_wp2_with fail
        go_ret
        exact ⟨rfl, below_on HB4 HR⟩
end Go.Proofs.Ytdofhdelcendeaa
