/- Part 3 of the texts of this claim: The walks of IsCatalog and FindItem; Rows of the call's own and stores far from them; BillLine: rows in rows; the walks of the laws' own helpers on lists of it. -/
import Derived.Test.YtlkolehdikfddaaTr2
import Derived.Test.YtlkolehdikfddaaTr1
import Derived.StillTailTactics
/- The walks of IsCatalog and FindItem. -/
namespace Go.Proofs.Ytlkolehdikfddaa
open Go.RowKit
theorem catAt_first {l : List It} {k : Nat} (hk : k < l.length) (h : isItem l[k] = true) (h0 : k = 0) : catAt l itLt k = true := by rw [catAt_of hk, h, decide_eq_true h0]; rfl
theorem catAt_next {l : List It} {k : Nat} (hk : k < l.length) (h : isItem l[k] = true) (h0 : ¬ k = 0) (hp : k - 1 < l.length) : catAt l itLt k = itLt l[k - 1].1 l[k].1 := by rw [catAt_of hk, h, decide_eq_false h0, it_getD _ _ hp]; rfl
theorem catAt_bad {l : List It} {k : Nat} (hk : k < l.length) (h : isItem l[k] = false) : catAt l itLt k = false := by rw [catAt_of hk, h]; rfl
theorem catAt_more {l : List It} {k : Nat} (h : catAt l itLt k = true) (hI : ∀ j < k, catAt l itLt j = true) : ∀ j < k + 1, catAt l itLt j = true := fun j hj => by
  rcases Nat.lt_or_ge j k with h1 | h1
  · exact hI j h1
  · rw [show j = k by omega]; exact h
theorem specIsItem_at (x : It) (w : World) (hok : okIt x) : Calls Try.prog 92 #[.agg #[.string x.1, .string x.2.1, .int .i64 x.2.2.1, .int .i64 x.2.2.2.1, .int .i64 x.2.2.2.2.1, .int .i64 x.2.2.2.2.2.1, .int .i64 x.2.2.2.2.2.2.1, .int .i64 x.2.2.2.2.2.2.2]] w fun e w' => e = .returned (.bool (isItem x)) ∧ Below w.heap.size w w' := by
  unfold okIt at hok
  exact specIsItem_any _ _ _ _ _ _ _ _ w hok.1 hok.2
theorem implIsItem_at (x : It) (w : World) (hok : okIt x) : Calls Try.prog 69 #[.agg #[.string x.1, .string x.2.1, .int .i64 x.2.2.1, .int .i64 x.2.2.2.1, .int .i64 x.2.2.2.2.1, .int .i64 x.2.2.2.2.2.1, .int .i64 x.2.2.2.2.2.2.1, .int .i64 x.2.2.2.2.2.2.2]] w fun e w' => e = .returned (.bool (isItem x)) ∧ Below w.heap.size w w' := by
  unfold okIt at hok
  exact implIsItem_any _ _ _ _ _ _ _ _ w hok.1 hok.2
set_option maxRecDepth 100000 in
theorem specFindItem_any (A : Option Addr) (n c : Nat) (l : List It) (s : ByteArray) (w : World) (hl : ItemsIn w A n l) :
    Calls Try.prog 10 #[.slice A n c, .string s] w fun e w' => e = .returned (.int .i64 (findIt l s)) ∧ w = w' := by
  have hn := hl.len
  obtain rfl := hl.1
  go_enter Try.func10, Try.ntmps10
  go_wp2
  go_loop [5] (fun i => ∃ k : Nat, k ≤ l.length ∧ i = .int .i64 k ∧ Hid (∀ j (hj : j < l.length), j < k → (l[j].1.toList == s.toList) = false)) (fun i => l.length - (intOf i).toNat)
  case atStart => exact ⟨0, by omega, rfl, fun j _ h => absurd h (by omega)⟩
  case round =>
    obtain ⟨k, hk, rfl, HI⟩ := hrel
    by_cases hlt : k < l.length
    · obtain ⟨b, o, rfl, hbl, hc0, hc1, hc2, hc3, hc4, hc5, hc6, hc7⟩ := item_at hl hlt
      cases he : (l[k].1.toList == s.toList)
      · have HX : Hid (∀ j (hj : j < l.length), j < k + 1 → (l[j].1.toList == s.toList) = false) := fun j hj hjk => by
          rcases Nat.lt_or_ge j k with h1 | h1
          · exact HI.out j hj h1
          · obtain rfl : j = k := by omega
            exact he
        go_wp2
        go_round
        case rel => exact ⟨k + 1, by omega, by go_num, HX.out⟩
        case measure => simp [intOf]; omega
      · have HF := Lib.hid (findIt_hit hlt HI.out he)
        go_wp2
        go_ret
        exact ⟨ret_int HF.out.symm, rfl⟩
    · obtain rfl : k = l.length := by omega
      have HF := Lib.hid (findIt_miss (c := s) (fun j hj => HI.out j hj hj))
      go_wp2
      go_ret
      exact ⟨ret_int HF.out.symm, rfl⟩
set_option maxRecDepth 100000 in
theorem implFindItem_any (A : Option Addr) (n c : Nat) (l : List It) (s : ByteArray) (w : World) (hl : ItemsIn w A n l) :
    Calls Try.prog 18 #[.slice A n c, .string s] w fun e w' => e = .returned (.int .i64 (findIt l s)) ∧ Below w.heap.size w w' := by
  have hn := hl.len
  obtain rfl := hl.1
  go_enter Try.func18, Try.ntmps18
  go_wp2
  go_loopw [9] (fun i wr => ∃ k : Nat, k ≤ l.length ∧ i = .int .i64 k ∧ Hid (∀ j (hj : j < l.length), j < k → (l[j].1.toList == s.toList) = false) ∧ Below w.heap.size w wr) (fun i _ => l.length - (intOf i).toNat)
  case atStart => exact ⟨0, by omega, rfl, fun j _ h => absurd h (by omega), Below.refl _ _⟩
  case round =>
    obtain ⟨k, hk, rfl, HI, HR⟩ := hrel
    by_cases hlt : k < l.length
    · obtain ⟨b, o, rfl, hbl, hc0, hc1, hc2, hc3, hc4, hc5, hc6, hc7⟩ := item_at (hl.keep HR) hlt
      have hsz := HR.size
      have HA := HR.alloc hsz (.cells #[.string l[k].1, .string l[k].2.1, .int .i64 l[k].2.2.1, .int .i64 l[k].2.2.2.1, .int .i64 l[k].2.2.2.2.1, .int .i64 l[k].2.2.2.2.2.1, .int .i64 l[k].2.2.2.2.2.2.1, .int .i64 l[k].2.2.2.2.2.2.2] 47)
      cases he : (l[k].1.toList == s.toList)
      · have HX : Hid (∀ j (hj : j < l.length), j < k + 1 → (l[j].1.toList == s.toList) = false) := fun j hj hjk => by
          rcases Nat.lt_or_ge j k with h1 | h1
          · exact HI.out j hj h1
          · obtain rfl : j = k := by omega
            exact he
        go_wp2
        go_roundw
        case rel => exact ⟨k + 1, by omega, by go_num, HX.out, HA⟩
        case measure => simp [intOf]; omega
      · have HF := Lib.hid (findIt_hit hlt HI.out he)
        go_wp2
        go_ret
        exact ⟨ret_int HF.out.symm, HA⟩
    · obtain rfl : k = l.length := by omega
      have HF := Lib.hid (findIt_miss (c := s) (fun j hj => HI.out j hj hj))
      go_wp2
      go_ret
      exact ⟨ret_int HF.out.symm, HR⟩
set_option maxRecDepth 100000 in
set_option maxHeartbeats 4000000 in
theorem specIsCatalog_any (A : Option Addr) (n c : Nat) (l : List It) (w : World) (hl : ItemsIn w A n l) (hok : ∀ x ∈ l, okIt x) :
    Calls Try.prog 83 #[.slice A n c] w fun e w' => e = .returned (.bool (isCat l)) ∧ Below w.heap.size w w' := by
  have hn := hl.len
  obtain rfl := hl.1
  have HO := Lib.hid hok
  clear hok
  go_enter Try.func83, Try.ntmps83
  go_wp2
  go_loopw [3] (fun i wr => ∃ k : Nat, k ≤ l.length ∧ i = .int .i64 k ∧ Hid (∀ j < k, catAt l itLt j = true) ∧ Below w.heap.size w wr) (fun i _ => l.length - (intOf i).toNat)
  case atStart => exact ⟨0, by omega, rfl, fun j h => absurd h (by omega), Below.refl _ _⟩
  case round =>
    obtain ⟨k, hk, rfl, HI, HR⟩ := hrel
    by_cases hlt : k < l.length
    · have hokk := HO.out _ (List.getElem_mem hlt)
      obtain ⟨b, o, rfl, hbl, hc0, hc1, hc2, hc3, hc4, hc5, hc6, hc7⟩ := item_at (hl.keep HR) hlt
      have hI2 := hl.keep HR
      cases hi : isItem l[k]
      · have HC := Lib.hid (catAt_bad hlt hi)
        clear hI2
        go_wp2_with fail
        refine wp_region_held_drew (S := (fun w' => w'.cell? ⟨b, o + k * 8, none⟩ = some (.string l[k].1) ∧ w'.cell? ⟨b, o + k * 8 + 1, none⟩ = some (.string l[k].2.1) ∧ w'.cell? ⟨b, o + k * 8 + 2, none⟩ = some (.int .i64 l[k].2.2.1) ∧ w'.cell? ⟨b, o + k * 8 + 3, none⟩ = some (.int .i64 l[k].2.2.2.1) ∧ w'.cell? ⟨b, o + k * 8 + 4, none⟩ = some (.int .i64 l[k].2.2.2.2.1) ∧ w'.cell? ⟨b, o + k * 8 + 5, none⟩ = some (.int .i64 l[k].2.2.2.2.2.1) ∧ w'.cell? ⟨b, o + k * 8 + 6, none⟩ = some (.int .i64 l[k].2.2.2.2.2.2.1) ∧ w'.cell? ⟨b, o + k * 8 + 7, none⟩ = some (.int .i64 l[k].2.2.2.2.2.2.2) ∧ b < w'.heap.size ∧ Below w.heap.size w w')) (by kernel_rfl) ⟨hc0, hc1, hc2, hc3, hc4, hc5, hc6, hc7, hbl, HR.drew⟩ (fun hHeld => ?_)
        refine held1 0 (some 10) hHeld ?_
        refine held1 1 (some 11) hHeld ?_
        refine held1 2 (some 12) hHeld ?_
        refine held1 3 (some 13) hHeld ?_
        refine held_do 4 fun K hK => ?_
        go_simp
        go_at_call 92; refine (specIsItem_at l[k] _ hokk).mono ?_; rintro e w3 ⟨rfl, hb3⟩; rw [hi]; go_simp
        refine hK.out _ _ ?_ (fun hHeld => ?_)
        · obtain ⟨y1, y2, y3, y4, y5, y6, y7, y8, y9, y0⟩ := hHeld; exact ⟨(hb3.cell y9).trans y1, (hb3.cell y9).trans y2, (hb3.cell y9).trans y3, (hb3.cell y9).trans y4, (hb3.cell y9).trans y5, (hb3.cell y9).trans y6, (hb3.cell y9).trans y7, (hb3.cell y9).trans y8, Nat.lt_of_lt_of_le y9 hb3.size, below_on y0 hb3⟩
        clear hK K
        refine held1 5 (some 15) hHeld ?_
        refine held1 6 (some 16) hHeld ?_
        refine held0 7 (some 17) hHeld ?_
        refine held0 8 (some 18) hHeld ?_
        refine held0 9 (some 19) hHeld ?_
        refine held0 10 (some 20) hHeld ?_
        refine held0 11 (some 21) hHeld ?_
        refine held0 12 (some 22) hHeld ?_
        refine held0 13 (some 23) hHeld ?_
        refine held0 14 (some 24) hHeld ?_
        refine held0 15 (some 25) hHeld ?_
        refine held0 16 (some 26) hHeld ?_
        refine held0 17 (some 27) hHeld ?_
        refine held0 18 (some 28) hHeld ?_
        refine held0 19 (some 29) hHeld ?_
        refine held0 20 (some 30) hHeld ?_
        refine held0 21 (some 31) hHeld ?_
        refine held0 22 (some 32) hHeld ?_
        refine held1 23 (some 33) hHeld ?_
        refine wpAnyH_done (by kernel_rfl) ?_ _
        go_split_ands
        go_wp2
        go_ret
        exact ⟨ret_bool (isCat_no hlt HC.out).symm, by with_reducible assumption⟩
      by_cases h0 : k = 0
      · have hy1 : decide (0 < k) = false := by simp; omega
        have hy2 : decide ((0 : Int) < (k : Int)) = false := by simp; omega
        have HC := Lib.hid (catAt_first hlt hi h0)
        clear h0 hI2
        go_wp2_with fail
        refine wp_region_held_drew (S := (fun w' => w'.cell? ⟨b, o + k * 8, none⟩ = some (.string l[k].1) ∧ w'.cell? ⟨b, o + k * 8 + 1, none⟩ = some (.string l[k].2.1) ∧ w'.cell? ⟨b, o + k * 8 + 2, none⟩ = some (.int .i64 l[k].2.2.1) ∧ w'.cell? ⟨b, o + k * 8 + 3, none⟩ = some (.int .i64 l[k].2.2.2.1) ∧ w'.cell? ⟨b, o + k * 8 + 4, none⟩ = some (.int .i64 l[k].2.2.2.2.1) ∧ w'.cell? ⟨b, o + k * 8 + 5, none⟩ = some (.int .i64 l[k].2.2.2.2.2.1) ∧ w'.cell? ⟨b, o + k * 8 + 6, none⟩ = some (.int .i64 l[k].2.2.2.2.2.2.1) ∧ w'.cell? ⟨b, o + k * 8 + 7, none⟩ = some (.int .i64 l[k].2.2.2.2.2.2.2) ∧ b < w'.heap.size ∧ Below w.heap.size w w')) (by kernel_rfl) ⟨hc0, hc1, hc2, hc3, hc4, hc5, hc6, hc7, hbl, HR.drew⟩ (fun hHeld => ?_)
        refine held1 0 (some 10) hHeld ?_
        refine held1 1 (some 11) hHeld ?_
        refine held1 2 (some 12) hHeld ?_
        refine held1 3 (some 13) hHeld ?_
        refine held_do 4 fun K hK => ?_
        go_simp
        go_at_call 92; refine (specIsItem_at l[k] _ hokk).mono ?_; rintro e w3 ⟨rfl, hb3⟩; rw [hi]; go_simp
        refine hK.out _ _ ?_ (fun hHeld => ?_)
        · obtain ⟨y1, y2, y3, y4, y5, y6, y7, y8, y9, y0⟩ := hHeld; exact ⟨(hb3.cell y9).trans y1, (hb3.cell y9).trans y2, (hb3.cell y9).trans y3, (hb3.cell y9).trans y4, (hb3.cell y9).trans y5, (hb3.cell y9).trans y6, (hb3.cell y9).trans y7, (hb3.cell y9).trans y8, Nat.lt_of_lt_of_le y9 hb3.size, below_on y0 hb3⟩
        clear hK K
        refine held1 5 (some 15) hHeld ?_
        refine held1 6 (some 16) hHeld ?_
        refine held1 7 (some 17) hHeld ?_
        refine held1 8 (some 18) hHeld ?_
        refine held1 9 (some 19) hHeld ?_
        refine held0 10 (some 20) hHeld ?_
        refine held0 11 (some 21) hHeld ?_
        refine held0 12 (some 22) hHeld ?_
        refine held0 13 (some 23) hHeld ?_
        refine held0 14 (some 24) hHeld ?_
        refine held0 15 (some 25) hHeld ?_
        refine held0 16 (some 26) hHeld ?_
        refine held0 17 (some 27) hHeld ?_
        refine held0 18 (some 28) hHeld ?_
        refine held0 19 (some 29) hHeld ?_
        refine held0 20 (some 30) hHeld ?_
        refine held0 21 (some 31) hHeld ?_
        refine held1 22 (some 32) hHeld ?_
        refine held1 23 (some 33) hHeld ?_
        refine wpAnyH_done (by kernel_rfl) ?_ _
        go_split_ands
        go_wp2
        go_roundw
        case rel => exact ⟨k + 1, by omega, by go_num, catAt_more HC.out HI.out, by with_reducible assumption⟩
        case measure => simp [intOf]; omega
      have hlt2 : k - 1 < l.length := by omega
      obtain ⟨b2, o2, e2, _, hp0, _⟩ := item_at hI2 hlt2
      obtain ⟨rfl, rfl⟩ : b = b2 ∧ o = o2 := by simpa using e2
      clear e2 hI2
      have hy1 : decide (0 < k) = true := by simp; omega
      have hy2 : decide ((0 : Int) < (k : Int)) = true := by simp; omega
      have hi1 : (0 : Int) ≤ (k : Int) - 1 := by omega
      have hi2 : (k : Int) - 1 < (l.length : Int) := by omega
      have hi3 : ((k : Int) - 1).toNat = k - 1 := by omega
      have hi4 : (1 : Int) ≤ (k : Int) := by omega
      have hwk : IntKind.i64.wrap ((k : Int) - 1) = (k : Int) - 1 := IntWalk.i64_in _ (by omega)
      have HC := Lib.hid (catAt_next hlt hi h0 hlt2)
      clear h0
      cases hq : itLt l[k - 1].1 l[k].1
      · have hq2 : Op.bytesLess l[k - 1].1.toList l[k].1.toList = false := hq
        go_wp2_with fail
        refine wp_region_held_drew (S := (fun w' => w'.cell? ⟨b, o + k * 8, none⟩ = some (.string l[k].1) ∧ w'.cell? ⟨b, o + k * 8 + 1, none⟩ = some (.string l[k].2.1) ∧ w'.cell? ⟨b, o + k * 8 + 2, none⟩ = some (.int .i64 l[k].2.2.1) ∧ w'.cell? ⟨b, o + k * 8 + 3, none⟩ = some (.int .i64 l[k].2.2.2.1) ∧ w'.cell? ⟨b, o + k * 8 + 4, none⟩ = some (.int .i64 l[k].2.2.2.2.1) ∧ w'.cell? ⟨b, o + k * 8 + 5, none⟩ = some (.int .i64 l[k].2.2.2.2.2.1) ∧ w'.cell? ⟨b, o + k * 8 + 6, none⟩ = some (.int .i64 l[k].2.2.2.2.2.2.1) ∧ w'.cell? ⟨b, o + k * 8 + 7, none⟩ = some (.int .i64 l[k].2.2.2.2.2.2.2) ∧ w'.cell? ⟨b, o + (k - 1) * 8, none⟩ = some (.string l[k - 1].1) ∧ b < w'.heap.size ∧ Below w.heap.size w w')) (by kernel_rfl) ⟨hc0, hc1, hc2, hc3, hc4, hc5, hc6, hc7, hp0, hbl, HR.drew⟩ (fun hHeld => ?_)
        refine held1 0 (some 10) hHeld ?_
        refine held1 1 (some 11) hHeld ?_
        refine held1 2 (some 12) hHeld ?_
        refine held1 3 (some 13) hHeld ?_
        refine held_do 4 fun K hK => ?_
        go_simp
        go_at_call 92; refine (specIsItem_at l[k] _ hokk).mono ?_; rintro e w3 ⟨rfl, hb3⟩; rw [hi]; go_simp
        refine hK.out _ _ ?_ (fun hHeld => ?_)
        · obtain ⟨y1, y2, y3, y4, y5, y6, y7, y8, y9, y10, y0⟩ := hHeld; exact ⟨(hb3.cell y10).trans y1, (hb3.cell y10).trans y2, (hb3.cell y10).trans y3, (hb3.cell y10).trans y4, (hb3.cell y10).trans y5, (hb3.cell y10).trans y6, (hb3.cell y10).trans y7, (hb3.cell y10).trans y8, (hb3.cell y10).trans y9, Nat.lt_of_lt_of_le y10 hb3.size, below_on y0 hb3⟩
        clear hK K
        refine held1 5 (some 15) hHeld ?_
        refine held1 6 (some 16) hHeld ?_
        refine held1 7 (some 17) hHeld ?_
        refine held1 8 (some 18) hHeld ?_
        refine held1 9 (some 19) hHeld ?_
        refine held1 10 (some 20) hHeld ?_
        refine held1 11 (some 21) hHeld ?_
        refine held1 12 (some 22) hHeld ?_
        refine held1 13 (some 23) hHeld ?_
        refine held1 14 (some 24) hHeld ?_
        refine held1 15 (some 25) hHeld ?_
        refine held1 16 (some 26) hHeld ?_
        refine held1 17 (some 27) hHeld ?_
        refine held1 18 (some 28) hHeld ?_
        refine held1 19 (some 29) hHeld ?_
        refine held1 20 (some 30) hHeld ?_
        refine held1 21 (some 31) hHeld ?_
        refine held1 22 (some 32) hHeld ?_
        refine held1 23 (some 33) hHeld ?_
        refine wpAnyH_done (by kernel_rfl) ?_ _
        go_split_ands
        go_wp2
        go_ret
        exact ⟨ret_bool (isCat_no hlt (HC.out.trans hq)).symm, by with_reducible assumption⟩
      · have hq2 : Op.bytesLess l[k - 1].1.toList l[k].1.toList = true := hq
        go_wp2_with fail
        refine wp_region_held_drew (S := (fun w' => w'.cell? ⟨b, o + k * 8, none⟩ = some (.string l[k].1) ∧ w'.cell? ⟨b, o + k * 8 + 1, none⟩ = some (.string l[k].2.1) ∧ w'.cell? ⟨b, o + k * 8 + 2, none⟩ = some (.int .i64 l[k].2.2.1) ∧ w'.cell? ⟨b, o + k * 8 + 3, none⟩ = some (.int .i64 l[k].2.2.2.1) ∧ w'.cell? ⟨b, o + k * 8 + 4, none⟩ = some (.int .i64 l[k].2.2.2.2.1) ∧ w'.cell? ⟨b, o + k * 8 + 5, none⟩ = some (.int .i64 l[k].2.2.2.2.2.1) ∧ w'.cell? ⟨b, o + k * 8 + 6, none⟩ = some (.int .i64 l[k].2.2.2.2.2.2.1) ∧ w'.cell? ⟨b, o + k * 8 + 7, none⟩ = some (.int .i64 l[k].2.2.2.2.2.2.2) ∧ w'.cell? ⟨b, o + (k - 1) * 8, none⟩ = some (.string l[k - 1].1) ∧ b < w'.heap.size ∧ Below w.heap.size w w')) (by kernel_rfl) ⟨hc0, hc1, hc2, hc3, hc4, hc5, hc6, hc7, hp0, hbl, HR.drew⟩ (fun hHeld => ?_)
        refine held1 0 (some 10) hHeld ?_
        refine held1 1 (some 11) hHeld ?_
        refine held1 2 (some 12) hHeld ?_
        refine held1 3 (some 13) hHeld ?_
        refine held_do 4 fun K hK => ?_
        go_simp
        go_at_call 92; refine (specIsItem_at l[k] _ hokk).mono ?_; rintro e w3 ⟨rfl, hb3⟩; rw [hi]; go_simp
        refine hK.out _ _ ?_ (fun hHeld => ?_)
        · obtain ⟨y1, y2, y3, y4, y5, y6, y7, y8, y9, y10, y0⟩ := hHeld; exact ⟨(hb3.cell y10).trans y1, (hb3.cell y10).trans y2, (hb3.cell y10).trans y3, (hb3.cell y10).trans y4, (hb3.cell y10).trans y5, (hb3.cell y10).trans y6, (hb3.cell y10).trans y7, (hb3.cell y10).trans y8, (hb3.cell y10).trans y9, Nat.lt_of_lt_of_le y10 hb3.size, below_on y0 hb3⟩
        clear hK K
        refine held1 5 (some 15) hHeld ?_
        refine held1 6 (some 16) hHeld ?_
        refine held1 7 (some 17) hHeld ?_
        refine held1 8 (some 18) hHeld ?_
        refine held1 9 (some 19) hHeld ?_
        refine held1 10 (some 20) hHeld ?_
        refine held1 11 (some 21) hHeld ?_
        refine held1 12 (some 22) hHeld ?_
        refine held1 13 (some 23) hHeld ?_
        refine held1 14 (some 24) hHeld ?_
        refine held1 15 (some 25) hHeld ?_
        refine held1 16 (some 26) hHeld ?_
        refine held1 17 (some 27) hHeld ?_
        refine held1 18 (some 28) hHeld ?_
        refine held1 19 (some 29) hHeld ?_
        refine held1 20 (some 30) hHeld ?_
        refine held1 21 (some 31) hHeld ?_
        refine held1 22 (some 32) hHeld ?_
        refine held1 23 (some 33) hHeld ?_
        refine wpAnyH_done (by kernel_rfl) ?_ _
        go_split_ands
        go_wp2
        go_roundw
        case rel => exact ⟨k + 1, by omega, by go_num, catAt_more (HC.out.trans hq) HI.out, by with_reducible assumption⟩
        case measure => simp [intOf]; omega
    · obtain rfl : k = l.length := by omega
      go_wp2
      go_ret
      exact ⟨ret_bool (isCat_end HI.out).symm, HR⟩
set_option maxRecDepth 100000 in
set_option maxHeartbeats 4000000 in
theorem implIsCatalog_any (A : Option Addr) (n c : Nat) (l : List It) (w : World) (hl : ItemsIn w A n l) (hok : ∀ x ∈ l, okIt x) :
    Calls Try.prog 46 #[.slice A n c] w fun e w' => e = .returned (.bool (isCat l)) ∧ Below w.heap.size w w' := by
  have hn := hl.len
  obtain rfl := hl.1
  have HO := Lib.hid hok
  clear hok
  go_enter Try.func46, Try.ntmps46
  go_wp2
  go_loopw [7] (fun i wr => ∃ k : Nat, k ≤ l.length ∧ i = .int .i64 k ∧ Hid (∀ j < k, catAt l itLt j = true) ∧ Below w.heap.size w wr) (fun i _ => l.length - (intOf i).toNat)
  case atStart => exact ⟨0, by omega, rfl, fun j h => absurd h (by omega), Below.refl _ _⟩
  case round =>
    obtain ⟨k, hk, rfl, HI, HR⟩ := hrel
    by_cases hlt : k < l.length
    · have hokk := HO.out _ (List.getElem_mem hlt)
      obtain ⟨b, o, rfl, hbl, hc0, hc1, hc2, hc3, hc4, hc5, hc6, hc7⟩ := item_at (hl.keep HR) hlt
      have hs := below_alloc wr (.cells #[.string l[k].1, .string l[k].2.1, .int .i64 l[k].2.2.1, .int .i64 l[k].2.2.2.1, .int .i64 l[k].2.2.2.2.1, .int .i64 l[k].2.2.2.2.2.1, .int .i64 l[k].2.2.2.2.2.2.1, .int .i64 l[k].2.2.2.2.2.2.2] 47)
      have HB := below_on HR hs
      have d0 : (wr.alloc (.cells #[.string l[k].1, .string l[k].2.1, .int .i64 l[k].2.2.1, .int .i64 l[k].2.2.2.1, .int .i64 l[k].2.2.2.2.1, .int .i64 l[k].2.2.2.2.2.1, .int .i64 l[k].2.2.2.2.2.2.1, .int .i64 l[k].2.2.2.2.2.2.2] 47)).cell? ⟨wr.heap.size, 0, none⟩ = some (.string l[k].1) := by simp [go_sem]
      have d1 : (wr.alloc (.cells #[.string l[k].1, .string l[k].2.1, .int .i64 l[k].2.2.1, .int .i64 l[k].2.2.2.1, .int .i64 l[k].2.2.2.2.1, .int .i64 l[k].2.2.2.2.2.1, .int .i64 l[k].2.2.2.2.2.2.1, .int .i64 l[k].2.2.2.2.2.2.2] 47)).cell? ⟨wr.heap.size, 1, none⟩ = some (.string l[k].2.1) := by simp [go_sem]
      have d2 : (wr.alloc (.cells #[.string l[k].1, .string l[k].2.1, .int .i64 l[k].2.2.1, .int .i64 l[k].2.2.2.1, .int .i64 l[k].2.2.2.2.1, .int .i64 l[k].2.2.2.2.2.1, .int .i64 l[k].2.2.2.2.2.2.1, .int .i64 l[k].2.2.2.2.2.2.2] 47)).cell? ⟨wr.heap.size, 2, none⟩ = some (.int .i64 l[k].2.2.1) := by simp [go_sem]
      have d3 : (wr.alloc (.cells #[.string l[k].1, .string l[k].2.1, .int .i64 l[k].2.2.1, .int .i64 l[k].2.2.2.1, .int .i64 l[k].2.2.2.2.1, .int .i64 l[k].2.2.2.2.2.1, .int .i64 l[k].2.2.2.2.2.2.1, .int .i64 l[k].2.2.2.2.2.2.2] 47)).cell? ⟨wr.heap.size, 3, none⟩ = some (.int .i64 l[k].2.2.2.1) := by simp [go_sem]
      have d4 : (wr.alloc (.cells #[.string l[k].1, .string l[k].2.1, .int .i64 l[k].2.2.1, .int .i64 l[k].2.2.2.1, .int .i64 l[k].2.2.2.2.1, .int .i64 l[k].2.2.2.2.2.1, .int .i64 l[k].2.2.2.2.2.2.1, .int .i64 l[k].2.2.2.2.2.2.2] 47)).cell? ⟨wr.heap.size, 4, none⟩ = some (.int .i64 l[k].2.2.2.2.1) := by simp [go_sem]
      have d5 : (wr.alloc (.cells #[.string l[k].1, .string l[k].2.1, .int .i64 l[k].2.2.1, .int .i64 l[k].2.2.2.1, .int .i64 l[k].2.2.2.2.1, .int .i64 l[k].2.2.2.2.2.1, .int .i64 l[k].2.2.2.2.2.2.1, .int .i64 l[k].2.2.2.2.2.2.2] 47)).cell? ⟨wr.heap.size, 5, none⟩ = some (.int .i64 l[k].2.2.2.2.2.1) := by simp [go_sem]
      have d6 : (wr.alloc (.cells #[.string l[k].1, .string l[k].2.1, .int .i64 l[k].2.2.1, .int .i64 l[k].2.2.2.1, .int .i64 l[k].2.2.2.2.1, .int .i64 l[k].2.2.2.2.2.1, .int .i64 l[k].2.2.2.2.2.2.1, .int .i64 l[k].2.2.2.2.2.2.2] 47)).cell? ⟨wr.heap.size, 6, none⟩ = some (.int .i64 l[k].2.2.2.2.2.2.1) := by simp [go_sem]
      have d7 : (wr.alloc (.cells #[.string l[k].1, .string l[k].2.1, .int .i64 l[k].2.2.1, .int .i64 l[k].2.2.2.1, .int .i64 l[k].2.2.2.2.1, .int .i64 l[k].2.2.2.2.2.1, .int .i64 l[k].2.2.2.2.2.2.1, .int .i64 l[k].2.2.2.2.2.2.2] 47)).cell? ⟨wr.heap.size, 7, none⟩ = some (.int .i64 l[k].2.2.2.2.2.2.2) := by simp [go_sem]
      have dl : wr.heap.size < (wr.alloc (.cells #[.string l[k].1, .string l[k].2.1, .int .i64 l[k].2.2.1, .int .i64 l[k].2.2.2.1, .int .i64 l[k].2.2.2.2.1, .int .i64 l[k].2.2.2.2.2.1, .int .i64 l[k].2.2.2.2.2.2.1, .int .i64 l[k].2.2.2.2.2.2.2] 47)).heap.size := by simp
      have hI2 : ItemsIn (wr.alloc (.cells #[.string l[k].1, .string l[k].2.1, .int .i64 l[k].2.2.1, .int .i64 l[k].2.2.2.1, .int .i64 l[k].2.2.2.2.1, .int .i64 l[k].2.2.2.2.2.1, .int .i64 l[k].2.2.2.2.2.2.1, .int .i64 l[k].2.2.2.2.2.2.2] 47)) (some ⟨b, o, none⟩) l.length l := hl.keep HB
      replace hbl : b < (wr.alloc (.cells #[.string l[k].1, .string l[k].2.1, .int .i64 l[k].2.2.1, .int .i64 l[k].2.2.2.1, .int .i64 l[k].2.2.2.2.1, .int .i64 l[k].2.2.2.2.2.1, .int .i64 l[k].2.2.2.2.2.2.1, .int .i64 l[k].2.2.2.2.2.2.2] 47)).heap.size := Nat.lt_of_lt_of_le hbl hs.size
      cases hi : isItem l[k]
      · have HC := Lib.hid (catAt_bad hlt hi)
        clear hI2
        go_wp2_with fail
        generalize wr.alloc (.cells #[.string l[k].1, .string l[k].2.1, .int .i64 l[k].2.2.1, .int .i64 l[k].2.2.2.1, .int .i64 l[k].2.2.2.2.1, .int .i64 l[k].2.2.2.2.2.1, .int .i64 l[k].2.2.2.2.2.2.1, .int .i64 l[k].2.2.2.2.2.2.2] 47) = wq at *
        generalize wr.heap.size = N at *
        clear hc0 hc1 hc2 hc3 hc4 hc5 hc6 hc7 hs HR
        refine wp_region_held_drew (S := (fun w' => w'.cell? ⟨N, 0, none⟩ = some (.string l[k].1) ∧ w'.cell? ⟨N, 1, none⟩ = some (.string l[k].2.1) ∧ w'.cell? ⟨N, 2, none⟩ = some (.int .i64 l[k].2.2.1) ∧ w'.cell? ⟨N, 3, none⟩ = some (.int .i64 l[k].2.2.2.1) ∧ w'.cell? ⟨N, 4, none⟩ = some (.int .i64 l[k].2.2.2.2.1) ∧ w'.cell? ⟨N, 5, none⟩ = some (.int .i64 l[k].2.2.2.2.2.1) ∧ w'.cell? ⟨N, 6, none⟩ = some (.int .i64 l[k].2.2.2.2.2.2.1) ∧ w'.cell? ⟨N, 7, none⟩ = some (.int .i64 l[k].2.2.2.2.2.2.2) ∧ b < w'.heap.size ∧ N < w'.heap.size ∧ Below w.heap.size w w')) (by kernel_rfl) ⟨d0, d1, d2, d3, d4, d5, d6, d7, hbl, dl, HB.drew⟩ (fun hHeld => ?_)
        refine held1 0 (some 12) hHeld ?_
        refine held_do 1 fun K hK => ?_
        go_simp
        go_at_call 69; refine (implIsItem_at l[k] _ hokk).mono ?_; rintro e w3 ⟨rfl, hb3⟩; rw [hi]; go_simp
        refine hK.out _ _ ?_ (fun hHeld => ?_)
        · obtain ⟨y1, y2, y3, y4, y5, y6, y7, y8, y9, y10, y0⟩ := hHeld; exact ⟨(hb3.cell y10).trans y1, (hb3.cell y10).trans y2, (hb3.cell y10).trans y3, (hb3.cell y10).trans y4, (hb3.cell y10).trans y5, (hb3.cell y10).trans y6, (hb3.cell y10).trans y7, (hb3.cell y10).trans y8, Nat.lt_of_lt_of_le y9 hb3.size, Nat.lt_of_lt_of_le y10 hb3.size, below_on y0 hb3⟩
        clear hK K
        refine held1 2 (some 14) hHeld ?_
        refine held1 3 (some 15) hHeld ?_
        refine held0 4 (some 16) hHeld ?_
        refine held0 5 (some 17) hHeld ?_
        refine held0 6 (some 18) hHeld ?_
        refine held0 7 (some 19) hHeld ?_
        refine held0 8 (some 20) hHeld ?_
        refine held0 9 (some 21) hHeld ?_
        refine held0 10 (some 22) hHeld ?_
        refine held0 11 (some 23) hHeld ?_
        refine held0 12 (some 24) hHeld ?_
        refine held0 13 (some 25) hHeld ?_
        refine held0 14 (some 26) hHeld ?_
        refine held0 15 (some 27) hHeld ?_
        refine held0 16 (some 28) hHeld ?_
        refine held1 17 (some 29) hHeld ?_
        refine wpAnyH_done (by kernel_rfl) ?_ _
        go_split_ands
        go_wp2
        go_ret
        exact ⟨ret_bool (isCat_no hlt HC.out).symm, by with_reducible assumption⟩
      by_cases h0 : k = 0
      · have hy1 : decide (0 < k) = false := by simp; omega
        have hy2 : decide ((0 : Int) < (k : Int)) = false := by simp; omega
        have HC := Lib.hid (catAt_first hlt hi h0)
        clear h0 hI2
        go_wp2_with fail
        generalize wr.alloc (.cells #[.string l[k].1, .string l[k].2.1, .int .i64 l[k].2.2.1, .int .i64 l[k].2.2.2.1, .int .i64 l[k].2.2.2.2.1, .int .i64 l[k].2.2.2.2.2.1, .int .i64 l[k].2.2.2.2.2.2.1, .int .i64 l[k].2.2.2.2.2.2.2] 47) = wq at *
        generalize wr.heap.size = N at *
        clear hc0 hc1 hc2 hc3 hc4 hc5 hc6 hc7 hs HR
        refine wp_region_held_drew (S := (fun w' => w'.cell? ⟨N, 0, none⟩ = some (.string l[k].1) ∧ w'.cell? ⟨N, 1, none⟩ = some (.string l[k].2.1) ∧ w'.cell? ⟨N, 2, none⟩ = some (.int .i64 l[k].2.2.1) ∧ w'.cell? ⟨N, 3, none⟩ = some (.int .i64 l[k].2.2.2.1) ∧ w'.cell? ⟨N, 4, none⟩ = some (.int .i64 l[k].2.2.2.2.1) ∧ w'.cell? ⟨N, 5, none⟩ = some (.int .i64 l[k].2.2.2.2.2.1) ∧ w'.cell? ⟨N, 6, none⟩ = some (.int .i64 l[k].2.2.2.2.2.2.1) ∧ w'.cell? ⟨N, 7, none⟩ = some (.int .i64 l[k].2.2.2.2.2.2.2) ∧ b < w'.heap.size ∧ N < w'.heap.size ∧ Below w.heap.size w w')) (by kernel_rfl) ⟨d0, d1, d2, d3, d4, d5, d6, d7, hbl, dl, HB.drew⟩ (fun hHeld => ?_)
        refine held1 0 (some 12) hHeld ?_
        refine held_do 1 fun K hK => ?_
        go_simp
        go_at_call 69; refine (implIsItem_at l[k] _ hokk).mono ?_; rintro e w3 ⟨rfl, hb3⟩; rw [hi]; go_simp
        refine hK.out _ _ ?_ (fun hHeld => ?_)
        · obtain ⟨y1, y2, y3, y4, y5, y6, y7, y8, y9, y10, y0⟩ := hHeld; exact ⟨(hb3.cell y10).trans y1, (hb3.cell y10).trans y2, (hb3.cell y10).trans y3, (hb3.cell y10).trans y4, (hb3.cell y10).trans y5, (hb3.cell y10).trans y6, (hb3.cell y10).trans y7, (hb3.cell y10).trans y8, Nat.lt_of_lt_of_le y9 hb3.size, Nat.lt_of_lt_of_le y10 hb3.size, below_on y0 hb3⟩
        clear hK K
        refine held1 2 (some 14) hHeld ?_
        refine held1 3 (some 15) hHeld ?_
        refine held1 4 (some 16) hHeld ?_
        refine held1 5 (some 17) hHeld ?_
        refine held1 6 (some 18) hHeld ?_
        refine held0 7 (some 19) hHeld ?_
        refine held0 8 (some 20) hHeld ?_
        refine held0 9 (some 21) hHeld ?_
        refine held0 10 (some 22) hHeld ?_
        refine held0 11 (some 23) hHeld ?_
        refine held0 12 (some 24) hHeld ?_
        refine held0 13 (some 25) hHeld ?_
        refine held0 14 (some 26) hHeld ?_
        refine held0 15 (some 27) hHeld ?_
        refine held1 16 (some 28) hHeld ?_
        refine held1 17 (some 29) hHeld ?_
        refine wpAnyH_done (by kernel_rfl) ?_ _
        go_split_ands
        go_wp2
        go_roundw
        case rel => exact ⟨k + 1, by omega, by go_num, catAt_more HC.out HI.out, by with_reducible assumption⟩
        case measure => simp [intOf]; omega
      have hlt2 : k - 1 < l.length := by omega
      obtain ⟨b2, o2, e2, _, hp0, _⟩ := item_at hI2 hlt2
      obtain ⟨rfl, rfl⟩ : b = b2 ∧ o = o2 := by simpa using e2
      clear e2 hI2
      have hy1 : decide (0 < k) = true := by simp; omega
      have hy2 : decide ((0 : Int) < (k : Int)) = true := by simp; omega
      have hi1 : (0 : Int) ≤ (k : Int) - 1 := by omega
      have hi2 : (k : Int) - 1 < (l.length : Int) := by omega
      have hi3 : ((k : Int) - 1).toNat = k - 1 := by omega
      have hi4 : (1 : Int) ≤ (k : Int) := by omega
      have hwk : IntKind.i64.wrap ((k : Int) - 1) = (k : Int) - 1 := IntWalk.i64_in _ (by omega)
      have HC := Lib.hid (catAt_next hlt hi h0 hlt2)
      clear h0
      cases hq : itLt l[k - 1].1 l[k].1
      · have hq2 : Op.bytesLess l[k - 1].1.toList l[k].1.toList = false := hq
        go_wp2_with fail
        generalize wr.alloc (.cells #[.string l[k].1, .string l[k].2.1, .int .i64 l[k].2.2.1, .int .i64 l[k].2.2.2.1, .int .i64 l[k].2.2.2.2.1, .int .i64 l[k].2.2.2.2.2.1, .int .i64 l[k].2.2.2.2.2.2.1, .int .i64 l[k].2.2.2.2.2.2.2] 47) = wq at *
        generalize wr.heap.size = N at *
        clear hc0 hc1 hc2 hc3 hc4 hc5 hc6 hc7 hs HR
        refine wp_region_held_drew (S := (fun w' => w'.cell? ⟨N, 0, none⟩ = some (.string l[k].1) ∧ w'.cell? ⟨N, 1, none⟩ = some (.string l[k].2.1) ∧ w'.cell? ⟨N, 2, none⟩ = some (.int .i64 l[k].2.2.1) ∧ w'.cell? ⟨N, 3, none⟩ = some (.int .i64 l[k].2.2.2.1) ∧ w'.cell? ⟨N, 4, none⟩ = some (.int .i64 l[k].2.2.2.2.1) ∧ w'.cell? ⟨N, 5, none⟩ = some (.int .i64 l[k].2.2.2.2.2.1) ∧ w'.cell? ⟨N, 6, none⟩ = some (.int .i64 l[k].2.2.2.2.2.2.1) ∧ w'.cell? ⟨N, 7, none⟩ = some (.int .i64 l[k].2.2.2.2.2.2.2) ∧ w'.cell? ⟨b, o + (k - 1) * 8, none⟩ = some (.string l[k - 1].1) ∧ b < w'.heap.size ∧ N < w'.heap.size ∧ Below w.heap.size w w')) (by kernel_rfl) ⟨d0, d1, d2, d3, d4, d5, d6, d7, hp0, hbl, dl, HB.drew⟩ (fun hHeld => ?_)
        refine held1 0 (some 12) hHeld ?_
        refine held_do 1 fun K hK => ?_
        go_simp
        go_at_call 69; refine (implIsItem_at l[k] _ hokk).mono ?_; rintro e w3 ⟨rfl, hb3⟩; rw [hi]; go_simp
        refine hK.out _ _ ?_ (fun hHeld => ?_)
        · obtain ⟨y1, y2, y3, y4, y5, y6, y7, y8, y9, y10, y11, y0⟩ := hHeld; exact ⟨(hb3.cell y11).trans y1, (hb3.cell y11).trans y2, (hb3.cell y11).trans y3, (hb3.cell y11).trans y4, (hb3.cell y11).trans y5, (hb3.cell y11).trans y6, (hb3.cell y11).trans y7, (hb3.cell y11).trans y8, (hb3.cell y10).trans y9, Nat.lt_of_lt_of_le y10 hb3.size, Nat.lt_of_lt_of_le y11 hb3.size, below_on y0 hb3⟩
        clear hK K
        refine held1 2 (some 14) hHeld ?_
        refine held1 3 (some 15) hHeld ?_
        refine held1 4 (some 16) hHeld ?_
        refine held1 5 (some 17) hHeld ?_
        refine held1 6 (some 18) hHeld ?_
        refine held1 7 (some 19) hHeld ?_
        refine held1 8 (some 20) hHeld ?_
        refine held1 9 (some 21) hHeld ?_
        refine held1 10 (some 22) hHeld ?_
        refine held1 11 (some 23) hHeld ?_
        refine held1 12 (some 24) hHeld ?_
        refine held1 13 (some 25) hHeld ?_
        refine held1 14 (some 26) hHeld ?_
        refine held1 15 (some 27) hHeld ?_
        refine held1 16 (some 28) hHeld ?_
        refine held1 17 (some 29) hHeld ?_
        refine wpAnyH_done (by kernel_rfl) ?_ _
        go_split_ands
        go_wp2
        go_ret
        exact ⟨ret_bool (isCat_no hlt (HC.out.trans hq)).symm, by with_reducible assumption⟩
      · have hq2 : Op.bytesLess l[k - 1].1.toList l[k].1.toList = true := hq
        go_wp2_with fail
        generalize wr.alloc (.cells #[.string l[k].1, .string l[k].2.1, .int .i64 l[k].2.2.1, .int .i64 l[k].2.2.2.1, .int .i64 l[k].2.2.2.2.1, .int .i64 l[k].2.2.2.2.2.1, .int .i64 l[k].2.2.2.2.2.2.1, .int .i64 l[k].2.2.2.2.2.2.2] 47) = wq at *
        generalize wr.heap.size = N at *
        clear hc0 hc1 hc2 hc3 hc4 hc5 hc6 hc7 hs HR
        refine wp_region_held_drew (S := (fun w' => w'.cell? ⟨N, 0, none⟩ = some (.string l[k].1) ∧ w'.cell? ⟨N, 1, none⟩ = some (.string l[k].2.1) ∧ w'.cell? ⟨N, 2, none⟩ = some (.int .i64 l[k].2.2.1) ∧ w'.cell? ⟨N, 3, none⟩ = some (.int .i64 l[k].2.2.2.1) ∧ w'.cell? ⟨N, 4, none⟩ = some (.int .i64 l[k].2.2.2.2.1) ∧ w'.cell? ⟨N, 5, none⟩ = some (.int .i64 l[k].2.2.2.2.2.1) ∧ w'.cell? ⟨N, 6, none⟩ = some (.int .i64 l[k].2.2.2.2.2.2.1) ∧ w'.cell? ⟨N, 7, none⟩ = some (.int .i64 l[k].2.2.2.2.2.2.2) ∧ w'.cell? ⟨b, o + (k - 1) * 8, none⟩ = some (.string l[k - 1].1) ∧ b < w'.heap.size ∧ N < w'.heap.size ∧ Below w.heap.size w w')) (by kernel_rfl) ⟨d0, d1, d2, d3, d4, d5, d6, d7, hp0, hbl, dl, HB.drew⟩ (fun hHeld => ?_)
        refine held1 0 (some 12) hHeld ?_
        refine held_do 1 fun K hK => ?_
        go_simp
        go_at_call 69; refine (implIsItem_at l[k] _ hokk).mono ?_; rintro e w3 ⟨rfl, hb3⟩; rw [hi]; go_simp
        refine hK.out _ _ ?_ (fun hHeld => ?_)
        · obtain ⟨y1, y2, y3, y4, y5, y6, y7, y8, y9, y10, y11, y0⟩ := hHeld; exact ⟨(hb3.cell y11).trans y1, (hb3.cell y11).trans y2, (hb3.cell y11).trans y3, (hb3.cell y11).trans y4, (hb3.cell y11).trans y5, (hb3.cell y11).trans y6, (hb3.cell y11).trans y7, (hb3.cell y11).trans y8, (hb3.cell y10).trans y9, Nat.lt_of_lt_of_le y10 hb3.size, Nat.lt_of_lt_of_le y11 hb3.size, below_on y0 hb3⟩
        clear hK K
        refine held1 2 (some 14) hHeld ?_
        refine held1 3 (some 15) hHeld ?_
        refine held1 4 (some 16) hHeld ?_
        refine held1 5 (some 17) hHeld ?_
        refine held1 6 (some 18) hHeld ?_
        refine held1 7 (some 19) hHeld ?_
        refine held1 8 (some 20) hHeld ?_
        refine held1 9 (some 21) hHeld ?_
        refine held1 10 (some 22) hHeld ?_
        refine held1 11 (some 23) hHeld ?_
        refine held1 12 (some 24) hHeld ?_
        refine held1 13 (some 25) hHeld ?_
        refine held1 14 (some 26) hHeld ?_
        refine held1 15 (some 27) hHeld ?_
        refine held1 16 (some 28) hHeld ?_
        refine held1 17 (some 29) hHeld ?_
        refine wpAnyH_done (by kernel_rfl) ?_ _
        go_split_ands
        go_wp2
        go_roundw
        case rel => exact ⟨k + 1, by omega, by go_num, catAt_more (HC.out.trans hq) HI.out, by with_reducible assumption⟩
        case measure => simp [intOf]; omega
    · obtain rfl : k = l.length := by omega
      go_wp2
      go_ret
      exact ⟨ret_bool (isCat_end HI.out).symm, HR⟩
end Go.Proofs.Ytlkolehdikfddaa
/- Rows of the call's own and stores far from them. -/
namespace Go.Proofs.Ytlkolehdikfddaa
open Go.RowKit
theorem own_far {w : World} {lo : Nat} {e : TypeId} {sz n : Nat} {v : Value} {xs : List Value} (h : w.ownsRow lo e sz v n xs) {p : Addr} (hp : p.block < lo) (x : Value) : (w.setCell p x).ownsRow lo e sz v n xs := by
  refine World.ownsRow.kept h (row := some p.block) ⟨rfl, rfl, rfl, by simp, fun k _ hk => heap_setCell_other w p k x (fun e => hk (by simp [e]))⟩ (.inr ?_)
  intro he
  have := own_block h _ he
  omega
theorem OwnInts.far {w : World} {lo : Nat} {A : Option Addr} {n c : Nat} {l : List Int} (h : OwnInts w lo A n c l) {p : Addr} (hp : p.block < lo) (x : Value) : OwnInts (w.setCell p x) lo A n c l := ⟨h.1, own_far h.2 hp x⟩
theorem OwnRows.far {α : Type} {F : Flat α} {e : TypeId} {w : World} {lo : Nat} {A : Option Addr} {n c : Nat} {l : List α} (h : OwnRows F e w lo A n c l) {p : Addr} (hp : p.block < lo) (x : Value) : OwnRows F e (w.setCell p x) lo A n c l := ⟨h.1, own_far h.2 hp x⟩
end Go.Proofs.Ytlkolehdikfddaa
/- BillLine: rows in rows; the walks of the laws' own helpers on lists of it. -/
namespace Go.Proofs.Ytlkolehdikfddaa
open Go.RowKit
abbrev Bl := ByteArray × ByteArray × Int × Int × Int × List Cn
abbrev BlR := ByteArray × ByteArray × Int × Int × Int × (Option Addr × Nat × Nat)
def blF : Flat BlR := ⟨fun f => [.string (f.1), .string (f.2.1), .int .i64 (f.2.2.1), .int .i64 (f.2.2.2.1), .int .i64 (f.2.2.2.2.1), .slice f.2.2.2.2.2.1 f.2.2.2.2.2.2.1 f.2.2.2.2.2.2.2], 6, fun _ => rfl⟩
/-- A raw element and what it stands for. -/
def BlOf (P : Option Addr → Nat → List Cn → Prop) (r : BlR) (j : Bl) : Prop := r.1 = j.1 ∧ r.2.1 = j.2.1 ∧ r.2.2.1 = j.2.2.1 ∧ r.2.2.2.1 = j.2.2.2.1 ∧ r.2.2.2.2.1 = j.2.2.2.2.1 ∧ P r.2.2.2.2.2.1 r.2.2.2.2.2.2.1 j.2.2.2.2.2
theorem BlOf.imp {P Q : Option Addr → Nat → List Cn → Prop} {r : BlR} {j : Bl} (h : BlOf P r j) (hi : ∀ A n l, P A n l → Q A n l) : BlOf Q r j := by
  simp only [BlOf] at h ⊢
  exact ⟨h.1, h.2.1, h.2.2.1, h.2.2.2.1, h.2.2.2.2.1, hi _ _ _ h.2.2.2.2.2⟩
def BillLineOfs (P : Option Addr → Nat → List Cn → Prop) (R : List BlR) (l : List Bl) : Prop := R.length = l.length ∧ ∀ k (h1 : k < R.length) (h2 : k < l.length), BlOf P R[k] l[k]
theorem BillLineOfs.imp {P Q : Option Addr → Nat → List Cn → Prop} {R : List BlR} {l : List Bl} (h : BillLineOfs P R l) (hi : ∀ A n l, P A n l → Q A n l) : BillLineOfs Q R l := ⟨h.1, fun k h1 h2 => (h.2 k h1 h2).imp hi⟩
theorem BillLineOfs.snoc {P : Option Addr → Nat → List Cn → Prop} {R : List BlR} {l : List Bl} {r : BlR} {j : Bl} (h : BillLineOfs P R l) (hj : BlOf P r j) : BillLineOfs P (R ++ [r]) (l ++ [j]) := by
  refine ⟨by simp [h.1], fun k h1 h2 => ?_⟩
  simp only [List.length_append, List.length_cons, List.length_nil] at h1
  have hl := h.1
  simp only [List.getElem_append]
  by_cases hk : k < R.length
  · rw [dif_pos hk, dif_pos (by omega)]; exact h.2 k hk (by omega)
  · rw [dif_neg hk, dif_neg (by omega)]
    simp only [List.getElem_singleton]; exact hj
def BillLinesIn (w : World) (A : Option Addr) (n : Nat) (l : List Bl) : Prop := ∃ R, RowsIn blF w A n R ∧ BillLineOfs (CondsIn w) R l
/-- As it came in: a row within is read only where it is not too long. -/
def BillLinePre (w : World) (A : Option Addr) (n : Nat) (l : List Bl) : Prop := ∃ R, RowsIn blF w A n R ∧ BillLineOfs (fun A n l => n ≤ 9223372036854775807 ∧ (n ≤ 1048576 → CondsIn w A n l)) R l
/-- Of the call's own, all rows in blocks from lo on. -/
def BillLineFrom (w : World) (lo : Nat) (A : Option Addr) (n c : Nat) (l : List Bl) : Prop := ∃ R, OwnRows blF 90 w lo A n c R ∧ BillLineOfs (fun A n l => OwnRows cnF 114 w lo A n n l ∧ l.length ≤ 16777216) R l
section
variable {w w' : World} {A : Option Addr} {n c lo : Nat} {l : List Bl}
theorem BillLinesIn.keep (h : BillLinesIn w A n l) (hb : Below w.heap.size w w') : BillLinesIn w' A n l := by
  obtain ⟨R, h1, h2⟩ := h
  exact ⟨R, h1.keep hb, h2.imp (fun _ _ _ h => h.keep hb)⟩
theorem BillLinesIn.len (h : BillLinesIn w A n l) : l.length ≤ 16777216 := by obtain ⟨R, h1, h2⟩ := h; rw [← h2.1]; exact h1.len
theorem BillLinesIn.num (h : BillLinesIn w A n l) : n = l.length := by obtain ⟨R, h1, h2⟩ := h; rw [← h2.1]; exact h1.1
theorem BillLinePre.keep (h : BillLinePre w A n l) (hb : Below w.heap.size w w') : BillLinePre w' A n l := by
  obtain ⟨R, h1, h2⟩ := h
  exact ⟨R, h1.keep hb, h2.imp (fun _ _ _ h => ⟨h.1, fun hn => (h.2 hn).keep hb⟩)⟩
theorem BillLinePre.len (h : BillLinePre w A n l) : l.length ≤ 16777216 := by obtain ⟨R, h1, h2⟩ := h; rw [← h2.1]; exact h1.len
theorem BillLineFrom.keep (h : BillLineFrom w lo A n c l) (hb : Below w.heap.size w w') : BillLineFrom w' lo A n c l := by
  obtain ⟨R, h1, h2⟩ := h
  exact ⟨R, h1.keep hb, h2.imp (fun _ _ _ h => ⟨h.1.keep hb, h.2⟩)⟩
theorem BillLineFrom.far (h : BillLineFrom w lo A n c l) {p : Addr} (hp : p.block < lo) (x : Value) : BillLineFrom (w.setCell p x) lo A n c l := by
  obtain ⟨R, h1, h2⟩ := h
  exact ⟨R, h1.far hp x, h2.imp (fun _ _ _ h => ⟨h.1.far hp x, h.2⟩)⟩
theorem BillLineFrom.lower {lo' : Nat} (h : BillLineFrom w lo A n c l) (hl : lo' ≤ lo) : BillLineFrom w lo' A n c l := by
  obtain ⟨R, h1, h2⟩ := h
  exact ⟨R, h1.lower hl, h2.imp (fun _ _ _ h => ⟨h.1.lower hl, h.2⟩)⟩
theorem BillLineFrom.rows (h : BillLineFrom w lo A n c l) (hn : l.length ≤ 16777216) : BillLinesIn w A n l := by
  obtain ⟨R, h1, h2⟩ := h
  exact ⟨R, h1.rows (by rw [h2.1]; exact hn), h2.imp (fun _ _ _ h => h.1.rows h.2)⟩
theorem BillLineFrom.at_ (h : BillLineFrom w lo A n c l) : BillLineFrom w lo A n c l := h
theorem bl_at (h : BillLinesIn w A n l) {k : Nat} (hk : k < l.length) :
    ∃ b o B m c, A = some ⟨b, o, none⟩ ∧ b < w.heap.size ∧ w.cell? ⟨b, o + k * 6, none⟩ = some (.string (l[k].1)) ∧ w.cell? ⟨b, o + k * 6 + 1, none⟩ = some (.string (l[k].2.1)) ∧ w.cell? ⟨b, o + k * 6 + 2, none⟩ = some (.int .i64 (l[k].2.2.1)) ∧ w.cell? ⟨b, o + k * 6 + 3, none⟩ = some (.int .i64 (l[k].2.2.2.1)) ∧ w.cell? ⟨b, o + k * 6 + 4, none⟩ = some (.int .i64 (l[k].2.2.2.2.1)) ∧ w.cell? ⟨b, o + k * 6 + 5, none⟩ = some (.slice B m c) ∧ CondsIn w B m l[k].2.2.2.2.2 := by
  obtain ⟨R, h1, h2, h3⟩ := h
  obtain ⟨b, o, e, hlt, hc⟩ := h1.at_ (k := k) (by omega)
  have h4 := h3 k (by omega) hk
  simp only [BlOf] at h4
  refine ⟨b, o, _, _, _, e, hlt, by rw [← h4.1]; exact hc 0 _ rfl, by rw [← h4.2.1]; exact hc 1 _ rfl, by rw [← h4.2.2.1]; exact hc 2 _ rfl, by rw [← h4.2.2.2.1]; exact hc 3 _ rfl, by rw [← h4.2.2.2.2.1]; exact hc 4 _ rfl, hc 5 _ rfl, h4.2.2.2.2.2⟩
end
theorem blInfo : (Try.prog.info? 90).map (fun i => (i.zero, i.size, i.bytes)) = some (some (.agg #[.string { data := #[] }, .string { data := #[] }, .int .i64 0, .int .i64 0, .int .i64 0, .slice none 0 0]), 6, 80) := by kernel_rfl

def okBl (x : Bl) : Prop := x.1.size ≤ 9223372036854775807 ∧ x.2.1.size ≤ 9223372036854775807 ∧ ∀ y ∈ x.2.2.2.2.2, okCn y
end Go.Proofs.Ytlkolehdikfddaa
