/- Part 9 of the texts of this claim: The walks of IsCatalog and FindItem. -/
import Derived.Test.YtpbibkjcjgggdaaIt8
/- The walks of IsCatalog and FindItem. -/
namespace Go.Proofs.Ytpbibkjcjgggdaa
open Go.RowKit
theorem catAt_first {l : List It} {k : Nat} (hk : k < l.length) (h : isItem l[k] = true) (h0 : k = 0) : catAt l itLt k = true := by rw [catAt_of hk, h, decide_eq_true h0]; rfl
theorem catAt_next {l : List It} {k : Nat} (hk : k < l.length) (h : isItem l[k] = true) (h0 : ¬ k = 0) (hp : k - 1 < l.length) : catAt l itLt k = itLt l[k - 1].1 l[k].1 := by rw [catAt_of hk, h, decide_eq_false h0, it_getD _ _ hp]; rfl
theorem catAt_bad {l : List It} {k : Nat} (hk : k < l.length) (h : isItem l[k] = false) : catAt l itLt k = false := by rw [catAt_of hk, h]; rfl
theorem catAt_more {l : List It} {k : Nat} (h : catAt l itLt k = true) (hI : ∀ j < k, catAt l itLt j = true) : ∀ j < k + 1, catAt l itLt j = true := fun j hj => by
  rcases Nat.lt_or_ge j k with h1 | h1
  · exact hI j h1
  · rw [show j = k by omega]; exact h
theorem specIsItem_at (x : It) (w : World) (hok : okIt x) : Calls Try.prog 34 #[.agg #[.string x.1, .string x.2.1, .int .i64 x.2.2.1, .int .i64 x.2.2.2.1, .int .i64 x.2.2.2.2.1, .int .i64 x.2.2.2.2.2.1, .int .i64 x.2.2.2.2.2.2.1, .int .i64 x.2.2.2.2.2.2.2]] w fun e w' => e = .returned (.bool (isItem x)) ∧ Below w.heap.size w w' := by
  unfold okIt at hok
  exact specIsItem_any _ _ _ _ _ _ _ _ w hok.1 hok.2
theorem implIsItem_at (x : It) (w : World) (hok : okIt x) : Calls Try.prog 56 #[.agg #[.string x.1, .string x.2.1, .int .i64 x.2.2.1, .int .i64 x.2.2.2.1, .int .i64 x.2.2.2.2.1, .int .i64 x.2.2.2.2.2.1, .int .i64 x.2.2.2.2.2.2.1, .int .i64 x.2.2.2.2.2.2.2]] w fun e w' => e = .returned (.bool (isItem x)) ∧ Below w.heap.size w w' := by
  unfold okIt at hok
  exact implIsItem_any _ _ _ _ _ _ _ _ w hok.1 hok.2
set_option maxRecDepth 100000 in
theorem specFindItem_any (A : Option Addr) (n c : Nat) (l : List It) (s : ByteArray) (w : World) (hl : ItemsIn w A n l) :
    Calls Try.prog 8 #[.slice A n c, .string s] w fun e w' => e = .returned (.int .i64 (findIt l s)) ∧ w = w' := by
  have hn := hl.len
  obtain rfl := hl.1
  go_enter Try.func8, Try.ntmps8
  go_wp2
  go_loop [5] (fun i => ∃ k : Nat, k ≤ l.length ∧ i = .int .i64 k ∧ Hid (∀ j (hj : j < l.length), j < k → (l[j].1.toList == s.toList) = false)) (fun i => l.length - (intOf i).toNat)
  case atStart => exact ⟨0, by omega, rfl, fun j _ h => absurd h (by omega)⟩
  case round =>
    obtain ⟨k, hk, rfl, HI⟩ := hrel
    by_cases hlt : k < l.length
    · obtain ⟨b, o, rfl, hbl, hc0, hc1, hc2, hc3, hc4, hc5, hc6, hc7⟩ := item_at hl hlt
      cases he : (l[k].1.toList == s.toList)
      · have HX : Hid (∀ j (hj : j < l.length), j < k + 1 → (l[j].1.toList == s.toList) = false) := fun j hj hjk => by
          rcases Nat.lt_or_ge j k with h1 | h1
          · exact HI.out j hj h1
          · obtain rfl : j = k := by omega
            exact he
        go_wp2
        go_round
        case rel => exact ⟨k + 1, by omega, by go_num, HX.out⟩
        case measure => simp [intOf]; omega
      · have HF := Lib.hid (findIt_hit hlt HI.out he)
        go_wp2
        go_ret
        exact ⟨ret_int HF.out.symm, rfl⟩
    · obtain rfl : k = l.length := by omega
      have HF := Lib.hid (findIt_miss (c := s) (fun j hj => HI.out j hj hj))
      go_wp2
      go_ret
      exact ⟨ret_int HF.out.symm, rfl⟩
set_option maxRecDepth 100000 in
theorem implFindItem_any (A : Option Addr) (n c : Nat) (l : List It) (s : ByteArray) (w : World) (hl : ItemsIn w A n l) :
    Calls Try.prog 20 #[.slice A n c, .string s] w fun e w' => e = .returned (.int .i64 (findIt l s)) ∧ Below w.heap.size w w' := by
  have hn := hl.len
  obtain rfl := hl.1
  go_enter Try.func20, Try.ntmps20
  go_wp2
  go_loopw [9] (fun i wr => ∃ k : Nat, k ≤ l.length ∧ i = .int .i64 k ∧ Hid (∀ j (hj : j < l.length), j < k → (l[j].1.toList == s.toList) = false) ∧ Below w.heap.size w wr) (fun i _ => l.length - (intOf i).toNat)
  case atStart => exact ⟨0, by omega, rfl, fun j _ h => absurd h (by omega), Below.refl _ _⟩
  case round =>
    obtain ⟨k, hk, rfl, HI, HR⟩ := hrel
    by_cases hlt : k < l.length
    · obtain ⟨b, o, rfl, hbl, hc0, hc1, hc2, hc3, hc4, hc5, hc6, hc7⟩ := item_at (hl.keep HR) hlt
      have hsz := HR.size
      have HA := HR.alloc hsz (.cells #[.string l[k].1, .string l[k].2.1, .int .i64 l[k].2.2.1, .int .i64 l[k].2.2.2.1, .int .i64 l[k].2.2.2.2.1, .int .i64 l[k].2.2.2.2.2.1, .int .i64 l[k].2.2.2.2.2.2.1, .int .i64 l[k].2.2.2.2.2.2.2] 42)
      cases he : (l[k].1.toList == s.toList)
      · have HX : Hid (∀ j (hj : j < l.length), j < k + 1 → (l[j].1.toList == s.toList) = false) := fun j hj hjk => by
          rcases Nat.lt_or_ge j k with h1 | h1
          · exact HI.out j hj h1
          · obtain rfl : j = k := by omega
            exact he
        go_wp2
        go_roundw
        case rel => exact ⟨k + 1, by omega, by go_num, HX.out, HA⟩
        case measure => simp [intOf]; omega
      · have HF := Lib.hid (findIt_hit hlt HI.out he)
        go_wp2
        go_ret
        exact ⟨ret_int HF.out.symm, HA⟩
    · obtain rfl : k = l.length := by omega
      have HF := Lib.hid (findIt_miss (c := s) (fun j hj => HI.out j hj hj))
      go_wp2
      go_ret
      exact ⟨ret_int HF.out.symm, HR⟩
set_option maxRecDepth 100000 in
set_option maxHeartbeats 4000000 in
theorem specIsCatalog_any (A : Option Addr) (n c : Nat) (l : List It) (w : World) (hl : ItemsIn w A n l) (hok : ∀ x ∈ l, okIt x) :
    Calls Try.prog 74 #[.slice A n c] w fun e w' => e = .returned (.bool (isCat l)) ∧ Below w.heap.size w w' := by
  have hn := hl.len
  obtain rfl := hl.1
  have HO := Lib.hid hok
  clear hok
  go_enter Try.func74, Try.ntmps74
  go_wp2
  go_loopw [3] (fun i wr => ∃ k : Nat, k ≤ l.length ∧ i = .int .i64 k ∧ Hid (∀ j < k, catAt l itLt j = true) ∧ Below w.heap.size w wr) (fun i _ => l.length - (intOf i).toNat)
  case atStart => exact ⟨0, by omega, rfl, fun j h => absurd h (by omega), Below.refl _ _⟩
  case round =>
    obtain ⟨k, hk, rfl, HI, HR⟩ := hrel
    by_cases hlt : k < l.length
    · have hokk := HO.out _ (List.getElem_mem hlt)
      obtain ⟨b, o, rfl, hbl, hc0, hc1, hc2, hc3, hc4, hc5, hc6, hc7⟩ := item_at (hl.keep HR) hlt
      have hI2 := hl.keep HR
      cases hi : isItem l[k]
      · have HC := Lib.hid (catAt_bad hlt hi)
        clear hI2
        go_wp2_with fail
        refine wp_region_held_drew (S := (fun w' => w'.cell? ⟨b, o + k * 8, none⟩ = some (.string l[k].1) ∧ w'.cell? ⟨b, o + k * 8 + 1, none⟩ = some (.string l[k].2.1) ∧ w'.cell? ⟨b, o + k * 8 + 2, none⟩ = some (.int .i64 l[k].2.2.1) ∧ w'.cell? ⟨b, o + k * 8 + 3, none⟩ = some (.int .i64 l[k].2.2.2.1) ∧ w'.cell? ⟨b, o + k * 8 + 4, none⟩ = some (.int .i64 l[k].2.2.2.2.1) ∧ w'.cell? ⟨b, o + k * 8 + 5, none⟩ = some (.int .i64 l[k].2.2.2.2.2.1) ∧ w'.cell? ⟨b, o + k * 8 + 6, none⟩ = some (.int .i64 l[k].2.2.2.2.2.2.1) ∧ w'.cell? ⟨b, o + k * 8 + 7, none⟩ = some (.int .i64 l[k].2.2.2.2.2.2.2) ∧ b < w'.heap.size ∧ Below w.heap.size w w')) (by kernel_rfl) ⟨hc0, hc1, hc2, hc3, hc4, hc5, hc6, hc7, hbl, HR.drew⟩ (fun hHeld => ?_)
        refine held_on 0 (some 10) rfl rfl (by kernel_rfl) (by kernel_rfl) (by kernel_rfl) (fun _ _ _ h => h) (by rfl) hHeld (v := ?v1) ?y1 ?r1
        case y1 => intro w hSw; (try dsimp only at hSw); go_simp; (try with_reducible rfl)
        try simp only [Act.put, List.setIfInBounds_toArray, List.set_cons_zero, List.set_cons_succ]
        refine held_on 1 (some 11) rfl rfl (by kernel_rfl) (by kernel_rfl) (by kernel_rfl) (fun _ _ _ h => h) (by rfl) hHeld (v := ?v2) ?y2 ?r2
        case y2 => intro w hSw; (try dsimp only at hSw); go_simp; (try with_reducible rfl)
        try simp only [Act.put, List.setIfInBounds_toArray, List.set_cons_zero, List.set_cons_succ]
        refine held_on 2 (some 12) rfl rfl (by kernel_rfl) (by kernel_rfl) (by kernel_rfl) (fun _ _ _ h => h) (by rfl) hHeld (v := ?v3) ?y3 ?r3
        case y3 => intro w hSw; (try dsimp only at hSw); go_simp; (try with_reducible rfl)
        try simp only [Act.put, List.setIfInBounds_toArray, List.set_cons_zero, List.set_cons_succ]
        refine held_on 3 (some 13) rfl rfl (by kernel_rfl) (by kernel_rfl) (by kernel_rfl) (fun _ _ _ h => h) (by rfl) hHeld (v := ?v4) ?y4 ?r4
        case y4 => intro w hSw; (try dsimp only at hSw); go_simp; (try with_reducible rfl)
        try simp only [Act.put, List.setIfInBounds_toArray, List.set_cons_zero, List.set_cons_succ]
        refine wpAnyH_ready (rs := [4]) (by kernel_rfl) (by simp) ?_
        refine AllReadyH.cons rfl (fun K hK => ?_) AllReadyH.nil
        go_simp
        go_at_call 34; refine (specIsItem_at l[k] _ hokk).mono ?_; rintro e w3 ⟨rfl, hb3⟩; rw [hi]; go_simp
        refine hK.out _ _ ?_ (fun hHeld => ?_)
        · obtain ⟨y1, y2, y3, y4, y5, y6, y7, y8, y9, y0⟩ := hHeld; exact ⟨(hb3.cell y9).trans y1, (hb3.cell y9).trans y2, (hb3.cell y9).trans y3, (hb3.cell y9).trans y4, (hb3.cell y9).trans y5, (hb3.cell y9).trans y6, (hb3.cell y9).trans y7, (hb3.cell y9).trans y8, Nat.lt_of_lt_of_le y9 hb3.size, below_on y0 hb3⟩
        clear hK K
        try simp only [Act.put, List.setIfInBounds_toArray, List.set_cons_zero, List.set_cons_succ]
        refine held_on 5 (some 15) rfl rfl (by kernel_rfl) (by kernel_rfl) (by kernel_rfl) (fun _ _ _ h => h) (by rfl) hHeld (v := ?v5) ?y5 ?r5
        case y5 => intro w hSw; (try dsimp only at hSw); go_simp; (try with_reducible rfl)
        try simp only [Act.put, List.setIfInBounds_toArray, List.set_cons_zero, List.set_cons_succ]
        refine held_on 6 (some 16) rfl rfl (by kernel_rfl) (by kernel_rfl) (by kernel_rfl) (fun _ _ _ h => h) (by rfl) hHeld (v := ?v6) ?y6 ?r6
        case y6 => intro w hSw; (try dsimp only at hSw); go_simp; (try with_reducible rfl)
        try simp only [Act.put, List.setIfInBounds_toArray, List.set_cons_zero, List.set_cons_succ]
        refine held_off 7 (some 17) rfl rfl (by kernel_rfl) (by kernel_rfl) (by kernel_rfl) (fun _ _ _ h => h) (by rfl) hHeld ?_
        try simp only [Act.put, List.setIfInBounds_toArray, List.set_cons_zero, List.set_cons_succ]
        refine held_off 8 (some 18) rfl rfl (by kernel_rfl) (by kernel_rfl) (by kernel_rfl) (fun _ _ _ h => h) (by rfl) hHeld ?_
        try simp only [Act.put, List.setIfInBounds_toArray, List.set_cons_zero, List.set_cons_succ]
        refine held_off 9 (some 19) rfl rfl (by kernel_rfl) (by kernel_rfl) (by kernel_rfl) (fun _ _ _ h => h) (by rfl) hHeld ?_
        try simp only [Act.put, List.setIfInBounds_toArray, List.set_cons_zero, List.set_cons_succ]
        refine held_off 10 (some 20) rfl rfl (by kernel_rfl) (by kernel_rfl) (by kernel_rfl) (fun _ _ _ h => h) (by rfl) hHeld ?_
        try simp only [Act.put, List.setIfInBounds_toArray, List.set_cons_zero, List.set_cons_succ]
        refine held_off 11 (some 21) rfl rfl (by kernel_rfl) (by kernel_rfl) (by kernel_rfl) (fun _ _ _ h => h) (by rfl) hHeld ?_
        try simp only [Act.put, List.setIfInBounds_toArray, List.set_cons_zero, List.set_cons_succ]
        refine held_off 12 (some 22) rfl rfl (by kernel_rfl) (by kernel_rfl) (by kernel_rfl) (fun _ _ _ h => h) (by rfl) hHeld ?_
        try simp only [Act.put, List.setIfInBounds_toArray, List.set_cons_zero, List.set_cons_succ]
        refine held_off 13 (some 23) rfl rfl (by kernel_rfl) (by kernel_rfl) (by kernel_rfl) (fun _ _ _ h => h) (by rfl) hHeld ?_
        try simp only [Act.put, List.setIfInBounds_toArray, List.set_cons_zero, List.set_cons_succ]
        refine held_off 14 (some 24) rfl rfl (by kernel_rfl) (by kernel_rfl) (by kernel_rfl) (fun _ _ _ h => h) (by rfl) hHeld ?_
        try simp only [Act.put, List.setIfInBounds_toArray, List.set_cons_zero, List.set_cons_succ]
        refine held_off 15 (some 25) rfl rfl (by kernel_rfl) (by kernel_rfl) (by kernel_rfl) (fun _ _ _ h => h) (by rfl) hHeld ?_
        try simp only [Act.put, List.setIfInBounds_toArray, List.set_cons_zero, List.set_cons_succ]
        refine held_off 16 (some 26) rfl rfl (by kernel_rfl) (by kernel_rfl) (by kernel_rfl) (fun _ _ _ h => h) (by rfl) hHeld ?_
        try simp only [Act.put, List.setIfInBounds_toArray, List.set_cons_zero, List.set_cons_succ]
        refine held_off 17 (some 27) rfl rfl (by kernel_rfl) (by kernel_rfl) (by kernel_rfl) (fun _ _ _ h => h) (by rfl) hHeld ?_
        try simp only [Act.put, List.setIfInBounds_toArray, List.set_cons_zero, List.set_cons_succ]
        refine held_off 18 (some 28) rfl rfl (by kernel_rfl) (by kernel_rfl) (by kernel_rfl) (fun _ _ _ h => h) (by rfl) hHeld ?_
        try simp only [Act.put, List.setIfInBounds_toArray, List.set_cons_zero, List.set_cons_succ]
        refine held_off 19 (some 29) rfl rfl (by kernel_rfl) (by kernel_rfl) (by kernel_rfl) (fun _ _ _ h => h) (by rfl) hHeld ?_
        try simp only [Act.put, List.setIfInBounds_toArray, List.set_cons_zero, List.set_cons_succ]
        refine held_off 20 (some 30) rfl rfl (by kernel_rfl) (by kernel_rfl) (by kernel_rfl) (fun _ _ _ h => h) (by rfl) hHeld ?_
        try simp only [Act.put, List.setIfInBounds_toArray, List.set_cons_zero, List.set_cons_succ]
        refine held_off 21 (some 31) rfl rfl (by kernel_rfl) (by kernel_rfl) (by kernel_rfl) (fun _ _ _ h => h) (by rfl) hHeld ?_
        try simp only [Act.put, List.setIfInBounds_toArray, List.set_cons_zero, List.set_cons_succ]
        refine held_off 22 (some 32) rfl rfl (by kernel_rfl) (by kernel_rfl) (by kernel_rfl) (fun _ _ _ h => h) (by rfl) hHeld ?_
        try simp only [Act.put, List.setIfInBounds_toArray, List.set_cons_zero, List.set_cons_succ]
        refine held_on 23 (some 33) rfl rfl (by kernel_rfl) (by kernel_rfl) (by kernel_rfl) (fun _ _ _ h => h) (by rfl) hHeld (v := ?v7) ?y7 ?r7
        case y7 => intro w hSw; (try dsimp only at hSw); go_simp; (try with_reducible rfl)
        try simp only [Act.put, List.setIfInBounds_toArray, List.set_cons_zero, List.set_cons_succ]
        refine wpAnyH_done (by kernel_rfl) ?_ _
        go_split_ands
        go_wp2
        go_ret
        exact ⟨ret_bool (isCat_no hlt HC.out).symm, by with_reducible assumption⟩
      by_cases h0 : k = 0
      · have hy1 : decide (0 < k) = false := by simp; omega
        have hy2 : decide ((0 : Int) < (k : Int)) = false := by simp; omega
        have HC := Lib.hid (catAt_first hlt hi h0)
        clear h0 hI2
        go_wp2_with fail
        refine wp_region_held_drew (S := (fun w' => w'.cell? ⟨b, o + k * 8, none⟩ = some (.string l[k].1) ∧ w'.cell? ⟨b, o + k * 8 + 1, none⟩ = some (.string l[k].2.1) ∧ w'.cell? ⟨b, o + k * 8 + 2, none⟩ = some (.int .i64 l[k].2.2.1) ∧ w'.cell? ⟨b, o + k * 8 + 3, none⟩ = some (.int .i64 l[k].2.2.2.1) ∧ w'.cell? ⟨b, o + k * 8 + 4, none⟩ = some (.int .i64 l[k].2.2.2.2.1) ∧ w'.cell? ⟨b, o + k * 8 + 5, none⟩ = some (.int .i64 l[k].2.2.2.2.2.1) ∧ w'.cell? ⟨b, o + k * 8 + 6, none⟩ = some (.int .i64 l[k].2.2.2.2.2.2.1) ∧ w'.cell? ⟨b, o + k * 8 + 7, none⟩ = some (.int .i64 l[k].2.2.2.2.2.2.2) ∧ b < w'.heap.size ∧ Below w.heap.size w w')) (by kernel_rfl) ⟨hc0, hc1, hc2, hc3, hc4, hc5, hc6, hc7, hbl, HR.drew⟩ (fun hHeld => ?_)
        refine held_on 0 (some 10) rfl rfl (by kernel_rfl) (by kernel_rfl) (by kernel_rfl) (fun _ _ _ h => h) (by rfl) hHeld (v := ?v8) ?y8 ?r8
        case y8 => intro w hSw; (try dsimp only at hSw); go_simp; (try with_reducible rfl)
        try simp only [Act.put, List.setIfInBounds_toArray, List.set_cons_zero, List.set_cons_succ]
        refine held_on 1 (some 11) rfl rfl (by kernel_rfl) (by kernel_rfl) (by kernel_rfl) (fun _ _ _ h => h) (by rfl) hHeld (v := ?v9) ?y9 ?r9
        case y9 => intro w hSw; (try dsimp only at hSw); go_simp; (try with_reducible rfl)
        try simp only [Act.put, List.setIfInBounds_toArray, List.set_cons_zero, List.set_cons_succ]
        refine held_on 2 (some 12) rfl rfl (by kernel_rfl) (by kernel_rfl) (by kernel_rfl) (fun _ _ _ h => h) (by rfl) hHeld (v := ?v10) ?y10 ?r10
        case y10 => intro w hSw; (try dsimp only at hSw); go_simp; (try with_reducible rfl)
        try simp only [Act.put, List.setIfInBounds_toArray, List.set_cons_zero, List.set_cons_succ]
        refine held_on 3 (some 13) rfl rfl (by kernel_rfl) (by kernel_rfl) (by kernel_rfl) (fun _ _ _ h => h) (by rfl) hHeld (v := ?v11) ?y11 ?r11
        case y11 => intro w hSw; (try dsimp only at hSw); go_simp; (try with_reducible rfl)
        try simp only [Act.put, List.setIfInBounds_toArray, List.set_cons_zero, List.set_cons_succ]
        refine wpAnyH_ready (rs := [4]) (by kernel_rfl) (by simp) ?_
        refine AllReadyH.cons rfl (fun K hK => ?_) AllReadyH.nil
        go_simp
        go_at_call 34; refine (specIsItem_at l[k] _ hokk).mono ?_; rintro e w3 ⟨rfl, hb3⟩; rw [hi]; go_simp
        refine hK.out _ _ ?_ (fun hHeld => ?_)
        · obtain ⟨y1, y2, y3, y4, y5, y6, y7, y8, y9, y0⟩ := hHeld; exact ⟨(hb3.cell y9).trans y1, (hb3.cell y9).trans y2, (hb3.cell y9).trans y3, (hb3.cell y9).trans y4, (hb3.cell y9).trans y5, (hb3.cell y9).trans y6, (hb3.cell y9).trans y7, (hb3.cell y9).trans y8, Nat.lt_of_lt_of_le y9 hb3.size, below_on y0 hb3⟩
        clear hK K
        try simp only [Act.put, List.setIfInBounds_toArray, List.set_cons_zero, List.set_cons_succ]
        refine held_on 5 (some 15) rfl rfl (by kernel_rfl) (by kernel_rfl) (by kernel_rfl) (fun _ _ _ h => h) (by rfl) hHeld (v := ?v12) ?y12 ?r12
        case y12 => intro w hSw; (try dsimp only at hSw); go_simp; (try with_reducible rfl)
        try simp only [Act.put, List.setIfInBounds_toArray, List.set_cons_zero, List.set_cons_succ]
        refine held_on 6 (some 16) rfl rfl (by kernel_rfl) (by kernel_rfl) (by kernel_rfl) (fun _ _ _ h => h) (by rfl) hHeld (v := ?v13) ?y13 ?r13
        case y13 => intro w hSw; (try dsimp only at hSw); go_simp; (try with_reducible rfl)
        try simp only [Act.put, List.setIfInBounds_toArray, List.set_cons_zero, List.set_cons_succ]
        refine held_on 7 (some 17) rfl rfl (by kernel_rfl) (by kernel_rfl) (by kernel_rfl) (fun _ _ _ h => h) (by rfl) hHeld (v := ?v14) ?y14 ?r14
        case y14 => intro w hSw; (try dsimp only at hSw); go_simp; (try with_reducible rfl)
        try simp only [Act.put, List.setIfInBounds_toArray, List.set_cons_zero, List.set_cons_succ]
        refine held_on 8 (some 18) rfl rfl (by kernel_rfl) (by kernel_rfl) (by kernel_rfl) (fun _ _ _ h => h) (by rfl) hHeld (v := ?v15) ?y15 ?r15
        case y15 => intro w hSw; (try dsimp only at hSw); go_simp; (try with_reducible rfl)
        try simp only [Act.put, List.setIfInBounds_toArray, List.set_cons_zero, List.set_cons_succ]
        refine held_on 9 (some 19) rfl rfl (by kernel_rfl) (by kernel_rfl) (by kernel_rfl) (fun _ _ _ h => h) (by rfl) hHeld (v := ?v16) ?y16 ?r16
        case y16 => intro w hSw; (try dsimp only at hSw); go_simp; (try with_reducible rfl)
        try simp only [Act.put, List.setIfInBounds_toArray, List.set_cons_zero, List.set_cons_succ]
        refine held_off 10 (some 20) rfl rfl (by kernel_rfl) (by kernel_rfl) (by kernel_rfl) (fun _ _ _ h => h) (by rfl) hHeld ?_
        try simp only [Act.put, List.setIfInBounds_toArray, List.set_cons_zero, List.set_cons_succ]
        refine held_off 11 (some 21) rfl rfl (by kernel_rfl) (by kernel_rfl) (by kernel_rfl) (fun _ _ _ h => h) (by rfl) hHeld ?_
        try simp only [Act.put, List.setIfInBounds_toArray, List.set_cons_zero, List.set_cons_succ]
        refine held_off 12 (some 22) rfl rfl (by kernel_rfl) (by kernel_rfl) (by kernel_rfl) (fun _ _ _ h => h) (by rfl) hHeld ?_
        try simp only [Act.put, List.setIfInBounds_toArray, List.set_cons_zero, List.set_cons_succ]
        refine held_off 13 (some 23) rfl rfl (by kernel_rfl) (by kernel_rfl) (by kernel_rfl) (fun _ _ _ h => h) (by rfl) hHeld ?_
        try simp only [Act.put, List.setIfInBounds_toArray, List.set_cons_zero, List.set_cons_succ]
        refine held_off 14 (some 24) rfl rfl (by kernel_rfl) (by kernel_rfl) (by kernel_rfl) (fun _ _ _ h => h) (by rfl) hHeld ?_
        try simp only [Act.put, List.setIfInBounds_toArray, List.set_cons_zero, List.set_cons_succ]
        refine held_off 15 (some 25) rfl rfl (by kernel_rfl) (by kernel_rfl) (by kernel_rfl) (fun _ _ _ h => h) (by rfl) hHeld ?_
        try simp only [Act.put, List.setIfInBounds_toArray, List.set_cons_zero, List.set_cons_succ]
        refine held_off 16 (some 26) rfl rfl (by kernel_rfl) (by kernel_rfl) (by kernel_rfl) (fun _ _ _ h => h) (by rfl) hHeld ?_
        try simp only [Act.put, List.setIfInBounds_toArray, List.set_cons_zero, List.set_cons_succ]
        refine held_off 17 (some 27) rfl rfl (by kernel_rfl) (by kernel_rfl) (by kernel_rfl) (fun _ _ _ h => h) (by rfl) hHeld ?_
        try simp only [Act.put, List.setIfInBounds_toArray, List.set_cons_zero, List.set_cons_succ]
        refine held_off 18 (some 28) rfl rfl (by kernel_rfl) (by kernel_rfl) (by kernel_rfl) (fun _ _ _ h => h) (by rfl) hHeld ?_
        try simp only [Act.put, List.setIfInBounds_toArray, List.set_cons_zero, List.set_cons_succ]
        refine held_off 19 (some 29) rfl rfl (by kernel_rfl) (by kernel_rfl) (by kernel_rfl) (fun _ _ _ h => h) (by rfl) hHeld ?_
        try simp only [Act.put, List.setIfInBounds_toArray, List.set_cons_zero, List.set_cons_succ]
        refine held_off 20 (some 30) rfl rfl (by kernel_rfl) (by kernel_rfl) (by kernel_rfl) (fun _ _ _ h => h) (by rfl) hHeld ?_
        try simp only [Act.put, List.setIfInBounds_toArray, List.set_cons_zero, List.set_cons_succ]
        refine held_off 21 (some 31) rfl rfl (by kernel_rfl) (by kernel_rfl) (by kernel_rfl) (fun _ _ _ h => h) (by rfl) hHeld ?_
        try simp only [Act.put, List.setIfInBounds_toArray, List.set_cons_zero, List.set_cons_succ]
        refine held_on 22 (some 32) rfl rfl (by kernel_rfl) (by kernel_rfl) (by kernel_rfl) (fun _ _ _ h => h) (by rfl) hHeld (v := ?v17) ?y17 ?r17
        case y17 => intro w hSw; (try dsimp only at hSw); go_simp; (try with_reducible rfl)
        try simp only [Act.put, List.setIfInBounds_toArray, List.set_cons_zero, List.set_cons_succ]
        refine held_on 23 (some 33) rfl rfl (by kernel_rfl) (by kernel_rfl) (by kernel_rfl) (fun _ _ _ h => h) (by rfl) hHeld (v := ?v18) ?y18 ?r18
        case y18 => intro w hSw; (try dsimp only at hSw); go_simp; (try with_reducible rfl)
        try simp only [Act.put, List.setIfInBounds_toArray, List.set_cons_zero, List.set_cons_succ]
        refine wpAnyH_done (by kernel_rfl) ?_ _
        go_split_ands
        go_wp2
        go_roundw
        case rel => exact ⟨k + 1, by omega, by go_num, catAt_more HC.out HI.out, by with_reducible assumption⟩
        case measure => simp [intOf]; omega
      have hlt2 : k - 1 < l.length := by omega
      obtain ⟨b2, o2, e2, _, hp0, _⟩ := item_at hI2 hlt2
      obtain ⟨rfl, rfl⟩ : b = b2 ∧ o = o2 := by simpa using e2
      clear e2 hI2
      have hy1 : decide (0 < k) = true := by simp; omega
      have hy2 : decide ((0 : Int) < (k : Int)) = true := by simp; omega
      have hi1 : (0 : Int) ≤ (k : Int) - 1 := by omega
      have hi2 : (k : Int) - 1 < (l.length : Int) := by omega
      have hi3 : ((k : Int) - 1).toNat = k - 1 := by omega
      have hi4 : (1 : Int) ≤ (k : Int) := by omega
      have hwk : IntKind.i64.wrap ((k : Int) - 1) = (k : Int) - 1 := IntWalk.i64_in _ (by omega)
      have HC := Lib.hid (catAt_next hlt hi h0 hlt2)
      clear h0
      cases hq : itLt l[k - 1].1 l[k].1
      · have hq2 : Op.bytesLess l[k - 1].1.toList l[k].1.toList = false := hq
        go_wp2_with fail
        refine wp_region_held_drew (S := (fun w' => w'.cell? ⟨b, o + k * 8, none⟩ = some (.string l[k].1) ∧ w'.cell? ⟨b, o + k * 8 + 1, none⟩ = some (.string l[k].2.1) ∧ w'.cell? ⟨b, o + k * 8 + 2, none⟩ = some (.int .i64 l[k].2.2.1) ∧ w'.cell? ⟨b, o + k * 8 + 3, none⟩ = some (.int .i64 l[k].2.2.2.1) ∧ w'.cell? ⟨b, o + k * 8 + 4, none⟩ = some (.int .i64 l[k].2.2.2.2.1) ∧ w'.cell? ⟨b, o + k * 8 + 5, none⟩ = some (.int .i64 l[k].2.2.2.2.2.1) ∧ w'.cell? ⟨b, o + k * 8 + 6, none⟩ = some (.int .i64 l[k].2.2.2.2.2.2.1) ∧ w'.cell? ⟨b, o + k * 8 + 7, none⟩ = some (.int .i64 l[k].2.2.2.2.2.2.2) ∧ w'.cell? ⟨b, o + (k - 1) * 8, none⟩ = some (.string l[k - 1].1) ∧ b < w'.heap.size ∧ Below w.heap.size w w')) (by kernel_rfl) ⟨hc0, hc1, hc2, hc3, hc4, hc5, hc6, hc7, hp0, hbl, HR.drew⟩ (fun hHeld => ?_)
        refine held_on 0 (some 10) rfl rfl (by kernel_rfl) (by kernel_rfl) (by kernel_rfl) (fun _ _ _ h => h) (by rfl) hHeld (v := ?v19) ?y19 ?r19
        case y19 => intro w hSw; (try dsimp only at hSw); go_simp; (try with_reducible rfl)
        try simp only [Act.put, List.setIfInBounds_toArray, List.set_cons_zero, List.set_cons_succ]
        refine held_on 1 (some 11) rfl rfl (by kernel_rfl) (by kernel_rfl) (by kernel_rfl) (fun _ _ _ h => h) (by rfl) hHeld (v := ?v20) ?y20 ?r20
        case y20 => intro w hSw; (try dsimp only at hSw); go_simp; (try with_reducible rfl)
        try simp only [Act.put, List.setIfInBounds_toArray, List.set_cons_zero, List.set_cons_succ]
        refine held_on 2 (some 12) rfl rfl (by kernel_rfl) (by kernel_rfl) (by kernel_rfl) (fun _ _ _ h => h) (by rfl) hHeld (v := ?v21) ?y21 ?r21
        case y21 => intro w hSw; (try dsimp only at hSw); go_simp; (try with_reducible rfl)
        try simp only [Act.put, List.setIfInBounds_toArray, List.set_cons_zero, List.set_cons_succ]
        refine held_on 3 (some 13) rfl rfl (by kernel_rfl) (by kernel_rfl) (by kernel_rfl) (fun _ _ _ h => h) (by rfl) hHeld (v := ?v22) ?y22 ?r22
        case y22 => intro w hSw; (try dsimp only at hSw); go_simp; (try with_reducible rfl)
        try simp only [Act.put, List.setIfInBounds_toArray, List.set_cons_zero, List.set_cons_succ]
        refine wpAnyH_ready (rs := [4]) (by kernel_rfl) (by simp) ?_
        refine AllReadyH.cons rfl (fun K hK => ?_) AllReadyH.nil
        go_simp
        go_at_call 34; refine (specIsItem_at l[k] _ hokk).mono ?_; rintro e w3 ⟨rfl, hb3⟩; rw [hi]; go_simp
        refine hK.out _ _ ?_ (fun hHeld => ?_)
        · obtain ⟨y1, y2, y3, y4, y5, y6, y7, y8, y9, y10, y0⟩ := hHeld; exact ⟨(hb3.cell y10).trans y1, (hb3.cell y10).trans y2, (hb3.cell y10).trans y3, (hb3.cell y10).trans y4, (hb3.cell y10).trans y5, (hb3.cell y10).trans y6, (hb3.cell y10).trans y7, (hb3.cell y10).trans y8, (hb3.cell y10).trans y9, Nat.lt_of_lt_of_le y10 hb3.size, below_on y0 hb3⟩
        clear hK K
        try simp only [Act.put, List.setIfInBounds_toArray, List.set_cons_zero, List.set_cons_succ]
        refine held_on 5 (some 15) rfl rfl (by kernel_rfl) (by kernel_rfl) (by kernel_rfl) (fun _ _ _ h => h) (by rfl) hHeld (v := ?v23) ?y23 ?r23
        case y23 => intro w hSw; (try dsimp only at hSw); go_simp; (try with_reducible rfl)
        try simp only [Act.put, List.setIfInBounds_toArray, List.set_cons_zero, List.set_cons_succ]
        refine held_on 6 (some 16) rfl rfl (by kernel_rfl) (by kernel_rfl) (by kernel_rfl) (fun _ _ _ h => h) (by rfl) hHeld (v := ?v24) ?y24 ?r24
        case y24 => intro w hSw; (try dsimp only at hSw); go_simp; (try with_reducible rfl)
        try simp only [Act.put, List.setIfInBounds_toArray, List.set_cons_zero, List.set_cons_succ]
        refine held_on 7 (some 17) rfl rfl (by kernel_rfl) (by kernel_rfl) (by kernel_rfl) (fun _ _ _ h => h) (by rfl) hHeld (v := ?v25) ?y25 ?r25
        case y25 => intro w hSw; (try dsimp only at hSw); go_simp; (try with_reducible rfl)
        try simp only [Act.put, List.setIfInBounds_toArray, List.set_cons_zero, List.set_cons_succ]
        refine held_on 8 (some 18) rfl rfl (by kernel_rfl) (by kernel_rfl) (by kernel_rfl) (fun _ _ _ h => h) (by rfl) hHeld (v := ?v26) ?y26 ?r26
        case y26 => intro w hSw; (try dsimp only at hSw); go_simp; (try with_reducible rfl)
        try simp only [Act.put, List.setIfInBounds_toArray, List.set_cons_zero, List.set_cons_succ]
        refine held_on 9 (some 19) rfl rfl (by kernel_rfl) (by kernel_rfl) (by kernel_rfl) (fun _ _ _ h => h) (by rfl) hHeld (v := ?v27) ?y27 ?r27
        case y27 => intro w hSw; (try dsimp only at hSw); go_simp; (try with_reducible rfl)
        try simp only [Act.put, List.setIfInBounds_toArray, List.set_cons_zero, List.set_cons_succ]
        refine held_on 10 (some 20) rfl rfl (by kernel_rfl) (by kernel_rfl) (by kernel_rfl) (fun _ _ _ h => h) (by rfl) hHeld (v := ?v28) ?y28 ?r28
        case y28 => intro w hSw; (try dsimp only at hSw); go_simp; (try with_reducible rfl)
        try simp only [Act.put, List.setIfInBounds_toArray, List.set_cons_zero, List.set_cons_succ]
        refine held_on 11 (some 21) rfl rfl (by kernel_rfl) (by kernel_rfl) (by kernel_rfl) (fun _ _ _ h => h) (by rfl) hHeld (v := ?v29) ?y29 ?r29
        case y29 => intro w hSw; (try dsimp only at hSw); go_simp; (try with_reducible rfl)
        try simp only [Act.put, List.setIfInBounds_toArray, List.set_cons_zero, List.set_cons_succ]
        refine held_on 12 (some 22) rfl rfl (by kernel_rfl) (by kernel_rfl) (by kernel_rfl) (fun _ _ _ h => h) (by rfl) hHeld (v := ?v30) ?y30 ?r30
        case y30 => intro w hSw; (try dsimp only at hSw); go_simp; (try with_reducible rfl)
        try simp only [Act.put, List.setIfInBounds_toArray, List.set_cons_zero, List.set_cons_succ]
        refine held_on 13 (some 23) rfl rfl (by kernel_rfl) (by kernel_rfl) (by kernel_rfl) (fun _ _ _ h => h) (by rfl) hHeld (v := ?v31) ?y31 ?r31
        case y31 => intro w hSw; (try dsimp only at hSw); go_simp; (try with_reducible rfl)
        try simp only [Act.put, List.setIfInBounds_toArray, List.set_cons_zero, List.set_cons_succ]
        refine held_on 14 (some 24) rfl rfl (by kernel_rfl) (by kernel_rfl) (by kernel_rfl) (fun _ _ _ h => h) (by rfl) hHeld (v := ?v32) ?y32 ?r32
        case y32 => intro w hSw; (try dsimp only at hSw); go_simp; (try with_reducible rfl)
        try simp only [Act.put, List.setIfInBounds_toArray, List.set_cons_zero, List.set_cons_succ]
        refine held_on 15 (some 25) rfl rfl (by kernel_rfl) (by kernel_rfl) (by kernel_rfl) (fun _ _ _ h => h) (by rfl) hHeld (v := ?v33) ?y33 ?r33
        case y33 => intro w hSw; (try dsimp only at hSw); go_simp; (try with_reducible rfl)
        try simp only [Act.put, List.setIfInBounds_toArray, List.set_cons_zero, List.set_cons_succ]
        refine held_on 16 (some 26) rfl rfl (by kernel_rfl) (by kernel_rfl) (by kernel_rfl) (fun _ _ _ h => h) (by rfl) hHeld (v := ?v34) ?y34 ?r34
        case y34 => intro w hSw; (try dsimp only at hSw); go_simp; (try with_reducible rfl)
        try simp only [Act.put, List.setIfInBounds_toArray, List.set_cons_zero, List.set_cons_succ]
        refine held_on 17 (some 27) rfl rfl (by kernel_rfl) (by kernel_rfl) (by kernel_rfl) (fun _ _ _ h => h) (by rfl) hHeld (v := ?v35) ?y35 ?r35
        case y35 => intro w hSw; (try dsimp only at hSw); go_simp; (try with_reducible rfl)
        try simp only [Act.put, List.setIfInBounds_toArray, List.set_cons_zero, List.set_cons_succ]
        refine held_on 18 (some 28) rfl rfl (by kernel_rfl) (by kernel_rfl) (by kernel_rfl) (fun _ _ _ h => h) (by rfl) hHeld (v := ?v36) ?y36 ?r36
        case y36 => intro w hSw; (try dsimp only at hSw); go_simp; (try with_reducible rfl)
        try simp only [Act.put, List.setIfInBounds_toArray, List.set_cons_zero, List.set_cons_succ]
        refine held_on 19 (some 29) rfl rfl (by kernel_rfl) (by kernel_rfl) (by kernel_rfl) (fun _ _ _ h => h) (by rfl) hHeld (v := ?v37) ?y37 ?r37
        case y37 => intro w hSw; (try dsimp only at hSw); go_simp; (try with_reducible rfl)
        try simp only [Act.put, List.setIfInBounds_toArray, List.set_cons_zero, List.set_cons_succ]
        refine held_on 20 (some 30) rfl rfl (by kernel_rfl) (by kernel_rfl) (by kernel_rfl) (fun _ _ _ h => h) (by rfl) hHeld (v := ?v38) ?y38 ?r38
        case y38 => intro w hSw; (try dsimp only at hSw); go_simp; (try with_reducible rfl)
        try simp only [Act.put, List.setIfInBounds_toArray, List.set_cons_zero, List.set_cons_succ]
        refine held_on 21 (some 31) rfl rfl (by kernel_rfl) (by kernel_rfl) (by kernel_rfl) (fun _ _ _ h => h) (by rfl) hHeld (v := ?v39) ?y39 ?r39
        case y39 => intro w hSw; (try dsimp only at hSw); go_simp; (try with_reducible rfl)
        try simp only [Act.put, List.setIfInBounds_toArray, List.set_cons_zero, List.set_cons_succ]
        refine held_on 22 (some 32) rfl rfl (by kernel_rfl) (by kernel_rfl) (by kernel_rfl) (fun _ _ _ h => h) (by rfl) hHeld (v := ?v40) ?y40 ?r40
        case y40 => intro w hSw; (try dsimp only at hSw); go_simp; (try with_reducible rfl)
        try simp only [Act.put, List.setIfInBounds_toArray, List.set_cons_zero, List.set_cons_succ]
        refine held_on 23 (some 33) rfl rfl (by kernel_rfl) (by kernel_rfl) (by kernel_rfl) (fun _ _ _ h => h) (by rfl) hHeld (v := ?v41) ?y41 ?r41
        case y41 => intro w hSw; (try dsimp only at hSw); go_simp; (try with_reducible rfl)
        try simp only [Act.put, List.setIfInBounds_toArray, List.set_cons_zero, List.set_cons_succ]
        refine wpAnyH_done (by kernel_rfl) ?_ _
        go_split_ands
        go_wp2
        go_ret
        exact ⟨ret_bool (isCat_no hlt (HC.out.trans hq)).symm, by with_reducible assumption⟩
      · have hq2 : Op.bytesLess l[k - 1].1.toList l[k].1.toList = true := hq
        go_wp2_with fail
        refine wp_region_held_drew (S := (fun w' => w'.cell? ⟨b, o + k * 8, none⟩ = some (.string l[k].1) ∧ w'.cell? ⟨b, o + k * 8 + 1, none⟩ = some (.string l[k].2.1) ∧ w'.cell? ⟨b, o + k * 8 + 2, none⟩ = some (.int .i64 l[k].2.2.1) ∧ w'.cell? ⟨b, o + k * 8 + 3, none⟩ = some (.int .i64 l[k].2.2.2.1) ∧ w'.cell? ⟨b, o + k * 8 + 4, none⟩ = some (.int .i64 l[k].2.2.2.2.1) ∧ w'.cell? ⟨b, o + k * 8 + 5, none⟩ = some (.int .i64 l[k].2.2.2.2.2.1) ∧ w'.cell? ⟨b, o + k * 8 + 6, none⟩ = some (.int .i64 l[k].2.2.2.2.2.2.1) ∧ w'.cell? ⟨b, o + k * 8 + 7, none⟩ = some (.int .i64 l[k].2.2.2.2.2.2.2) ∧ w'.cell? ⟨b, o + (k - 1) * 8, none⟩ = some (.string l[k - 1].1) ∧ b < w'.heap.size ∧ Below w.heap.size w w')) (by kernel_rfl) ⟨hc0, hc1, hc2, hc3, hc4, hc5, hc6, hc7, hp0, hbl, HR.drew⟩ (fun hHeld => ?_)
        refine held_on 0 (some 10) rfl rfl (by kernel_rfl) (by kernel_rfl) (by kernel_rfl) (fun _ _ _ h => h) (by rfl) hHeld (v := ?v42) ?y42 ?r42
        case y42 => intro w hSw; (try dsimp only at hSw); go_simp; (try with_reducible rfl)
        try simp only [Act.put, List.setIfInBounds_toArray, List.set_cons_zero, List.set_cons_succ]
        refine held_on 1 (some 11) rfl rfl (by kernel_rfl) (by kernel_rfl) (by kernel_rfl) (fun _ _ _ h => h) (by rfl) hHeld (v := ?v43) ?y43 ?r43
        case y43 => intro w hSw; (try dsimp only at hSw); go_simp; (try with_reducible rfl)
        try simp only [Act.put, List.setIfInBounds_toArray, List.set_cons_zero, List.set_cons_succ]
        refine held_on 2 (some 12) rfl rfl (by kernel_rfl) (by kernel_rfl) (by kernel_rfl) (fun _ _ _ h => h) (by rfl) hHeld (v := ?v44) ?y44 ?r44
        case y44 => intro w hSw; (try dsimp only at hSw); go_simp; (try with_reducible rfl)
        try simp only [Act.put, List.setIfInBounds_toArray, List.set_cons_zero, List.set_cons_succ]
        refine held_on 3 (some 13) rfl rfl (by kernel_rfl) (by kernel_rfl) (by kernel_rfl) (fun _ _ _ h => h) (by rfl) hHeld (v := ?v45) ?y45 ?r45
        case y45 => intro w hSw; (try dsimp only at hSw); go_simp; (try with_reducible rfl)
        try simp only [Act.put, List.setIfInBounds_toArray, List.set_cons_zero, List.set_cons_succ]
        refine wpAnyH_ready (rs := [4]) (by kernel_rfl) (by simp) ?_
        refine AllReadyH.cons rfl (fun K hK => ?_) AllReadyH.nil
        go_simp
        go_at_call 34; refine (specIsItem_at l[k] _ hokk).mono ?_; rintro e w3 ⟨rfl, hb3⟩; rw [hi]; go_simp
        refine hK.out _ _ ?_ (fun hHeld => ?_)
        · obtain ⟨y1, y2, y3, y4, y5, y6, y7, y8, y9, y10, y0⟩ := hHeld; exact ⟨(hb3.cell y10).trans y1, (hb3.cell y10).trans y2, (hb3.cell y10).trans y3, (hb3.cell y10).trans y4, (hb3.cell y10).trans y5, (hb3.cell y10).trans y6, (hb3.cell y10).trans y7, (hb3.cell y10).trans y8, (hb3.cell y10).trans y9, Nat.lt_of_lt_of_le y10 hb3.size, below_on y0 hb3⟩
        clear hK K
        try simp only [Act.put, List.setIfInBounds_toArray, List.set_cons_zero, List.set_cons_succ]
        refine held_on 5 (some 15) rfl rfl (by kernel_rfl) (by kernel_rfl) (by kernel_rfl) (fun _ _ _ h => h) (by rfl) hHeld (v := ?v46) ?y46 ?r46
        case y46 => intro w hSw; (try dsimp only at hSw); go_simp; (try with_reducible rfl)
        try simp only [Act.put, List.setIfInBounds_toArray, List.set_cons_zero, List.set_cons_succ]
        refine held_on 6 (some 16) rfl rfl (by kernel_rfl) (by kernel_rfl) (by kernel_rfl) (fun _ _ _ h => h) (by rfl) hHeld (v := ?v47) ?y47 ?r47
        case y47 => intro w hSw; (try dsimp only at hSw); go_simp; (try with_reducible rfl)
        try simp only [Act.put, List.setIfInBounds_toArray, List.set_cons_zero, List.set_cons_succ]
        refine held_on 7 (some 17) rfl rfl (by kernel_rfl) (by kernel_rfl) (by kernel_rfl) (fun _ _ _ h => h) (by rfl) hHeld (v := ?v48) ?y48 ?r48
        case y48 => intro w hSw; (try dsimp only at hSw); go_simp; (try with_reducible rfl)
        try simp only [Act.put, List.setIfInBounds_toArray, List.set_cons_zero, List.set_cons_succ]
        refine held_on 8 (some 18) rfl rfl (by kernel_rfl) (by kernel_rfl) (by kernel_rfl) (fun _ _ _ h => h) (by rfl) hHeld (v := ?v49) ?y49 ?r49
        case y49 => intro w hSw; (try dsimp only at hSw); go_simp; (try with_reducible rfl)
        try simp only [Act.put, List.setIfInBounds_toArray, List.set_cons_zero, List.set_cons_succ]
        refine held_on 9 (some 19) rfl rfl (by kernel_rfl) (by kernel_rfl) (by kernel_rfl) (fun _ _ _ h => h) (by rfl) hHeld (v := ?v50) ?y50 ?r50
        case y50 => intro w hSw; (try dsimp only at hSw); go_simp; (try with_reducible rfl)
        try simp only [Act.put, List.setIfInBounds_toArray, List.set_cons_zero, List.set_cons_succ]
        refine held_on 10 (some 20) rfl rfl (by kernel_rfl) (by kernel_rfl) (by kernel_rfl) (fun _ _ _ h => h) (by rfl) hHeld (v := ?v51) ?y51 ?r51
        case y51 => intro w hSw; (try dsimp only at hSw); go_simp; (try with_reducible rfl)
        try simp only [Act.put, List.setIfInBounds_toArray, List.set_cons_zero, List.set_cons_succ]
        refine held_on 11 (some 21) rfl rfl (by kernel_rfl) (by kernel_rfl) (by kernel_rfl) (fun _ _ _ h => h) (by rfl) hHeld (v := ?v52) ?y52 ?r52
        case y52 => intro w hSw; (try dsimp only at hSw); go_simp; (try with_reducible rfl)
        try simp only [Act.put, List.setIfInBounds_toArray, List.set_cons_zero, List.set_cons_succ]
        refine held_on 12 (some 22) rfl rfl (by kernel_rfl) (by kernel_rfl) (by kernel_rfl) (fun _ _ _ h => h) (by rfl) hHeld (v := ?v53) ?y53 ?r53
        case y53 => intro w hSw; (try dsimp only at hSw); go_simp; (try with_reducible rfl)
        try simp only [Act.put, List.setIfInBounds_toArray, List.set_cons_zero, List.set_cons_succ]
        refine held_on 13 (some 23) rfl rfl (by kernel_rfl) (by kernel_rfl) (by kernel_rfl) (fun _ _ _ h => h) (by rfl) hHeld (v := ?v54) ?y54 ?r54
        case y54 => intro w hSw; (try dsimp only at hSw); go_simp; (try with_reducible rfl)
        try simp only [Act.put, List.setIfInBounds_toArray, List.set_cons_zero, List.set_cons_succ]
        refine held_on 14 (some 24) rfl rfl (by kernel_rfl) (by kernel_rfl) (by kernel_rfl) (fun _ _ _ h => h) (by rfl) hHeld (v := ?v55) ?y55 ?r55
        case y55 => intro w hSw; (try dsimp only at hSw); go_simp; (try with_reducible rfl)
        try simp only [Act.put, List.setIfInBounds_toArray, List.set_cons_zero, List.set_cons_succ]
        refine held_on 15 (some 25) rfl rfl (by kernel_rfl) (by kernel_rfl) (by kernel_rfl) (fun _ _ _ h => h) (by rfl) hHeld (v := ?v56) ?y56 ?r56
        case y56 => intro w hSw; (try dsimp only at hSw); go_simp; (try with_reducible rfl)
        try simp only [Act.put, List.setIfInBounds_toArray, List.set_cons_zero, List.set_cons_succ]
        refine held_on 16 (some 26) rfl rfl (by kernel_rfl) (by kernel_rfl) (by kernel_rfl) (fun _ _ _ h => h) (by rfl) hHeld (v := ?v57) ?y57 ?r57
        case y57 => intro w hSw; (try dsimp only at hSw); go_simp; (try with_reducible rfl)
        try simp only [Act.put, List.setIfInBounds_toArray, List.set_cons_zero, List.set_cons_succ]
        refine held_on 17 (some 27) rfl rfl (by kernel_rfl) (by kernel_rfl) (by kernel_rfl) (fun _ _ _ h => h) (by rfl) hHeld (v := ?v58) ?y58 ?r58
        case y58 => intro w hSw; (try dsimp only at hSw); go_simp; (try with_reducible rfl)
        try simp only [Act.put, List.setIfInBounds_toArray, List.set_cons_zero, List.set_cons_succ]
        refine held_on 18 (some 28) rfl rfl (by kernel_rfl) (by kernel_rfl) (by kernel_rfl) (fun _ _ _ h => h) (by rfl) hHeld (v := ?v59) ?y59 ?r59
        case y59 => intro w hSw; (try dsimp only at hSw); go_simp; (try with_reducible rfl)
        try simp only [Act.put, List.setIfInBounds_toArray, List.set_cons_zero, List.set_cons_succ]
        refine held_on 19 (some 29) rfl rfl (by kernel_rfl) (by kernel_rfl) (by kernel_rfl) (fun _ _ _ h => h) (by rfl) hHeld (v := ?v60) ?y60 ?r60
        case y60 => intro w hSw; (try dsimp only at hSw); go_simp; (try with_reducible rfl)
        try simp only [Act.put, List.setIfInBounds_toArray, List.set_cons_zero, List.set_cons_succ]
        refine held_on 20 (some 30) rfl rfl (by kernel_rfl) (by kernel_rfl) (by kernel_rfl) (fun _ _ _ h => h) (by rfl) hHeld (v := ?v61) ?y61 ?r61
        case y61 => intro w hSw; (try dsimp only at hSw); go_simp; (try with_reducible rfl)
        try simp only [Act.put, List.setIfInBounds_toArray, List.set_cons_zero, List.set_cons_succ]
        refine held_on 21 (some 31) rfl rfl (by kernel_rfl) (by kernel_rfl) (by kernel_rfl) (fun _ _ _ h => h) (by rfl) hHeld (v := ?v62) ?y62 ?r62
        case y62 => intro w hSw; (try dsimp only at hSw); go_simp; (try with_reducible rfl)
        try simp only [Act.put, List.setIfInBounds_toArray, List.set_cons_zero, List.set_cons_succ]
        refine held_on 22 (some 32) rfl rfl (by kernel_rfl) (by kernel_rfl) (by kernel_rfl) (fun _ _ _ h => h) (by rfl) hHeld (v := ?v63) ?y63 ?r63
        case y63 => intro w hSw; (try dsimp only at hSw); go_simp; (try with_reducible rfl)
        try simp only [Act.put, List.setIfInBounds_toArray, List.set_cons_zero, List.set_cons_succ]
        refine held_on 23 (some 33) rfl rfl (by kernel_rfl) (by kernel_rfl) (by kernel_rfl) (fun _ _ _ h => h) (by rfl) hHeld (v := ?v64) ?y64 ?r64
        case y64 => intro w hSw; (try dsimp only at hSw); go_simp; (try with_reducible rfl)
        try simp only [Act.put, List.setIfInBounds_toArray, List.set_cons_zero, List.set_cons_succ]
        refine wpAnyH_done (by kernel_rfl) ?_ _
        go_split_ands
        go_wp2
        go_roundw
        case rel => exact ⟨k + 1, by omega, by go_num, catAt_more (HC.out.trans hq) HI.out, by with_reducible assumption⟩
        case measure => simp [intOf]; omega
    · obtain rfl : k = l.length := by omega
      go_wp2
      go_ret
      exact ⟨ret_bool (isCat_end HI.out).symm, HR⟩
set_option maxRecDepth 100000 in
set_option maxHeartbeats 4000000 in
theorem implIsCatalog_any (A : Option Addr) (n c : Nat) (l : List It) (w : World) (hl : ItemsIn w A n l) (hok : ∀ x ∈ l, okIt x) :
    Calls Try.prog 67 #[.slice A n c] w fun e w' => e = .returned (.bool (isCat l)) ∧ Below w.heap.size w w' := by
  have hn := hl.len
  obtain rfl := hl.1
  have HO := Lib.hid hok
  clear hok
  go_enter Try.func67, Try.ntmps67
  go_wp2
  go_loopw [7] (fun i wr => ∃ k : Nat, k ≤ l.length ∧ i = .int .i64 k ∧ Hid (∀ j < k, catAt l itLt j = true) ∧ Below w.heap.size w wr) (fun i _ => l.length - (intOf i).toNat)
  case atStart => exact ⟨0, by omega, rfl, fun j h => absurd h (by omega), Below.refl _ _⟩
  case round =>
    obtain ⟨k, hk, rfl, HI, HR⟩ := hrel
    by_cases hlt : k < l.length
    · have hokk := HO.out _ (List.getElem_mem hlt)
      obtain ⟨b, o, rfl, hbl, hc0, hc1, hc2, hc3, hc4, hc5, hc6, hc7⟩ := item_at (hl.keep HR) hlt
      have hs := below_alloc wr (.cells #[.string l[k].1, .string l[k].2.1, .int .i64 l[k].2.2.1, .int .i64 l[k].2.2.2.1, .int .i64 l[k].2.2.2.2.1, .int .i64 l[k].2.2.2.2.2.1, .int .i64 l[k].2.2.2.2.2.2.1, .int .i64 l[k].2.2.2.2.2.2.2] 42)
      have HB := below_on HR hs
      have d0 : (wr.alloc (.cells #[.string l[k].1, .string l[k].2.1, .int .i64 l[k].2.2.1, .int .i64 l[k].2.2.2.1, .int .i64 l[k].2.2.2.2.1, .int .i64 l[k].2.2.2.2.2.1, .int .i64 l[k].2.2.2.2.2.2.1, .int .i64 l[k].2.2.2.2.2.2.2] 42)).cell? ⟨wr.heap.size, 0, none⟩ = some (.string l[k].1) := by simp [go_sem]
      have d1 : (wr.alloc (.cells #[.string l[k].1, .string l[k].2.1, .int .i64 l[k].2.2.1, .int .i64 l[k].2.2.2.1, .int .i64 l[k].2.2.2.2.1, .int .i64 l[k].2.2.2.2.2.1, .int .i64 l[k].2.2.2.2.2.2.1, .int .i64 l[k].2.2.2.2.2.2.2] 42)).cell? ⟨wr.heap.size, 1, none⟩ = some (.string l[k].2.1) := by simp [go_sem]
      have d2 : (wr.alloc (.cells #[.string l[k].1, .string l[k].2.1, .int .i64 l[k].2.2.1, .int .i64 l[k].2.2.2.1, .int .i64 l[k].2.2.2.2.1, .int .i64 l[k].2.2.2.2.2.1, .int .i64 l[k].2.2.2.2.2.2.1, .int .i64 l[k].2.2.2.2.2.2.2] 42)).cell? ⟨wr.heap.size, 2, none⟩ = some (.int .i64 l[k].2.2.1) := by simp [go_sem]
      have d3 : (wr.alloc (.cells #[.string l[k].1, .string l[k].2.1, .int .i64 l[k].2.2.1, .int .i64 l[k].2.2.2.1, .int .i64 l[k].2.2.2.2.1, .int .i64 l[k].2.2.2.2.2.1, .int .i64 l[k].2.2.2.2.2.2.1, .int .i64 l[k].2.2.2.2.2.2.2] 42)).cell? ⟨wr.heap.size, 3, none⟩ = some (.int .i64 l[k].2.2.2.1) := by simp [go_sem]
      have d4 : (wr.alloc (.cells #[.string l[k].1, .string l[k].2.1, .int .i64 l[k].2.2.1, .int .i64 l[k].2.2.2.1, .int .i64 l[k].2.2.2.2.1, .int .i64 l[k].2.2.2.2.2.1, .int .i64 l[k].2.2.2.2.2.2.1, .int .i64 l[k].2.2.2.2.2.2.2] 42)).cell? ⟨wr.heap.size, 4, none⟩ = some (.int .i64 l[k].2.2.2.2.1) := by simp [go_sem]
      have d5 : (wr.alloc (.cells #[.string l[k].1, .string l[k].2.1, .int .i64 l[k].2.2.1, .int .i64 l[k].2.2.2.1, .int .i64 l[k].2.2.2.2.1, .int .i64 l[k].2.2.2.2.2.1, .int .i64 l[k].2.2.2.2.2.2.1, .int .i64 l[k].2.2.2.2.2.2.2] 42)).cell? ⟨wr.heap.size, 5, none⟩ = some (.int .i64 l[k].2.2.2.2.2.1) := by simp [go_sem]
      have d6 : (wr.alloc (.cells #[.string l[k].1, .string l[k].2.1, .int .i64 l[k].2.2.1, .int .i64 l[k].2.2.2.1, .int .i64 l[k].2.2.2.2.1, .int .i64 l[k].2.2.2.2.2.1, .int .i64 l[k].2.2.2.2.2.2.1, .int .i64 l[k].2.2.2.2.2.2.2] 42)).cell? ⟨wr.heap.size, 6, none⟩ = some (.int .i64 l[k].2.2.2.2.2.2.1) := by simp [go_sem]
      have d7 : (wr.alloc (.cells #[.string l[k].1, .string l[k].2.1, .int .i64 l[k].2.2.1, .int .i64 l[k].2.2.2.1, .int .i64 l[k].2.2.2.2.1, .int .i64 l[k].2.2.2.2.2.1, .int .i64 l[k].2.2.2.2.2.2.1, .int .i64 l[k].2.2.2.2.2.2.2] 42)).cell? ⟨wr.heap.size, 7, none⟩ = some (.int .i64 l[k].2.2.2.2.2.2.2) := by simp [go_sem]
      have dl : wr.heap.size < (wr.alloc (.cells #[.string l[k].1, .string l[k].2.1, .int .i64 l[k].2.2.1, .int .i64 l[k].2.2.2.1, .int .i64 l[k].2.2.2.2.1, .int .i64 l[k].2.2.2.2.2.1, .int .i64 l[k].2.2.2.2.2.2.1, .int .i64 l[k].2.2.2.2.2.2.2] 42)).heap.size := by simp
      have hI2 : ItemsIn (wr.alloc (.cells #[.string l[k].1, .string l[k].2.1, .int .i64 l[k].2.2.1, .int .i64 l[k].2.2.2.1, .int .i64 l[k].2.2.2.2.1, .int .i64 l[k].2.2.2.2.2.1, .int .i64 l[k].2.2.2.2.2.2.1, .int .i64 l[k].2.2.2.2.2.2.2] 42)) (some ⟨b, o, none⟩) l.length l := hl.keep HB
      replace hbl : b < (wr.alloc (.cells #[.string l[k].1, .string l[k].2.1, .int .i64 l[k].2.2.1, .int .i64 l[k].2.2.2.1, .int .i64 l[k].2.2.2.2.1, .int .i64 l[k].2.2.2.2.2.1, .int .i64 l[k].2.2.2.2.2.2.1, .int .i64 l[k].2.2.2.2.2.2.2] 42)).heap.size := Nat.lt_of_lt_of_le hbl hs.size
      cases hi : isItem l[k]
      · have HC := Lib.hid (catAt_bad hlt hi)
        clear hI2
        go_wp2_with fail
        generalize wr.alloc (.cells #[.string l[k].1, .string l[k].2.1, .int .i64 l[k].2.2.1, .int .i64 l[k].2.2.2.1, .int .i64 l[k].2.2.2.2.1, .int .i64 l[k].2.2.2.2.2.1, .int .i64 l[k].2.2.2.2.2.2.1, .int .i64 l[k].2.2.2.2.2.2.2] 42) = wq at *
        generalize wr.heap.size = N at *
        clear hc0 hc1 hc2 hc3 hc4 hc5 hc6 hc7 hs HR
        refine wp_region_held_drew (S := (fun w' => w'.cell? ⟨N, 0, none⟩ = some (.string l[k].1) ∧ w'.cell? ⟨N, 1, none⟩ = some (.string l[k].2.1) ∧ w'.cell? ⟨N, 2, none⟩ = some (.int .i64 l[k].2.2.1) ∧ w'.cell? ⟨N, 3, none⟩ = some (.int .i64 l[k].2.2.2.1) ∧ w'.cell? ⟨N, 4, none⟩ = some (.int .i64 l[k].2.2.2.2.1) ∧ w'.cell? ⟨N, 5, none⟩ = some (.int .i64 l[k].2.2.2.2.2.1) ∧ w'.cell? ⟨N, 6, none⟩ = some (.int .i64 l[k].2.2.2.2.2.2.1) ∧ w'.cell? ⟨N, 7, none⟩ = some (.int .i64 l[k].2.2.2.2.2.2.2) ∧ b < w'.heap.size ∧ N < w'.heap.size ∧ Below w.heap.size w w')) (by kernel_rfl) ⟨d0, d1, d2, d3, d4, d5, d6, d7, hbl, dl, HB.drew⟩ (fun hHeld => ?_)
        refine held_on 0 (some 12) rfl rfl (by kernel_rfl) (by kernel_rfl) (by kernel_rfl) (fun _ _ _ h => h) (by rfl) hHeld (v := ?v65) ?y65 ?r65
        case y65 => intro w hSw; (try dsimp only at hSw); go_simp; (try with_reducible rfl)
        try simp only [Act.put, List.setIfInBounds_toArray, List.set_cons_zero, List.set_cons_succ]
        refine wpAnyH_ready (rs := [1]) (by kernel_rfl) (by simp) ?_
        refine AllReadyH.cons rfl (fun K hK => ?_) AllReadyH.nil
        go_simp
        go_at_call 56; refine (implIsItem_at l[k] _ hokk).mono ?_; rintro e w3 ⟨rfl, hb3⟩; rw [hi]; go_simp
        refine hK.out _ _ ?_ (fun hHeld => ?_)
        · obtain ⟨y1, y2, y3, y4, y5, y6, y7, y8, y9, y10, y0⟩ := hHeld; exact ⟨(hb3.cell y10).trans y1, (hb3.cell y10).trans y2, (hb3.cell y10).trans y3, (hb3.cell y10).trans y4, (hb3.cell y10).trans y5, (hb3.cell y10).trans y6, (hb3.cell y10).trans y7, (hb3.cell y10).trans y8, Nat.lt_of_lt_of_le y9 hb3.size, Nat.lt_of_lt_of_le y10 hb3.size, below_on y0 hb3⟩
        clear hK K
        try simp only [Act.put, List.setIfInBounds_toArray, List.set_cons_zero, List.set_cons_succ]
        refine held_on 2 (some 14) rfl rfl (by kernel_rfl) (by kernel_rfl) (by kernel_rfl) (fun _ _ _ h => h) (by rfl) hHeld (v := ?v66) ?y66 ?r66
        case y66 => intro w hSw; (try dsimp only at hSw); go_simp; (try with_reducible rfl)
        try simp only [Act.put, List.setIfInBounds_toArray, List.set_cons_zero, List.set_cons_succ]
        refine held_on 3 (some 15) rfl rfl (by kernel_rfl) (by kernel_rfl) (by kernel_rfl) (fun _ _ _ h => h) (by rfl) hHeld (v := ?v67) ?y67 ?r67
        case y67 => intro w hSw; (try dsimp only at hSw); go_simp; (try with_reducible rfl)
        try simp only [Act.put, List.setIfInBounds_toArray, List.set_cons_zero, List.set_cons_succ]
        refine held_off 4 (some 16) rfl rfl (by kernel_rfl) (by kernel_rfl) (by kernel_rfl) (fun _ _ _ h => h) (by rfl) hHeld ?_
        try simp only [Act.put, List.setIfInBounds_toArray, List.set_cons_zero, List.set_cons_succ]
        refine held_off 5 (some 17) rfl rfl (by kernel_rfl) (by kernel_rfl) (by kernel_rfl) (fun _ _ _ h => h) (by rfl) hHeld ?_
        try simp only [Act.put, List.setIfInBounds_toArray, List.set_cons_zero, List.set_cons_succ]
        refine held_off 6 (some 18) rfl rfl (by kernel_rfl) (by kernel_rfl) (by kernel_rfl) (fun _ _ _ h => h) (by rfl) hHeld ?_
        try simp only [Act.put, List.setIfInBounds_toArray, List.set_cons_zero, List.set_cons_succ]
        refine held_off 7 (some 19) rfl rfl (by kernel_rfl) (by kernel_rfl) (by kernel_rfl) (fun _ _ _ h => h) (by rfl) hHeld ?_
        try simp only [Act.put, List.setIfInBounds_toArray, List.set_cons_zero, List.set_cons_succ]
        refine held_off 8 (some 20) rfl rfl (by kernel_rfl) (by kernel_rfl) (by kernel_rfl) (fun _ _ _ h => h) (by rfl) hHeld ?_
        try simp only [Act.put, List.setIfInBounds_toArray, List.set_cons_zero, List.set_cons_succ]
        refine held_off 9 (some 21) rfl rfl (by kernel_rfl) (by kernel_rfl) (by kernel_rfl) (fun _ _ _ h => h) (by rfl) hHeld ?_
        try simp only [Act.put, List.setIfInBounds_toArray, List.set_cons_zero, List.set_cons_succ]
        refine held_off 10 (some 22) rfl rfl (by kernel_rfl) (by kernel_rfl) (by kernel_rfl) (fun _ _ _ h => h) (by rfl) hHeld ?_
        try simp only [Act.put, List.setIfInBounds_toArray, List.set_cons_zero, List.set_cons_succ]
        refine held_off 11 (some 23) rfl rfl (by kernel_rfl) (by kernel_rfl) (by kernel_rfl) (fun _ _ _ h => h) (by rfl) hHeld ?_
        try simp only [Act.put, List.setIfInBounds_toArray, List.set_cons_zero, List.set_cons_succ]
        refine held_off 12 (some 24) rfl rfl (by kernel_rfl) (by kernel_rfl) (by kernel_rfl) (fun _ _ _ h => h) (by rfl) hHeld ?_
        try simp only [Act.put, List.setIfInBounds_toArray, List.set_cons_zero, List.set_cons_succ]
        refine held_off 13 (some 25) rfl rfl (by kernel_rfl) (by kernel_rfl) (by kernel_rfl) (fun _ _ _ h => h) (by rfl) hHeld ?_
        try simp only [Act.put, List.setIfInBounds_toArray, List.set_cons_zero, List.set_cons_succ]
        refine held_off 14 (some 26) rfl rfl (by kernel_rfl) (by kernel_rfl) (by kernel_rfl) (fun _ _ _ h => h) (by rfl) hHeld ?_
        try simp only [Act.put, List.setIfInBounds_toArray, List.set_cons_zero, List.set_cons_succ]
        refine held_off 15 (some 27) rfl rfl (by kernel_rfl) (by kernel_rfl) (by kernel_rfl) (fun _ _ _ h => h) (by rfl) hHeld ?_
        try simp only [Act.put, List.setIfInBounds_toArray, List.set_cons_zero, List.set_cons_succ]
        refine held_off 16 (some 28) rfl rfl (by kernel_rfl) (by kernel_rfl) (by kernel_rfl) (fun _ _ _ h => h) (by rfl) hHeld ?_
        try simp only [Act.put, List.setIfInBounds_toArray, List.set_cons_zero, List.set_cons_succ]
        refine held_on 17 (some 29) rfl rfl (by kernel_rfl) (by kernel_rfl) (by kernel_rfl) (fun _ _ _ h => h) (by rfl) hHeld (v := ?v68) ?y68 ?r68
        case y68 => intro w hSw; (try dsimp only at hSw); go_simp; (try with_reducible rfl)
        try simp only [Act.put, List.setIfInBounds_toArray, List.set_cons_zero, List.set_cons_succ]
        refine wpAnyH_done (by kernel_rfl) ?_ _
        go_split_ands
        go_wp2
        go_ret
        exact ⟨ret_bool (isCat_no hlt HC.out).symm, by with_reducible assumption⟩
      by_cases h0 : k = 0
      · have hy1 : decide (0 < k) = false := by simp; omega
        have hy2 : decide ((0 : Int) < (k : Int)) = false := by simp; omega
        have HC := Lib.hid (catAt_first hlt hi h0)
        clear h0 hI2
        go_wp2_with fail
        generalize wr.alloc (.cells #[.string l[k].1, .string l[k].2.1, .int .i64 l[k].2.2.1, .int .i64 l[k].2.2.2.1, .int .i64 l[k].2.2.2.2.1, .int .i64 l[k].2.2.2.2.2.1, .int .i64 l[k].2.2.2.2.2.2.1, .int .i64 l[k].2.2.2.2.2.2.2] 42) = wq at *
        generalize wr.heap.size = N at *
        clear hc0 hc1 hc2 hc3 hc4 hc5 hc6 hc7 hs HR
        refine wp_region_held_drew (S := (fun w' => w'.cell? ⟨N, 0, none⟩ = some (.string l[k].1) ∧ w'.cell? ⟨N, 1, none⟩ = some (.string l[k].2.1) ∧ w'.cell? ⟨N, 2, none⟩ = some (.int .i64 l[k].2.2.1) ∧ w'.cell? ⟨N, 3, none⟩ = some (.int .i64 l[k].2.2.2.1) ∧ w'.cell? ⟨N, 4, none⟩ = some (.int .i64 l[k].2.2.2.2.1) ∧ w'.cell? ⟨N, 5, none⟩ = some (.int .i64 l[k].2.2.2.2.2.1) ∧ w'.cell? ⟨N, 6, none⟩ = some (.int .i64 l[k].2.2.2.2.2.2.1) ∧ w'.cell? ⟨N, 7, none⟩ = some (.int .i64 l[k].2.2.2.2.2.2.2) ∧ b < w'.heap.size ∧ N < w'.heap.size ∧ Below w.heap.size w w')) (by kernel_rfl) ⟨d0, d1, d2, d3, d4, d5, d6, d7, hbl, dl, HB.drew⟩ (fun hHeld => ?_)
        refine held_on 0 (some 12) rfl rfl (by kernel_rfl) (by kernel_rfl) (by kernel_rfl) (fun _ _ _ h => h) (by rfl) hHeld (v := ?v69) ?y69 ?r69
        case y69 => intro w hSw; (try dsimp only at hSw); go_simp; (try with_reducible rfl)
        try simp only [Act.put, List.setIfInBounds_toArray, List.set_cons_zero, List.set_cons_succ]
        refine wpAnyH_ready (rs := [1]) (by kernel_rfl) (by simp) ?_
        refine AllReadyH.cons rfl (fun K hK => ?_) AllReadyH.nil
        go_simp
        go_at_call 56; refine (implIsItem_at l[k] _ hokk).mono ?_; rintro e w3 ⟨rfl, hb3⟩; rw [hi]; go_simp
        refine hK.out _ _ ?_ (fun hHeld => ?_)
        · obtain ⟨y1, y2, y3, y4, y5, y6, y7, y8, y9, y10, y0⟩ := hHeld; exact ⟨(hb3.cell y10).trans y1, (hb3.cell y10).trans y2, (hb3.cell y10).trans y3, (hb3.cell y10).trans y4, (hb3.cell y10).trans y5, (hb3.cell y10).trans y6, (hb3.cell y10).trans y7, (hb3.cell y10).trans y8, Nat.lt_of_lt_of_le y9 hb3.size, Nat.lt_of_lt_of_le y10 hb3.size, below_on y0 hb3⟩
        clear hK K
        try simp only [Act.put, List.setIfInBounds_toArray, List.set_cons_zero, List.set_cons_succ]
        refine held_on 2 (some 14) rfl rfl (by kernel_rfl) (by kernel_rfl) (by kernel_rfl) (fun _ _ _ h => h) (by rfl) hHeld (v := ?v70) ?y70 ?r70
        case y70 => intro w hSw; (try dsimp only at hSw); go_simp; (try with_reducible rfl)
        try simp only [Act.put, List.setIfInBounds_toArray, List.set_cons_zero, List.set_cons_succ]
        refine held_on 3 (some 15) rfl rfl (by kernel_rfl) (by kernel_rfl) (by kernel_rfl) (fun _ _ _ h => h) (by rfl) hHeld (v := ?v71) ?y71 ?r71
        case y71 => intro w hSw; (try dsimp only at hSw); go_simp; (try with_reducible rfl)
        try simp only [Act.put, List.setIfInBounds_toArray, List.set_cons_zero, List.set_cons_succ]
        refine held_on 4 (some 16) rfl rfl (by kernel_rfl) (by kernel_rfl) (by kernel_rfl) (fun _ _ _ h => h) (by rfl) hHeld (v := ?v72) ?y72 ?r72
        case y72 => intro w hSw; (try dsimp only at hSw); go_simp; (try with_reducible rfl)
        try simp only [Act.put, List.setIfInBounds_toArray, List.set_cons_zero, List.set_cons_succ]
        refine held_on 5 (some 17) rfl rfl (by kernel_rfl) (by kernel_rfl) (by kernel_rfl) (fun _ _ _ h => h) (by rfl) hHeld (v := ?v73) ?y73 ?r73
        case y73 => intro w hSw; (try dsimp only at hSw); go_simp; (try with_reducible rfl)
        try simp only [Act.put, List.setIfInBounds_toArray, List.set_cons_zero, List.set_cons_succ]
        refine held_on 6 (some 18) rfl rfl (by kernel_rfl) (by kernel_rfl) (by kernel_rfl) (fun _ _ _ h => h) (by rfl) hHeld (v := ?v74) ?y74 ?r74
        case y74 => intro w hSw; (try dsimp only at hSw); go_simp; (try with_reducible rfl)
        try simp only [Act.put, List.setIfInBounds_toArray, List.set_cons_zero, List.set_cons_succ]
        refine held_off 7 (some 19) rfl rfl (by kernel_rfl) (by kernel_rfl) (by kernel_rfl) (fun _ _ _ h => h) (by rfl) hHeld ?_
        try simp only [Act.put, List.setIfInBounds_toArray, List.set_cons_zero, List.set_cons_succ]
        refine held_off 8 (some 20) rfl rfl (by kernel_rfl) (by kernel_rfl) (by kernel_rfl) (fun _ _ _ h => h) (by rfl) hHeld ?_
        try simp only [Act.put, List.setIfInBounds_toArray, List.set_cons_zero, List.set_cons_succ]
        refine held_off 9 (some 21) rfl rfl (by kernel_rfl) (by kernel_rfl) (by kernel_rfl) (fun _ _ _ h => h) (by rfl) hHeld ?_
        try simp only [Act.put, List.setIfInBounds_toArray, List.set_cons_zero, List.set_cons_succ]
        refine held_off 10 (some 22) rfl rfl (by kernel_rfl) (by kernel_rfl) (by kernel_rfl) (fun _ _ _ h => h) (by rfl) hHeld ?_
        try simp only [Act.put, List.setIfInBounds_toArray, List.set_cons_zero, List.set_cons_succ]
        refine held_off 11 (some 23) rfl rfl (by kernel_rfl) (by kernel_rfl) (by kernel_rfl) (fun _ _ _ h => h) (by rfl) hHeld ?_
        try simp only [Act.put, List.setIfInBounds_toArray, List.set_cons_zero, List.set_cons_succ]
        refine held_off 12 (some 24) rfl rfl (by kernel_rfl) (by kernel_rfl) (by kernel_rfl) (fun _ _ _ h => h) (by rfl) hHeld ?_
        try simp only [Act.put, List.setIfInBounds_toArray, List.set_cons_zero, List.set_cons_succ]
        refine held_off 13 (some 25) rfl rfl (by kernel_rfl) (by kernel_rfl) (by kernel_rfl) (fun _ _ _ h => h) (by rfl) hHeld ?_
        try simp only [Act.put, List.setIfInBounds_toArray, List.set_cons_zero, List.set_cons_succ]
        refine held_off 14 (some 26) rfl rfl (by kernel_rfl) (by kernel_rfl) (by kernel_rfl) (fun _ _ _ h => h) (by rfl) hHeld ?_
        try simp only [Act.put, List.setIfInBounds_toArray, List.set_cons_zero, List.set_cons_succ]
        refine held_off 15 (some 27) rfl rfl (by kernel_rfl) (by kernel_rfl) (by kernel_rfl) (fun _ _ _ h => h) (by rfl) hHeld ?_
        try simp only [Act.put, List.setIfInBounds_toArray, List.set_cons_zero, List.set_cons_succ]
        refine held_on 16 (some 28) rfl rfl (by kernel_rfl) (by kernel_rfl) (by kernel_rfl) (fun _ _ _ h => h) (by rfl) hHeld (v := ?v75) ?y75 ?r75
        case y75 => intro w hSw; (try dsimp only at hSw); go_simp; (try with_reducible rfl)
        try simp only [Act.put, List.setIfInBounds_toArray, List.set_cons_zero, List.set_cons_succ]
        refine held_on 17 (some 29) rfl rfl (by kernel_rfl) (by kernel_rfl) (by kernel_rfl) (fun _ _ _ h => h) (by rfl) hHeld (v := ?v76) ?y76 ?r76
        case y76 => intro w hSw; (try dsimp only at hSw); go_simp; (try with_reducible rfl)
        try simp only [Act.put, List.setIfInBounds_toArray, List.set_cons_zero, List.set_cons_succ]
        refine wpAnyH_done (by kernel_rfl) ?_ _
        go_split_ands
        go_wp2
        go_roundw
        case rel => exact ⟨k + 1, by omega, by go_num, catAt_more HC.out HI.out, by with_reducible assumption⟩
        case measure => simp [intOf]; omega
      have hlt2 : k - 1 < l.length := by omega
      obtain ⟨b2, o2, e2, _, hp0, _⟩ := item_at hI2 hlt2
      obtain ⟨rfl, rfl⟩ : b = b2 ∧ o = o2 := by simpa using e2
      clear e2 hI2
      have hy1 : decide (0 < k) = true := by simp; omega
      have hy2 : decide ((0 : Int) < (k : Int)) = true := by simp; omega
      have hi1 : (0 : Int) ≤ (k : Int) - 1 := by omega
      have hi2 : (k : Int) - 1 < (l.length : Int) := by omega
      have hi3 : ((k : Int) - 1).toNat = k - 1 := by omega
      have hi4 : (1 : Int) ≤ (k : Int) := by omega
      have hwk : IntKind.i64.wrap ((k : Int) - 1) = (k : Int) - 1 := IntWalk.i64_in _ (by omega)
      have HC := Lib.hid (catAt_next hlt hi h0 hlt2)
      clear h0
      cases hq : itLt l[k - 1].1 l[k].1
      · have hq2 : Op.bytesLess l[k - 1].1.toList l[k].1.toList = false := hq
        go_wp2_with fail
        generalize wr.alloc (.cells #[.string l[k].1, .string l[k].2.1, .int .i64 l[k].2.2.1, .int .i64 l[k].2.2.2.1, .int .i64 l[k].2.2.2.2.1, .int .i64 l[k].2.2.2.2.2.1, .int .i64 l[k].2.2.2.2.2.2.1, .int .i64 l[k].2.2.2.2.2.2.2] 42) = wq at *
        generalize wr.heap.size = N at *
        clear hc0 hc1 hc2 hc3 hc4 hc5 hc6 hc7 hs HR
        refine wp_region_held_drew (S := (fun w' => w'.cell? ⟨N, 0, none⟩ = some (.string l[k].1) ∧ w'.cell? ⟨N, 1, none⟩ = some (.string l[k].2.1) ∧ w'.cell? ⟨N, 2, none⟩ = some (.int .i64 l[k].2.2.1) ∧ w'.cell? ⟨N, 3, none⟩ = some (.int .i64 l[k].2.2.2.1) ∧ w'.cell? ⟨N, 4, none⟩ = some (.int .i64 l[k].2.2.2.2.1) ∧ w'.cell? ⟨N, 5, none⟩ = some (.int .i64 l[k].2.2.2.2.2.1) ∧ w'.cell? ⟨N, 6, none⟩ = some (.int .i64 l[k].2.2.2.2.2.2.1) ∧ w'.cell? ⟨N, 7, none⟩ = some (.int .i64 l[k].2.2.2.2.2.2.2) ∧ w'.cell? ⟨b, o + (k - 1) * 8, none⟩ = some (.string l[k - 1].1) ∧ b < w'.heap.size ∧ N < w'.heap.size ∧ Below w.heap.size w w')) (by kernel_rfl) ⟨d0, d1, d2, d3, d4, d5, d6, d7, hp0, hbl, dl, HB.drew⟩ (fun hHeld => ?_)
        refine held_on 0 (some 12) rfl rfl (by kernel_rfl) (by kernel_rfl) (by kernel_rfl) (fun _ _ _ h => h) (by rfl) hHeld (v := ?v77) ?y77 ?r77
        case y77 => intro w hSw; (try dsimp only at hSw); go_simp; (try with_reducible rfl)
        try simp only [Act.put, List.setIfInBounds_toArray, List.set_cons_zero, List.set_cons_succ]
        refine wpAnyH_ready (rs := [1]) (by kernel_rfl) (by simp) ?_
        refine AllReadyH.cons rfl (fun K hK => ?_) AllReadyH.nil
        go_simp
        go_at_call 56; refine (implIsItem_at l[k] _ hokk).mono ?_; rintro e w3 ⟨rfl, hb3⟩; rw [hi]; go_simp
        refine hK.out _ _ ?_ (fun hHeld => ?_)
        · obtain ⟨y1, y2, y3, y4, y5, y6, y7, y8, y9, y10, y11, y0⟩ := hHeld; exact ⟨(hb3.cell y11).trans y1, (hb3.cell y11).trans y2, (hb3.cell y11).trans y3, (hb3.cell y11).trans y4, (hb3.cell y11).trans y5, (hb3.cell y11).trans y6, (hb3.cell y11).trans y7, (hb3.cell y11).trans y8, (hb3.cell y10).trans y9, Nat.lt_of_lt_of_le y10 hb3.size, Nat.lt_of_lt_of_le y11 hb3.size, below_on y0 hb3⟩
        clear hK K
        try simp only [Act.put, List.setIfInBounds_toArray, List.set_cons_zero, List.set_cons_succ]
        refine held_on 2 (some 14) rfl rfl (by kernel_rfl) (by kernel_rfl) (by kernel_rfl) (fun _ _ _ h => h) (by rfl) hHeld (v := ?v78) ?y78 ?r78
        case y78 => intro w hSw; (try dsimp only at hSw); go_simp; (try with_reducible rfl)
        try simp only [Act.put, List.setIfInBounds_toArray, List.set_cons_zero, List.set_cons_succ]
        refine held_on 3 (some 15) rfl rfl (by kernel_rfl) (by kernel_rfl) (by kernel_rfl) (fun _ _ _ h => h) (by rfl) hHeld (v := ?v79) ?y79 ?r79
        case y79 => intro w hSw; (try dsimp only at hSw); go_simp; (try with_reducible rfl)
        try simp only [Act.put, List.setIfInBounds_toArray, List.set_cons_zero, List.set_cons_succ]
        refine held_on 4 (some 16) rfl rfl (by kernel_rfl) (by kernel_rfl) (by kernel_rfl) (fun _ _ _ h => h) (by rfl) hHeld (v := ?v80) ?y80 ?r80
        case y80 => intro w hSw; (try dsimp only at hSw); go_simp; (try with_reducible rfl)
        try simp only [Act.put, List.setIfInBounds_toArray, List.set_cons_zero, List.set_cons_succ]
        refine held_on 5 (some 17) rfl rfl (by kernel_rfl) (by kernel_rfl) (by kernel_rfl) (fun _ _ _ h => h) (by rfl) hHeld (v := ?v81) ?y81 ?r81
        case y81 => intro w hSw; (try dsimp only at hSw); go_simp; (try with_reducible rfl)
        try simp only [Act.put, List.setIfInBounds_toArray, List.set_cons_zero, List.set_cons_succ]
        refine held_on 6 (some 18) rfl rfl (by kernel_rfl) (by kernel_rfl) (by kernel_rfl) (fun _ _ _ h => h) (by rfl) hHeld (v := ?v82) ?y82 ?r82
        case y82 => intro w hSw; (try dsimp only at hSw); go_simp; (try with_reducible rfl)
        try simp only [Act.put, List.setIfInBounds_toArray, List.set_cons_zero, List.set_cons_succ]
        refine held_on 7 (some 19) rfl rfl (by kernel_rfl) (by kernel_rfl) (by kernel_rfl) (fun _ _ _ h => h) (by rfl) hHeld (v := ?v83) ?y83 ?r83
        case y83 => intro w hSw; (try dsimp only at hSw); go_simp; (try with_reducible rfl)
        try simp only [Act.put, List.setIfInBounds_toArray, List.set_cons_zero, List.set_cons_succ]
        refine held_on 8 (some 20) rfl rfl (by kernel_rfl) (by kernel_rfl) (by kernel_rfl) (fun _ _ _ h => h) (by rfl) hHeld (v := ?v84) ?y84 ?r84
        case y84 => intro w hSw; (try dsimp only at hSw); go_simp; (try with_reducible rfl)
        try simp only [Act.put, List.setIfInBounds_toArray, List.set_cons_zero, List.set_cons_succ]
        refine held_on 9 (some 21) rfl rfl (by kernel_rfl) (by kernel_rfl) (by kernel_rfl) (fun _ _ _ h => h) (by rfl) hHeld (v := ?v85) ?y85 ?r85
        case y85 => intro w hSw; (try dsimp only at hSw); go_simp; (try with_reducible rfl)
        try simp only [Act.put, List.setIfInBounds_toArray, List.set_cons_zero, List.set_cons_succ]
        refine held_on 10 (some 22) rfl rfl (by kernel_rfl) (by kernel_rfl) (by kernel_rfl) (fun _ _ _ h => h) (by rfl) hHeld (v := ?v86) ?y86 ?r86
        case y86 => intro w hSw; (try dsimp only at hSw); go_simp; (try with_reducible rfl)
        try simp only [Act.put, List.setIfInBounds_toArray, List.set_cons_zero, List.set_cons_succ]
        refine held_on 11 (some 23) rfl rfl (by kernel_rfl) (by kernel_rfl) (by kernel_rfl) (fun _ _ _ h => h) (by rfl) hHeld (v := ?v87) ?y87 ?r87
        case y87 => intro w hSw; (try dsimp only at hSw); go_simp; (try with_reducible rfl)
        try simp only [Act.put, List.setIfInBounds_toArray, List.set_cons_zero, List.set_cons_succ]
        refine held_on 12 (some 24) rfl rfl (by kernel_rfl) (by kernel_rfl) (by kernel_rfl) (fun _ _ _ h => h) (by rfl) hHeld (v := ?v88) ?y88 ?r88
        case y88 => intro w hSw; (try dsimp only at hSw); go_simp; (try with_reducible rfl)
        try simp only [Act.put, List.setIfInBounds_toArray, List.set_cons_zero, List.set_cons_succ]
        refine held_on 13 (some 25) rfl rfl (by kernel_rfl) (by kernel_rfl) (by kernel_rfl) (fun _ _ _ h => h) (by rfl) hHeld (v := ?v89) ?y89 ?r89
        case y89 => intro w hSw; (try dsimp only at hSw); go_simp; (try with_reducible rfl)
        try simp only [Act.put, List.setIfInBounds_toArray, List.set_cons_zero, List.set_cons_succ]
        refine held_on 14 (some 26) rfl rfl (by kernel_rfl) (by kernel_rfl) (by kernel_rfl) (fun _ _ _ h => h) (by rfl) hHeld (v := ?v90) ?y90 ?r90
        case y90 => intro w hSw; (try dsimp only at hSw); go_simp; (try with_reducible rfl)
        try simp only [Act.put, List.setIfInBounds_toArray, List.set_cons_zero, List.set_cons_succ]
        refine held_on 15 (some 27) rfl rfl (by kernel_rfl) (by kernel_rfl) (by kernel_rfl) (fun _ _ _ h => h) (by rfl) hHeld (v := ?v91) ?y91 ?r91
        case y91 => intro w hSw; (try dsimp only at hSw); go_simp; (try with_reducible rfl)
        try simp only [Act.put, List.setIfInBounds_toArray, List.set_cons_zero, List.set_cons_succ]
        refine held_on 16 (some 28) rfl rfl (by kernel_rfl) (by kernel_rfl) (by kernel_rfl) (fun _ _ _ h => h) (by rfl) hHeld (v := ?v92) ?y92 ?r92
        case y92 => intro w hSw; (try dsimp only at hSw); go_simp; (try with_reducible rfl)
        try simp only [Act.put, List.setIfInBounds_toArray, List.set_cons_zero, List.set_cons_succ]
        refine held_on 17 (some 29) rfl rfl (by kernel_rfl) (by kernel_rfl) (by kernel_rfl) (fun _ _ _ h => h) (by rfl) hHeld (v := ?v93) ?y93 ?r93
        case y93 => intro w hSw; (try dsimp only at hSw); go_simp; (try with_reducible rfl)
        try simp only [Act.put, List.setIfInBounds_toArray, List.set_cons_zero, List.set_cons_succ]
        refine wpAnyH_done (by kernel_rfl) ?_ _
        go_split_ands
        go_wp2
        go_ret
        exact ⟨ret_bool (isCat_no hlt (HC.out.trans hq)).symm, by with_reducible assumption⟩
      · have hq2 : Op.bytesLess l[k - 1].1.toList l[k].1.toList = true := hq
        go_wp2_with fail
        generalize wr.alloc (.cells #[.string l[k].1, .string l[k].2.1, .int .i64 l[k].2.2.1, .int .i64 l[k].2.2.2.1, .int .i64 l[k].2.2.2.2.1, .int .i64 l[k].2.2.2.2.2.1, .int .i64 l[k].2.2.2.2.2.2.1, .int .i64 l[k].2.2.2.2.2.2.2] 42) = wq at *
        generalize wr.heap.size = N at *
        clear hc0 hc1 hc2 hc3 hc4 hc5 hc6 hc7 hs HR
        refine wp_region_held_drew (S := (fun w' => w'.cell? ⟨N, 0, none⟩ = some (.string l[k].1) ∧ w'.cell? ⟨N, 1, none⟩ = some (.string l[k].2.1) ∧ w'.cell? ⟨N, 2, none⟩ = some (.int .i64 l[k].2.2.1) ∧ w'.cell? ⟨N, 3, none⟩ = some (.int .i64 l[k].2.2.2.1) ∧ w'.cell? ⟨N, 4, none⟩ = some (.int .i64 l[k].2.2.2.2.1) ∧ w'.cell? ⟨N, 5, none⟩ = some (.int .i64 l[k].2.2.2.2.2.1) ∧ w'.cell? ⟨N, 6, none⟩ = some (.int .i64 l[k].2.2.2.2.2.2.1) ∧ w'.cell? ⟨N, 7, none⟩ = some (.int .i64 l[k].2.2.2.2.2.2.2) ∧ w'.cell? ⟨b, o + (k - 1) * 8, none⟩ = some (.string l[k - 1].1) ∧ b < w'.heap.size ∧ N < w'.heap.size ∧ Below w.heap.size w w')) (by kernel_rfl) ⟨d0, d1, d2, d3, d4, d5, d6, d7, hp0, hbl, dl, HB.drew⟩ (fun hHeld => ?_)
        refine held_on 0 (some 12) rfl rfl (by kernel_rfl) (by kernel_rfl) (by kernel_rfl) (fun _ _ _ h => h) (by rfl) hHeld (v := ?v94) ?y94 ?r94
        case y94 => intro w hSw; (try dsimp only at hSw); go_simp; (try with_reducible rfl)
        try simp only [Act.put, List.setIfInBounds_toArray, List.set_cons_zero, List.set_cons_succ]
        refine wpAnyH_ready (rs := [1]) (by kernel_rfl) (by simp) ?_
        refine AllReadyH.cons rfl (fun K hK => ?_) AllReadyH.nil
        go_simp
        go_at_call 56; refine (implIsItem_at l[k] _ hokk).mono ?_; rintro e w3 ⟨rfl, hb3⟩; rw [hi]; go_simp
        refine hK.out _ _ ?_ (fun hHeld => ?_)
        · obtain ⟨y1, y2, y3, y4, y5, y6, y7, y8, y9, y10, y11, y0⟩ := hHeld; exact ⟨(hb3.cell y11).trans y1, (hb3.cell y11).trans y2, (hb3.cell y11).trans y3, (hb3.cell y11).trans y4, (hb3.cell y11).trans y5, (hb3.cell y11).trans y6, (hb3.cell y11).trans y7, (hb3.cell y11).trans y8, (hb3.cell y10).trans y9, Nat.lt_of_lt_of_le y10 hb3.size, Nat.lt_of_lt_of_le y11 hb3.size, below_on y0 hb3⟩
        clear hK K
        try simp only [Act.put, List.setIfInBounds_toArray, List.set_cons_zero, List.set_cons_succ]
        refine held_on 2 (some 14) rfl rfl (by kernel_rfl) (by kernel_rfl) (by kernel_rfl) (fun _ _ _ h => h) (by rfl) hHeld (v := ?v95) ?y95 ?r95
        case y95 => intro w hSw; (try dsimp only at hSw); go_simp; (try with_reducible rfl)
        try simp only [Act.put, List.setIfInBounds_toArray, List.set_cons_zero, List.set_cons_succ]
        refine held_on 3 (some 15) rfl rfl (by kernel_rfl) (by kernel_rfl) (by kernel_rfl) (fun _ _ _ h => h) (by rfl) hHeld (v := ?v96) ?y96 ?r96
        case y96 => intro w hSw; (try dsimp only at hSw); go_simp; (try with_reducible rfl)
        try simp only [Act.put, List.setIfInBounds_toArray, List.set_cons_zero, List.set_cons_succ]
        refine held_on 4 (some 16) rfl rfl (by kernel_rfl) (by kernel_rfl) (by kernel_rfl) (fun _ _ _ h => h) (by rfl) hHeld (v := ?v97) ?y97 ?r97
        case y97 => intro w hSw; (try dsimp only at hSw); go_simp; (try with_reducible rfl)
        try simp only [Act.put, List.setIfInBounds_toArray, List.set_cons_zero, List.set_cons_succ]
        refine held_on 5 (some 17) rfl rfl (by kernel_rfl) (by kernel_rfl) (by kernel_rfl) (fun _ _ _ h => h) (by rfl) hHeld (v := ?v98) ?y98 ?r98
        case y98 => intro w hSw; (try dsimp only at hSw); go_simp; (try with_reducible rfl)
        try simp only [Act.put, List.setIfInBounds_toArray, List.set_cons_zero, List.set_cons_succ]
        refine held_on 6 (some 18) rfl rfl (by kernel_rfl) (by kernel_rfl) (by kernel_rfl) (fun _ _ _ h => h) (by rfl) hHeld (v := ?v99) ?y99 ?r99
        case y99 => intro w hSw; (try dsimp only at hSw); go_simp; (try with_reducible rfl)
        try simp only [Act.put, List.setIfInBounds_toArray, List.set_cons_zero, List.set_cons_succ]
        refine held_on 7 (some 19) rfl rfl (by kernel_rfl) (by kernel_rfl) (by kernel_rfl) (fun _ _ _ h => h) (by rfl) hHeld (v := ?v100) ?y100 ?r100
        case y100 => intro w hSw; (try dsimp only at hSw); go_simp; (try with_reducible rfl)
        try simp only [Act.put, List.setIfInBounds_toArray, List.set_cons_zero, List.set_cons_succ]
        refine held_on 8 (some 20) rfl rfl (by kernel_rfl) (by kernel_rfl) (by kernel_rfl) (fun _ _ _ h => h) (by rfl) hHeld (v := ?v101) ?y101 ?r101
        case y101 => intro w hSw; (try dsimp only at hSw); go_simp; (try with_reducible rfl)
        try simp only [Act.put, List.setIfInBounds_toArray, List.set_cons_zero, List.set_cons_succ]
        refine held_on 9 (some 21) rfl rfl (by kernel_rfl) (by kernel_rfl) (by kernel_rfl) (fun _ _ _ h => h) (by rfl) hHeld (v := ?v102) ?y102 ?r102
        case y102 => intro w hSw; (try dsimp only at hSw); go_simp; (try with_reducible rfl)
        try simp only [Act.put, List.setIfInBounds_toArray, List.set_cons_zero, List.set_cons_succ]
        refine held_on 10 (some 22) rfl rfl (by kernel_rfl) (by kernel_rfl) (by kernel_rfl) (fun _ _ _ h => h) (by rfl) hHeld (v := ?v103) ?y103 ?r103
        case y103 => intro w hSw; (try dsimp only at hSw); go_simp; (try with_reducible rfl)
        try simp only [Act.put, List.setIfInBounds_toArray, List.set_cons_zero, List.set_cons_succ]
        refine held_on 11 (some 23) rfl rfl (by kernel_rfl) (by kernel_rfl) (by kernel_rfl) (fun _ _ _ h => h) (by rfl) hHeld (v := ?v104) ?y104 ?r104
        case y104 => intro w hSw; (try dsimp only at hSw); go_simp; (try with_reducible rfl)
        try simp only [Act.put, List.setIfInBounds_toArray, List.set_cons_zero, List.set_cons_succ]
        refine held_on 12 (some 24) rfl rfl (by kernel_rfl) (by kernel_rfl) (by kernel_rfl) (fun _ _ _ h => h) (by rfl) hHeld (v := ?v105) ?y105 ?r105
        case y105 => intro w hSw; (try dsimp only at hSw); go_simp; (try with_reducible rfl)
        try simp only [Act.put, List.setIfInBounds_toArray, List.set_cons_zero, List.set_cons_succ]
        refine held_on 13 (some 25) rfl rfl (by kernel_rfl) (by kernel_rfl) (by kernel_rfl) (fun _ _ _ h => h) (by rfl) hHeld (v := ?v106) ?y106 ?r106
        case y106 => intro w hSw; (try dsimp only at hSw); go_simp; (try with_reducible rfl)
        try simp only [Act.put, List.setIfInBounds_toArray, List.set_cons_zero, List.set_cons_succ]
        refine held_on 14 (some 26) rfl rfl (by kernel_rfl) (by kernel_rfl) (by kernel_rfl) (fun _ _ _ h => h) (by rfl) hHeld (v := ?v107) ?y107 ?r107
        case y107 => intro w hSw; (try dsimp only at hSw); go_simp; (try with_reducible rfl)
        try simp only [Act.put, List.setIfInBounds_toArray, List.set_cons_zero, List.set_cons_succ]
        refine held_on 15 (some 27) rfl rfl (by kernel_rfl) (by kernel_rfl) (by kernel_rfl) (fun _ _ _ h => h) (by rfl) hHeld (v := ?v108) ?y108 ?r108
        case y108 => intro w hSw; (try dsimp only at hSw); go_simp; (try with_reducible rfl)
        try simp only [Act.put, List.setIfInBounds_toArray, List.set_cons_zero, List.set_cons_succ]
        refine held_on 16 (some 28) rfl rfl (by kernel_rfl) (by kernel_rfl) (by kernel_rfl) (fun _ _ _ h => h) (by rfl) hHeld (v := ?v109) ?y109 ?r109
        case y109 => intro w hSw; (try dsimp only at hSw); go_simp; (try with_reducible rfl)
        try simp only [Act.put, List.setIfInBounds_toArray, List.set_cons_zero, List.set_cons_succ]
        refine held_on 17 (some 29) rfl rfl (by kernel_rfl) (by kernel_rfl) (by kernel_rfl) (fun _ _ _ h => h) (by rfl) hHeld (v := ?v110) ?y110 ?r110
        case y110 => intro w hSw; (try dsimp only at hSw); go_simp; (try with_reducible rfl)
        try simp only [Act.put, List.setIfInBounds_toArray, List.set_cons_zero, List.set_cons_succ]
        refine wpAnyH_done (by kernel_rfl) ?_ _
        go_split_ands
        go_wp2
        go_roundw
        case rel => exact ⟨k + 1, by omega, by go_num, catAt_more (HC.out.trans hq) HI.out, by with_reducible assumption⟩
        case measure => simp [intOf]; omega
    · obtain rfl : k = l.length := by omega
      go_wp2
      go_ret
      exact ⟨ret_bool (isCat_end HI.out).symm, HR⟩
end Go.Proofs.Ytpbibkjcjgggdaa
