/- Part 9 of the texts of this claim: The walks of IsCode; Steps through a region that draws its order, by hand: an operation that only reads is taken in the text's order; one that its guard passes over is passed over. -/
import Derived.Test.YtlnkofnfgemfdaaLd1
import Derived.Deep.RegionHeld3
import Derived.Laws.Cover1
/- The walks of IsCode. -/
namespace Go.Proofs.Ytlnkofnfgemfdaa
open Go.RowKit
def codeCh (k : Nat) (c : Int) : Bool := decide ((65 ≤ c ∧ c ≤ 90) ∨ (k ≠ 0 ∧ ((48 ≤ c ∧ c ≤ 57) ∨ c = 45)))
def chAt (s : ByteArray) (k : Nat) : Int := ((s.data.toList.getD k 0).toNat : Int)
theorem chAt_at (s : ByteArray) (k : Nat) (h : k < s.size) : chAt s k = (s[k].toNat : Int) := by
  unfold chAt
  have h2 : k < s.data.toList.length := by simpa using h
  rw [List.getD_eq_getElem?_getD, List.getElem?_eq_getElem h2]
  rfl
def isCode (s : ByteArray) : Bool := (List.range s.size).all (fun k => codeCh k (chAt s k)) && decide ((1 : Int) ≤ (s.size : Int) ∧ (s.size : Int) ≤ 8)
theorem isCode_no {s : ByteArray} {k : Nat} (hk : k < s.size) (h : codeCh k (chAt s k) = false) : isCode s = false := by
  unfold isCode
  have : (List.range s.size).all (fun k => codeCh k (chAt s k)) = false := by
    rw [List.all_eq_false]; exact ⟨k, by simpa using hk, by simp [h]⟩
  rw [this, Bool.false_and]
theorem isCode_end {s : ByteArray} (h : ∀ j < s.size, codeCh j (chAt s j) = true) : isCode s = decide ((1 : Int) ≤ (s.size : Int) ∧ (s.size : Int) ≤ 8) := by
  unfold isCode
  have : (List.range s.size).all (fun k => codeCh k (chAt s k)) = true := by
    rw [List.all_eq_true]; intro k hk; exact h k (by simpa using hk)
  rw [this, Bool.true_and]
set_option maxRecDepth 100000 in
set_option maxHeartbeats 4000000 in
theorem specIsCode_any (s : ByteArray) (w : World) (hs : s.size ≤ 9223372036854775807) : Calls Try.prog 117 #[.string s] w fun e w' => e = .returned (.bool (isCode s)) ∧ w = w' := by
  go_enter Try.func117, Try.ntmps117
  go_wp2
  go_loop [3] (fun i => ∃ k : Nat, k ≤ s.size ∧ i = .int .i64 k ∧ Hid (∀ j < k, codeCh j (chAt s j) = true)) (fun i => s.size - (intOf i).toNat)
  case atStart => exact ⟨0, by omega, rfl, fun j h => absurd h (by omega)⟩
  case round =>
    obtain ⟨k, hk, rfl, HI⟩ := hrel
    by_cases hlt : k < s.size
    · have hch := chAt_at s k hlt
      have hb : s[k].toNat < 256 := UInt8.toNat_lt _
      have HX : Hid (codeCh k (s[k].toNat : Int) = true → ∀ j < k + 1, codeCh j (chAt s j) = true) := fun h j hj => by
        rcases Nat.lt_or_ge j k with h1 | h1
        · exact HI.out j h1
        · obtain rfl : j = k := by omega
          rw [hch]; exact h
      have HN : Hid (codeCh k (s[k].toNat : Int) = false → isCode s = false) := fun h => isCode_no hlt (by rw [hch]; exact h)
      clear hch
      by_cases h1 : (65 : Int) ≤ (s[k].toNat : Int) ∧ (s[k].toNat : Int) ≤ 90
      · obtain ⟨h1, h2⟩ := h1
        have HC : Hid (codeCh k (s[k].toNat : Int) = true) := decide_eq_true (.inl ⟨h1, h2⟩)
        go_wp2
        go_round
        case rel => exact ⟨k + 1, by omega, by go_num, HX.out HC.out⟩
        case measure => simp [intOf]; omega
      by_cases h0 : k = 0
      · have HC : Hid (codeCh k (s[k].toNat : Int) = false) := decide_eq_false (fun h => h.elim h1 (fun h => h.1 h0))
        subst h0
        by_cases h2 : (65 : Int) ≤ (s[0].toNat : Int)
        · have h7 : decide ((s[0].toNat : Int) ≤ 90) = false := decide_eq_false (fun h => h1 ⟨h2, h⟩)
          clear h1
          go_wp2
          go_ret
          exact ⟨ret_bool (HN.out HC.out).symm, rfl⟩
        · clear h1
          go_wp2
          go_ret
          exact ⟨ret_bool (HN.out HC.out).symm, rfl⟩
      · have hk0 : ((k : Int) == 0) = false := by rw [beq_eq_false_iff_ne]; omega
        have K0 := Lib.hid h0
        clear h0
        by_cases h3 : (s[k].toNat : Int) < 48
        · by_cases h5 : (s[k].toNat : Int) = 45
          · have HC : Hid (codeCh k (s[k].toNat : Int) = true) := decide_eq_true (.inr ⟨K0.out, .inr h5⟩)
            have h6 : ((s[k].toNat : Int) != 45) = false := by rw [bne_eq_false_iff_eq]; exact h5
            clear h5 h1
            go_wp2
            go_round
            case rel => exact ⟨k + 1, by omega, by go_num, HX.out HC.out⟩
            case measure => simp [intOf]; omega
          · have HC : Hid (codeCh k (s[k].toNat : Int) = false) := decide_eq_false (fun h => h.elim h1 (fun h => h.2.elim (fun h => by omega) h5))
            have h6 : ((s[k].toNat : Int) != 45) = true := by rw [bne_iff_ne]; exact h5
            clear h5 h1
            go_wp2
            go_ret
            exact ⟨ret_bool (HN.out HC.out).symm, rfl⟩
        · by_cases h4 : (s[k].toNat : Int) ≤ 57
          · have HC : Hid (codeCh k (s[k].toNat : Int) = true) := decide_eq_true (.inr ⟨K0.out, .inl ⟨by omega, h4⟩⟩)
            clear h1
            go_wp2
            go_round
            case rel => exact ⟨k + 1, by omega, by go_num, HX.out HC.out⟩
            case measure => simp [intOf]; omega
          · have HC : Hid (codeCh k (s[k].toNat : Int) = false) := decide_eq_false (fun h => h.elim h1 (fun h => h.2.elim (fun h => h4 h.2) (fun h => by omega)))
            have h6 : ((s[k].toNat : Int) != 45) = true := by rw [bne_iff_ne]; omega
            by_cases h2 : (65 : Int) ≤ (s[k].toNat : Int)
            · have h7 : decide ((s[k].toNat : Int) ≤ 90) = false := decide_eq_false (fun h => h1 ⟨h2, h⟩)
              clear h1
              go_wp2
              go_ret
              exact ⟨ret_bool (HN.out HC.out).symm, rfl⟩
            · clear h1
              go_wp2
              go_ret
              exact ⟨ret_bool (HN.out HC.out).symm, rfl⟩
    · obtain rfl : k = s.size := by omega
      have HE := Lib.hid (isCode_end HI.out)
      by_cases hl : (1 : Int) ≤ (s.size : Int)
      · by_cases hl2 : (s.size : Int) ≤ 8
        all_goals
          go_wp2
          go_ret
          exact ⟨ret_bool (by rw [HE.out]; simp [hl, hl2] <;> omega), rfl⟩
      · go_wp2
        go_ret
        exact ⟨ret_bool (by rw [HE.out]; simp; omega), rfl⟩
set_option maxRecDepth 100000 in
set_option maxHeartbeats 4000000 in
theorem implIsCode_any (s : ByteArray) (w : World) (hs : s.size ≤ 9223372036854775807) : Calls Try.prog 114 #[.string s] w fun e w' => e = .returned (.bool (isCode s)) ∧ w = w' := by
  go_enter Try.func114, Try.ntmps114
  go_wp2
  go_loop [3] (fun i => ∃ k : Nat, k ≤ s.size ∧ i = .int .i64 k ∧ Hid (∀ j < k, codeCh j (chAt s j) = true)) (fun i => s.size - (intOf i).toNat)
  case atStart => exact ⟨0, by omega, rfl, fun j h => absurd h (by omega)⟩
  case round =>
    obtain ⟨k, hk, rfl, HI⟩ := hrel
    by_cases hlt : k < s.size
    · have hch := chAt_at s k hlt
      have hb : s[k].toNat < 256 := UInt8.toNat_lt _
      have HX : Hid (codeCh k (s[k].toNat : Int) = true → ∀ j < k + 1, codeCh j (chAt s j) = true) := fun h j hj => by
        rcases Nat.lt_or_ge j k with h1 | h1
        · exact HI.out j h1
        · obtain rfl : j = k := by omega
          rw [hch]; exact h
      have HN : Hid (codeCh k (s[k].toNat : Int) = false → isCode s = false) := fun h => isCode_no hlt (by rw [hch]; exact h)
      clear hch
      by_cases h1 : (65 : Int) ≤ (s[k].toNat : Int) ∧ (s[k].toNat : Int) ≤ 90
      · obtain ⟨h1, h2⟩ := h1
        have HC : Hid (codeCh k (s[k].toNat : Int) = true) := decide_eq_true (.inl ⟨h1, h2⟩)
        go_wp2
        go_round
        case rel => exact ⟨k + 1, by omega, by go_num, HX.out HC.out⟩
        case measure => simp [intOf]; omega
      by_cases h0 : k = 0
      · have HC : Hid (codeCh k (s[k].toNat : Int) = false) := decide_eq_false (fun h => h.elim h1 (fun h => h.1 h0))
        subst h0
        by_cases h2 : (65 : Int) ≤ (s[0].toNat : Int)
        · have h7 : decide ((s[0].toNat : Int) ≤ 90) = false := decide_eq_false (fun h => h1 ⟨h2, h⟩)
          clear h1
          go_wp2
          go_ret
          exact ⟨ret_bool (HN.out HC.out).symm, rfl⟩
        · clear h1
          go_wp2
          go_ret
          exact ⟨ret_bool (HN.out HC.out).symm, rfl⟩
      · have hk0 : ((k : Int) == 0) = false := by rw [beq_eq_false_iff_ne]; omega
        have K0 := Lib.hid h0
        clear h0
        by_cases h3 : (s[k].toNat : Int) < 48
        · by_cases h5 : (s[k].toNat : Int) = 45
          · have HC : Hid (codeCh k (s[k].toNat : Int) = true) := decide_eq_true (.inr ⟨K0.out, .inr h5⟩)
            have h6 : ((s[k].toNat : Int) != 45) = false := by rw [bne_eq_false_iff_eq]; exact h5
            clear h5 h1
            go_wp2
            go_round
            case rel => exact ⟨k + 1, by omega, by go_num, HX.out HC.out⟩
            case measure => simp [intOf]; omega
          · have HC : Hid (codeCh k (s[k].toNat : Int) = false) := decide_eq_false (fun h => h.elim h1 (fun h => h.2.elim (fun h => by omega) h5))
            have h6 : ((s[k].toNat : Int) != 45) = true := by rw [bne_iff_ne]; exact h5
            clear h5 h1
            go_wp2
            go_ret
            exact ⟨ret_bool (HN.out HC.out).symm, rfl⟩
        · by_cases h4 : (s[k].toNat : Int) ≤ 57
          · have HC : Hid (codeCh k (s[k].toNat : Int) = true) := decide_eq_true (.inr ⟨K0.out, .inl ⟨by omega, h4⟩⟩)
            clear h1
            go_wp2
            go_round
            case rel => exact ⟨k + 1, by omega, by go_num, HX.out HC.out⟩
            case measure => simp [intOf]; omega
          · have HC : Hid (codeCh k (s[k].toNat : Int) = false) := decide_eq_false (fun h => h.elim h1 (fun h => h.2.elim (fun h => h4 h.2) (fun h => by omega)))
            have h6 : ((s[k].toNat : Int) != 45) = true := by rw [bne_iff_ne]; omega
            by_cases h2 : (65 : Int) ≤ (s[k].toNat : Int)
            · have h7 : decide ((s[k].toNat : Int) ≤ 90) = false := decide_eq_false (fun h => h1 ⟨h2, h⟩)
              clear h1
              go_wp2
              go_ret
              exact ⟨ret_bool (HN.out HC.out).symm, rfl⟩
            · clear h1
              go_wp2
              go_ret
              exact ⟨ret_bool (HN.out HC.out).symm, rfl⟩
    · obtain rfl : k = s.size := by omega
      have HE := Lib.hid (isCode_end HI.out)
      by_cases hl : (1 : Int) ≤ (s.size : Int)
      · by_cases hl2 : (s.size : Int) ≤ 8
        all_goals
          go_wp2
          go_ret
          exact ⟨ret_bool (by rw [HE.out]; simp [hl, hl2] <;> omega), rfl⟩
      · go_wp2
        go_ret
        exact ⟨ret_bool (by rw [HE.out]; simp; omega), rfl⟩
end Go.Proofs.Ytlnkofnfgemfdaa
/- Steps through a region that draws its order, by hand: an operation that only reads is taken in the text's order; one that its guard passes over is passed over. -/
namespace Go.Proofs.Ytlnkofnfgemfdaa
section
variable {P : Program} {ops : Array Oper} {Q : Exit → Act → World → Prop} {S : World → Prop}
theorem held_on (i : Nat) (dst : Option Tmp) {oi : Oper} {v : Value} {fuel : Nat} {listed : Array Bool} {a : Act} {w : World} (hi : ops[i]? = some oi) (hd : oi.dst = dst) (hs : Region.noSelect ops = true) (hf : Region.free .any ops listed i = true) (hr : (Region.ready .any ops listed).contains i = true)
    (hQ : ∀ c a w, Q (.panic c) (a.put oi.dst v) w → Q (.panic c) a w) (hw : Region.wanted oi (yielded ops a.tmps) = true) (hS : S w) (hy : ∀ w, S w → (execOp a.eval oi).run P w = .ok (.value v) w)
    (h : wpAnyH P .any ops Q S fuel (listed.setIfInBounds i true) (a.put dst v) w) : wpAnyH P .any ops Q S (fuel + 1) listed a w := by
  subst hd
  exact wpAnyH_take hi hs hf hr hQ (.inl ⟨hw, hy⟩) hS h
theorem held_off (i : Nat) (dst : Option Tmp) {oi : Oper} {fuel : Nat} {listed : Array Bool} {a : Act} {w : World} (hi : ops[i]? = some oi) (hd : oi.dst = dst) (hs : Region.noSelect ops = true) (hf : Region.free .any ops listed i = true) (hr : (Region.ready .any ops listed).contains i = true)
    (hQ : ∀ c a w, Q (.panic c) (a.put oi.dst undef) w → Q (.panic c) a w) (hw : Region.wanted oi (yielded ops a.tmps) = false) (hS : S w)
    (h : wpAnyH P .any ops Q S fuel (listed.setIfInBounds i true) (a.put dst undef) w) : wpAnyH P .any ops Q S (fuel + 1) listed a w := by
  subst hd
  exact wpAnyH_take hi hs hf hr hQ (.inr ⟨hw, rfl⟩) hS h
end
end Go.Proofs.Ytlnkofnfgemfdaa
