/- Part 10 of the texts of this claim: The walks of IsStep, IsRouting, AreRoutings, FindRouting, StepTime. -/
import Derived.Test.YtlnkofnfgemfdaaLd8
import Derived.Test.YtlnkofnfgemfdaaLd9
import Derived.Test.YtlnkofnfgemfdaaLd1
import Derived.Test.YtlnkofnfgemfdaaLd6
/- The walks of IsStep, IsRouting, AreRoutings, FindRouting, StepTime. -/
namespace Go.Proofs.Ytlnkofnfgemfdaa
open Go.RowKit
def spNone : Sp := (ByteArray.empty, 0, 0)
def rtNone : Rt := (ByteArray.empty, [])
def isStep (x : Sp) : Bool := isCode x.1 && (inB x.2.1 0 1000 && inB x.2.2 0 1000)
def isRouting (x : Rt) : Bool := x.2.all isStep && (isCode x.1 && inB (x.2.length : Int) 1 6)
def rtLt (a b : ByteArray) : Bool := Op.bytesLess a.toList b.toList
def okRt1 (l : List Rt) (k : Nat) : Bool := isRouting (l.getD k rtNone) && (decide (k = 0) || rtLt (l.getD (k - 1) rtNone).1 (l.getD k rtNone).1)
def areRoutings (l : List Rt) : Bool := (List.range l.length).all (okRt1 l) && decide ((l.length : Int) ≤ 12)
theorem rt_getD (l : List Rt) (k : Nat) (h : k < l.length) : l.getD k rtNone = l[k] := by
  rw [List.getD_eq_getElem?_getD, List.getElem?_eq_getElem h]; rfl
theorem areRoutings_no {l : List Rt} {k : Nat} (hk : k < l.length) (h : okRt1 l k = false) : areRoutings l = false := by
  unfold areRoutings
  have : (List.range l.length).all (okRt1 l) = false := by rw [List.all_eq_false]; exact ⟨k, by simpa using hk, by simp [h]⟩
  simp [this]
theorem areRoutings_end {l : List Rt} (h : ∀ j < l.length, okRt1 l j = true) : areRoutings l = decide ((l.length : Int) ≤ 12) := by
  unfold areRoutings
  have : (List.range l.length).all (okRt1 l) = true := by rw [List.all_eq_true]; intro x hx; exact h x (by simpa using hx)
  simp [this]
theorem okRt1_of {l : List Rt} {k : Nat} (hk : k < l.length) : okRt1 l k = (isRouting l[k] && (decide (k = 0) || rtLt (l.getD (k - 1) rtNone).1 l[k].1)) := by unfold okRt1; rw [rt_getD _ _ hk]
theorem okRt1_bad {l : List Rt} {k : Nat} (hk : k < l.length) (h : isRouting l[k] = false) : okRt1 l k = false := by rw [okRt1_of hk, h]; rfl
theorem okRt1_first {l : List Rt} {k : Nat} (hk : k < l.length) (h : isRouting l[k] = true) (h0 : k = 0) : okRt1 l k = true := by rw [okRt1_of hk, h, decide_eq_true h0]; rfl
theorem okRt1_next {l : List Rt} {k : Nat} (hk : k < l.length) (h : isRouting l[k] = true) (h0 : ¬ k = 0) (hp : k - 1 < l.length) : okRt1 l k = rtLt l[k - 1].1 l[k].1 := by rw [okRt1_of hk, h, decide_eq_false h0, rt_getD _ _ hp]; rfl
theorem okRt1_more {l : List Rt} {k : Nat} (h : okRt1 l k = true) (hI : ∀ j < k, okRt1 l j = true) : ∀ j < k + 1, okRt1 l j = true := fun j hj => by
  rcases Nat.lt_or_ge j k with h1 | h1
  · exact hI j h1
  · rw [show j = k by omega]; exact h
theorem areRoutings_parts {l : List Rt} (h : areRoutings l = true) : l.length ≤ 12 ∧ ∀ k (hk : k < l.length), isRouting l[k] = true := by
  simp only [areRoutings, Bool.and_eq_true, List.all_eq_true, List.mem_range, decide_eq_true_eq] at h
  refine ⟨by omega, fun k hk => ?_⟩
  have := h.1 k hk
  rw [okRt1_of hk, Bool.and_eq_true] at this
  exact this.1
theorem isRouting_parts {x : Rt} (h : isRouting x = true) : (∀ k (hk : k < x.2.length), isStep x.2[k] = true) ∧ x.2.length ≤ 6 := by
  simp only [isRouting, Bool.and_eq_true, List.all_eq_true, inB_iff] at h
  exact ⟨fun k hk => h.1 _ (List.getElem_mem hk), by omega⟩
theorem isStep_parts {x : Sp} (h : isStep x = true) : isCode x.1 = true ∧ (0 ≤ x.2.1 ∧ x.2.1 ≤ 1000) ∧ (0 ≤ x.2.2 ∧ x.2.2 ≤ 1000) := by
  simp only [isStep, Bool.and_eq_true, inB_iff] at h
  exact h
def findRt (l : List Rt) (c : ByteArray) : Int := match l.findIdx? (fun x => x.1.toList == c.toList) with
  | some k => (k : Int)
  | none => -1
theorem findRt_hit {l : List Rt} {c : ByteArray} {k : Nat} (hk : k < l.length) (h : ∀ j (hj : j < l.length), j < k → (l[j].1.toList == c.toList) = false) (he : (l[k].1.toList == c.toList) = true) : findRt l c = (k : Int) := by
  have : l.findIdx? (fun x => x.1.toList == c.toList) = some k := by
    rw [List.findIdx?_eq_some_iff_getElem]
    exact ⟨hk, he, fun j hj => by rw [h j (by omega) hj]; decide⟩
  unfold findRt; rw [this]
theorem findRt_miss {l : List Rt} {c : ByteArray} (h : ∀ j (hj : j < l.length), (l[j].1.toList == c.toList) = false) : findRt l c = -1 := by
  have : l.findIdx? (fun x => x.1.toList == c.toList) = none := by
    rw [List.findIdx?_eq_none_iff]
    intro x hx
    obtain ⟨k, hk, rfl⟩ := List.getElem_of_mem hx
    exact h k hk
  unfold findRt; rw [this]
theorem findRt_bd (l : List Rt) (c : ByteArray) : -1 ≤ findRt l c ∧ findRt l c < l.length := by
  unfold findRt
  cases h : l.findIdx? (fun x => x.1.toList == c.toList) with
  | none => simp only; omega
  | some k =>
    rw [List.findIdx?_eq_some_iff_getElem] at h
    obtain ⟨h1, _⟩ := h
    simp only; omega
def stepTime (x : Sp) (n : Int) : Int × Bool := if (isStep x && inB n 1 100000) = true then (x.2.1 + x.2.2 * n, true) else (0, false)
theorem stepTime_no {x : Sp} {n : Int} (h : (isStep x && inB n 1 100000) = false) : stepTime x n = (0, false) := by unfold stepTime; rw [if_neg (by rw [h]; decide)]
theorem stepTime_yes {x : Sp} {n : Int} (h1 : isStep x = true) (h2 : inB n 1 100000 = true) : stepTime x n = (x.2.1 + x.2.2 * n, true) := by unfold stepTime; rw [if_pos (by rw [h1, h2]; rfl)]
def PairT (w : World) (q : Int × Bool) (e : Ending) (w' : World) : Prop := e = .returned (.tuple #[.int .i64 q.1, .bool q.2]) ∧ Below w.heap.size w w'
theorem pairT_mk {w w' : World} {q : Int × Bool} {a : Int} {b : Bool} (h : q = (a, b)) (hb : Below w.heap.size w w') : PairT w q (.returned (.tuple #[.int .i64 a, .bool b])) w' := by subst h; exact ⟨rfl, hb⟩
set_option maxRecDepth 100000 in
set_option maxHeartbeats 1000000 in
theorem specIsStep_any (x : Sp) (w : World) (hok : x.1.size ≤ 9223372036854775807) : Calls Try.prog 141 #[.agg #[.string x.1, .int .i64 x.2.1, .int .i64 x.2.2]] w fun e w' => e = .returned (.bool (isStep x)) ∧ Below w.heap.size w w' := by
  have hb := below_alloc w (.cells #[.string x.1, .int .i64 x.2.1, .int .i64 x.2.2] 136)
  cases g1 : isCode x.1
  · have HF : Hid (isStep x = false) := by show _ = _; unfold isStep; rw [g1]; rfl
    go_enter Try.func141, Try.ntmps141
    go_wp2_with (first | (go_at_call 73; refine (l1In_any _ _ _ _).mono ?_; rintro e w' ⟨rfl, rfl⟩) | (go_at_call 117; refine (specIsCode_any _ _ (by assumption)).mono ?_; rintro e w' ⟨rfl, rfl⟩))
    go_ret
    exact ⟨ret_bool HF.out.symm, hb⟩
  cases g2 : inB x.2.1 0 1000
  · have HF : Hid (isStep x = false) := by show _ = _; unfold isStep; rw [g1, g2]; rfl
    go_enter Try.func141, Try.ntmps141
    go_wp2_with (first | (go_at_call 73; refine (l1In_any _ _ _ _).mono ?_; rintro e w' ⟨rfl, rfl⟩) | (go_at_call 117; refine (specIsCode_any _ _ (by assumption)).mono ?_; rintro e w' ⟨rfl, rfl⟩))
    go_ret
    exact ⟨ret_bool HF.out.symm, hb⟩
  cases g3 : inB x.2.2 0 1000
  · have HF : Hid (isStep x = false) := by show _ = _; unfold isStep; rw [g1, g2, g3]; rfl
    go_enter Try.func141, Try.ntmps141
    go_wp2_with (first | (go_at_call 73; refine (l1In_any _ _ _ _).mono ?_; rintro e w' ⟨rfl, rfl⟩) | (go_at_call 117; refine (specIsCode_any _ _ (by assumption)).mono ?_; rintro e w' ⟨rfl, rfl⟩))
    go_ret
    exact ⟨ret_bool HF.out.symm, hb⟩
  have HF : Hid (isStep x = true) := by show _ = _; unfold isStep; rw [g1, g2, g3]; rfl
  go_enter Try.func141, Try.ntmps141
  go_wp2_with (first | (go_at_call 73; refine (l1In_any _ _ _ _).mono ?_; rintro e w' ⟨rfl, rfl⟩) | (go_at_call 117; refine (specIsCode_any _ _ (by assumption)).mono ?_; rintro e w' ⟨rfl, rfl⟩))
  go_ret
  exact ⟨ret_bool HF.out.symm, hb⟩
set_option maxRecDepth 100000 in
set_option maxHeartbeats 2000000 in
theorem specIsRouting_any (x : Rt) (B : Option Addr) (m c : Nat) (w : World) (hl : StepsIn w B m x.2) (hok : okRt x) : Calls Try.prog 108 #[.agg #[.string x.1, .slice B m c]] w fun e w' => e = .returned (.bool (isRouting x)) ∧ Below w.heap.size w w' := by
  have hn := hl.len
  obtain rfl := hl.1
  have HO := Lib.hid hok.2
  have hcs := hok.1
  clear hok
  have hb := below_alloc w (.cells #[.string x.1, .slice B x.2.length c] 89)
  have B0 : BoxOf (w.alloc (.cells #[.string x.1, .slice B x.2.length c] 89)) w.heap.size [.string x.1, .slice B x.2.length c] := boxOf_alloc w #[.string x.1, .slice B x.2.length c] 89
  go_enter Try.func108, Try.ntmps108
  go_wp2_with fail
  generalize (w.alloc (.cells #[.string x.1, .slice B x.2.length c] 89)) = V at *
  skip
  go_loopw [3] (fun i wr => ∃ k : Nat, k ≤ x.2.length ∧ i = .int .i64 k ∧ Hid ((x.2.take k).all isStep = true) ∧ BoxOf wr w.heap.size [.string x.1, .slice B x.2.length c] ∧ Below w.heap.size w wr) (fun i _ => x.2.length - (intOf i).toNat)
  case atStart => exact ⟨0, by omega, rfl, rfl, B0, hb⟩
  case round =>
    clear B0 hb
    obtain ⟨k, hk, rfl, HI, B0, hb⟩ := hrel
    obtain ⟨b0, b1, bl⟩ := B0.two
    by_cases hlt : k < x.2.length
    case neg =>
      obtain rfl : k = x.2.length := by omega
      have HA : Hid (x.2.all isStep = true) := by show _ = _; rw [← HI.out, List.take_length]
      cases g1 : isCode x.1
      · have HF : Hid (isRouting x = false) := by show _ = _; unfold isRouting; rw [HA.out, g1]; rfl
        go_wp2_with (first | (go_at_call 73; refine (l1In_any _ _ _ _).mono ?_; rintro e w' ⟨rfl, rfl⟩) | (go_at_call 117; refine (specIsCode_any _ _ (by assumption)).mono ?_; rintro e w' ⟨rfl, rfl⟩))
        go_ret
        exact ⟨ret_bool HF.out.symm, hb⟩
      have HF : Hid (isRouting x = inB (x.2.length : Int) 1 6) := by show _ = _; unfold isRouting; rw [HA.out, g1]; rfl
      cases g2 : inB (x.2.length : Int) 1 6
      all_goals
        go_wp2_with (first | (go_at_call 73; refine (l1In_any _ _ _ _).mono ?_; rintro e w' ⟨rfl, rfl⟩) | (go_at_call 117; refine (specIsCode_any _ _ (by assumption)).mono ?_; rintro e w' ⟨rfl, rfl⟩))
        go_ret
        exact ⟨ret_bool (HF.out.trans g2).symm, hb⟩
    obtain ⟨bs, os, rfl, hbs, s0, s1, s2⟩ := step_at (hl.keep hb) hlt
    have hss := HO.out _ (List.getElem_mem hlt)
    have HT := Lib.hid (all_take x.2 isStep k hlt)
    go_wp2_with fail
    clear b0 b1 bl s0 s1 s2
    refine (specIsStep_any x.2[k] _ hss).mono ?_
    rintro e w3 ⟨rfl, hs⟩
    replace hb := below_on hb hs
    replace B0 := B0.keep hs
    clear hs
    cases g : isStep x.2[k]
    · have HF : Hid (isRouting x = false) := by show _ = _; unfold isRouting; rw [all_false x.2 _ k hlt g]; rfl
      go_wp2_with fail
      go_ret
      exact ⟨ret_bool HF.out.symm, hb⟩
    · have HY : Hid ((x.2.take (k + 1)).all isStep = true) := by show _ = _; rw [HT.out, HI.out, g]; rfl
      go_wp2_with fail
      go_roundw
      case rel => exact ⟨k + 1, by omega, by go_num, HY.out, B0, hb⟩
      case measure => simp [intOf]; omega
set_option maxRecDepth 100000 in
set_option maxHeartbeats 1000000 in
theorem specFindRouting_any (A : Option Addr) (n c : Nat) (l : List Rt) (s : ByteArray) (w : World) (hl : RoutingsIn w A n l) :
    Calls Try.prog 92 #[.slice A n c, .string s] w fun e w' => e = .returned (.int .i64 (findRt l s)) ∧ Below w.heap.size w w' := by
  have hn := hl.len
  obtain rfl := hl.num
  go_enter Try.func92, Try.ntmps92
  go_wp2_with fail
  go_loopw [5] (fun i wr => ∃ k : Nat, k ≤ l.length ∧ i = .int .i64 k ∧ Hid (∀ j (hj : j < l.length), j < k → (l[j].1.toList == s.toList) = false) ∧ Below w.heap.size w wr) (fun i _ => l.length - (intOf i).toNat)
  case atStart => exact ⟨0, by omega, rfl, fun j _ h => absurd h (by omega), Below.refl _ _⟩
  case round =>
    obtain ⟨k, hk, rfl, HI, hb⟩ := hrel
    by_cases hlt : k < l.length
    case neg =>
      obtain rfl : k = l.length := by omega
      have HF := Lib.hid (findRt_miss (c := s) (fun j hj => HI.out j hj hj))
      go_wp2_with fail
      go_ret
      exact ⟨ret_int HF.out.symm, hb⟩
    obtain ⟨b, o, B2, m2, c2, rfl, hbl, r0, r1, _⟩ := rt_at (hl.keep hb) hlt
    skip
    cases he : (l[k].1.toList == s.toList)
    · have HX : Hid (∀ j (hj : j < l.length), j < k + 1 → (l[j].1.toList == s.toList) = false) := fun j hj hjk => by
        rcases Nat.lt_or_ge j k with h1 | h1
        · exact HI.out j hj h1
        · obtain rfl : j = k := by omega
          exact he
      go_wp2_with fail
      go_roundw
      case rel => exact ⟨k + 1, by omega, by go_num, HX.out, hb⟩
      case measure => simp [intOf]; omega
    · have HF := Lib.hid (findRt_hit hlt HI.out he)
      go_wp2_with fail
      go_ret
      exact ⟨ret_int HF.out.symm, hb⟩
set_option maxRecDepth 100000 in
set_option maxHeartbeats 1000000 in
theorem specStepTime_any (x : Sp) (n : Int) (w : World) (hok : x.1.size ≤ 9223372036854775807) :
    Calls Try.prog 93 #[.agg #[.string x.1, .int .i64 x.2.1, .int .i64 x.2.2], .int .i64 n] w (PairT w (stepTime x n)) := by
  have hb := below_alloc w (.cells #[.string x.1, .int .i64 x.2.1, .int .i64 x.2.2] 136)
  have B0 : BoxOf (w.alloc (.cells #[.string x.1, .int .i64 x.2.1, .int .i64 x.2.2] 136)) w.heap.size [.string x.1, .int .i64 x.2.1, .int .i64 x.2.2] := boxOf_alloc w #[.string x.1, .int .i64 x.2.1, .int .i64 x.2.2] 136
  go_enter Try.func93, Try.ntmps93
  go_wp2_with fail
  generalize (w.alloc (.cells #[.string x.1, .int .i64 x.2.1, .int .i64 x.2.2] 136)) = V at *
  refine (specIsStep_any x _ hok).mono ?_
  rintro e w1 ⟨rfl, hs⟩
  replace hb := below_on hb hs
  replace B0 := B0.keep hs
  have x0 := B0.2 0 _ rfl
  have x1 := B0.2 1 _ rfl
  have x2 := B0.2 2 _ rfl
  cases g1 : isStep x
  · have HF := Lib.hid (stepTime_no (n := n) (by rw [g1]; rfl))
    go_wp2_with fail
    go_ret2
    exact pairT_mk HF.out hb
  cases g2 : inB n 1 100000
  · have HF := Lib.hid (stepTime_no (x := x) (by rw [g1, g2]; rfl))
    go_wp2_with (go_at_call 73; refine (l1In_any _ _ _ _).mono ?_; rintro e w' ⟨rfl, rfl⟩)
    go_ret2
    exact pairT_mk HF.out hb
  have HF := Lib.hid (stepTime_yes g1 g2)
  obtain ⟨_, h1, h2⟩ := isStep_parts g1
  have h3 := inB_iff.1 g2
  have hp0 : 0 ≤ x.2.2 * n := Int.mul_nonneg (by omega) (by omega)
  have hp1 : x.2.2 * n ≤ 1000 * 100000 := Int.mul_le_mul (by omega) (by omega) (by omega) (by omega)
  have hw1 : IntKind.i64.wrap (x.2.2 * n) = x.2.2 * n := by apply IntWalk.i64_in <;> omega
  have hw2 : IntKind.i64.wrap (x.2.1 + x.2.2 * n) = x.2.1 + x.2.2 * n := by apply IntWalk.i64_in <;> omega
  go_wp2_with (go_at_call 73; refine (l1In_any _ _ _ _).mono ?_; rintro e w' ⟨rfl, rfl⟩)
  go_ret2
  exact pairT_mk HF.out hb
set_option maxRecDepth 100000 in
set_option maxHeartbeats 4000000 in
theorem specAreRoutings_any (A : Option Addr) (n c : Nat) (l : List Rt) (w : World) (hl : RoutingsIn w A n l) (hok : ∀ x ∈ l, okRt x) :
    Calls Try.prog 91 #[.slice A n c] w fun e w' => e = .returned (.bool (areRoutings l)) ∧ Below w.heap.size w w' := by
  have hn := hl.len
  obtain rfl := hl.num
  have HO := Lib.hid hok
  clear hok
  go_enter Try.func91, Try.ntmps91
  go_wp2_with fail
  go_loopw [3] (fun i wr => ∃ k : Nat, k ≤ l.length ∧ i = .int .i64 k ∧ Hid (∀ j < k, okRt1 l j = true) ∧ Below w.heap.size w wr) (fun i _ => l.length - (intOf i).toNat)
  case atStart => exact ⟨0, by omega, rfl, fun j h => absurd h (by omega), Below.refl _ _⟩
  case round =>
    obtain ⟨k, hk, rfl, HI, hb⟩ := hrel
    by_cases hlt : k < l.length
    case neg =>
      obtain rfl : k = l.length := by omega
      have HF := Lib.hid (areRoutings_end HI.out)
      go_wp2_with fail
      go_ret
      exact ⟨ret_bool HF.out.symm, hb⟩
    have hokk := HO.out _ (List.getElem_mem hlt)
    obtain ⟨b, o, B2, m2, c2, rfl, hbl, r0, r1, hst⟩ := rt_at (hl.keep hb) hlt
    go_wp2_with fail
    cases hi : isRouting l[k]
    · have HC := Lib.hid (okRt1_bad hlt hi)
      refine wp_region_held_drew (S := (fun w' => w'.cell? ⟨b, o + k * 2, none⟩ = some (.string l[k].1) ∧ w'.cell? ⟨b, o + k * 2 + 1, none⟩ = some (.slice B2 m2 c2) ∧ b < w'.heap.size ∧ Below wr.heap.size wr w')) (by kernel_rfl) ⟨r0, r1, hbl, (Below.refl _ _).drew⟩ (fun hHeld => ?_)
      refine held_on 0 (some 10) rfl rfl (by kernel_rfl) (by kernel_rfl) (by kernel_rfl) (fun _ _ _ h => h) (by rfl) hHeld (v := ?v1) ?y1 ?r1
      case y1 => intro w hSw; (try dsimp only at hSw); go_simp; (try with_reducible rfl)
      try simp only [Act.put, List.setIfInBounds_toArray, List.set_cons_zero, List.set_cons_succ]
      refine held_on 1 (some 11) rfl rfl (by kernel_rfl) (by kernel_rfl) (by kernel_rfl) (fun _ _ _ h => h) (by rfl) hHeld (v := ?v2) ?y2 ?r2
      case y2 => intro w hSw; (try dsimp only at hSw); go_simp; (try with_reducible rfl)
      try simp only [Act.put, List.setIfInBounds_toArray, List.set_cons_zero, List.set_cons_succ]
      refine held_on 2 (some 12) rfl rfl (by kernel_rfl) (by kernel_rfl) (by kernel_rfl) (fun _ _ _ h => h) (by rfl) hHeld (v := ?v3) ?y3 ?r3
      case y3 => intro w hSw; (try dsimp only at hSw); go_simp; (try with_reducible rfl)
      try simp only [Act.put, List.setIfInBounds_toArray, List.set_cons_zero, List.set_cons_succ]
      refine held_on 3 (some 13) rfl rfl (by kernel_rfl) (by kernel_rfl) (by kernel_rfl) (fun _ _ _ h => h) (by rfl) hHeld (v := ?v4) ?y4 ?r4
      case y4 => intro w hSw; (try dsimp only at hSw); go_simp; (try with_reducible rfl)
      try simp only [Act.put, List.setIfInBounds_toArray, List.set_cons_zero, List.set_cons_succ]
      refine wpAnyH_ready (rs := [4]) (by kernel_rfl) (by simp) ?_
      refine AllReadyH.cons rfl (fun K hK => ?_) AllReadyH.nil
      go_simp
      go_at_call 108; refine (specIsRouting_any l[k] _ _ _ _ (hst.keep (by obtain ⟨y_v0, y_v1, y_n, y_R⟩ := hHeld; exact y_R)) hokk).mono ?_; rintro e w3 ⟨rfl, hb3⟩; rw [hi]; go_simp
      refine hK.out _ _ ?_ (fun hHeld => ?_)
      · obtain ⟨y_v0, y_v1, y_n, y_R⟩ := hHeld; exact ⟨(hb3.cell y_n).trans y_v0, (hb3.cell y_n).trans y_v1, Nat.lt_of_lt_of_le y_n hb3.size, below_on y_R hb3⟩
      clear hK K
      try simp only [Act.put, List.setIfInBounds_toArray, List.set_cons_zero, List.set_cons_succ]
      refine held_on 5 (some 15) rfl rfl (by kernel_rfl) (by kernel_rfl) (by kernel_rfl) (fun _ _ _ h => h) (by rfl) hHeld (v := ?v5) ?y5 ?r5
      case y5 => intro w hSw; (try dsimp only at hSw); go_simp; (try with_reducible rfl)
      try simp only [Act.put, List.setIfInBounds_toArray, List.set_cons_zero, List.set_cons_succ]
      refine held_on 6 (some 16) rfl rfl (by kernel_rfl) (by kernel_rfl) (by kernel_rfl) (fun _ _ _ h => h) (by rfl) hHeld (v := ?v6) ?y6 ?r6
      case y6 => intro w hSw; (try dsimp only at hSw); go_simp; (try with_reducible rfl)
      try simp only [Act.put, List.setIfInBounds_toArray, List.set_cons_zero, List.set_cons_succ]
      refine held_off 7 (some 17) rfl rfl (by kernel_rfl) (by kernel_rfl) (by kernel_rfl) (fun _ _ _ h => h) (by rfl) hHeld ?_
      try simp only [Act.put, List.setIfInBounds_toArray, List.set_cons_zero, List.set_cons_succ]
      refine held_off 8 (some 18) rfl rfl (by kernel_rfl) (by kernel_rfl) (by kernel_rfl) (fun _ _ _ h => h) (by rfl) hHeld ?_
      try simp only [Act.put, List.setIfInBounds_toArray, List.set_cons_zero, List.set_cons_succ]
      refine held_off 9 (some 19) rfl rfl (by kernel_rfl) (by kernel_rfl) (by kernel_rfl) (fun _ _ _ h => h) (by rfl) hHeld ?_
      try simp only [Act.put, List.setIfInBounds_toArray, List.set_cons_zero, List.set_cons_succ]
      refine held_off 10 (some 20) rfl rfl (by kernel_rfl) (by kernel_rfl) (by kernel_rfl) (fun _ _ _ h => h) (by rfl) hHeld ?_
      try simp only [Act.put, List.setIfInBounds_toArray, List.set_cons_zero, List.set_cons_succ]
      refine held_off 11 (some 21) rfl rfl (by kernel_rfl) (by kernel_rfl) (by kernel_rfl) (fun _ _ _ h => h) (by rfl) hHeld ?_
      try simp only [Act.put, List.setIfInBounds_toArray, List.set_cons_zero, List.set_cons_succ]
      refine held_off 12 (some 22) rfl rfl (by kernel_rfl) (by kernel_rfl) (by kernel_rfl) (fun _ _ _ h => h) (by rfl) hHeld ?_
      try simp only [Act.put, List.setIfInBounds_toArray, List.set_cons_zero, List.set_cons_succ]
      refine held_off 13 (some 23) rfl rfl (by kernel_rfl) (by kernel_rfl) (by kernel_rfl) (fun _ _ _ h => h) (by rfl) hHeld ?_
      try simp only [Act.put, List.setIfInBounds_toArray, List.set_cons_zero, List.set_cons_succ]
      refine held_off 14 (some 24) rfl rfl (by kernel_rfl) (by kernel_rfl) (by kernel_rfl) (fun _ _ _ h => h) (by rfl) hHeld ?_
      try simp only [Act.put, List.setIfInBounds_toArray, List.set_cons_zero, List.set_cons_succ]
      refine held_off 15 (some 25) rfl rfl (by kernel_rfl) (by kernel_rfl) (by kernel_rfl) (fun _ _ _ h => h) (by rfl) hHeld ?_
      try simp only [Act.put, List.setIfInBounds_toArray, List.set_cons_zero, List.set_cons_succ]
      refine held_off 16 (some 26) rfl rfl (by kernel_rfl) (by kernel_rfl) (by kernel_rfl) (fun _ _ _ h => h) (by rfl) hHeld ?_
      try simp only [Act.put, List.setIfInBounds_toArray, List.set_cons_zero, List.set_cons_succ]
      refine held_off 17 (some 27) rfl rfl (by kernel_rfl) (by kernel_rfl) (by kernel_rfl) (fun _ _ _ h => h) (by rfl) hHeld ?_
      try simp only [Act.put, List.setIfInBounds_toArray, List.set_cons_zero, List.set_cons_succ]
      refine held_off 18 (some 28) rfl rfl (by kernel_rfl) (by kernel_rfl) (by kernel_rfl) (fun _ _ _ h => h) (by rfl) hHeld ?_
      try simp only [Act.put, List.setIfInBounds_toArray, List.set_cons_zero, List.set_cons_succ]
      refine held_off 19 (some 29) rfl rfl (by kernel_rfl) (by kernel_rfl) (by kernel_rfl) (fun _ _ _ h => h) (by rfl) hHeld ?_
      try simp only [Act.put, List.setIfInBounds_toArray, List.set_cons_zero, List.set_cons_succ]
      refine held_off 20 (some 30) rfl rfl (by kernel_rfl) (by kernel_rfl) (by kernel_rfl) (fun _ _ _ h => h) (by rfl) hHeld ?_
      try simp only [Act.put, List.setIfInBounds_toArray, List.set_cons_zero, List.set_cons_succ]
      refine held_off 21 (some 31) rfl rfl (by kernel_rfl) (by kernel_rfl) (by kernel_rfl) (fun _ _ _ h => h) (by rfl) hHeld ?_
      try simp only [Act.put, List.setIfInBounds_toArray, List.set_cons_zero, List.set_cons_succ]
      refine held_off 22 (some 32) rfl rfl (by kernel_rfl) (by kernel_rfl) (by kernel_rfl) (fun _ _ _ h => h) (by rfl) hHeld ?_
      try simp only [Act.put, List.setIfInBounds_toArray, List.set_cons_zero, List.set_cons_succ]
      refine held_on 23 (some 33) rfl rfl (by kernel_rfl) (by kernel_rfl) (by kernel_rfl) (fun _ _ _ h => h) (by rfl) hHeld (v := ?v7) ?y7 ?r7
      case y7 => intro w hSw; (try dsimp only at hSw); go_simp; (try with_reducible rfl)
      try simp only [Act.put, List.setIfInBounds_toArray, List.set_cons_zero, List.set_cons_succ]
      refine wpAnyH_done (by kernel_rfl) ?_ _
      obtain ⟨y_v0, y_v1, y_n, y_R⟩ := hHeld
      replace hb := below_on hb y_R
      clear y_v0 y_v1 y_n y_R
      go_wp2_with fail
      go_ret
      exact ⟨ret_bool (areRoutings_no hlt HC.out).symm, hb⟩
    by_cases h0 : k = 0
    · have hy1 : decide (0 < k) = false := by simp; omega
      have hy2 : decide ((0 : Int) < (k : Int)) = false := by simp; omega
      have HC := Lib.hid (okRt1_first hlt hi h0)
      clear h0
      refine wp_region_held_drew (S := (fun w' => w'.cell? ⟨b, o + k * 2, none⟩ = some (.string l[k].1) ∧ w'.cell? ⟨b, o + k * 2 + 1, none⟩ = some (.slice B2 m2 c2) ∧ b < w'.heap.size ∧ Below wr.heap.size wr w')) (by kernel_rfl) ⟨r0, r1, hbl, (Below.refl _ _).drew⟩ (fun hHeld => ?_)
      refine held_on 0 (some 10) rfl rfl (by kernel_rfl) (by kernel_rfl) (by kernel_rfl) (fun _ _ _ h => h) (by rfl) hHeld (v := ?v8) ?y8 ?r8
      case y8 => intro w hSw; (try dsimp only at hSw); go_simp; (try with_reducible rfl)
      try simp only [Act.put, List.setIfInBounds_toArray, List.set_cons_zero, List.set_cons_succ]
      refine held_on 1 (some 11) rfl rfl (by kernel_rfl) (by kernel_rfl) (by kernel_rfl) (fun _ _ _ h => h) (by rfl) hHeld (v := ?v9) ?y9 ?r9
      case y9 => intro w hSw; (try dsimp only at hSw); go_simp; (try with_reducible rfl)
      try simp only [Act.put, List.setIfInBounds_toArray, List.set_cons_zero, List.set_cons_succ]
      refine held_on 2 (some 12) rfl rfl (by kernel_rfl) (by kernel_rfl) (by kernel_rfl) (fun _ _ _ h => h) (by rfl) hHeld (v := ?v10) ?y10 ?r10
      case y10 => intro w hSw; (try dsimp only at hSw); go_simp; (try with_reducible rfl)
      try simp only [Act.put, List.setIfInBounds_toArray, List.set_cons_zero, List.set_cons_succ]
      refine held_on 3 (some 13) rfl rfl (by kernel_rfl) (by kernel_rfl) (by kernel_rfl) (fun _ _ _ h => h) (by rfl) hHeld (v := ?v11) ?y11 ?r11
      case y11 => intro w hSw; (try dsimp only at hSw); go_simp; (try with_reducible rfl)
      try simp only [Act.put, List.setIfInBounds_toArray, List.set_cons_zero, List.set_cons_succ]
      refine wpAnyH_ready (rs := [4]) (by kernel_rfl) (by simp) ?_
      refine AllReadyH.cons rfl (fun K hK => ?_) AllReadyH.nil
      go_simp
      go_at_call 108; refine (specIsRouting_any l[k] _ _ _ _ (hst.keep (by obtain ⟨y_v0, y_v1, y_n, y_R⟩ := hHeld; exact y_R)) hokk).mono ?_; rintro e w3 ⟨rfl, hb3⟩; rw [hi]; go_simp
      refine hK.out _ _ ?_ (fun hHeld => ?_)
      · obtain ⟨y_v0, y_v1, y_n, y_R⟩ := hHeld; exact ⟨(hb3.cell y_n).trans y_v0, (hb3.cell y_n).trans y_v1, Nat.lt_of_lt_of_le y_n hb3.size, below_on y_R hb3⟩
      clear hK K
      try simp only [Act.put, List.setIfInBounds_toArray, List.set_cons_zero, List.set_cons_succ]
      refine held_on 5 (some 15) rfl rfl (by kernel_rfl) (by kernel_rfl) (by kernel_rfl) (fun _ _ _ h => h) (by rfl) hHeld (v := ?v12) ?y12 ?r12
      case y12 => intro w hSw; (try dsimp only at hSw); go_simp; (try with_reducible rfl)
      try simp only [Act.put, List.setIfInBounds_toArray, List.set_cons_zero, List.set_cons_succ]
      refine held_on 6 (some 16) rfl rfl (by kernel_rfl) (by kernel_rfl) (by kernel_rfl) (fun _ _ _ h => h) (by rfl) hHeld (v := ?v13) ?y13 ?r13
      case y13 => intro w hSw; (try dsimp only at hSw); go_simp; (try with_reducible rfl)
      try simp only [Act.put, List.setIfInBounds_toArray, List.set_cons_zero, List.set_cons_succ]
      refine held_on 7 (some 17) rfl rfl (by kernel_rfl) (by kernel_rfl) (by kernel_rfl) (fun _ _ _ h => h) (by rfl) hHeld (v := ?v14) ?y14 ?r14
      case y14 => intro w hSw; (try dsimp only at hSw); go_simp; (try with_reducible rfl)
      try simp only [Act.put, List.setIfInBounds_toArray, List.set_cons_zero, List.set_cons_succ]
      refine held_on 8 (some 18) rfl rfl (by kernel_rfl) (by kernel_rfl) (by kernel_rfl) (fun _ _ _ h => h) (by rfl) hHeld (v := ?v15) ?y15 ?r15
      case y15 => intro w hSw; (try dsimp only at hSw); go_simp; (try with_reducible rfl)
      try simp only [Act.put, List.setIfInBounds_toArray, List.set_cons_zero, List.set_cons_succ]
      refine held_on 9 (some 19) rfl rfl (by kernel_rfl) (by kernel_rfl) (by kernel_rfl) (fun _ _ _ h => h) (by rfl) hHeld (v := ?v16) ?y16 ?r16
      case y16 => intro w hSw; (try dsimp only at hSw); go_simp; (try with_reducible rfl)
      try simp only [Act.put, List.setIfInBounds_toArray, List.set_cons_zero, List.set_cons_succ]
      refine held_off 10 (some 20) rfl rfl (by kernel_rfl) (by kernel_rfl) (by kernel_rfl) (fun _ _ _ h => h) (by rfl) hHeld ?_
      try simp only [Act.put, List.setIfInBounds_toArray, List.set_cons_zero, List.set_cons_succ]
      refine held_off 11 (some 21) rfl rfl (by kernel_rfl) (by kernel_rfl) (by kernel_rfl) (fun _ _ _ h => h) (by rfl) hHeld ?_
      try simp only [Act.put, List.setIfInBounds_toArray, List.set_cons_zero, List.set_cons_succ]
      refine held_off 12 (some 22) rfl rfl (by kernel_rfl) (by kernel_rfl) (by kernel_rfl) (fun _ _ _ h => h) (by rfl) hHeld ?_
      try simp only [Act.put, List.setIfInBounds_toArray, List.set_cons_zero, List.set_cons_succ]
      refine held_off 13 (some 23) rfl rfl (by kernel_rfl) (by kernel_rfl) (by kernel_rfl) (fun _ _ _ h => h) (by rfl) hHeld ?_
      try simp only [Act.put, List.setIfInBounds_toArray, List.set_cons_zero, List.set_cons_succ]
      refine held_off 14 (some 24) rfl rfl (by kernel_rfl) (by kernel_rfl) (by kernel_rfl) (fun _ _ _ h => h) (by rfl) hHeld ?_
      try simp only [Act.put, List.setIfInBounds_toArray, List.set_cons_zero, List.set_cons_succ]
      refine held_off 15 (some 25) rfl rfl (by kernel_rfl) (by kernel_rfl) (by kernel_rfl) (fun _ _ _ h => h) (by rfl) hHeld ?_
      try simp only [Act.put, List.setIfInBounds_toArray, List.set_cons_zero, List.set_cons_succ]
      refine held_off 16 (some 26) rfl rfl (by kernel_rfl) (by kernel_rfl) (by kernel_rfl) (fun _ _ _ h => h) (by rfl) hHeld ?_
      try simp only [Act.put, List.setIfInBounds_toArray, List.set_cons_zero, List.set_cons_succ]
      refine held_off 17 (some 27) rfl rfl (by kernel_rfl) (by kernel_rfl) (by kernel_rfl) (fun _ _ _ h => h) (by rfl) hHeld ?_
      try simp only [Act.put, List.setIfInBounds_toArray, List.set_cons_zero, List.set_cons_succ]
      refine held_off 18 (some 28) rfl rfl (by kernel_rfl) (by kernel_rfl) (by kernel_rfl) (fun _ _ _ h => h) (by rfl) hHeld ?_
      try simp only [Act.put, List.setIfInBounds_toArray, List.set_cons_zero, List.set_cons_succ]
      refine held_off 19 (some 29) rfl rfl (by kernel_rfl) (by kernel_rfl) (by kernel_rfl) (fun _ _ _ h => h) (by rfl) hHeld ?_
      try simp only [Act.put, List.setIfInBounds_toArray, List.set_cons_zero, List.set_cons_succ]
      refine held_off 20 (some 30) rfl rfl (by kernel_rfl) (by kernel_rfl) (by kernel_rfl) (fun _ _ _ h => h) (by rfl) hHeld ?_
      try simp only [Act.put, List.setIfInBounds_toArray, List.set_cons_zero, List.set_cons_succ]
      refine held_off 21 (some 31) rfl rfl (by kernel_rfl) (by kernel_rfl) (by kernel_rfl) (fun _ _ _ h => h) (by rfl) hHeld ?_
      try simp only [Act.put, List.setIfInBounds_toArray, List.set_cons_zero, List.set_cons_succ]
      refine held_on 22 (some 32) rfl rfl (by kernel_rfl) (by kernel_rfl) (by kernel_rfl) (fun _ _ _ h => h) (by rfl) hHeld (v := ?v17) ?y17 ?r17
      case y17 => intro w hSw; (try dsimp only at hSw); go_simp; (try with_reducible rfl)
      try simp only [Act.put, List.setIfInBounds_toArray, List.set_cons_zero, List.set_cons_succ]
      refine held_on 23 (some 33) rfl rfl (by kernel_rfl) (by kernel_rfl) (by kernel_rfl) (fun _ _ _ h => h) (by rfl) hHeld (v := ?v18) ?y18 ?r18
      case y18 => intro w hSw; (try dsimp only at hSw); go_simp; (try with_reducible rfl)
      try simp only [Act.put, List.setIfInBounds_toArray, List.set_cons_zero, List.set_cons_succ]
      refine wpAnyH_done (by kernel_rfl) ?_ _
      obtain ⟨y_v0, y_v1, y_n, y_R⟩ := hHeld
      replace hb := below_on hb y_R
      clear y_v0 y_v1 y_n y_R
      go_wp2_with fail
      go_roundw
      case rel => exact ⟨k + 1, by omega, by go_num, okRt1_more HC.out HI.out, hb⟩
      case measure => simp [intOf]; omega
    have hlt2 : k - 1 < l.length := by omega
    obtain ⟨b2, o2, _, _, _, e2, hbp, p0, _, _⟩ := rt_at (hl.keep hb) hlt2
    obtain ⟨rfl, rfl⟩ : b = b2 ∧ o = o2 := by simpa using e2
    clear e2
    have hy1 : decide (0 < k) = true := by simp; omega
    have hy2 : decide ((0 : Int) < (k : Int)) = true := by simp; omega
    have hi1 : (0 : Int) ≤ (k : Int) - 1 := by omega
    have hi2 : (k : Int) - 1 < (l.length : Int) := by omega
    have hi3 : ((k : Int) - 1).toNat = k - 1 := by omega
    have hi4 : (1 : Int) ≤ (k : Int) := by omega
    have hwk : IntKind.i64.wrap ((k : Int) - 1) = (k : Int) - 1 := IntWalk.i64_in _ (by omega)
    have HC := Lib.hid (okRt1_next hlt hi h0 hlt2)
    clear h0
    cases hq : rtLt l[k - 1].1 l[k].1
    · have hq2 : Op.bytesLess l[k - 1].1.toList l[k].1.toList = false := hq
      refine wp_region_held_drew (S := (fun w' => w'.cell? ⟨b, o + (k - 1) * 2, none⟩ = some (.string l[k - 1].1) ∧ w'.cell? ⟨b, o + k * 2, none⟩ = some (.string l[k].1) ∧ w'.cell? ⟨b, o + k * 2 + 1, none⟩ = some (.slice B2 m2 c2) ∧ b < w'.heap.size ∧ Below wr.heap.size wr w')) (by kernel_rfl) ⟨p0, r0, r1, hbl, (Below.refl _ _).drew⟩ (fun hHeld => ?_)
      refine held_on 0 (some 10) rfl rfl (by kernel_rfl) (by kernel_rfl) (by kernel_rfl) (fun _ _ _ h => h) (by rfl) hHeld (v := ?v19) ?y19 ?r19
      case y19 => intro w hSw; (try dsimp only at hSw); go_simp; (try with_reducible rfl)
      try simp only [Act.put, List.setIfInBounds_toArray, List.set_cons_zero, List.set_cons_succ]
      refine held_on 1 (some 11) rfl rfl (by kernel_rfl) (by kernel_rfl) (by kernel_rfl) (fun _ _ _ h => h) (by rfl) hHeld (v := ?v20) ?y20 ?r20
      case y20 => intro w hSw; (try dsimp only at hSw); go_simp; (try with_reducible rfl)
      try simp only [Act.put, List.setIfInBounds_toArray, List.set_cons_zero, List.set_cons_succ]
      refine held_on 2 (some 12) rfl rfl (by kernel_rfl) (by kernel_rfl) (by kernel_rfl) (fun _ _ _ h => h) (by rfl) hHeld (v := ?v21) ?y21 ?r21
      case y21 => intro w hSw; (try dsimp only at hSw); go_simp; (try with_reducible rfl)
      try simp only [Act.put, List.setIfInBounds_toArray, List.set_cons_zero, List.set_cons_succ]
      refine held_on 3 (some 13) rfl rfl (by kernel_rfl) (by kernel_rfl) (by kernel_rfl) (fun _ _ _ h => h) (by rfl) hHeld (v := ?v22) ?y22 ?r22
      case y22 => intro w hSw; (try dsimp only at hSw); go_simp; (try with_reducible rfl)
      try simp only [Act.put, List.setIfInBounds_toArray, List.set_cons_zero, List.set_cons_succ]
      refine wpAnyH_ready (rs := [4]) (by kernel_rfl) (by simp) ?_
      refine AllReadyH.cons rfl (fun K hK => ?_) AllReadyH.nil
      go_simp
      go_at_call 108; refine (specIsRouting_any l[k] _ _ _ _ (hst.keep (by obtain ⟨y_pr, y_v0, y_v1, y_n, y_R⟩ := hHeld; exact y_R)) hokk).mono ?_; rintro e w3 ⟨rfl, hb3⟩; rw [hi]; go_simp
      refine hK.out _ _ ?_ (fun hHeld => ?_)
      · obtain ⟨y_pr, y_v0, y_v1, y_n, y_R⟩ := hHeld; exact ⟨(hb3.cell y_n).trans y_pr, (hb3.cell y_n).trans y_v0, (hb3.cell y_n).trans y_v1, Nat.lt_of_lt_of_le y_n hb3.size, below_on y_R hb3⟩
      clear hK K
      try simp only [Act.put, List.setIfInBounds_toArray, List.set_cons_zero, List.set_cons_succ]
      refine held_on 5 (some 15) rfl rfl (by kernel_rfl) (by kernel_rfl) (by kernel_rfl) (fun _ _ _ h => h) (by rfl) hHeld (v := ?v23) ?y23 ?r23
      case y23 => intro w hSw; (try dsimp only at hSw); go_simp; (try with_reducible rfl)
      try simp only [Act.put, List.setIfInBounds_toArray, List.set_cons_zero, List.set_cons_succ]
      refine held_on 6 (some 16) rfl rfl (by kernel_rfl) (by kernel_rfl) (by kernel_rfl) (fun _ _ _ h => h) (by rfl) hHeld (v := ?v24) ?y24 ?r24
      case y24 => intro w hSw; (try dsimp only at hSw); go_simp; (try with_reducible rfl)
      try simp only [Act.put, List.setIfInBounds_toArray, List.set_cons_zero, List.set_cons_succ]
      refine held_on 7 (some 17) rfl rfl (by kernel_rfl) (by kernel_rfl) (by kernel_rfl) (fun _ _ _ h => h) (by rfl) hHeld (v := ?v25) ?y25 ?r25
      case y25 => intro w hSw; (try dsimp only at hSw); go_simp; (try with_reducible rfl)
      try simp only [Act.put, List.setIfInBounds_toArray, List.set_cons_zero, List.set_cons_succ]
      refine held_on 8 (some 18) rfl rfl (by kernel_rfl) (by kernel_rfl) (by kernel_rfl) (fun _ _ _ h => h) (by rfl) hHeld (v := ?v26) ?y26 ?r26
      case y26 => intro w hSw; (try dsimp only at hSw); go_simp; (try with_reducible rfl)
      try simp only [Act.put, List.setIfInBounds_toArray, List.set_cons_zero, List.set_cons_succ]
      refine held_on 9 (some 19) rfl rfl (by kernel_rfl) (by kernel_rfl) (by kernel_rfl) (fun _ _ _ h => h) (by rfl) hHeld (v := ?v27) ?y27 ?r27
      case y27 => intro w hSw; (try dsimp only at hSw); go_simp; (try with_reducible rfl)
      try simp only [Act.put, List.setIfInBounds_toArray, List.set_cons_zero, List.set_cons_succ]
      refine held_on 10 (some 20) rfl rfl (by kernel_rfl) (by kernel_rfl) (by kernel_rfl) (fun _ _ _ h => h) (by rfl) hHeld (v := ?v28) ?y28 ?r28
      case y28 => intro w hSw; (try dsimp only at hSw); go_simp; (try with_reducible rfl)
      try simp only [Act.put, List.setIfInBounds_toArray, List.set_cons_zero, List.set_cons_succ]
      refine held_on 11 (some 21) rfl rfl (by kernel_rfl) (by kernel_rfl) (by kernel_rfl) (fun _ _ _ h => h) (by rfl) hHeld (v := ?v29) ?y29 ?r29
      case y29 => intro w hSw; (try dsimp only at hSw); go_simp; (try with_reducible rfl)
      try simp only [Act.put, List.setIfInBounds_toArray, List.set_cons_zero, List.set_cons_succ]
      refine held_on 12 (some 22) rfl rfl (by kernel_rfl) (by kernel_rfl) (by kernel_rfl) (fun _ _ _ h => h) (by rfl) hHeld (v := ?v30) ?y30 ?r30
      case y30 => intro w hSw; (try dsimp only at hSw); go_simp; (try with_reducible rfl)
      try simp only [Act.put, List.setIfInBounds_toArray, List.set_cons_zero, List.set_cons_succ]
      refine held_on 13 (some 23) rfl rfl (by kernel_rfl) (by kernel_rfl) (by kernel_rfl) (fun _ _ _ h => h) (by rfl) hHeld (v := ?v31) ?y31 ?r31
      case y31 => intro w hSw; (try dsimp only at hSw); go_simp; (try with_reducible rfl)
      try simp only [Act.put, List.setIfInBounds_toArray, List.set_cons_zero, List.set_cons_succ]
      refine held_on 14 (some 24) rfl rfl (by kernel_rfl) (by kernel_rfl) (by kernel_rfl) (fun _ _ _ h => h) (by rfl) hHeld (v := ?v32) ?y32 ?r32
      case y32 => intro w hSw; (try dsimp only at hSw); go_simp; (try with_reducible rfl)
      try simp only [Act.put, List.setIfInBounds_toArray, List.set_cons_zero, List.set_cons_succ]
      refine held_on 15 (some 25) rfl rfl (by kernel_rfl) (by kernel_rfl) (by kernel_rfl) (fun _ _ _ h => h) (by rfl) hHeld (v := ?v33) ?y33 ?r33
      case y33 => intro w hSw; (try dsimp only at hSw); go_simp; (try with_reducible rfl)
      try simp only [Act.put, List.setIfInBounds_toArray, List.set_cons_zero, List.set_cons_succ]
      refine held_on 16 (some 26) rfl rfl (by kernel_rfl) (by kernel_rfl) (by kernel_rfl) (fun _ _ _ h => h) (by rfl) hHeld (v := ?v34) ?y34 ?r34
      case y34 => intro w hSw; (try dsimp only at hSw); go_simp; (try with_reducible rfl)
      try simp only [Act.put, List.setIfInBounds_toArray, List.set_cons_zero, List.set_cons_succ]
      refine held_on 17 (some 27) rfl rfl (by kernel_rfl) (by kernel_rfl) (by kernel_rfl) (fun _ _ _ h => h) (by rfl) hHeld (v := ?v35) ?y35 ?r35
      case y35 => intro w hSw; (try dsimp only at hSw); go_simp; (try with_reducible rfl)
      try simp only [Act.put, List.setIfInBounds_toArray, List.set_cons_zero, List.set_cons_succ]
      refine held_on 18 (some 28) rfl rfl (by kernel_rfl) (by kernel_rfl) (by kernel_rfl) (fun _ _ _ h => h) (by rfl) hHeld (v := ?v36) ?y36 ?r36
      case y36 => intro w hSw; (try dsimp only at hSw); go_simp; (try with_reducible rfl)
      try simp only [Act.put, List.setIfInBounds_toArray, List.set_cons_zero, List.set_cons_succ]
      refine held_on 19 (some 29) rfl rfl (by kernel_rfl) (by kernel_rfl) (by kernel_rfl) (fun _ _ _ h => h) (by rfl) hHeld (v := ?v37) ?y37 ?r37
      case y37 => intro w hSw; (try dsimp only at hSw); go_simp; (try with_reducible rfl)
      try simp only [Act.put, List.setIfInBounds_toArray, List.set_cons_zero, List.set_cons_succ]
      refine held_on 20 (some 30) rfl rfl (by kernel_rfl) (by kernel_rfl) (by kernel_rfl) (fun _ _ _ h => h) (by rfl) hHeld (v := ?v38) ?y38 ?r38
      case y38 => intro w hSw; (try dsimp only at hSw); go_simp; (try with_reducible rfl)
      try simp only [Act.put, List.setIfInBounds_toArray, List.set_cons_zero, List.set_cons_succ]
      refine held_on 21 (some 31) rfl rfl (by kernel_rfl) (by kernel_rfl) (by kernel_rfl) (fun _ _ _ h => h) (by rfl) hHeld (v := ?v39) ?y39 ?r39
      case y39 => intro w hSw; (try dsimp only at hSw); go_simp; (try with_reducible rfl)
      try simp only [Act.put, List.setIfInBounds_toArray, List.set_cons_zero, List.set_cons_succ]
      refine held_on 22 (some 32) rfl rfl (by kernel_rfl) (by kernel_rfl) (by kernel_rfl) (fun _ _ _ h => h) (by rfl) hHeld (v := ?v40) ?y40 ?r40
      case y40 => intro w hSw; (try dsimp only at hSw); go_simp; (try with_reducible rfl)
      try simp only [Act.put, List.setIfInBounds_toArray, List.set_cons_zero, List.set_cons_succ]
      refine held_on 23 (some 33) rfl rfl (by kernel_rfl) (by kernel_rfl) (by kernel_rfl) (fun _ _ _ h => h) (by rfl) hHeld (v := ?v41) ?y41 ?r41
      case y41 => intro w hSw; (try dsimp only at hSw); go_simp; (try with_reducible rfl)
      try simp only [Act.put, List.setIfInBounds_toArray, List.set_cons_zero, List.set_cons_succ]
      refine wpAnyH_done (by kernel_rfl) ?_ _
      obtain ⟨y_pr, y_v0, y_v1, y_n, y_R⟩ := hHeld
      replace hb := below_on hb y_R
      clear y_pr y_v0 y_v1 y_n y_R
      go_wp2_with fail
      go_ret
      exact ⟨ret_bool (areRoutings_no hlt (HC.out.trans hq)).symm, hb⟩
    · have hq2 : Op.bytesLess l[k - 1].1.toList l[k].1.toList = true := hq
      refine wp_region_held_drew (S := (fun w' => w'.cell? ⟨b, o + (k - 1) * 2, none⟩ = some (.string l[k - 1].1) ∧ w'.cell? ⟨b, o + k * 2, none⟩ = some (.string l[k].1) ∧ w'.cell? ⟨b, o + k * 2 + 1, none⟩ = some (.slice B2 m2 c2) ∧ b < w'.heap.size ∧ Below wr.heap.size wr w')) (by kernel_rfl) ⟨p0, r0, r1, hbl, (Below.refl _ _).drew⟩ (fun hHeld => ?_)
      refine held_on 0 (some 10) rfl rfl (by kernel_rfl) (by kernel_rfl) (by kernel_rfl) (fun _ _ _ h => h) (by rfl) hHeld (v := ?v42) ?y42 ?r42
      case y42 => intro w hSw; (try dsimp only at hSw); go_simp; (try with_reducible rfl)
      try simp only [Act.put, List.setIfInBounds_toArray, List.set_cons_zero, List.set_cons_succ]
      refine held_on 1 (some 11) rfl rfl (by kernel_rfl) (by kernel_rfl) (by kernel_rfl) (fun _ _ _ h => h) (by rfl) hHeld (v := ?v43) ?y43 ?r43
      case y43 => intro w hSw; (try dsimp only at hSw); go_simp; (try with_reducible rfl)
      try simp only [Act.put, List.setIfInBounds_toArray, List.set_cons_zero, List.set_cons_succ]
      refine held_on 2 (some 12) rfl rfl (by kernel_rfl) (by kernel_rfl) (by kernel_rfl) (fun _ _ _ h => h) (by rfl) hHeld (v := ?v44) ?y44 ?r44
      case y44 => intro w hSw; (try dsimp only at hSw); go_simp; (try with_reducible rfl)
      try simp only [Act.put, List.setIfInBounds_toArray, List.set_cons_zero, List.set_cons_succ]
      refine held_on 3 (some 13) rfl rfl (by kernel_rfl) (by kernel_rfl) (by kernel_rfl) (fun _ _ _ h => h) (by rfl) hHeld (v := ?v45) ?y45 ?r45
      case y45 => intro w hSw; (try dsimp only at hSw); go_simp; (try with_reducible rfl)
      try simp only [Act.put, List.setIfInBounds_toArray, List.set_cons_zero, List.set_cons_succ]
      refine wpAnyH_ready (rs := [4]) (by kernel_rfl) (by simp) ?_
      refine AllReadyH.cons rfl (fun K hK => ?_) AllReadyH.nil
      go_simp
      go_at_call 108; refine (specIsRouting_any l[k] _ _ _ _ (hst.keep (by obtain ⟨y_pr, y_v0, y_v1, y_n, y_R⟩ := hHeld; exact y_R)) hokk).mono ?_; rintro e w3 ⟨rfl, hb3⟩; rw [hi]; go_simp
      refine hK.out _ _ ?_ (fun hHeld => ?_)
      · obtain ⟨y_pr, y_v0, y_v1, y_n, y_R⟩ := hHeld; exact ⟨(hb3.cell y_n).trans y_pr, (hb3.cell y_n).trans y_v0, (hb3.cell y_n).trans y_v1, Nat.lt_of_lt_of_le y_n hb3.size, below_on y_R hb3⟩
      clear hK K
      try simp only [Act.put, List.setIfInBounds_toArray, List.set_cons_zero, List.set_cons_succ]
      refine held_on 5 (some 15) rfl rfl (by kernel_rfl) (by kernel_rfl) (by kernel_rfl) (fun _ _ _ h => h) (by rfl) hHeld (v := ?v46) ?y46 ?r46
      case y46 => intro w hSw; (try dsimp only at hSw); go_simp; (try with_reducible rfl)
      try simp only [Act.put, List.setIfInBounds_toArray, List.set_cons_zero, List.set_cons_succ]
      refine held_on 6 (some 16) rfl rfl (by kernel_rfl) (by kernel_rfl) (by kernel_rfl) (fun _ _ _ h => h) (by rfl) hHeld (v := ?v47) ?y47 ?r47
      case y47 => intro w hSw; (try dsimp only at hSw); go_simp; (try with_reducible rfl)
      try simp only [Act.put, List.setIfInBounds_toArray, List.set_cons_zero, List.set_cons_succ]
      refine held_on 7 (some 17) rfl rfl (by kernel_rfl) (by kernel_rfl) (by kernel_rfl) (fun _ _ _ h => h) (by rfl) hHeld (v := ?v48) ?y48 ?r48
      case y48 => intro w hSw; (try dsimp only at hSw); go_simp; (try with_reducible rfl)
      try simp only [Act.put, List.setIfInBounds_toArray, List.set_cons_zero, List.set_cons_succ]
      refine held_on 8 (some 18) rfl rfl (by kernel_rfl) (by kernel_rfl) (by kernel_rfl) (fun _ _ _ h => h) (by rfl) hHeld (v := ?v49) ?y49 ?r49
      case y49 => intro w hSw; (try dsimp only at hSw); go_simp; (try with_reducible rfl)
      try simp only [Act.put, List.setIfInBounds_toArray, List.set_cons_zero, List.set_cons_succ]
      refine held_on 9 (some 19) rfl rfl (by kernel_rfl) (by kernel_rfl) (by kernel_rfl) (fun _ _ _ h => h) (by rfl) hHeld (v := ?v50) ?y50 ?r50
      case y50 => intro w hSw; (try dsimp only at hSw); go_simp; (try with_reducible rfl)
      try simp only [Act.put, List.setIfInBounds_toArray, List.set_cons_zero, List.set_cons_succ]
      refine held_on 10 (some 20) rfl rfl (by kernel_rfl) (by kernel_rfl) (by kernel_rfl) (fun _ _ _ h => h) (by rfl) hHeld (v := ?v51) ?y51 ?r51
      case y51 => intro w hSw; (try dsimp only at hSw); go_simp; (try with_reducible rfl)
      try simp only [Act.put, List.setIfInBounds_toArray, List.set_cons_zero, List.set_cons_succ]
      refine held_on 11 (some 21) rfl rfl (by kernel_rfl) (by kernel_rfl) (by kernel_rfl) (fun _ _ _ h => h) (by rfl) hHeld (v := ?v52) ?y52 ?r52
      case y52 => intro w hSw; (try dsimp only at hSw); go_simp; (try with_reducible rfl)
      try simp only [Act.put, List.setIfInBounds_toArray, List.set_cons_zero, List.set_cons_succ]
      refine held_on 12 (some 22) rfl rfl (by kernel_rfl) (by kernel_rfl) (by kernel_rfl) (fun _ _ _ h => h) (by rfl) hHeld (v := ?v53) ?y53 ?r53
      case y53 => intro w hSw; (try dsimp only at hSw); go_simp; (try with_reducible rfl)
      try simp only [Act.put, List.setIfInBounds_toArray, List.set_cons_zero, List.set_cons_succ]
      refine held_on 13 (some 23) rfl rfl (by kernel_rfl) (by kernel_rfl) (by kernel_rfl) (fun _ _ _ h => h) (by rfl) hHeld (v := ?v54) ?y54 ?r54
      case y54 => intro w hSw; (try dsimp only at hSw); go_simp; (try with_reducible rfl)
      try simp only [Act.put, List.setIfInBounds_toArray, List.set_cons_zero, List.set_cons_succ]
      refine held_on 14 (some 24) rfl rfl (by kernel_rfl) (by kernel_rfl) (by kernel_rfl) (fun _ _ _ h => h) (by rfl) hHeld (v := ?v55) ?y55 ?r55
      case y55 => intro w hSw; (try dsimp only at hSw); go_simp; (try with_reducible rfl)
      try simp only [Act.put, List.setIfInBounds_toArray, List.set_cons_zero, List.set_cons_succ]
      refine held_on 15 (some 25) rfl rfl (by kernel_rfl) (by kernel_rfl) (by kernel_rfl) (fun _ _ _ h => h) (by rfl) hHeld (v := ?v56) ?y56 ?r56
      case y56 => intro w hSw; (try dsimp only at hSw); go_simp; (try with_reducible rfl)
      try simp only [Act.put, List.setIfInBounds_toArray, List.set_cons_zero, List.set_cons_succ]
      refine held_on 16 (some 26) rfl rfl (by kernel_rfl) (by kernel_rfl) (by kernel_rfl) (fun _ _ _ h => h) (by rfl) hHeld (v := ?v57) ?y57 ?r57
      case y57 => intro w hSw; (try dsimp only at hSw); go_simp; (try with_reducible rfl)
      try simp only [Act.put, List.setIfInBounds_toArray, List.set_cons_zero, List.set_cons_succ]
      refine held_on 17 (some 27) rfl rfl (by kernel_rfl) (by kernel_rfl) (by kernel_rfl) (fun _ _ _ h => h) (by rfl) hHeld (v := ?v58) ?y58 ?r58
      case y58 => intro w hSw; (try dsimp only at hSw); go_simp; (try with_reducible rfl)
      try simp only [Act.put, List.setIfInBounds_toArray, List.set_cons_zero, List.set_cons_succ]
      refine held_on 18 (some 28) rfl rfl (by kernel_rfl) (by kernel_rfl) (by kernel_rfl) (fun _ _ _ h => h) (by rfl) hHeld (v := ?v59) ?y59 ?r59
      case y59 => intro w hSw; (try dsimp only at hSw); go_simp; (try with_reducible rfl)
      try simp only [Act.put, List.setIfInBounds_toArray, List.set_cons_zero, List.set_cons_succ]
      refine held_on 19 (some 29) rfl rfl (by kernel_rfl) (by kernel_rfl) (by kernel_rfl) (fun _ _ _ h => h) (by rfl) hHeld (v := ?v60) ?y60 ?r60
      case y60 => intro w hSw; (try dsimp only at hSw); go_simp; (try with_reducible rfl)
      try simp only [Act.put, List.setIfInBounds_toArray, List.set_cons_zero, List.set_cons_succ]
      refine held_on 20 (some 30) rfl rfl (by kernel_rfl) (by kernel_rfl) (by kernel_rfl) (fun _ _ _ h => h) (by rfl) hHeld (v := ?v61) ?y61 ?r61
      case y61 => intro w hSw; (try dsimp only at hSw); go_simp; (try with_reducible rfl)
      try simp only [Act.put, List.setIfInBounds_toArray, List.set_cons_zero, List.set_cons_succ]
      refine held_on 21 (some 31) rfl rfl (by kernel_rfl) (by kernel_rfl) (by kernel_rfl) (fun _ _ _ h => h) (by rfl) hHeld (v := ?v62) ?y62 ?r62
      case y62 => intro w hSw; (try dsimp only at hSw); go_simp; (try with_reducible rfl)
      try simp only [Act.put, List.setIfInBounds_toArray, List.set_cons_zero, List.set_cons_succ]
      refine held_on 22 (some 32) rfl rfl (by kernel_rfl) (by kernel_rfl) (by kernel_rfl) (fun _ _ _ h => h) (by rfl) hHeld (v := ?v63) ?y63 ?r63
      case y63 => intro w hSw; (try dsimp only at hSw); go_simp; (try with_reducible rfl)
      try simp only [Act.put, List.setIfInBounds_toArray, List.set_cons_zero, List.set_cons_succ]
      refine held_on 23 (some 33) rfl rfl (by kernel_rfl) (by kernel_rfl) (by kernel_rfl) (fun _ _ _ h => h) (by rfl) hHeld (v := ?v64) ?y64 ?r64
      case y64 => intro w hSw; (try dsimp only at hSw); go_simp; (try with_reducible rfl)
      try simp only [Act.put, List.setIfInBounds_toArray, List.set_cons_zero, List.set_cons_succ]
      refine wpAnyH_done (by kernel_rfl) ?_ _
      obtain ⟨y_pr, y_v0, y_v1, y_n, y_R⟩ := hHeld
      replace hb := below_on hb y_R
      clear y_pr y_v0 y_v1 y_n y_R
      go_wp2_with fail
      go_roundw
      case rel => exact ⟨k + 1, by omega, by go_num, okRt1_more (HC.out.trans hq) HI.out, hb⟩
      case measure => simp [intOf]; omega
set_option maxRecDepth 100000 in
set_option maxHeartbeats 1000000 in
theorem implIsStep_any (x : Sp) (w : World) (hok : x.1.size ≤ 9223372036854775807) : Calls Try.prog 144 #[.agg #[.string x.1, .int .i64 x.2.1, .int .i64 x.2.2]] w fun e w' => e = .returned (.bool (isStep x)) ∧ Below w.heap.size w w' := by
  have hb := below_alloc w (.cells #[.string x.1, .int .i64 x.2.1, .int .i64 x.2.2] 136)
  cases g1 : isCode x.1
  · have HF : Hid (isStep x = false) := by show _ = _; unfold isStep; rw [g1]; rfl
    go_enter Try.func144, Try.ntmps144
    go_wp2_with (first | (go_at_call 59; refine (in_any _ _ _ _).mono ?_; rintro e w' ⟨rfl, rfl⟩) | (go_at_call 114; refine (implIsCode_any _ _ (by assumption)).mono ?_; rintro e w' ⟨rfl, rfl⟩))
    go_ret
    exact ⟨ret_bool HF.out.symm, hb⟩
  cases g2 : inB x.2.1 0 1000
  · have HF : Hid (isStep x = false) := by show _ = _; unfold isStep; rw [g1, g2]; rfl
    go_enter Try.func144, Try.ntmps144
    go_wp2_with (first | (go_at_call 59; refine (in_any _ _ _ _).mono ?_; rintro e w' ⟨rfl, rfl⟩) | (go_at_call 114; refine (implIsCode_any _ _ (by assumption)).mono ?_; rintro e w' ⟨rfl, rfl⟩))
    go_ret
    exact ⟨ret_bool HF.out.symm, hb⟩
  cases g3 : inB x.2.2 0 1000
  · have HF : Hid (isStep x = false) := by show _ = _; unfold isStep; rw [g1, g2, g3]; rfl
    go_enter Try.func144, Try.ntmps144
    go_wp2_with (first | (go_at_call 59; refine (in_any _ _ _ _).mono ?_; rintro e w' ⟨rfl, rfl⟩) | (go_at_call 114; refine (implIsCode_any _ _ (by assumption)).mono ?_; rintro e w' ⟨rfl, rfl⟩))
    go_ret
    exact ⟨ret_bool HF.out.symm, hb⟩
  have HF : Hid (isStep x = true) := by show _ = _; unfold isStep; rw [g1, g2, g3]; rfl
  go_enter Try.func144, Try.ntmps144
  go_wp2_with (first | (go_at_call 59; refine (in_any _ _ _ _).mono ?_; rintro e w' ⟨rfl, rfl⟩) | (go_at_call 114; refine (implIsCode_any _ _ (by assumption)).mono ?_; rintro e w' ⟨rfl, rfl⟩))
  go_ret
  exact ⟨ret_bool HF.out.symm, hb⟩
set_option maxRecDepth 100000 in
set_option maxHeartbeats 2000000 in
theorem implIsRouting_any (x : Rt) (B : Option Addr) (m c : Nat) (w : World) (hl : StepsIn w B m x.2) (hok : okRt x) : Calls Try.prog 143 #[.agg #[.string x.1, .slice B m c]] w fun e w' => e = .returned (.bool (isRouting x)) ∧ Below w.heap.size w w' := by
  have hn := hl.len
  obtain rfl := hl.1
  have HO := Lib.hid hok.2
  have hcs := hok.1
  clear hok
  have hb := below_alloc w (.cells #[.string x.1, .slice B x.2.length c] 89)
  have B0 : BoxOf (w.alloc (.cells #[.string x.1, .slice B x.2.length c] 89)) w.heap.size [.string x.1, .slice B x.2.length c] := boxOf_alloc w #[.string x.1, .slice B x.2.length c] 89
  go_enter Try.func143, Try.ntmps143
  go_wp2_with fail
  generalize (w.alloc (.cells #[.string x.1, .slice B x.2.length c] 89)) = V at *
  skip
  go_loopw [8] (fun i wr => ∃ k : Nat, k ≤ x.2.length ∧ i = .int .i64 k ∧ Hid ((x.2.take k).all isStep = true) ∧ BoxOf wr w.heap.size [.string x.1, .slice B x.2.length c] ∧ Below w.heap.size w wr) (fun i _ => x.2.length - (intOf i).toNat)
  case atStart => exact ⟨0, by omega, rfl, rfl, B0, hb⟩
  case round =>
    clear B0 hb
    obtain ⟨k, hk, rfl, HI, B0, hb⟩ := hrel
    obtain ⟨b0, b1, bl⟩ := B0.two
    by_cases hlt : k < x.2.length
    case neg =>
      obtain rfl : k = x.2.length := by omega
      have HA : Hid (x.2.all isStep = true) := by show _ = _; rw [← HI.out, List.take_length]
      cases g1 : isCode x.1
      · have HF : Hid (isRouting x = false) := by show _ = _; unfold isRouting; rw [HA.out, g1]; rfl
        go_wp2_with (first | (go_at_call 59; refine (in_any _ _ _ _).mono ?_; rintro e w' ⟨rfl, rfl⟩) | (go_at_call 114; refine (implIsCode_any _ _ (by assumption)).mono ?_; rintro e w' ⟨rfl, rfl⟩))
        go_ret
        exact ⟨ret_bool HF.out.symm, hb⟩
      have HF : Hid (isRouting x = inB (x.2.length : Int) 1 6) := by show _ = _; unfold isRouting; rw [HA.out, g1]; rfl
      cases g2 : inB (x.2.length : Int) 1 6
      all_goals
        go_wp2_with (first | (go_at_call 59; refine (in_any _ _ _ _).mono ?_; rintro e w' ⟨rfl, rfl⟩) | (go_at_call 114; refine (implIsCode_any _ _ (by assumption)).mono ?_; rintro e w' ⟨rfl, rfl⟩))
        go_ret
        exact ⟨ret_bool (HF.out.trans g2).symm, hb⟩
    obtain ⟨bs, os, rfl, hbs, s0, s1, s2⟩ := step_at (hl.keep hb) hlt
    have hss := HO.out _ (List.getElem_mem hlt)
    have HT := Lib.hid (all_take x.2 isStep k hlt)
    have hs := below_alloc wr (.cells #[.string x.2[k].1, .int .i64 x.2[k].2.1, .int .i64 x.2[k].2.2] 136)
    replace hb := below_on hb hs
    replace B0 := B0.keep hs
    go_wp2_with fail
    generalize (wr.alloc (.cells #[.string x.2[k].1, .int .i64 x.2[k].2.1, .int .i64 x.2[k].2.2] 136)) = V2 at *
    clear b0 b1 bl s0 s1 s2 hs
    refine (implIsStep_any x.2[k] _ hss).mono ?_
    rintro e w3 ⟨rfl, hs⟩
    replace hb := below_on hb hs
    replace B0 := B0.keep hs
    clear hs
    cases g : isStep x.2[k]
    · have HF : Hid (isRouting x = false) := by show _ = _; unfold isRouting; rw [all_false x.2 _ k hlt g]; rfl
      go_wp2_with fail
      go_ret
      exact ⟨ret_bool HF.out.symm, hb⟩
    · have HY : Hid ((x.2.take (k + 1)).all isStep = true) := by show _ = _; rw [HT.out, HI.out, g]; rfl
      go_wp2_with fail
      go_roundw
      case rel => exact ⟨k + 1, by omega, by go_num, HY.out, B0, hb⟩
      case measure => simp [intOf]; omega
set_option maxRecDepth 100000 in
set_option maxHeartbeats 1000000 in
theorem implFindRouting_any (A : Option Addr) (n c : Nat) (l : List Rt) (s : ByteArray) (w : World) (hl : RoutingsIn w A n l) :
    Calls Try.prog 43 #[.slice A n c, .string s] w fun e w' => e = .returned (.int .i64 (findRt l s)) ∧ Below w.heap.size w w' := by
  have hn := hl.len
  obtain rfl := hl.num
  go_enter Try.func43, Try.ntmps43
  go_wp2_with fail
  go_loopw [9] (fun i wr => ∃ k : Nat, k ≤ l.length ∧ i = .int .i64 k ∧ Hid (∀ j (hj : j < l.length), j < k → (l[j].1.toList == s.toList) = false) ∧ Below w.heap.size w wr) (fun i _ => l.length - (intOf i).toNat)
  case atStart => exact ⟨0, by omega, rfl, fun j _ h => absurd h (by omega), Below.refl _ _⟩
  case round =>
    obtain ⟨k, hk, rfl, HI, hb⟩ := hrel
    by_cases hlt : k < l.length
    case neg =>
      obtain rfl : k = l.length := by omega
      have HF := Lib.hid (findRt_miss (c := s) (fun j hj => HI.out j hj hj))
      go_wp2_with fail
      go_ret
      exact ⟨ret_int HF.out.symm, hb⟩
    obtain ⟨b, o, B2, m2, c2, rfl, hbl, r0, r1, _⟩ := rt_at (hl.keep hb) hlt
    replace hb := below_on hb (below_alloc wr (.cells #[.string l[k].1, .slice B2 m2 c2] 89))
    cases he : (l[k].1.toList == s.toList)
    · have HX : Hid (∀ j (hj : j < l.length), j < k + 1 → (l[j].1.toList == s.toList) = false) := fun j hj hjk => by
        rcases Nat.lt_or_ge j k with h1 | h1
        · exact HI.out j hj h1
        · obtain rfl : j = k := by omega
          exact he
      go_wp2_with fail
      go_roundw
      case rel => exact ⟨k + 1, by omega, by go_num, HX.out, hb⟩
      case measure => simp [intOf]; omega
    · have HF := Lib.hid (findRt_hit hlt HI.out he)
      go_wp2_with fail
      go_ret
      exact ⟨ret_int HF.out.symm, hb⟩
set_option maxRecDepth 100000 in
set_option maxHeartbeats 1000000 in
theorem implStepTime_any (x : Sp) (n : Int) (w : World) (hok : x.1.size ≤ 9223372036854775807) :
    Calls Try.prog 98 #[.agg #[.string x.1, .int .i64 x.2.1, .int .i64 x.2.2], .int .i64 n] w (PairT w (stepTime x n)) := by
  have hb := below_alloc w (.cells #[.string x.1, .int .i64 x.2.1, .int .i64 x.2.2] 136)
  have B0 : BoxOf (w.alloc (.cells #[.string x.1, .int .i64 x.2.1, .int .i64 x.2.2] 136)) w.heap.size [.string x.1, .int .i64 x.2.1, .int .i64 x.2.2] := boxOf_alloc w #[.string x.1, .int .i64 x.2.1, .int .i64 x.2.2] 136
  go_enter Try.func98, Try.ntmps98
  go_wp2_with fail
  generalize (w.alloc (.cells #[.string x.1, .int .i64 x.2.1, .int .i64 x.2.2] 136)) = V at *
  refine (implIsStep_any x _ hok).mono ?_
  rintro e w1 ⟨rfl, hs⟩
  replace hb := below_on hb hs
  replace B0 := B0.keep hs
  have x0 := B0.2 0 _ rfl
  have x1 := B0.2 1 _ rfl
  have x2 := B0.2 2 _ rfl
  cases g1 : isStep x
  · have HF := Lib.hid (stepTime_no (n := n) (by rw [g1]; rfl))
    go_wp2_with fail
    go_ret2
    exact pairT_mk HF.out hb
  cases g2 : inB n 1 100000
  · have HF := Lib.hid (stepTime_no (x := x) (by rw [g1, g2]; rfl))
    go_wp2_with (go_at_call 59; refine (in_any _ _ _ _).mono ?_; rintro e w' ⟨rfl, rfl⟩)
    go_ret2
    exact pairT_mk HF.out hb
  have HF := Lib.hid (stepTime_yes g1 g2)
  obtain ⟨_, h1, h2⟩ := isStep_parts g1
  have h3 := inB_iff.1 g2
  have hp0 : 0 ≤ x.2.2 * n := Int.mul_nonneg (by omega) (by omega)
  have hp1 : x.2.2 * n ≤ 1000 * 100000 := Int.mul_le_mul (by omega) (by omega) (by omega) (by omega)
  have hw1 : IntKind.i64.wrap (x.2.2 * n) = x.2.2 * n := by apply IntWalk.i64_in <;> omega
  have hw2 : IntKind.i64.wrap (x.2.1 + x.2.2 * n) = x.2.1 + x.2.2 * n := by apply IntWalk.i64_in <;> omega
  go_wp2_with (go_at_call 59; refine (in_any _ _ _ _).mono ?_; rintro e w' ⟨rfl, rfl⟩)
  go_ret2
  exact pairT_mk HF.out hb
set_option maxRecDepth 100000 in
set_option maxHeartbeats 4000000 in
theorem implAreRoutings_any (A : Option Addr) (n c : Nat) (l : List Rt) (w : World) (hl : RoutingsIn w A n l) (hok : ∀ x ∈ l, okRt x) :
    Calls Try.prog 97 #[.slice A n c] w fun e w' => e = .returned (.bool (areRoutings l)) ∧ Below w.heap.size w w' := by
  have hn := hl.len
  obtain rfl := hl.num
  have HO := Lib.hid hok
  clear hok
  go_enter Try.func97, Try.ntmps97
  go_wp2_with fail
  go_loopw [7] (fun i wr => ∃ k : Nat, k ≤ l.length ∧ i = .int .i64 k ∧ Hid (∀ j < k, okRt1 l j = true) ∧ Below w.heap.size w wr) (fun i _ => l.length - (intOf i).toNat)
  case atStart => exact ⟨0, by omega, rfl, fun j h => absurd h (by omega), Below.refl _ _⟩
  case round =>
    obtain ⟨k, hk, rfl, HI, hb⟩ := hrel
    by_cases hlt : k < l.length
    case neg =>
      obtain rfl : k = l.length := by omega
      have HF := Lib.hid (areRoutings_end HI.out)
      go_wp2_with fail
      go_ret
      exact ⟨ret_bool HF.out.symm, hb⟩
    have hokk := HO.out _ (List.getElem_mem hlt)
    obtain ⟨b, o, B2, m2, c2, rfl, hbl, r0, r1, hst⟩ := rt_at (hl.keep hb) hlt
    have hs := below_alloc wr (.cells #[.string l[k].1, .slice B2 m2 c2] 89)
    have BR : BoxOf (wr.alloc (.cells #[.string l[k].1, .slice B2 m2 c2] 89)) wr.heap.size [.string l[k].1, .slice B2 m2 c2] := boxOf_alloc wr #[.string l[k].1, .slice B2 m2 c2] 89
    replace hb := below_on hb hs
    replace hst := hst.keep hs
    go_wp2_with fail
    generalize (wr.alloc (.cells #[.string l[k].1, .slice B2 m2 c2] 89)) = wq at *
    generalize wr.heap.size = NX at *
    clear r0 r1 hbl hs
    obtain ⟨v0, v1, vl⟩ := BR.two
    cases hi : isRouting l[k]
    · have HC := Lib.hid (okRt1_bad hlt hi)
      refine wp_region_held_drew (S := (fun w' => w'.cell? ⟨NX, 0, none⟩ = some (.string l[k].1) ∧ w'.cell? ⟨NX, 1, none⟩ = some (.slice B2 m2 c2) ∧ NX < w'.heap.size ∧ Below wq.heap.size wq w')) (by kernel_rfl) ⟨v0, v1, vl, (Below.refl _ _).drew⟩ (fun hHeld => ?_)
      refine held_on 0 (some 12) rfl rfl (by kernel_rfl) (by kernel_rfl) (by kernel_rfl) (fun _ _ _ h => h) (by rfl) hHeld (v := ?v65) ?y65 ?r65
      case y65 => intro w hSw; (try dsimp only at hSw); go_simp; (try with_reducible rfl)
      try simp only [Act.put, List.setIfInBounds_toArray, List.set_cons_zero, List.set_cons_succ]
      refine wpAnyH_ready (rs := [1]) (by kernel_rfl) (by simp) ?_
      refine AllReadyH.cons rfl (fun K hK => ?_) AllReadyH.nil
      go_simp
      go_at_call 143; refine (implIsRouting_any l[k] _ _ _ _ (hst.keep (by obtain ⟨y_v0, y_v1, y_n, y_R⟩ := hHeld; exact y_R)) hokk).mono ?_; rintro e w3 ⟨rfl, hb3⟩; rw [hi]; go_simp
      refine hK.out _ _ ?_ (fun hHeld => ?_)
      · obtain ⟨y_v0, y_v1, y_n, y_R⟩ := hHeld; exact ⟨(hb3.cell y_n).trans y_v0, (hb3.cell y_n).trans y_v1, Nat.lt_of_lt_of_le y_n hb3.size, below_on y_R hb3⟩
      clear hK K
      try simp only [Act.put, List.setIfInBounds_toArray, List.set_cons_zero, List.set_cons_succ]
      refine held_on 2 (some 14) rfl rfl (by kernel_rfl) (by kernel_rfl) (by kernel_rfl) (fun _ _ _ h => h) (by rfl) hHeld (v := ?v66) ?y66 ?r66
      case y66 => intro w hSw; (try dsimp only at hSw); go_simp; (try with_reducible rfl)
      try simp only [Act.put, List.setIfInBounds_toArray, List.set_cons_zero, List.set_cons_succ]
      refine held_on 3 (some 15) rfl rfl (by kernel_rfl) (by kernel_rfl) (by kernel_rfl) (fun _ _ _ h => h) (by rfl) hHeld (v := ?v67) ?y67 ?r67
      case y67 => intro w hSw; (try dsimp only at hSw); go_simp; (try with_reducible rfl)
      try simp only [Act.put, List.setIfInBounds_toArray, List.set_cons_zero, List.set_cons_succ]
      refine held_off 4 (some 16) rfl rfl (by kernel_rfl) (by kernel_rfl) (by kernel_rfl) (fun _ _ _ h => h) (by rfl) hHeld ?_
      try simp only [Act.put, List.setIfInBounds_toArray, List.set_cons_zero, List.set_cons_succ]
      refine held_off 5 (some 17) rfl rfl (by kernel_rfl) (by kernel_rfl) (by kernel_rfl) (fun _ _ _ h => h) (by rfl) hHeld ?_
      try simp only [Act.put, List.setIfInBounds_toArray, List.set_cons_zero, List.set_cons_succ]
      refine held_off 6 (some 18) rfl rfl (by kernel_rfl) (by kernel_rfl) (by kernel_rfl) (fun _ _ _ h => h) (by rfl) hHeld ?_
      try simp only [Act.put, List.setIfInBounds_toArray, List.set_cons_zero, List.set_cons_succ]
      refine held_off 7 (some 19) rfl rfl (by kernel_rfl) (by kernel_rfl) (by kernel_rfl) (fun _ _ _ h => h) (by rfl) hHeld ?_
      try simp only [Act.put, List.setIfInBounds_toArray, List.set_cons_zero, List.set_cons_succ]
      refine held_off 8 (some 20) rfl rfl (by kernel_rfl) (by kernel_rfl) (by kernel_rfl) (fun _ _ _ h => h) (by rfl) hHeld ?_
      try simp only [Act.put, List.setIfInBounds_toArray, List.set_cons_zero, List.set_cons_succ]
      refine held_off 9 (some 21) rfl rfl (by kernel_rfl) (by kernel_rfl) (by kernel_rfl) (fun _ _ _ h => h) (by rfl) hHeld ?_
      try simp only [Act.put, List.setIfInBounds_toArray, List.set_cons_zero, List.set_cons_succ]
      refine held_off 10 (some 22) rfl rfl (by kernel_rfl) (by kernel_rfl) (by kernel_rfl) (fun _ _ _ h => h) (by rfl) hHeld ?_
      try simp only [Act.put, List.setIfInBounds_toArray, List.set_cons_zero, List.set_cons_succ]
      refine held_off 11 (some 23) rfl rfl (by kernel_rfl) (by kernel_rfl) (by kernel_rfl) (fun _ _ _ h => h) (by rfl) hHeld ?_
      try simp only [Act.put, List.setIfInBounds_toArray, List.set_cons_zero, List.set_cons_succ]
      refine held_off 12 (some 24) rfl rfl (by kernel_rfl) (by kernel_rfl) (by kernel_rfl) (fun _ _ _ h => h) (by rfl) hHeld ?_
      try simp only [Act.put, List.setIfInBounds_toArray, List.set_cons_zero, List.set_cons_succ]
      refine held_off 13 (some 25) rfl rfl (by kernel_rfl) (by kernel_rfl) (by kernel_rfl) (fun _ _ _ h => h) (by rfl) hHeld ?_
      try simp only [Act.put, List.setIfInBounds_toArray, List.set_cons_zero, List.set_cons_succ]
      refine held_off 14 (some 26) rfl rfl (by kernel_rfl) (by kernel_rfl) (by kernel_rfl) (fun _ _ _ h => h) (by rfl) hHeld ?_
      try simp only [Act.put, List.setIfInBounds_toArray, List.set_cons_zero, List.set_cons_succ]
      refine held_off 15 (some 27) rfl rfl (by kernel_rfl) (by kernel_rfl) (by kernel_rfl) (fun _ _ _ h => h) (by rfl) hHeld ?_
      try simp only [Act.put, List.setIfInBounds_toArray, List.set_cons_zero, List.set_cons_succ]
      refine held_off 16 (some 28) rfl rfl (by kernel_rfl) (by kernel_rfl) (by kernel_rfl) (fun _ _ _ h => h) (by rfl) hHeld ?_
      try simp only [Act.put, List.setIfInBounds_toArray, List.set_cons_zero, List.set_cons_succ]
      refine held_on 17 (some 29) rfl rfl (by kernel_rfl) (by kernel_rfl) (by kernel_rfl) (fun _ _ _ h => h) (by rfl) hHeld (v := ?v68) ?y68 ?r68
      case y68 => intro w hSw; (try dsimp only at hSw); go_simp; (try with_reducible rfl)
      try simp only [Act.put, List.setIfInBounds_toArray, List.set_cons_zero, List.set_cons_succ]
      refine wpAnyH_done (by kernel_rfl) ?_ _
      obtain ⟨y_v0, y_v1, y_n, y_R⟩ := hHeld
      replace hb := below_on hb y_R
      clear y_v0 y_v1 y_n y_R
      go_wp2_with fail
      go_ret
      exact ⟨ret_bool (areRoutings_no hlt HC.out).symm, hb⟩
    by_cases h0 : k = 0
    · have hy1 : decide (0 < k) = false := by simp; omega
      have hy2 : decide ((0 : Int) < (k : Int)) = false := by simp; omega
      have HC := Lib.hid (okRt1_first hlt hi h0)
      clear h0
      refine wp_region_held_drew (S := (fun w' => w'.cell? ⟨NX, 0, none⟩ = some (.string l[k].1) ∧ w'.cell? ⟨NX, 1, none⟩ = some (.slice B2 m2 c2) ∧ NX < w'.heap.size ∧ Below wq.heap.size wq w')) (by kernel_rfl) ⟨v0, v1, vl, (Below.refl _ _).drew⟩ (fun hHeld => ?_)
      refine held_on 0 (some 12) rfl rfl (by kernel_rfl) (by kernel_rfl) (by kernel_rfl) (fun _ _ _ h => h) (by rfl) hHeld (v := ?v69) ?y69 ?r69
      case y69 => intro w hSw; (try dsimp only at hSw); go_simp; (try with_reducible rfl)
      try simp only [Act.put, List.setIfInBounds_toArray, List.set_cons_zero, List.set_cons_succ]
      refine wpAnyH_ready (rs := [1]) (by kernel_rfl) (by simp) ?_
      refine AllReadyH.cons rfl (fun K hK => ?_) AllReadyH.nil
      go_simp
      go_at_call 143; refine (implIsRouting_any l[k] _ _ _ _ (hst.keep (by obtain ⟨y_v0, y_v1, y_n, y_R⟩ := hHeld; exact y_R)) hokk).mono ?_; rintro e w3 ⟨rfl, hb3⟩; rw [hi]; go_simp
      refine hK.out _ _ ?_ (fun hHeld => ?_)
      · obtain ⟨y_v0, y_v1, y_n, y_R⟩ := hHeld; exact ⟨(hb3.cell y_n).trans y_v0, (hb3.cell y_n).trans y_v1, Nat.lt_of_lt_of_le y_n hb3.size, below_on y_R hb3⟩
      clear hK K
      try simp only [Act.put, List.setIfInBounds_toArray, List.set_cons_zero, List.set_cons_succ]
      refine held_on 2 (some 14) rfl rfl (by kernel_rfl) (by kernel_rfl) (by kernel_rfl) (fun _ _ _ h => h) (by rfl) hHeld (v := ?v70) ?y70 ?r70
      case y70 => intro w hSw; (try dsimp only at hSw); go_simp; (try with_reducible rfl)
      try simp only [Act.put, List.setIfInBounds_toArray, List.set_cons_zero, List.set_cons_succ]
      refine held_on 3 (some 15) rfl rfl (by kernel_rfl) (by kernel_rfl) (by kernel_rfl) (fun _ _ _ h => h) (by rfl) hHeld (v := ?v71) ?y71 ?r71
      case y71 => intro w hSw; (try dsimp only at hSw); go_simp; (try with_reducible rfl)
      try simp only [Act.put, List.setIfInBounds_toArray, List.set_cons_zero, List.set_cons_succ]
      refine held_on 4 (some 16) rfl rfl (by kernel_rfl) (by kernel_rfl) (by kernel_rfl) (fun _ _ _ h => h) (by rfl) hHeld (v := ?v72) ?y72 ?r72
      case y72 => intro w hSw; (try dsimp only at hSw); go_simp; (try with_reducible rfl)
      try simp only [Act.put, List.setIfInBounds_toArray, List.set_cons_zero, List.set_cons_succ]
      refine held_on 5 (some 17) rfl rfl (by kernel_rfl) (by kernel_rfl) (by kernel_rfl) (fun _ _ _ h => h) (by rfl) hHeld (v := ?v73) ?y73 ?r73
      case y73 => intro w hSw; (try dsimp only at hSw); go_simp; (try with_reducible rfl)
      try simp only [Act.put, List.setIfInBounds_toArray, List.set_cons_zero, List.set_cons_succ]
      refine held_on 6 (some 18) rfl rfl (by kernel_rfl) (by kernel_rfl) (by kernel_rfl) (fun _ _ _ h => h) (by rfl) hHeld (v := ?v74) ?y74 ?r74
      case y74 => intro w hSw; (try dsimp only at hSw); go_simp; (try with_reducible rfl)
      try simp only [Act.put, List.setIfInBounds_toArray, List.set_cons_zero, List.set_cons_succ]
      refine held_off 7 (some 19) rfl rfl (by kernel_rfl) (by kernel_rfl) (by kernel_rfl) (fun _ _ _ h => h) (by rfl) hHeld ?_
      try simp only [Act.put, List.setIfInBounds_toArray, List.set_cons_zero, List.set_cons_succ]
      refine held_off 8 (some 20) rfl rfl (by kernel_rfl) (by kernel_rfl) (by kernel_rfl) (fun _ _ _ h => h) (by rfl) hHeld ?_
      try simp only [Act.put, List.setIfInBounds_toArray, List.set_cons_zero, List.set_cons_succ]
      refine held_off 9 (some 21) rfl rfl (by kernel_rfl) (by kernel_rfl) (by kernel_rfl) (fun _ _ _ h => h) (by rfl) hHeld ?_
      try simp only [Act.put, List.setIfInBounds_toArray, List.set_cons_zero, List.set_cons_succ]
      refine held_off 10 (some 22) rfl rfl (by kernel_rfl) (by kernel_rfl) (by kernel_rfl) (fun _ _ _ h => h) (by rfl) hHeld ?_
      try simp only [Act.put, List.setIfInBounds_toArray, List.set_cons_zero, List.set_cons_succ]
      refine held_off 11 (some 23) rfl rfl (by kernel_rfl) (by kernel_rfl) (by kernel_rfl) (fun _ _ _ h => h) (by rfl) hHeld ?_
      try simp only [Act.put, List.setIfInBounds_toArray, List.set_cons_zero, List.set_cons_succ]
      refine held_off 12 (some 24) rfl rfl (by kernel_rfl) (by kernel_rfl) (by kernel_rfl) (fun _ _ _ h => h) (by rfl) hHeld ?_
      try simp only [Act.put, List.setIfInBounds_toArray, List.set_cons_zero, List.set_cons_succ]
      refine held_off 13 (some 25) rfl rfl (by kernel_rfl) (by kernel_rfl) (by kernel_rfl) (fun _ _ _ h => h) (by rfl) hHeld ?_
      try simp only [Act.put, List.setIfInBounds_toArray, List.set_cons_zero, List.set_cons_succ]
      refine held_off 14 (some 26) rfl rfl (by kernel_rfl) (by kernel_rfl) (by kernel_rfl) (fun _ _ _ h => h) (by rfl) hHeld ?_
      try simp only [Act.put, List.setIfInBounds_toArray, List.set_cons_zero, List.set_cons_succ]
      refine held_off 15 (some 27) rfl rfl (by kernel_rfl) (by kernel_rfl) (by kernel_rfl) (fun _ _ _ h => h) (by rfl) hHeld ?_
      try simp only [Act.put, List.setIfInBounds_toArray, List.set_cons_zero, List.set_cons_succ]
      refine held_on 16 (some 28) rfl rfl (by kernel_rfl) (by kernel_rfl) (by kernel_rfl) (fun _ _ _ h => h) (by rfl) hHeld (v := ?v75) ?y75 ?r75
      case y75 => intro w hSw; (try dsimp only at hSw); go_simp; (try with_reducible rfl)
      try simp only [Act.put, List.setIfInBounds_toArray, List.set_cons_zero, List.set_cons_succ]
      refine held_on 17 (some 29) rfl rfl (by kernel_rfl) (by kernel_rfl) (by kernel_rfl) (fun _ _ _ h => h) (by rfl) hHeld (v := ?v76) ?y76 ?r76
      case y76 => intro w hSw; (try dsimp only at hSw); go_simp; (try with_reducible rfl)
      try simp only [Act.put, List.setIfInBounds_toArray, List.set_cons_zero, List.set_cons_succ]
      refine wpAnyH_done (by kernel_rfl) ?_ _
      obtain ⟨y_v0, y_v1, y_n, y_R⟩ := hHeld
      replace hb := below_on hb y_R
      clear y_v0 y_v1 y_n y_R
      go_wp2_with fail
      go_roundw
      case rel => exact ⟨k + 1, by omega, by go_num, okRt1_more HC.out HI.out, hb⟩
      case measure => simp [intOf]; omega
    have hlt2 : k - 1 < l.length := by omega
    obtain ⟨b2, o2, _, _, _, e2, hbp, p0, _, _⟩ := rt_at (hl.keep hb) hlt2
    obtain ⟨rfl, rfl⟩ : b = b2 ∧ o = o2 := by simpa using e2
    clear e2
    have hy1 : decide (0 < k) = true := by simp; omega
    have hy2 : decide ((0 : Int) < (k : Int)) = true := by simp; omega
    have hi1 : (0 : Int) ≤ (k : Int) - 1 := by omega
    have hi2 : (k : Int) - 1 < (l.length : Int) := by omega
    have hi3 : ((k : Int) - 1).toNat = k - 1 := by omega
    have hi4 : (1 : Int) ≤ (k : Int) := by omega
    have hwk : IntKind.i64.wrap ((k : Int) - 1) = (k : Int) - 1 := IntWalk.i64_in _ (by omega)
    have HC := Lib.hid (okRt1_next hlt hi h0 hlt2)
    clear h0
    cases hq : rtLt l[k - 1].1 l[k].1
    · have hq2 : Op.bytesLess l[k - 1].1.toList l[k].1.toList = false := hq
      refine wp_region_held_drew (S := (fun w' => w'.cell? ⟨b, o + (k - 1) * 2, none⟩ = some (.string l[k - 1].1) ∧ b < w'.heap.size ∧ w'.cell? ⟨NX, 0, none⟩ = some (.string l[k].1) ∧ w'.cell? ⟨NX, 1, none⟩ = some (.slice B2 m2 c2) ∧ NX < w'.heap.size ∧ Below wq.heap.size wq w')) (by kernel_rfl) ⟨p0, hbp, v0, v1, vl, (Below.refl _ _).drew⟩ (fun hHeld => ?_)
      refine held_on 0 (some 12) rfl rfl (by kernel_rfl) (by kernel_rfl) (by kernel_rfl) (fun _ _ _ h => h) (by rfl) hHeld (v := ?v77) ?y77 ?r77
      case y77 => intro w hSw; (try dsimp only at hSw); go_simp; (try with_reducible rfl)
      try simp only [Act.put, List.setIfInBounds_toArray, List.set_cons_zero, List.set_cons_succ]
      refine wpAnyH_ready (rs := [1]) (by kernel_rfl) (by simp) ?_
      refine AllReadyH.cons rfl (fun K hK => ?_) AllReadyH.nil
      go_simp
      go_at_call 143; refine (implIsRouting_any l[k] _ _ _ _ (hst.keep (by obtain ⟨y_pr, y_b, y_v0, y_v1, y_n, y_R⟩ := hHeld; exact y_R)) hokk).mono ?_; rintro e w3 ⟨rfl, hb3⟩; rw [hi]; go_simp
      refine hK.out _ _ ?_ (fun hHeld => ?_)
      · obtain ⟨y_pr, y_b, y_v0, y_v1, y_n, y_R⟩ := hHeld; exact ⟨(hb3.cell y_b).trans y_pr, Nat.lt_of_lt_of_le y_b hb3.size, (hb3.cell y_n).trans y_v0, (hb3.cell y_n).trans y_v1, Nat.lt_of_lt_of_le y_n hb3.size, below_on y_R hb3⟩
      clear hK K
      try simp only [Act.put, List.setIfInBounds_toArray, List.set_cons_zero, List.set_cons_succ]
      refine held_on 2 (some 14) rfl rfl (by kernel_rfl) (by kernel_rfl) (by kernel_rfl) (fun _ _ _ h => h) (by rfl) hHeld (v := ?v78) ?y78 ?r78
      case y78 => intro w hSw; (try dsimp only at hSw); go_simp; (try with_reducible rfl)
      try simp only [Act.put, List.setIfInBounds_toArray, List.set_cons_zero, List.set_cons_succ]
      refine held_on 3 (some 15) rfl rfl (by kernel_rfl) (by kernel_rfl) (by kernel_rfl) (fun _ _ _ h => h) (by rfl) hHeld (v := ?v79) ?y79 ?r79
      case y79 => intro w hSw; (try dsimp only at hSw); go_simp; (try with_reducible rfl)
      try simp only [Act.put, List.setIfInBounds_toArray, List.set_cons_zero, List.set_cons_succ]
      refine held_on 4 (some 16) rfl rfl (by kernel_rfl) (by kernel_rfl) (by kernel_rfl) (fun _ _ _ h => h) (by rfl) hHeld (v := ?v80) ?y80 ?r80
      case y80 => intro w hSw; (try dsimp only at hSw); go_simp; (try with_reducible rfl)
      try simp only [Act.put, List.setIfInBounds_toArray, List.set_cons_zero, List.set_cons_succ]
      refine held_on 5 (some 17) rfl rfl (by kernel_rfl) (by kernel_rfl) (by kernel_rfl) (fun _ _ _ h => h) (by rfl) hHeld (v := ?v81) ?y81 ?r81
      case y81 => intro w hSw; (try dsimp only at hSw); go_simp; (try with_reducible rfl)
      try simp only [Act.put, List.setIfInBounds_toArray, List.set_cons_zero, List.set_cons_succ]
      refine held_on 6 (some 18) rfl rfl (by kernel_rfl) (by kernel_rfl) (by kernel_rfl) (fun _ _ _ h => h) (by rfl) hHeld (v := ?v82) ?y82 ?r82
      case y82 => intro w hSw; (try dsimp only at hSw); go_simp; (try with_reducible rfl)
      try simp only [Act.put, List.setIfInBounds_toArray, List.set_cons_zero, List.set_cons_succ]
      refine held_on 7 (some 19) rfl rfl (by kernel_rfl) (by kernel_rfl) (by kernel_rfl) (fun _ _ _ h => h) (by rfl) hHeld (v := ?v83) ?y83 ?r83
      case y83 => intro w hSw; (try dsimp only at hSw); go_simp; (try with_reducible rfl)
      try simp only [Act.put, List.setIfInBounds_toArray, List.set_cons_zero, List.set_cons_succ]
      refine held_on 8 (some 20) rfl rfl (by kernel_rfl) (by kernel_rfl) (by kernel_rfl) (fun _ _ _ h => h) (by rfl) hHeld (v := ?v84) ?y84 ?r84
      case y84 => intro w hSw; (try dsimp only at hSw); go_simp; (try with_reducible rfl)
      try simp only [Act.put, List.setIfInBounds_toArray, List.set_cons_zero, List.set_cons_succ]
      refine held_on 9 (some 21) rfl rfl (by kernel_rfl) (by kernel_rfl) (by kernel_rfl) (fun _ _ _ h => h) (by rfl) hHeld (v := ?v85) ?y85 ?r85
      case y85 => intro w hSw; (try dsimp only at hSw); go_simp; (try with_reducible rfl)
      try simp only [Act.put, List.setIfInBounds_toArray, List.set_cons_zero, List.set_cons_succ]
      refine held_on 10 (some 22) rfl rfl (by kernel_rfl) (by kernel_rfl) (by kernel_rfl) (fun _ _ _ h => h) (by rfl) hHeld (v := ?v86) ?y86 ?r86
      case y86 => intro w hSw; (try dsimp only at hSw); go_simp; (try with_reducible rfl)
      try simp only [Act.put, List.setIfInBounds_toArray, List.set_cons_zero, List.set_cons_succ]
      refine held_on 11 (some 23) rfl rfl (by kernel_rfl) (by kernel_rfl) (by kernel_rfl) (fun _ _ _ h => h) (by rfl) hHeld (v := ?v87) ?y87 ?r87
      case y87 => intro w hSw; (try dsimp only at hSw); go_simp; (try with_reducible rfl)
      try simp only [Act.put, List.setIfInBounds_toArray, List.set_cons_zero, List.set_cons_succ]
      refine held_on 12 (some 24) rfl rfl (by kernel_rfl) (by kernel_rfl) (by kernel_rfl) (fun _ _ _ h => h) (by rfl) hHeld (v := ?v88) ?y88 ?r88
      case y88 => intro w hSw; (try dsimp only at hSw); go_simp; (try with_reducible rfl)
      try simp only [Act.put, List.setIfInBounds_toArray, List.set_cons_zero, List.set_cons_succ]
      refine held_on 13 (some 25) rfl rfl (by kernel_rfl) (by kernel_rfl) (by kernel_rfl) (fun _ _ _ h => h) (by rfl) hHeld (v := ?v89) ?y89 ?r89
      case y89 => intro w hSw; (try dsimp only at hSw); go_simp; (try with_reducible rfl)
      try simp only [Act.put, List.setIfInBounds_toArray, List.set_cons_zero, List.set_cons_succ]
      refine held_on 14 (some 26) rfl rfl (by kernel_rfl) (by kernel_rfl) (by kernel_rfl) (fun _ _ _ h => h) (by rfl) hHeld (v := ?v90) ?y90 ?r90
      case y90 => intro w hSw; (try dsimp only at hSw); go_simp; (try with_reducible rfl)
      try simp only [Act.put, List.setIfInBounds_toArray, List.set_cons_zero, List.set_cons_succ]
      refine held_on 15 (some 27) rfl rfl (by kernel_rfl) (by kernel_rfl) (by kernel_rfl) (fun _ _ _ h => h) (by rfl) hHeld (v := ?v91) ?y91 ?r91
      case y91 => intro w hSw; (try dsimp only at hSw); go_simp; (try with_reducible rfl)
      try simp only [Act.put, List.setIfInBounds_toArray, List.set_cons_zero, List.set_cons_succ]
      refine held_on 16 (some 28) rfl rfl (by kernel_rfl) (by kernel_rfl) (by kernel_rfl) (fun _ _ _ h => h) (by rfl) hHeld (v := ?v92) ?y92 ?r92
      case y92 => intro w hSw; (try dsimp only at hSw); go_simp; (try with_reducible rfl)
      try simp only [Act.put, List.setIfInBounds_toArray, List.set_cons_zero, List.set_cons_succ]
      refine held_on 17 (some 29) rfl rfl (by kernel_rfl) (by kernel_rfl) (by kernel_rfl) (fun _ _ _ h => h) (by rfl) hHeld (v := ?v93) ?y93 ?r93
      case y93 => intro w hSw; (try dsimp only at hSw); go_simp; (try with_reducible rfl)
      try simp only [Act.put, List.setIfInBounds_toArray, List.set_cons_zero, List.set_cons_succ]
      refine wpAnyH_done (by kernel_rfl) ?_ _
      obtain ⟨y_pr, y_b, y_v0, y_v1, y_n, y_R⟩ := hHeld
      replace hb := below_on hb y_R
      clear y_pr y_b y_v0 y_v1 y_n y_R
      go_wp2_with fail
      go_ret
      exact ⟨ret_bool (areRoutings_no hlt (HC.out.trans hq)).symm, hb⟩
    · have hq2 : Op.bytesLess l[k - 1].1.toList l[k].1.toList = true := hq
      refine wp_region_held_drew (S := (fun w' => w'.cell? ⟨b, o + (k - 1) * 2, none⟩ = some (.string l[k - 1].1) ∧ b < w'.heap.size ∧ w'.cell? ⟨NX, 0, none⟩ = some (.string l[k].1) ∧ w'.cell? ⟨NX, 1, none⟩ = some (.slice B2 m2 c2) ∧ NX < w'.heap.size ∧ Below wq.heap.size wq w')) (by kernel_rfl) ⟨p0, hbp, v0, v1, vl, (Below.refl _ _).drew⟩ (fun hHeld => ?_)
      refine held_on 0 (some 12) rfl rfl (by kernel_rfl) (by kernel_rfl) (by kernel_rfl) (fun _ _ _ h => h) (by rfl) hHeld (v := ?v94) ?y94 ?r94
      case y94 => intro w hSw; (try dsimp only at hSw); go_simp; (try with_reducible rfl)
      try simp only [Act.put, List.setIfInBounds_toArray, List.set_cons_zero, List.set_cons_succ]
      refine wpAnyH_ready (rs := [1]) (by kernel_rfl) (by simp) ?_
      refine AllReadyH.cons rfl (fun K hK => ?_) AllReadyH.nil
      go_simp
      go_at_call 143; refine (implIsRouting_any l[k] _ _ _ _ (hst.keep (by obtain ⟨y_pr, y_b, y_v0, y_v1, y_n, y_R⟩ := hHeld; exact y_R)) hokk).mono ?_; rintro e w3 ⟨rfl, hb3⟩; rw [hi]; go_simp
      refine hK.out _ _ ?_ (fun hHeld => ?_)
      · obtain ⟨y_pr, y_b, y_v0, y_v1, y_n, y_R⟩ := hHeld; exact ⟨(hb3.cell y_b).trans y_pr, Nat.lt_of_lt_of_le y_b hb3.size, (hb3.cell y_n).trans y_v0, (hb3.cell y_n).trans y_v1, Nat.lt_of_lt_of_le y_n hb3.size, below_on y_R hb3⟩
      clear hK K
      try simp only [Act.put, List.setIfInBounds_toArray, List.set_cons_zero, List.set_cons_succ]
      refine held_on 2 (some 14) rfl rfl (by kernel_rfl) (by kernel_rfl) (by kernel_rfl) (fun _ _ _ h => h) (by rfl) hHeld (v := ?v95) ?y95 ?r95
      case y95 => intro w hSw; (try dsimp only at hSw); go_simp; (try with_reducible rfl)
      try simp only [Act.put, List.setIfInBounds_toArray, List.set_cons_zero, List.set_cons_succ]
      refine held_on 3 (some 15) rfl rfl (by kernel_rfl) (by kernel_rfl) (by kernel_rfl) (fun _ _ _ h => h) (by rfl) hHeld (v := ?v96) ?y96 ?r96
      case y96 => intro w hSw; (try dsimp only at hSw); go_simp; (try with_reducible rfl)
      try simp only [Act.put, List.setIfInBounds_toArray, List.set_cons_zero, List.set_cons_succ]
      refine held_on 4 (some 16) rfl rfl (by kernel_rfl) (by kernel_rfl) (by kernel_rfl) (fun _ _ _ h => h) (by rfl) hHeld (v := ?v97) ?y97 ?r97
      case y97 => intro w hSw; (try dsimp only at hSw); go_simp; (try with_reducible rfl)
      try simp only [Act.put, List.setIfInBounds_toArray, List.set_cons_zero, List.set_cons_succ]
      refine held_on 5 (some 17) rfl rfl (by kernel_rfl) (by kernel_rfl) (by kernel_rfl) (fun _ _ _ h => h) (by rfl) hHeld (v := ?v98) ?y98 ?r98
      case y98 => intro w hSw; (try dsimp only at hSw); go_simp; (try with_reducible rfl)
      try simp only [Act.put, List.setIfInBounds_toArray, List.set_cons_zero, List.set_cons_succ]
      refine held_on 6 (some 18) rfl rfl (by kernel_rfl) (by kernel_rfl) (by kernel_rfl) (fun _ _ _ h => h) (by rfl) hHeld (v := ?v99) ?y99 ?r99
      case y99 => intro w hSw; (try dsimp only at hSw); go_simp; (try with_reducible rfl)
      try simp only [Act.put, List.setIfInBounds_toArray, List.set_cons_zero, List.set_cons_succ]
      refine held_on 7 (some 19) rfl rfl (by kernel_rfl) (by kernel_rfl) (by kernel_rfl) (fun _ _ _ h => h) (by rfl) hHeld (v := ?v100) ?y100 ?r100
      case y100 => intro w hSw; (try dsimp only at hSw); go_simp; (try with_reducible rfl)
      try simp only [Act.put, List.setIfInBounds_toArray, List.set_cons_zero, List.set_cons_succ]
      refine held_on 8 (some 20) rfl rfl (by kernel_rfl) (by kernel_rfl) (by kernel_rfl) (fun _ _ _ h => h) (by rfl) hHeld (v := ?v101) ?y101 ?r101
      case y101 => intro w hSw; (try dsimp only at hSw); go_simp; (try with_reducible rfl)
      try simp only [Act.put, List.setIfInBounds_toArray, List.set_cons_zero, List.set_cons_succ]
      refine held_on 9 (some 21) rfl rfl (by kernel_rfl) (by kernel_rfl) (by kernel_rfl) (fun _ _ _ h => h) (by rfl) hHeld (v := ?v102) ?y102 ?r102
      case y102 => intro w hSw; (try dsimp only at hSw); go_simp; (try with_reducible rfl)
      try simp only [Act.put, List.setIfInBounds_toArray, List.set_cons_zero, List.set_cons_succ]
      refine held_on 10 (some 22) rfl rfl (by kernel_rfl) (by kernel_rfl) (by kernel_rfl) (fun _ _ _ h => h) (by rfl) hHeld (v := ?v103) ?y103 ?r103
      case y103 => intro w hSw; (try dsimp only at hSw); go_simp; (try with_reducible rfl)
      try simp only [Act.put, List.setIfInBounds_toArray, List.set_cons_zero, List.set_cons_succ]
      refine held_on 11 (some 23) rfl rfl (by kernel_rfl) (by kernel_rfl) (by kernel_rfl) (fun _ _ _ h => h) (by rfl) hHeld (v := ?v104) ?y104 ?r104
      case y104 => intro w hSw; (try dsimp only at hSw); go_simp; (try with_reducible rfl)
      try simp only [Act.put, List.setIfInBounds_toArray, List.set_cons_zero, List.set_cons_succ]
      refine held_on 12 (some 24) rfl rfl (by kernel_rfl) (by kernel_rfl) (by kernel_rfl) (fun _ _ _ h => h) (by rfl) hHeld (v := ?v105) ?y105 ?r105
      case y105 => intro w hSw; (try dsimp only at hSw); go_simp; (try with_reducible rfl)
      try simp only [Act.put, List.setIfInBounds_toArray, List.set_cons_zero, List.set_cons_succ]
      refine held_on 13 (some 25) rfl rfl (by kernel_rfl) (by kernel_rfl) (by kernel_rfl) (fun _ _ _ h => h) (by rfl) hHeld (v := ?v106) ?y106 ?r106
      case y106 => intro w hSw; (try dsimp only at hSw); go_simp; (try with_reducible rfl)
      try simp only [Act.put, List.setIfInBounds_toArray, List.set_cons_zero, List.set_cons_succ]
      refine held_on 14 (some 26) rfl rfl (by kernel_rfl) (by kernel_rfl) (by kernel_rfl) (fun _ _ _ h => h) (by rfl) hHeld (v := ?v107) ?y107 ?r107
      case y107 => intro w hSw; (try dsimp only at hSw); go_simp; (try with_reducible rfl)
      try simp only [Act.put, List.setIfInBounds_toArray, List.set_cons_zero, List.set_cons_succ]
      refine held_on 15 (some 27) rfl rfl (by kernel_rfl) (by kernel_rfl) (by kernel_rfl) (fun _ _ _ h => h) (by rfl) hHeld (v := ?v108) ?y108 ?r108
      case y108 => intro w hSw; (try dsimp only at hSw); go_simp; (try with_reducible rfl)
      try simp only [Act.put, List.setIfInBounds_toArray, List.set_cons_zero, List.set_cons_succ]
      refine held_on 16 (some 28) rfl rfl (by kernel_rfl) (by kernel_rfl) (by kernel_rfl) (fun _ _ _ h => h) (by rfl) hHeld (v := ?v109) ?y109 ?r109
      case y109 => intro w hSw; (try dsimp only at hSw); go_simp; (try with_reducible rfl)
      try simp only [Act.put, List.setIfInBounds_toArray, List.set_cons_zero, List.set_cons_succ]
      refine held_on 17 (some 29) rfl rfl (by kernel_rfl) (by kernel_rfl) (by kernel_rfl) (fun _ _ _ h => h) (by rfl) hHeld (v := ?v110) ?y110 ?r110
      case y110 => intro w hSw; (try dsimp only at hSw); go_simp; (try with_reducible rfl)
      try simp only [Act.put, List.setIfInBounds_toArray, List.set_cons_zero, List.set_cons_succ]
      refine wpAnyH_done (by kernel_rfl) ?_ _
      obtain ⟨y_pr, y_b, y_v0, y_v1, y_n, y_R⟩ := hHeld
      replace hb := below_on hb y_R
      clear y_pr y_b y_v0 y_v1 y_n y_R
      go_wp2_with fail
      go_roundw
      case rel => exact ⟨k + 1, by omega, by go_num, okRt1_more (HC.out.trans hq) HI.out, hb⟩
      case measure => simp [intOf]; omega
end Go.Proofs.Ytlnkofnfgemfdaa
