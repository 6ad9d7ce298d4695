/- The walks of CancelPromise. -/
import Derived.Test.YtdofhdelcendeaaPair
namespace Go.Proofs.Ytdofhdelcendeaa
open Go.RowKit
def cancelStep (d q : Int) (s : List Fl × Bool) (x : Fl) : List Fl × Bool :=
  if (x.1 == d) && inB q 1 x.2 then (if 0 < x.2 - q then s.1 ++ [(x.1, x.2 - q)] else s.1, true) else (if 0 < x.2 then s.1 ++ [x] else s.1, s.2)
def cancelTo (l : List Fl) (d q : Int) (k : Nat) : List Fl × Bool := (l.take k).foldl (cancelStep d q) ([], false)
theorem cancelTo_len (l : List Fl) (d q : Int) (k : Nat) (hk : k ≤ l.length) : (cancelTo l d q k).1.length ≤ k := by
  induction k with
  | zero => simp [cancelTo]
  | succ k ih =>
    have h1 := ih (by omega)
    unfold cancelTo at h1 ⊢
    rw [foldl_take _ _ _ _ (by omega)]
    generalize (l.take k).foldl (cancelStep d q) ([], false) = s at *
    unfold cancelStep
    split
    · split <;> simp <;> omega
    · split <;> simp <;> omega
def cancelPromise (l : List Fl) (d q : Int) : List Fl × Bool := if areFlows l && (cancelTo l d q l.length).2 then ((cancelTo l d q l.length).1, true) else ([], false)
theorem cancelPromise_no {l : List Fl} {d q : Int} (h : (areFlows l && (cancelTo l d q l.length).2) = false) : cancelPromise l d q = ([], false) := by simp [cancelPromise, h]
theorem cancelPromise_yes {l : List Fl} {d q : Int} (h1 : areFlows l = true) (h2 : (cancelTo l d q l.length).2 = true) : cancelPromise l d q = ((cancelTo l d q l.length).1, true) := by simp [cancelPromise, h1, h2]
theorem cancelPromise_len (l : List Fl) (d q : Int) (h : l.length ≤ 16777216) : (cancelPromise l d q).1.length ≤ 16777216 := by
  unfold cancelPromise
  have := cancelTo_len l d q l.length (Nat.le_refl _)
  split
  · simp; omega
  · simp
theorem cancelTo_succ (l : List Fl) (d q : Int) (k : Nat) (h : k < l.length) : cancelTo l d q (k + 1) = cancelStep d q (cancelTo l d q k) l[k] := foldl_take _ _ _ _ h
set_option maxRecDepth 100000 in
set_option maxHeartbeats 2000000 in
theorem implCancelPromise_any (A : Option Addr) (n c : Nat) (l : List Fl) (d q : Int) (w : World) (ha : FlowsIn w A n l) :
    Calls Try.prog 59 #[.slice A n c, .int .i64 d, .int .i64 q] w (PairRows w (cancelPromise l d q)) := by
  have hn := ha.len
  obtain rfl := ha.1
  have hb : Below w.heap.size w w := Below.refl _ _
  go_enter Try.func59, Try.ntmps59
  go_wp2_with fail
  refine (implAreFlows_any _ _ _ l _ (ha.keep hb)).mono ?_
  rintro e u1 ⟨rfl, hs⟩
  replace hb := below_on hb hs
  clear hs
  cases g1 : areFlows l
  · go_wp2_with fail
    go_ret2
    exact pairRows_mk (l := []) (cancelPromise_no (by simp [g1])) (RowVal.nil _ _) hb
  have hf := g1
  have hsz0 := hb.size
  go_wp2
  have hb0 := hb.alloc hsz0 (.cells #[] 51)
  have hv0 : RowVal flF 51 (u1.alloc (.cells #[] 51)) w.heap.size (.slice (some ⟨u1.heap.size, 0, none⟩) 0 0) [] := empty_row rfl hsz0
  clear hb
  go_loopw [8, 9, 18] (fun v f i wr => ∃ k : Nat, k ≤ l.length ∧ i = .int .i64 k ∧ f = .bool (cancelTo l d q k).2 ∧ RowVal flF 51 wr w.heap.size v (cancelTo l d q k).1 ∧ Below w.heap.size w wr) (fun _ _ i _ => l.length - (intOf i).toNat)
  case atStart => exact ⟨0, by omega, rfl, rfl, hv0, hb0⟩
  case round =>
    clear hv0 hb0
    obtain ⟨k, hk, rfl, rfl, hrow, HR⟩ := hrel
    by_cases hlt : k < l.length
    · have HS := Lib.hid (cancelTo_succ l d q k hlt)
      have hcl := cancelTo_len l d q k hk
      obtain ⟨m1, m2⟩ := (areFlows_mem hf l[k] (List.getElem_mem hlt)).2
      generalize hst : cancelTo l d q k = st at *
      obtain ⟨out, fnd⟩ := st
      dsimp only at hrow hcl ⊢
      have HST := Lib.hid hst
      clear hst
      cases hday : (l[k].1 == d)
      · have hp : 0 < l[k].2 := by omega
        · obtain ⟨b, o, rfl, _, hc1, hc2⟩ := flow_at (ha.keep HR) hlt
          have hsz := HR.size
          go_wp2_with (first | (go_at_call 72; refine (in_any _ _ _ _).mono ?_; rintro e w' ⟨rfl, rfl⟩) | (at_builtin; refine wpList_append_one flowElem rfl _ _ rfl rfl (l := out) (RowVal.alloc hrow _) (by omega) l[k] #[.int .i64 l[k].1, .int .i64 l[k].2] rfl (by simp [Value.oneCell']) (wr.heap.size + 1) _ (by simp) rfl (by simp; omega) ?_; intro v' w2 hrow' hbl hgr))
          go_roundw
          case rel => exact ⟨k + 1, by omega, by go_num, by rw [HS.out]; simp [cancelStep, hday, hp], by rw [HS.out]; simpa [cancelStep, hday, hp] using hrow', (HR.alloc hsz _).trans (hbl _ (Nat.le_refl _) (by simp; omega))⟩
          case measure => simp [intOf]; omega
      cases hq : inB q 1 l[k].2
      · have hp : 0 < l[k].2 := by omega
        · obtain ⟨b, o, rfl, _, hc1, hc2⟩ := flow_at (ha.keep HR) hlt
          have hsz := HR.size
          go_wp2_with (first | (go_at_call 72; refine (in_any _ _ _ _).mono ?_; rintro e w' ⟨rfl, rfl⟩) | (at_builtin; refine wpList_append_one flowElem rfl _ _ rfl rfl (l := out) (RowVal.alloc hrow _) (by omega) l[k] #[.int .i64 l[k].1, .int .i64 l[k].2] rfl (by simp [Value.oneCell']) (wr.heap.size + 1) _ (by simp) rfl (by simp; omega) ?_; intro v' w2 hrow' hbl hgr))
          go_roundw
          case rel => exact ⟨k + 1, by omega, by go_num, by rw [HS.out]; simp [cancelStep, hday, hq, hp], by rw [HS.out]; simpa [cancelStep, hday, hq, hp] using hrow', (HR.alloc hsz _).trans (hbl _ (Nat.le_refl _) (by simp; omega))⟩
          case measure => simp [intOf]; omega
      obtain ⟨q1, q2⟩ := inB_iff.1 hq
      by_cases hp : 0 < l[k].2 - q
      · · obtain ⟨b, o, rfl, _, hc1, hc2⟩ := flow_at (ha.keep HR) hlt
          have hsz := HR.size
          go_wp2_with (first | (go_at_call 72; refine (in_any _ _ _ _).mono ?_; rintro e w' ⟨rfl, rfl⟩) | (at_builtin; refine wpList_append_one flowElem rfl _ _ rfl rfl (l := out) (RowVal.alloc hrow _) (by omega) (l[k].1, l[k].2 - q) #[.int .i64 l[k].1, .int .i64 (l[k].2 - q)] rfl (by simp [Value.oneCell']) (wr.heap.size + 1) _ (by simp) rfl (by simp; omega) ?_; intro v' w2 hrow' hbl hgr))
          go_roundw
          case rel => exact ⟨k + 1, by omega, by go_num, by rw [HS.out]; simp [cancelStep, hday, hq], by rw [HS.out]; simpa [cancelStep, hday, hq, show q < l[k].2 from by omega] using hrow', (HR.alloc hsz _).trans (hbl _ (Nat.le_refl _) (by simp; omega))⟩
          case measure => simp [intOf]; omega
      · · obtain ⟨b, o, rfl, _, hc1, hc2⟩ := flow_at (ha.keep HR) hlt
          have hsz := HR.size
          go_wp2_with (first | (go_at_call 72; refine (in_any _ _ _ _).mono ?_; rintro e w' ⟨rfl, rfl⟩))
          go_roundw
          case rel => exact ⟨k + 1, by omega, by go_num, by rw [HS.out]; simp [cancelStep, hday, hq], by rw [HS.out]; simpa [cancelStep, hday, hq, show ¬ (q < l[k].2) from by omega] using RowVal.alloc hrow _, HR.alloc hsz _⟩
          case measure => simp [intOf]; omega
    · obtain rfl : k = l.length := by omega
      have hsz := HR.size
      cases hfd : (cancelTo l d q l.length).2
      · go_wp2
        go_ret2
        exact pairRows_mk (l := []) (cancelPromise_no (by simp [hfd])) (RowVal.nil _ _) HR
      · go_wp2
        go_ret2
        exact pairRows_mk (cancelPromise_yes hf hfd) hrow HR
end Go.Proofs.Ytdofhdelcendeaa
