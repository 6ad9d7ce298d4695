/- Part 7 of the texts of this claim: Pick: its cells, and the walks of the laws' own helpers on lists of it; What a condition comes to at a choice (plain); Demand: its cells, and the walks of the laws' own helpers on lists of it; The walks of AreDemands; The walks of the functions on flows that all later ones use; Plain facts on sums of flows: no program in sight; Adding a flow to flows in ascending order: the reference's way and the program's come to one; The walks of the laws' own helpers on flows: copies, comparisons, marks; The endings of calls that hand back flows; The walks of the two ways to add a flow. -/
import Derived.Test.YtlkolehdikfddaaTr1
import Derived.StillTailTactics
import Derived.Test.YtlkolehdikfddaaTr4
import Derived.Deep.DeepMust
/- Pick: its cells, and the walks of the laws' own helpers on lists of it. -/
namespace Go.Proofs.Ytlkolehdikfddaa
open Go.RowKit

abbrev Pk := ByteArray × ByteArray
def pkF : Flat Pk := ⟨fun f => [.string (f.1), .string (f.2)], 2, fun _ => rfl⟩
abbrev PicksIn (w : World) (A : Option Addr) (n : Nat) (l : List Pk) : Prop := RowsIn pkF w A n l
theorem pick_at {w : World} {A : Option Addr} {n : Nat} {l : List Pk} (h : PicksIn w A n l) {k : Nat} (hk : k < l.length) :
    ∃ b o, A = some ⟨b, o, none⟩ ∧ b < w.heap.size ∧ w.cell? ⟨b, o + k * 2, none⟩ = some (.string (l[k].1)) ∧ w.cell? ⟨b, o + k * 2 + 1, none⟩ = some (.string (l[k].2)) := by
  obtain ⟨b, o, e, hlt, hc⟩ := h.at_ hk
  exact ⟨b, o, e, hlt, hc 0 _ rfl, hc 1 _ rfl⟩
theorem pickInfo : (Try.prog.info? 118).map (fun i => (i.zero, i.size, i.bytes)) = some (some (.agg #[.string ByteArray.empty, .string ByteArray.empty]), 2, 32) := by kernel_rfl
theorem pickElem : ElemOk pkF 30 118 := by
  obtain ⟨i, h1, h2, h3, h4⟩ := info_parts pickInfo
  exact ⟨i, _, 32, Try.underlying30, h1, h2, h3, h4, rfl, by decide, by omega⟩
def okPk (x : Pk) : Prop := x.1.size ≤ 9223372036854775807 ∧ x.2.size ≤ 9223372036854775807
end Go.Proofs.Ytlkolehdikfddaa
/- What a condition comes to at a choice (plain). -/
namespace Go.Proofs.Ytlkolehdikfddaa
def hasPk (ch : List Pk) (o v : ByteArray) : Bool := ch.any fun p => (p.1.toList == o.toList) && (p.2.toList == v.toList)
def evNext (ch : List Pk) (s : List Bool) (x : Cn) : List Bool :=
  if x.1 = 0 then s ++ [true] else if x.1 = 1 then s ++ [hasPk ch x.2.1 x.2.2] else if x.1 = 2 then s.set (s.length - 1) (!s.getD (s.length - 1) false)
  else if x.1 = 3 then s.take (s.length - 2) ++ [s.getD (s.length - 2) false && s.getD (s.length - 1) false] else s.take (s.length - 2) ++ [s.getD (s.length - 2) false || s.getD (s.length - 1) false]
def evTo (l : List Cn) (ch : List Pk) (k : Nat) : List Bool := (l.take k).foldl (evNext ch) []
def condVal (l : List Cn) (ch : List Pk) : Bool := (evTo l ch l.length).getD 0 false
theorem evTo_succ (l : List Cn) (ch : List Pk) (k : Nat) (h : k < l.length) : evTo l ch (k + 1) = evNext ch (evTo l ch k) l[k] := by
  unfold evTo
  rw [List.take_add_one, List.getElem?_eq_getElem h, Option.toList_some, List.foldl_append]; rfl
theorem evNext_len (ch : List Pk) (s : List Bool) (x : Cn) (m : Nat) (h : cnNext s.length x = some m) : (evNext ch s x).length = m := by
  unfold cnNext at h
  unfold evNext
  split at h
  · next h0 =>
    have := Option.some.inj h
    rcases h0 with h0 | h0
    · rw [if_pos h0, List.length_append]; simpa using this
    · rw [if_neg (by omega), if_pos h0, List.length_append]; simpa using this
  · next h0 =>
    rw [if_neg (by omega), if_neg (by omega)]
    split at h
    · next h2 =>
      rw [if_pos h2]
      split at h
      · cases h
      · have := Option.some.inj h
        rw [List.length_set]; exact this
    · next h2 =>
      rw [if_neg h2]
      split at h
      · split at h
        · cases h
        · have := Option.some.inj h
          have e : ∀ b : Bool, (s.take (s.length - 2) ++ [b]).length = m := fun b => by
            rw [List.length_append, List.length_take]; simp only [List.length_cons, List.length_nil]; omega
          split
          · exact e _
          · exact e _
      · cases h
theorem condTo_some {l : List Cn} {k n : Nat} (hk : k < l.length) (h : condTo l (k + 1) = some n) : ∃ m, condTo l k = some m ∧ cnNext m l[k] = some n := by
  simp only [condTo] at h
  rw [cn_getD _ _ hk] at h
  cases hc : condTo l k with
  | none => rw [hc] at h; cases h
  | some m =>
    rw [hc] at h
    simp only at h
    cases hn : cnNext m l[k] with
    | none => rw [hn] at h; cases h
    | some q =>
      rw [hn] at h
      simp only at h
      split at h
      · exact ⟨m, rfl, by rw [hn]; exact h⟩
      · cases h
theorem evTo_len (l : List Cn) (ch : List Pk) (k : Nat) : ∀ n, k ≤ l.length → condTo l k = some n → (evTo l ch k).length = n := by
  induction k with
  | zero => intro n _ h; have := Option.some.inj h; subst this; rfl
  | succ k ih =>
    intro n hk h
    obtain ⟨m, h1, h2⟩ := condTo_some (by omega) h
    have h3 := ih m (by omega) h1
    rw [evTo_succ l ch k (by omega)]
    exact evNext_len ch _ _ n (by rw [h3]; exact h2)
theorem isCond_parts {l : List Cn} (h : isCond l = true) : l.length ≤ 30 ∧ condTo l l.length = some 1 := by
  simp only [isCond, Bool.and_eq_true, decide_eq_true_eq] at h
  exact h
/-- What is known of every node of a condition. -/
theorem isCond_at_all {l : List Cn} (h : isCond l = true) (k : Nat) (hk : k < l.length) : ∃ n m, condTo l k = some n ∧ condTo l (k + 1) = some m ∧ cnNext n l[k] = some m := by
  obtain ⟨_, h1⟩ := isCond_parts h
  cases h2 : condTo l (k + 1) with
  | none =>
    have := condTo_none h2 (l.length - (k + 1))
    rw [show k + 1 + (l.length - (k + 1)) = l.length by omega, h1] at this
    cases this
  | some m =>
    obtain ⟨n, h3, h4⟩ := condTo_some hk h2
    exact ⟨n, m, h3, rfl, h4⟩
/-- A node's kinds, with what lies on the stack ahead of it. -/
theorem ev_kinds {l : List Cn} (h : isCond l = true) (ch : List Pk) (k : Nat) (hk : k < l.length) : (evTo l ch k).length ≤ k ∧ (l[k].1 = 0 ∨ l[k].1 = 1 ∨ (l[k].1 = 2 ∧ 1 ≤ (evTo l ch k).length) ∨ (l[k].1 = 3 ∧ 2 ≤ (evTo l ch k).length) ∨ (l[k].1 = 4 ∧ 2 ≤ (evTo l ch k).length)) := by
  obtain ⟨n, m, h1, h2, h3⟩ := isCond_at_all h k hk
  have hl := evTo_len l ch k n (by omega) h1
  have hle := condTo_le h1
  refine ⟨by omega, ?_⟩
  unfold cnNext at h3
  split at h3
  · omega
  · split at h3
    · split at h3
      · cases h3
      · omega
    · split at h3
      · split at h3
        · cases h3
        · omega
      · cases h3
theorem ev_end {l : List Cn} (h : isCond l = true) (ch : List Pk) : (evTo l ch l.length).length = 1 := evTo_len l ch _ 1 (Nat.le_refl _) (isCond_parts h).2
theorem evNext_0 (ch : List Pk) (s : List Bool) (x : Cn) (h : x.1 = 0) : evNext ch s x = s ++ [true] := by unfold evNext; rw [if_pos h]
theorem evNext_1 (ch : List Pk) (s : List Bool) (x : Cn) (h : x.1 = 1) : evNext ch s x = s ++ [hasPk ch x.2.1 x.2.2] := by unfold evNext; rw [if_neg (by omega), if_pos h]
theorem evNext_2 (ch : List Pk) (s : List Bool) (x : Cn) (h : x.1 = 2) : evNext ch s x = s.set (s.length - 1) (!s.getD (s.length - 1) false) := by unfold evNext; rw [if_neg (by omega), if_neg (by omega), if_pos h]
theorem evNext_3 (ch : List Pk) (s : List Bool) (x : Cn) (h : x.1 = 3) : evNext ch s x = s.take (s.length - 2) ++ [s.getD (s.length - 2) false && s.getD (s.length - 1) false] := by unfold evNext; rw [if_neg (by omega), if_neg (by omega), if_neg (by omega), if_pos h]
theorem evNext_4 (ch : List Pk) (s : List Bool) (x : Cn) (h : x.1 = 4) : evNext ch s x = s.take (s.length - 2) ++ [s.getD (s.length - 2) false || s.getD (s.length - 1) false] := by unfold evNext; rw [if_neg (by omega), if_neg (by omega), if_neg (by omega), if_neg (by omega)]
theorem set_two (s : List Bool) (b : Bool) (h : 2 ≤ s.length) : (s.set (s.length - 2) b).take (s.length - 1) = s.take (s.length - 2) ++ [b] := by
  rw [List.take_set, show s.length - 1 = (s.length - 2) + 1 by omega, List.take_add_one, List.getElem?_eq_getElem (by omega), Option.toList_some, List.set_append_right _ _ (by simp)]
  simp only [List.length_take]
  rw [show s.length - 2 - min (s.length - 2) s.length = 0 by omega]; rfl
theorem has_hit {ch : List Pk} {o v : ByteArray} {k : Nat} (hk : k < ch.length) (h : ((ch[k].1.toList == o.toList) && (ch[k].2.toList == v.toList)) = true) : hasPk ch o v = true := by
  unfold hasPk; rw [List.any_eq_true]; exact ⟨ch[k], List.getElem_mem hk, h⟩
theorem has_miss {ch : List Pk} {o v : ByteArray} (h : (ch.take ch.length).any (fun p => (p.1.toList == o.toList) && (p.2.toList == v.toList)) = false) : hasPk ch o v = false := by
  rw [List.take_length] at h; exact h
theorem any_take {α : Type} (l : List α) (p : α → Bool) (k : Nat) (h : k < l.length) : (l.take (k + 1)).any p = ((l.take k).any p || p l[k]) := by
  rw [List.take_add_one, List.getElem?_eq_getElem h, Option.toList_some, List.any_append]; simp
end Go.Proofs.Ytlkolehdikfddaa
/- Demand: its cells, and the walks of the laws' own helpers on lists of it. -/
namespace Go.Proofs.Ytlkolehdikfddaa
open Go.RowKit

abbrev Dm := Int × ByteArray × Int × Int × Int
def dmF : Flat Dm := ⟨fun f => [.int .i64 (f.1), .string (f.2.1), .int .i64 (f.2.2.1), .int .i64 (f.2.2.2.1), .int .i64 (f.2.2.2.2)], 5, fun _ => rfl⟩
abbrev DemandsIn (w : World) (A : Option Addr) (n : Nat) (l : List Dm) : Prop := RowsIn dmF w A n l
theorem demand_at {w : World} {A : Option Addr} {n : Nat} {l : List Dm} (h : DemandsIn w A n l) {k : Nat} (hk : k < l.length) :
    ∃ b o, A = some ⟨b, o, none⟩ ∧ b < w.heap.size ∧ w.cell? ⟨b, o + k * 5, none⟩ = some (.int .i64 (l[k].1)) ∧ w.cell? ⟨b, o + k * 5 + 1, none⟩ = some (.string (l[k].2.1)) ∧ w.cell? ⟨b, o + k * 5 + 2, none⟩ = some (.int .i64 (l[k].2.2.1)) ∧ w.cell? ⟨b, o + k * 5 + 3, none⟩ = some (.int .i64 (l[k].2.2.2.1)) ∧ w.cell? ⟨b, o + k * 5 + 4, none⟩ = some (.int .i64 (l[k].2.2.2.2)) := by
  obtain ⟨b, o, e, hlt, hc⟩ := h.at_ hk
  exact ⟨b, o, e, hlt, hc 0 _ rfl, hc 1 _ rfl, hc 2 _ rfl, hc 3 _ rfl, hc 4 _ rfl⟩
theorem demandInfo : (Try.prog.info? 50).map (fun i => (i.zero, i.size, i.bytes)) = some (some (.agg #[.int .i64 0, .string ByteArray.empty, .int .i64 0, .int .i64 0, .int .i64 0]), 5, 48) := by kernel_rfl
theorem demandElem : ElemOk dmF 35 50 := by
  obtain ⟨i, h1, h2, h3, h4⟩ := info_parts demandInfo
  exact ⟨i, _, 48, Try.underlying35, h1, h2, h3, h4, rfl, by decide, by omega⟩
def okDm (x : Dm) : Prop := x.2.1.size ≤ 9223372036854775807
end Go.Proofs.Ytlkolehdikfddaa
/- The walks of AreDemands. -/
namespace Go.Proofs.Ytlkolehdikfddaa
open Go.RowKit
def dmNone : Dm := (0, ByteArray.empty, 0, 0, 0)
def okDem (l : List Dm) (k : Nat) : Bool :=
  inB (l.getD k dmNone).1 1 9999 && (isCode (l.getD k dmNone).2.1 && (inB (l.getD k dmNone).2.2.1 1 100000 && (inB (l.getD k dmNone).2.2.2.1 0 999 && (inB (l.getD k dmNone).2.2.2.2 0 9 && !((List.range k).any fun j => (l.getD j dmNone).1 == (l.getD k dmNone).1)))))
def areDemands (l : List Dm) : Bool := (List.range l.length).all (okDem l) && decide ((l.length : Int) ≤ 16)
theorem areDemands_no {l : List Dm} {k : Nat} (hk : k < l.length) (h : okDem l k = false) : areDemands l = false := by
  unfold areDemands
  have : (List.range l.length).all (okDem l) = false := by rw [List.all_eq_false]; exact ⟨k, by simpa using hk, by simp [h]⟩
  simp [this]
theorem areDemands_end {l : List Dm} (h : ∀ j < l.length, okDem l j = true) : areDemands l = decide ((l.length : Int) ≤ 16) := by
  unfold areDemands
  have : (List.range l.length).all (okDem l) = true := by rw [List.all_eq_true]; intro x hx; exact h x (by simpa using hx)
  simp [this]
theorem areDemands_16 {l : List Dm} (h : ¬ (l.length : Int) ≤ 16) : areDemands l = false := by unfold areDemands; rw [decide_eq_false h, Bool.and_false]
theorem dm_getD (l : List Dm) (k : Nat) (h : k < l.length) : l.getD k dmNone = l[k] := by
  rw [List.getD_eq_getElem?_getD, List.getElem?_eq_getElem h]; rfl
theorem dm_any {l : List Dm} {k : Nat} (hk : k < l.length) (h : ∀ j (hj : j < l.length), j < k → l[j].1 ≠ l[k].1) : ((List.range k).any fun j => (l.getD j dmNone).1 == l[k].1) = false := by
  rw [List.any_eq_false]
  intro j hj
  rw [List.mem_range] at hj
  rw [dm_getD l j (by omega)]
  simpa using h j (by omega) hj
theorem dm_any_yes {l : List Dm} {k : Nat} (hk : k < l.length) (j : Nat) (hj : j < l.length) (hjk : j < k) (he : l[j].1 = l[k].1) : ((List.range k).any fun j => (l.getD j dmNone).1 == l[k].1) = true := by
  rw [List.any_eq_true]
  exact ⟨j, by rw [List.mem_range]; exact hjk, by rw [dm_getD l j hj]; simpa using he⟩
set_option maxRecDepth 100000 in
set_option maxHeartbeats 4000000 in
theorem specAreDemands_any (A : Option Addr) (n c : Nat) (l : List Dm) (w : World) (hl : DemandsIn w A n l) (hok : ∀ x ∈ l, okDm x) :
    Calls Try.prog 21 #[.slice A n c] w fun e w' => e = .returned (.bool (areDemands l)) ∧ Below w.heap.size w w' := by
  have hn := hl.len
  obtain rfl := hl.1
  have HO := Lib.hid hok
  clear hok
  by_cases h16 : (l.length : Int) ≤ 16
  case neg =>
    go_enter Try.func21, Try.ntmps21
    go_wp2
    refine wp_loop_rounds 1 ?_
    rw [rounds_succ]
    go_wp2
    all_goals
      go_ret
      exact ⟨ret_bool (by rw [areDemands_16 (l := l) (by omega)]; first | rfl | exact decide_eq_false (by omega)), Below.refl _ _⟩
  go_enter Try.func21, Try.ntmps21
  go_wp2
  go_loopw [3] (fun i wr => ∃ k : Nat, k ≤ l.length ∧ i = .int .i64 k ∧ Hid (∀ j < k, okDem l j = true) ∧ Below w.heap.size w wr) (fun i _ => l.length - (intOf i).toNat)
  case atStart => exact ⟨0, by omega, rfl, fun j h => absurd h (by omega), Below.refl _ _⟩
  case round =>
    obtain ⟨k, hk, rfl, HI, HD⟩ := hrel
    by_cases hlt : k < l.length
    · have hsz := HO.out _ (List.getElem_mem hlt)
      unfold okDm at hsz
      have hsw := HD.size
      obtain ⟨b, o, rfl, hbl, hc0, hc1, hc2, hc3, hc4⟩ := demand_at (hl.keep HD) hlt
      have HG : Hid (l.getD k dmNone = l[k]) := dm_getD _ _ hlt
      cases h1 : inB l[k].1 1 9999
      · go_wp2_with (first | (go_at_call 42; refine (l1In_any _ _ _ _).mono ?_; rintro e w' ⟨rfl, rfl⟩) | (go_at_call 44; refine (specIsCode_any _ _ hsz).mono ?_; rintro e w' ⟨rfl, rfl⟩))
        go_ret
        exact ⟨ret_bool (areDemands_no hlt (by unfold okDem; rw [HG.out, h1]; rfl)).symm, HD.alloc hsw _⟩
      cases h2 : isCode l[k].2.1
      · go_wp2_with (first | (go_at_call 42; refine (l1In_any _ _ _ _).mono ?_; rintro e w' ⟨rfl, rfl⟩) | (go_at_call 44; refine (specIsCode_any _ _ hsz).mono ?_; rintro e w' ⟨rfl, rfl⟩))
        go_ret
        exact ⟨ret_bool (areDemands_no hlt (by unfold okDem; rw [HG.out, h1, h2]; rfl)).symm, HD.alloc hsw _⟩
      cases h3 : inB l[k].2.2.1 1 100000
      · go_wp2_with (first | (go_at_call 42; refine (l1In_any _ _ _ _).mono ?_; rintro e w' ⟨rfl, rfl⟩) | (go_at_call 44; refine (specIsCode_any _ _ hsz).mono ?_; rintro e w' ⟨rfl, rfl⟩))
        go_ret
        exact ⟨ret_bool (areDemands_no hlt (by unfold okDem; rw [HG.out, h1, h2, h3]; rfl)).symm, HD.alloc hsw _⟩
      cases h4 : inB l[k].2.2.2.1 0 999
      · go_wp2_with (first | (go_at_call 42; refine (l1In_any _ _ _ _).mono ?_; rintro e w' ⟨rfl, rfl⟩) | (go_at_call 44; refine (specIsCode_any _ _ hsz).mono ?_; rintro e w' ⟨rfl, rfl⟩))
        go_ret
        exact ⟨ret_bool (areDemands_no hlt (by unfold okDem; rw [HG.out, h1, h2, h3, h4]; rfl)).symm, HD.alloc hsw _⟩
      cases h5 : inB l[k].2.2.2.2 0 9
      · go_wp2_with (first | (go_at_call 42; refine (l1In_any _ _ _ _).mono ?_; rintro e w' ⟨rfl, rfl⟩) | (go_at_call 44; refine (specIsCode_any _ _ hsz).mono ?_; rintro e w' ⟨rfl, rfl⟩))
        go_ret
        exact ⟨ret_bool (areDemands_no hlt (by unfold okDem; rw [HG.out, h1, h2, h3, h4, h5]; rfl)).symm, HD.alloc hsw _⟩
      have HX : Hid ((∀ j (hj : j < l.length), j < k → l[j].1 ≠ l[k].1) → ∀ j < k + 1, okDem l j = true) := fun hb j hj => by
        rcases Nat.lt_or_ge j k with e1 | e1
        · exact HI.out j e1
        · obtain rfl : j = k := by omega
          unfold okDem
          rw [HG.out, h1, h2, h3, h4, h5, dm_any hlt hb]; rfl
      have HN : Hid (∀ j (hj : j < l.length), j < k → l[j].1 = l[k].1 → areDemands l = false) := fun j hj hjk he => areDemands_no hlt (by
        unfold okDem
        rw [HG.out, h1, h2, h3, h4, h5, dm_any_yes hlt j hj hjk he]; rfl)
      have x0 : (wr.alloc (.cells #[.int .i64 l[k].1, .string l[k].2.1, .int .i64 l[k].2.2.1, .int .i64 l[k].2.2.2.1, .int .i64 l[k].2.2.2.2] 50)).cell? ⟨wr.heap.size, 0, none⟩ = some (.int .i64 l[k].1) := by simp [go_sem]
      have HD1 := HD.alloc hsw (.cells #[.int .i64 l[k].1, .string l[k].2.1, .int .i64 l[k].2.2.1, .int .i64 l[k].2.2.2.1, .int .i64 l[k].2.2.2.2] 50)
      have hz1 : wr.heap.size < (wr.alloc (.cells #[.int .i64 l[k].1, .string l[k].2.1, .int .i64 l[k].2.2.1, .int .i64 l[k].2.2.2.1, .int .i64 l[k].2.2.2.2] 50)).heap.size := by simp
      go_wp2_with (first | (go_at_call 42; refine (l1In_any _ _ _ _).mono ?_; rintro e w' ⟨rfl, rfl⟩) | (go_at_call 44; refine (specIsCode_any _ _ hsz).mono ?_; rintro e w' ⟨rfl, rfl⟩))
      clear hc0 hc1 hc2 hc3 hc4 hbl HI h1 h2 h3 h4 h5 hsz
      generalize wr.alloc (.cells #[.int .i64 l[k].1, .string l[k].2.1, .int .i64 l[k].2.2.1, .int .i64 l[k].2.2.2.1, .int .i64 l[k].2.2.2.2] 50) = W1 at *
      have hswr := hsw
      generalize wr.heap.size = H at *
      go_loopw [5] (fun i wr => ∃ j : Nat, j ≤ k ∧ i = .int .i64 j ∧ Hid (∀ i (hi : i < l.length), i < j → l[i].1 ≠ l[k].1) ∧ H < wr.heap.size ∧ wr.cell? ⟨H, 0, none⟩ = some (.int .i64 l[k].1) ∧ Below w.heap.size w wr) (fun i _ => k - (intOf i).toNat)
      case atStart => exact ⟨0, by omega, rfl, fun i _ h => absurd h (by omega), hz1, x0, HD1⟩
      case round =>
        clear x0 HD1 hz1 HD
        obtain ⟨j, hj, rfl, HJ, hz1, x0, HD⟩ := hrel
        by_cases hjk : j < k
        · have hjl : j < l.length := by omega
          have hsw := HD.size
          obtain ⟨b2, o2, e2, hbl, hc0, hc1, hc2, hc3, hc4⟩ := demand_at (hl.keep HD) hjl
          obtain ⟨rfl, rfl⟩ : b = b2 ∧ o = o2 := by simpa using e2
          by_cases he : l[j].1 = l[k].1
          · have hq : (l[j].1 == l[k].1) = true := by rw [beq_iff_eq]; exact he
            have HE := Lib.hid (HN.out j hjl hjk he)
            clear he
            go_wp2
            go_quiet (fail)
            go_wp2
            go_ret
            exact ⟨ret_bool HE.out.symm, below_drewN HD _⟩
          · have hq : (l[j].1 == l[k].1) = false := by rw [beq_eq_false_iff_ne]; exact he
            have HJ2 : Hid (∀ i (hi : i < l.length), i < j + 1 → l[i].1 ≠ l[k].1) := fun i hi hij => by
              rcases Nat.lt_or_ge i j with e1 | e1
              · exact HJ.out i hi e1
              · obtain rfl : i = j := by omega
                exact he
            clear he
            go_wp2
            go_quiet (fail)
            go_wp2
            go_roundw
            case rel => exact ⟨j + 1, by omega, by go_num, HJ2.out, hz1, x0, below_drewN HD _⟩
            case measure => simp [intOf]; omega
        · obtain rfl : j = k := by omega
          have HY := Lib.hid (HX.out HJ.out)
          go_wp2
          go_roundw
          case rel => exact ⟨j + 1, by omega, by go_num, HY.out, HD⟩
          case measure => simp [intOf]; omega
    · obtain rfl : k = l.length := by omega
      go_wp2
      all_goals
        go_ret
        first
          | exact ⟨ret_bool (areDemands_end HI.out).symm, HD⟩
          | exact ⟨ret_bool (by rw [areDemands_end HI.out]; exact (decide_eq_true h16).symm), HD⟩
set_option maxRecDepth 100000 in
set_option maxHeartbeats 4000000 in
theorem implAreDemands_any (A : Option Addr) (n c : Nat) (l : List Dm) (w : World) (hl : DemandsIn w A n l) (hok : ∀ x ∈ l, okDm x) (hnc : n ≤ c) :
    Calls Try.prog 17 #[.slice A n c] w fun e w' => e = .returned (.bool (areDemands l)) ∧ Below w.heap.size w w' := by
  have hn := hl.len
  obtain rfl := hl.1
  have HO := Lib.hid hok
  clear hok
  go_enter Try.func17, Try.ntmps17
  go_wp2
  go_loopw [9] (fun i wr => ∃ k : Nat, k ≤ l.length ∧ i = .int .i64 k ∧ Hid (∀ j < k, okDem l j = true) ∧ Below w.heap.size w wr) (fun i _ => l.length - (intOf i).toNat)
  case atStart => exact ⟨0, by omega, rfl, fun j h => absurd h (by omega), Below.refl _ _⟩
  case round =>
    obtain ⟨k, hk, rfl, HI, HD⟩ := hrel
    by_cases hlt : k < l.length
    · have hsz := HO.out _ (List.getElem_mem hlt)
      unfold okDm at hsz
      have hsw := HD.size
      obtain ⟨b, o, rfl, hbl, hc0, hc1, hc2, hc3, hc4⟩ := demand_at (hl.keep HD) hlt
      have HG : Hid (l.getD k dmNone = l[k]) := dm_getD _ _ hlt
      have hkc : k ≤ c := by omega
      cases h1 : inB l[k].1 1 9999
      · go_wp2_with (first | (go_at_call 25; refine (in_any _ _ _ _).mono ?_; rintro e w' ⟨rfl, rfl⟩) | (go_at_call 39; refine (implIsCode_any _ _ hsz).mono ?_; rintro e w' ⟨rfl, rfl⟩))
        go_ret
        exact ⟨ret_bool (areDemands_no hlt (by unfold okDem; rw [HG.out, h1]; rfl)).symm, HD.alloc hsw _⟩
      cases h2 : isCode l[k].2.1
      · go_wp2_with (first | (go_at_call 25; refine (in_any _ _ _ _).mono ?_; rintro e w' ⟨rfl, rfl⟩) | (go_at_call 39; refine (implIsCode_any _ _ hsz).mono ?_; rintro e w' ⟨rfl, rfl⟩))
        go_ret
        exact ⟨ret_bool (areDemands_no hlt (by unfold okDem; rw [HG.out, h1, h2]; rfl)).symm, HD.alloc hsw _⟩
      cases h3 : inB l[k].2.2.1 1 100000
      · go_wp2_with (first | (go_at_call 25; refine (in_any _ _ _ _).mono ?_; rintro e w' ⟨rfl, rfl⟩) | (go_at_call 39; refine (implIsCode_any _ _ hsz).mono ?_; rintro e w' ⟨rfl, rfl⟩))
        go_ret
        exact ⟨ret_bool (areDemands_no hlt (by unfold okDem; rw [HG.out, h1, h2, h3]; rfl)).symm, HD.alloc hsw _⟩
      cases h4 : inB l[k].2.2.2.1 0 999
      · go_wp2_with (first | (go_at_call 25; refine (in_any _ _ _ _).mono ?_; rintro e w' ⟨rfl, rfl⟩) | (go_at_call 39; refine (implIsCode_any _ _ hsz).mono ?_; rintro e w' ⟨rfl, rfl⟩))
        go_ret
        exact ⟨ret_bool (areDemands_no hlt (by unfold okDem; rw [HG.out, h1, h2, h3, h4]; rfl)).symm, HD.alloc hsw _⟩
      cases h5 : inB l[k].2.2.2.2 0 9
      · go_wp2_with (first | (go_at_call 25; refine (in_any _ _ _ _).mono ?_; rintro e w' ⟨rfl, rfl⟩) | (go_at_call 39; refine (implIsCode_any _ _ hsz).mono ?_; rintro e w' ⟨rfl, rfl⟩))
        go_ret
        exact ⟨ret_bool (areDemands_no hlt (by unfold okDem; rw [HG.out, h1, h2, h3, h4, h5]; rfl)).symm, HD.alloc hsw _⟩
      have HX : Hid ((∀ j (hj : j < l.length), j < k → l[j].1 ≠ l[k].1) → ∀ j < k + 1, okDem l j = true) := fun hb j hj => by
        rcases Nat.lt_or_ge j k with e1 | e1
        · exact HI.out j e1
        · obtain rfl : j = k := by omega
          unfold okDem
          rw [HG.out, h1, h2, h3, h4, h5, dm_any hlt hb]; rfl
      have HN : Hid (∀ j (hj : j < l.length), j < k → l[j].1 = l[k].1 → areDemands l = false) := fun j hj hjk he => areDemands_no hlt (by
        unfold okDem
        rw [HG.out, h1, h2, h3, h4, h5, dm_any_yes hlt j hj hjk he]; rfl)
      have x0 : (wr.alloc (.cells #[.int .i64 l[k].1, .string l[k].2.1, .int .i64 l[k].2.2.1, .int .i64 l[k].2.2.2.1, .int .i64 l[k].2.2.2.2] 50)).cell? ⟨wr.heap.size, 0, none⟩ = some (.int .i64 l[k].1) := by simp [go_sem]
      have HD1 := HD.alloc hsw (.cells #[.int .i64 l[k].1, .string l[k].2.1, .int .i64 l[k].2.2.1, .int .i64 l[k].2.2.2.1, .int .i64 l[k].2.2.2.2] 50)
      have hz1 : wr.heap.size < (wr.alloc (.cells #[.int .i64 l[k].1, .string l[k].2.1, .int .i64 l[k].2.2.1, .int .i64 l[k].2.2.2.1, .int .i64 l[k].2.2.2.2] 50)).heap.size := by simp
      go_wp2_with (first | (go_at_call 25; refine (in_any _ _ _ _).mono ?_; rintro e w' ⟨rfl, rfl⟩) | (go_at_call 39; refine (implIsCode_any _ _ hsz).mono ?_; rintro e w' ⟨rfl, rfl⟩))
      clear hc0 hc1 hc2 hc3 hc4 hbl HI h1 h2 h3 h4 h5 hsz
      generalize wr.alloc (.cells #[.int .i64 l[k].1, .string l[k].2.1, .int .i64 l[k].2.2.1, .int .i64 l[k].2.2.2.1, .int .i64 l[k].2.2.2.2] 50) = W1 at *
      have hswr := hsw
      generalize wr.heap.size = H at *
      go_loopw [46] (fun i wr => ∃ j : Nat, j ≤ k ∧ i = .int .i64 j ∧ Hid (∀ i (hi : i < l.length), i < j → l[i].1 ≠ l[k].1) ∧ H < wr.heap.size ∧ wr.cell? ⟨H, 0, none⟩ = some (.int .i64 l[k].1) ∧ Below w.heap.size w wr) (fun i _ => k - (intOf i).toNat)
      case atStart => exact ⟨0, by omega, rfl, fun i _ h => absurd h (by omega), hz1, x0, HD1⟩
      case round =>
        clear x0 HD1 hz1 HD
        obtain ⟨j, hj, rfl, HJ, hz1, x0, HD⟩ := hrel
        by_cases hjk : j < k
        · have hjl : j < l.length := by omega
          have hsw := HD.size
          obtain ⟨b2, o2, e2, hbl, hc0, hc1, hc2, hc3, hc4⟩ := demand_at (hl.keep HD) hjl
          obtain ⟨rfl, rfl⟩ : b = b2 ∧ o = o2 := by simpa using e2
          have hw0 := World.cell?_alloc_lt wr (.cells #[.int .i64 l[j].1, .string l[j].2.1, .int .i64 l[j].2.2.1, .int .i64 l[j].2.2.2.1, .int .i64 l[j].2.2.2.2] 50) ⟨H, 0, none⟩ hz1
          rw [x0] at hw0
          by_cases he : l[j].1 = l[k].1
          · have hq : (l[j].1 == l[k].1) = true := by rw [beq_iff_eq]; exact he
            have HE := Lib.hid (HN.out j hjl hjk he)
            clear he
            go_wp2
            go_ret
            exact ⟨ret_bool HE.out.symm, HD.alloc hsw _⟩
          · have hq : (l[j].1 == l[k].1) = false := by rw [beq_eq_false_iff_ne]; exact he
            have HJ2 : Hid (∀ i (hi : i < l.length), i < j + 1 → l[i].1 ≠ l[k].1) := fun i hi hij => by
              rcases Nat.lt_or_ge i j with e1 | e1
              · exact HJ.out i hi e1
              · obtain rfl : i = j := by omega
                exact he
            clear he
            go_wp2
            go_roundw
            case rel => exact ⟨j + 1, by omega, by go_num, HJ2.out, by simp; omega, hw0, HD.alloc hsw _⟩
            case measure => simp [intOf]; omega
        · obtain rfl : j = k := by omega
          have HY := Lib.hid (HX.out HJ.out)
          go_wp2
          go_roundw
          case rel => exact ⟨j + 1, by omega, by go_num, HY.out, HD⟩
          case measure => simp [intOf]; omega
    · obtain rfl : k = l.length := by omega
      go_wp2
      all_goals
        go_ret
        first
          | exact ⟨ret_bool (areDemands_end HI.out).symm, HD⟩
          | exact ⟨ret_bool (by rw [areDemands_end HI.out]; exact (decide_eq_true h16).symm), HD⟩
end Go.Proofs.Ytlkolehdikfddaa
/- The walks of the functions on flows that all later ones use. -/
namespace Go.Proofs.Ytlkolehdikfddaa
open Go.RowKit

/-- A flow: its day and its quantity. -/
abbrev Fl := Int × Int
def flF : Flat Fl := ⟨fun f => [.int .i64 f.1, .int .i64 f.2], 2, fun _ => rfl⟩
abbrev FlowsIn (w : World) (A : Option Addr) (n : Nat) (l : List Fl) : Prop := RowsIn flF w A n l
theorem flow_at {w : World} {A : Option Addr} {n : Nat} {l : List Fl} (h : FlowsIn w A n l) {k : Nat} (hk : k < l.length) :
    ∃ b o, A = some ⟨b, o, none⟩ ∧ b < w.heap.size ∧ w.cell? ⟨b, o + k * 2, none⟩ = some (.int .i64 l[k].1) ∧ w.cell? ⟨b, o + k * 2 + 1, none⟩ = some (.int .i64 l[k].2) := by
  obtain ⟨b, o, e, hlt, hc⟩ := h.at_ hk
  exact ⟨b, o, e, hlt, hc 0 _ rfl, hc 1 _ rfl⟩

def okFlow (l : List Fl) (k : Nat) : Bool :=
  inB (l.getD k (0, 0)).1 0 999 && (inB (l.getD k (0, 0)).2 1 1000000000 && (decide (k = 0) || decide ((l.getD (k - 1) (0, 0)).1 < (l.getD k (0, 0)).1)))
def areFlows (l : List Fl) : Bool := (List.range l.length).all (okFlow l) && decide ((l.length : Int) ≤ 40)
theorem areFlows_no {l : List Fl} {k : Nat} (hk : k < l.length) (h : okFlow l k = false) : areFlows l = false := by
  unfold areFlows
  have : (List.range l.length).all (okFlow l) = false := by rw [List.all_eq_false]; exact ⟨k, by simpa using hk, by simp [h]⟩
  simp [this]
theorem areFlows_end {l : List Fl} (h : ∀ j < l.length, okFlow l j = true) : areFlows l = decide ((l.length : Int) ≤ 40) := by
  unfold areFlows
  have : (List.range l.length).all (okFlow l) = true := by rw [List.all_eq_true]; intro x hx; exact h x (by simpa using hx)
  simp [this]
theorem getD_at {α : Type} (l : List α) (k : Nat) (d : α) (h : k < l.length) : l.getD k d = l[k] := by
  rw [List.getD_eq_getElem?_getD, List.getElem?_eq_getElem h]; rfl


set_option maxRecDepth 100000 in
set_option maxHeartbeats 1000000 in
theorem specAreFlows_any (A : Option Addr) (n c : Nat) (l : List Fl) (w : World) (hl : FlowsIn w A n l) :
    Calls Try.prog 76 #[.slice A n c] w fun e w' => e = .returned (.bool (areFlows l)) ∧ Drew w w' := by
  have hn := hl.len
  obtain rfl := hl.1
  go_enter Try.func76, Try.ntmps76
  go_wp2
  go_loopw [3] (fun i wr => ∃ k : Nat, k ≤ l.length ∧ i = .int .i64 k ∧ Hid (∀ j < k, okFlow l j = true) ∧ Drew w wr) (fun i _ => l.length - (intOf i).toNat)
  case atStart => exact ⟨0, by omega, rfl, fun j h => absurd h (by omega), Drew.refl _⟩
  case round =>
    obtain ⟨k, hk, rfl, HI, HD⟩ := hrel
    by_cases hlt : k < l.length
    · obtain ⟨b, o, rfl, _, hc1, hc2⟩ := flow_at (hl.keep (HD.below _)) hlt
      have HG : Hid (l.getD k (0, 0) = l[k]) := getD_at _ _ _ hlt
      cases hd : inB l[k].1 0 999
      · go_wp2
        go_quiet ((go_at_call 42; exact quietS (l1In_any _ _ _)))
        go_wp2
        go_ret
        exact ⟨ret_bool (areFlows_no hlt (by unfold okFlow; rw [HG.out, hd]; rfl)).symm, HD.more _⟩
      cases hq : inB l[k].2 1 1000000000
      · go_wp2
        go_quiet ((go_at_call 42; exact quietS (l1In_any _ _ _)))
        go_wp2
        go_ret
        exact ⟨ret_bool (areFlows_no hlt (by unfold okFlow; rw [HG.out, hd, hq]; rfl)).symm, HD.more _⟩
      have hnext : ∀ hb : okFlow l k = true, ∀ j < k + 1, okFlow l j = true := fun hb j hj => by
        rcases Nat.lt_or_ge j k with h1 | h1
        · exact HI.out j h1
        · rw [show j = k by omega]; exact hb
      have HX := Lib.hid hnext; clear hnext
      by_cases h0 : k = 0
      · have hz1 : decide (0 < k) = false := by simp; omega
        have hz2 : decide ((0 : Int) < (k : Int)) = false := by simp; omega
        have H0 := Lib.hid h0; clear h0
        go_wp2
        go_quiet ((go_at_call 42; exact quietS (l1In_any _ _ _)))
        go_wp2
        go_roundw
        case rel => exact ⟨k + 1, by omega, by go_num, HX.out (by unfold okFlow; rw [HG.out, hd, hq]; simp [H0.out]), HD.more _⟩
        case measure => simp [intOf]; omega
      · have hlt2 : k - 1 < l.length := by omega
        obtain ⟨b2, o2, e2, _, hc3, _⟩ := flow_at (hl.keep (HD.below _)) hlt2
        obtain ⟨rfl, rfl⟩ : b = b2 ∧ o = o2 := by simpa using e2
        have hz1 : decide (0 < k) = true := by simp; omega
        have hz2 : decide ((0 : Int) < (k : Int)) = true := by simp; omega
        have hi1 : (0 : Int) ≤ (k : Int) - 1 := by omega
        have hi2 : (k : Int) - 1 < (l.length : Int) := by omega
        have hi3 : ((k : Int) - 1).toNat = k - 1 := by omega
        have HG2 : Hid (l.getD (k - 1) (0, 0) = l[k - 1]) := getD_at _ _ _ hlt2
        by_cases hge : l[k - 1].1 < l[k].1
        · have hz3 : decide (l[k].1 ≤ l[k - 1].1) = false := by simp; omega
          go_wp2
          go_quiet ((go_at_call 42; exact quietS (l1In_any _ _ _)))
          go_wp2
          go_roundw
          case rel => exact ⟨k + 1, by omega, by go_num, HX.out (by unfold okFlow; rw [HG.out, HG2.out, hd, hq]; simp; exact .inr (by assumption)), HD.more _⟩
          case measure => simp [intOf]; omega
        · have hge2 : l[k].1 ≤ l[k - 1].1 := by omega
          have hz3 : decide (l[k].1 ≤ l[k - 1].1) = true := by simp; omega
          go_wp2
          go_quiet ((go_at_call 42; exact quietS (l1In_any _ _ _)))
          go_wp2
          go_ret
          exact ⟨ret_bool (areFlows_no hlt (by unfold okFlow; rw [HG.out, HG2.out, hd, hq]; simp; omega)).symm, HD.more _⟩
    · obtain rfl : k = l.length := by omega
      go_wp2
      go_ret
      exact ⟨ret_bool (areFlows_end HI.out).symm, HD⟩

end Go.Proofs.Ytlkolehdikfddaa
/- Plain facts on sums of flows: no program in sight. -/
namespace Go.Proofs.Ytlkolehdikfddaa

/-- What the flows bring up to a day. -/
def upTo : List Fl → Int → Int
  | [], _ => 0
  | f :: t, d => (if f.1 ≤ d then f.2 else 0) + upTo t d
theorem upTo_append (a b : List Fl) (d : Int) : upTo (a ++ b) d = upTo a d + upTo b d := by
  induction a with
  | nil => simp [upTo]
  | cons f t ih => simp only [List.cons_append, upTo, ih]; omega
theorem upTo_take (l : List Fl) (d : Int) (k : Nat) (h : k < l.length) : upTo (l.take (k + 1)) d = upTo (l.take k) d + if l[k].1 ≤ d then l[k].2 else 0 := by
  rw [List.take_succ_eq_append_getElem h, upTo_append]; simp [upTo]
theorem upTo_bd (l : List Fl) (d : Int) (h : ∀ f ∈ l, 1 ≤ f.2 ∧ f.2 ≤ 1000000000) : 0 ≤ upTo l d ∧ upTo l d ≤ 1000000000 * l.length := by
  induction l with
  | nil => simp [upTo]
  | cons f t ih =>
    obtain ⟨h1, h2⟩ := ih (fun g hg => h g (List.mem_cons_of_mem _ hg))
    have h3 := h f List.mem_cons_self
    simp only [upTo, List.length_cons]
    split <;> omega
def flowUpTo (l : List Fl) (d : Int) : Int := if areFlows l then upTo l d else 0
theorem areFlows_parts {l : List Fl} (h : areFlows l = true) : (∀ j < l.length, okFlow l j = true) ∧ l.length ≤ 40 := by
  simp only [areFlows, Bool.and_eq_true, List.all_eq_true, List.mem_range, decide_eq_true_eq] at h
  exact ⟨h.1, by omega⟩
theorem areFlows_mem {l : List Fl} (h : areFlows l = true) : ∀ f ∈ l, (0 ≤ f.1 ∧ f.1 ≤ 999) ∧ 1 ≤ f.2 ∧ f.2 ≤ 1000000000 := by
  intro f hf
  obtain ⟨j, hj, rfl⟩ := List.getElem_of_mem hf
  have := (areFlows_parts h).1 j hj
  simp only [okFlow, getD_at _ _ _ hj, Bool.and_eq_true, inB_iff] at this
  exact ⟨this.1, this.2.1⟩
theorem areFlows_bd {l : List Fl} (h : areFlows l = true) (d : Int) (k : Nat) : 0 ≤ upTo (l.take k) d ∧ upTo (l.take k) d ≤ 40000000000 := by
  obtain ⟨h1, h2⟩ := upTo_bd (l.take k) d (fun f hf => (areFlows_mem h f (List.mem_of_mem_take hf)).2)
  have h3 := (areFlows_parts h).2
  have h4 : (l.take k).length ≤ 40 := by simp; omega
  exact ⟨h1, by omega⟩
theorem flowUpTo_bd (l : List Fl) (d : Int) : 0 ≤ flowUpTo l d ∧ flowUpTo l d ≤ 40000000000 := by
  unfold flowUpTo
  cases h : areFlows l
  · simp
  · have := areFlows_bd h d l.length
    rw [List.take_length] at this
    simpa using this
theorem flowUpTo_yes {l : List Fl} (h : areFlows l = true) (d : Int) : flowUpTo l d = upTo l d := by simp [flowUpTo, h]
theorem flowUpTo_no {l : List Fl} (h : areFlows l = false) (d : Int) : flowUpTo l d = 0 := by simp [flowUpTo, h]

def spareOn (needs lots : List Fl) (d : Int) : Int := if areFlows needs && areFlows lots then flowUpTo lots d - flowUpTo needs d else 0

/-- The greatest excess of demands over supplies up to one of the first k demands' days. -/
def lackTo (dem sup : List Fl) : Nat → Int
  | 0 => 0
  | k + 1 => max (lackTo dem sup k) (flowUpTo dem (dem.getD k (0, 0)).1 - flowUpTo sup (dem.getD k (0, 0)).1)
def lackOf (dem sup : List Fl) : Int × Bool := if areFlows dem && areFlows sup then (lackTo dem sup dem.length, true) else (0, false)
/-- Whether no more has been promised up to the day of any promise than is there. -/
def isKept (sup prom : List Fl) : Bool :=
  areFlows sup && (areFlows prom && (List.range prom.length).all fun k => decide (flowUpTo prom (prom.getD k (0, 0)).1 ≤ flowUpTo sup (prom.getD k (0, 0)).1))
/-- How much more can be promised for a day, looking at the first k promises. -/
def openTo (sup prom : List Fl) (d : Int) : Nat → Int
  | 0 => flowUpTo sup d - flowUpTo prom d
  | k + 1 => if d < (prom.getD k (0, 0)).1 then min (openTo sup prom d k) (flowUpTo sup (prom.getD k (0, 0)).1 - flowUpTo prom (prom.getD k (0, 0)).1) else openTo sup prom d k
def openOn (sup prom : List Fl) (d : Int) : Int := if isKept sup prom && inB d 0 999 then openTo sup prom d prom.length else 0
/-- The first of the days from 'd' on, n of them, at which so much is open. -/
def firstOpen (sup prom : List Fl) (q : Int) : Nat → Int → Int × Bool
  | 0, _ => (0, false)
  | n + 1, d => if q ≤ openOn sup prom d then (d, true) else firstOpen sup prom q n (d + 1)
def promiseDay (sup prom : List Fl) (q d : Int) : Int × Bool :=
  if isKept sup prom && (inB q 1 1000000000 && inB d 0 999) then firstOpen sup prom q (1000 - d.toNat) d else (0, false)
end Go.Proofs.Ytlkolehdikfddaa
/- Adding a flow to flows in ascending order: the reference's way and the program's come to one. -/
namespace Go.Proofs.Ytlkolehdikfddaa

/-- The reference's way. -/
def addS : List Fl → Int → Int → List Fl
  | [], d, q => [(d, q)]
  | f :: t, d, q => if f.1 < d then f :: addS t d q else if f.1 = d then (f.1, f.2 + q) :: t else (d, q) :: f :: t
theorem addS_take (l : List Fl) (d q : Int) (k : Nat) (hk : k ≤ l.length) (h : ∀ j (hj : j < l.length), j < k → l[j].1 < d) : addS l d q = l.take k ++ addS (l.drop k) d q := by
  induction l generalizing k with
  | nil => simp at hk; subst hk; simp
  | cons f t ih =>
    cases k with
    | zero => simp
    | succ k =>
      have h0 := h 0 (by simp) (by omega)
      simp at h0
      have := ih k (by simpa using hk) (fun j hj hjk => by have := h (j + 1) (by simpa using hj) (by omega); simpa using this)
      simp [addS, h0, this]
theorem addS_end (l : List Fl) (d q : Int) (h : ∀ j (hj : j < l.length), j < l.length → l[j].1 < d) : addS l d q = l ++ [(d, q)] := by
  rw [addS_take l d q l.length (Nat.le_refl _) h]; simp [addS]
theorem addS_eq (l : List Fl) (d q : Int) (k : Nat) (hk : k < l.length) (h : ∀ j (hj : j < l.length), j < k → l[j].1 < d) (he : l[k].1 = d) : addS l d q = l.set k (l[k].1, l[k].2 + q) := by
  rw [addS_take l d q k (by omega) h, List.drop_eq_getElem_cons hk, addS, if_neg (by omega), if_pos he, List.set_eq_take_append_cons_drop, if_pos hk]
theorem addS_gt (l : List Fl) (d q : Int) (k : Nat) (hk : k < l.length) (h : ∀ j (hj : j < l.length), j < k → l[j].1 < d) (hg : d < l[k].1) : addS l d q = l.take k ++ [(d, q)] ++ l.drop k := by
  rw [addS_take l d q k (by omega) h, List.drop_eq_getElem_cons hk, addS, if_neg (by omega), if_neg (by omega)]
  simp
theorem addS_len (l : List Fl) (d q : Int) : (addS l d q).length ≤ l.length + 1 := by
  induction l with
  | nil => simp [addS]
  | cons f t ih =>
    simp only [addS]
    split
    · simp; omega
    · split <;> simp
/-- The program's way: one step. -/
def addStep (d q : Int) (s : List Fl × Bool) (f : Fl) : List Fl × Bool :=
  let o := if !s.2 && decide (d < f.1) then s.1 ++ [(d, q)] else s.1
  if d = f.1 then (o ++ [(f.1, f.2 + q)], true) else (o ++ [f], s.2 || decide (d < f.1))
def addTo (l : List Fl) (d q : Int) (k : Nat) : List Fl × Bool := (l.take k).foldl (addStep d q) ([], false)
def addI (l : List Fl) (d q : Int) : List Fl := if (addTo l d q l.length).2 then (addTo l d q l.length).1 else (addTo l d q l.length).1 ++ [(d, q)]
/-- The days ascend. -/
def ascends (l : List Fl) : Prop := ∀ i j (hj : j < l.length) (_ : i < j), (l[i]'(by omega)).1 < l[j].1
theorem ascends_tail {f : Fl} {t : List Fl} (h : ascends (f :: t)) : ascends t := fun i j hj hij => by
  have := h (i + 1) (j + 1) (by simpa using hj) (by omega)
  simpa using this
theorem ascends_head {f : Fl} {t : List Fl} (h : ascends (f :: t)) : ∀ g ∈ t, f.1 < g.1 := fun g hg => by
  obtain ⟨i, hi, rfl⟩ := List.getElem_of_mem hg
  have := h 0 (i + 1) (by simpa using hi) (by omega)
  simpa using this
theorem ascends_cons {f : Fl} {t : List Fl} (h : ascends t) (hf : ∀ g ∈ t, f.1 < g.1) : ascends (f :: t) := by
  intro i j hj hij
  cases j with
  | zero => omega
  | succ j =>
    cases i with
    | zero => simpa using hf _ (List.getElem_mem (by simpa using hj))
    | succ i => simpa using h i j (by simpa using hj) (by omega)
theorem addS_mem (l : List Fl) (d q : Int) : ∀ g ∈ addS l d q, g.1 = d ∨ ∃ f ∈ l, g.1 = f.1 := by
  induction l with
  | nil => intro g hg; simp [addS] at hg; left; rw [hg]
  | cons f t ih =>
    intro g hg
    simp only [addS] at hg
    split at hg
    · rcases List.mem_cons.1 hg with rfl | hg
      · exact .inr ⟨_, List.mem_cons_self, rfl⟩
      · rcases ih g hg with h | ⟨x, hx, h⟩
        · exact .inl h
        · exact .inr ⟨x, List.mem_cons_of_mem _ hx, h⟩
    · split at hg
      · rcases List.mem_cons.1 hg with rfl | hg
        · exact .inr ⟨f, List.mem_cons_self, rfl⟩
        · exact .inr ⟨g, List.mem_cons_of_mem _ hg, rfl⟩
      · rcases List.mem_cons.1 hg with rfl | hg
        · exact .inl rfl
        · exact .inr ⟨g, hg, rfl⟩
theorem addS_ascends (l : List Fl) (d q : Int) (h : ascends l) : ascends (addS l d q) := by
  induction l with
  | nil => intro i j hj hij; simp [addS] at hj; omega
  | cons f t ih =>
    have hh := ascends_head h
    have ht := ascends_tail h
    simp only [addS]
    split
    · rename_i h1
      refine ascends_cons (ih ht) (fun g hg => ?_)
      rcases addS_mem t d q g hg with h2 | ⟨x, hx, h2⟩
      · omega
      · have := hh x hx; omega
    · split
      · exact ascends_cons ht (fun g hg => hh g hg)
      · refine ascends_cons h (fun g hg => ?_)
        rcases List.mem_cons.1 hg with rfl | hg
        · omega
        · have := hh g hg; simp only; omega
/-- Bounds on the quantities are kept. -/
theorem addS_bd (l : List Fl) (d q lo hi a b : Int) (h : ∀ f ∈ l, lo ≤ f.2 ∧ f.2 ≤ hi) (hq : a ≤ q ∧ q ≤ b) (ha : a ≤ 0) (hb : 0 ≤ b) (hlo : lo ≤ 0) (hhi : 0 ≤ hi) : ∀ f ∈ addS l d q, lo + a ≤ f.2 ∧ f.2 ≤ hi + b := by
  induction l with
  | nil => intro f hf; simp [addS] at hf; rw [hf]; simp only; omega
  | cons g t ih =>
    have hg := h g List.mem_cons_self
    have ht := ih (fun f hf => h f (List.mem_cons_of_mem _ hf))
    intro f hf
    simp only [addS] at hf
    split at hf
    · rcases List.mem_cons.1 hf with rfl | hf
      · omega
      · exact ht f hf
    · split at hf
      · rcases List.mem_cons.1 hf with rfl | hf
        · simp only; omega
        · have := h f (List.mem_cons_of_mem _ hf); omega
      · rcases List.mem_cons.1 hf with rfl | hf
        · simp only; omega
        · have := h f hf; omega
end Go.Proofs.Ytlkolehdikfddaa
/- The walks of the laws' own helpers on flows: copies, comparisons, marks. -/
namespace Go.Proofs.Ytlkolehdikfddaa
open Go.RowKit

theorem flowInfo : (Try.prog.info? 107).map (fun i => (i.zero, i.size, i.bytes)) = some (some (.agg #[.int .i64 0, .int .i64 0]), 2, 16) := by kernel_rfl
end Go.Proofs.Ytlkolehdikfddaa
/- The endings of calls that hand back flows. -/
namespace Go.Proofs.Ytlkolehdikfddaa
open Go.RowKit
theorem flowElem : ElemOk flF 102 107 := by
  obtain ⟨i, h1, h2, h3, h4⟩ := info_parts flowInfo
  exact ⟨i, _, 16, Try.underlying102, h1, h2, h3, h4, rfl, by decide, by omega⟩
/-- The ending of a call that hands back a row of flows and whether it is one. -/
def PairRows (w : World) (val : List Fl × Bool) (e : Ending) (w' : World) : Prop :=
  ∃ A c, e = .returned (.tuple #[.slice A val.1.length c, .bool val.2]) ∧ OwnRows flF 107 w' w.heap.size A val.1.length c val.1 ∧ Below w.heap.size w w'
theorem pairRows_mk {w w' : World} {val : List Fl × Bool} {v : Value} {l : List Fl} {b : Bool} (hv : val = (l, b)) (h : RowVal flF 107 w' w.heap.size v l) (hb : Below w.heap.size w w') : PairRows w val (.returned (.tuple #[v, .bool b])) w' := by
  obtain ⟨A, c, rfl, ho⟩ := h.form
  subst hv
  exact ⟨A, c, rfl, ho, hb⟩
theorem foldl_take {α β : Type} (f : β → α → β) (b : β) (l : List α) (k : Nat) (h : k < l.length) : (l.take (k + 1)).foldl f b = f ((l.take k).foldl f b) l[k] := by
  rw [List.take_succ_eq_append_getElem h, List.foldl_append]; rfl

end Go.Proofs.Ytlkolehdikfddaa
/- The walks of the two ways to add a flow. -/
namespace Go.Proofs.Ytlkolehdikfddaa
open Go.RowKit
theorem flOne : ∀ (a : Fl), ∀ u ∈ flF.enc a, u.oneCell' = true := by
  intro a u hu
  simp [flF] at hu
  rcases hu with rfl | rfl <;> rfl
/-- The ending of a call that hands back a row of flows. -/
def OneRow (w : World) (val : List Fl) (e : Ending) (w' : World) : Prop :=
  ∃ A c, e = .returned (.slice A val.length c) ∧ OwnRows flF 107 w' w.heap.size A val.length c val ∧ Below w.heap.size w w'
theorem oneRow_mk {w w' : World} {val : List Fl} {v : Value} (h : RowVal flF 107 w' w.heap.size v val) (hb : Below w.heap.size w w') : OneRow w val (.returned v) w' := by
  obtain ⟨A, c, rfl, ho⟩ := h.form
  exact ⟨A, c, rfl, ho, hb⟩
end Go.Proofs.Ytlkolehdikfddaa
