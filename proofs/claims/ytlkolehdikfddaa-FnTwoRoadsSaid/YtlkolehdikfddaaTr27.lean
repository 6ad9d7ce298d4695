/- Part 27 of the texts of this claim: How a law's flows are drawn; How the law on planned items draws its inputs; How demands are drawn. -/
import Derived.Test.YtlkolehdikfddaaTr18
import Derived.Test.YtlkolehdikfddaaTr7
import Derived.Test.YtlkolehdikfddaaTr26
import Derived.Test.YtlkolehdikfddaaTr19
/- How a law's flows are drawn. -/
namespace Go.Proofs.Ytlkolehdikfddaa
open Go.RowKit
/-- The ending of a call that draws flows. -/
def DrawnFlows (w : World) (base g : Nat) (e : Ending) (w' : World) : Prop := ∃ (l : List Fl) (A : Option Addr) (c : Nat), e = .returned (.slice A l.length c) ∧ l.length ≤ 6 ∧ OwnRows flF 107 w' w.heap.size A l.length c l ∧ CurAt w' base g ∧ Only g (g + 1) w w'
/-- The ending of a call that draws two rows of flows. -/
def TwoFlows (w : World) (e : Ending) (w' : World) : Prop := ∃ (a b : List Fl) (A : Option Addr) (c : Nat) (B : Option Addr) (d : Nat), e = .returned (.tuple #[.slice A a.length c, .slice B b.length d]) ∧ a.length ≤ 6 ∧ b.length ≤ 6 ∧
  OwnRows flF 107 w' w.heap.size A a.length c a ∧ OwnRows flF 107 w' w.heap.size B b.length d b ∧ Below w.heap.size w w'
end Go.Proofs.Ytlkolehdikfddaa
/- How the law on planned items draws its inputs. -/
namespace Go.Proofs.Ytlkolehdikfddaa
open Go.RowKit
/-- The ending of the call that draws the law's inputs. -/
def DrawnPI (w : World) (e : Ending) (w' : World) : Prop := ∃ (r : PtR) (p : Pt) (s : ByteArray) (A : Option Addr) (c : Nat) (l : List Fl), e = .returned (.tuple #[r.v, .string s, .slice A l.length c]) ∧ okPt p ∧ s.size ≤ 9223372036854775807 ∧ PlantIn w' r p ∧ FlowsIn w' A l.length l ∧ Below w.heap.size w w'
theorem BytesAt.mono {w : World} {b b' : Nat} {A : Option Addr} {n : Nat} (h : BytesAt w b A n) (hb : b ≤ b') : BytesAt w b' A n := ⟨h.1, fun k hk => by
  obtain ⟨x, o, y, e, hlt, hr⟩ := h.2 k hk
  exact ⟨x, o, y, e, by omega, hr⟩⟩
/-- What stays on the way to the result: all blocks but the result's cell and the cursor. -/
structure RKeep (w w3 : World) (N g : Nat) (w' : World) : Prop where
  bel : Below N w w'
  blk : ∀ k, N < k → k ≠ g → k < w3.heap.size → w'.heap[k]? = w3.heap[k]?
  size : w3.heap.size ≤ w'.heap.size
  le : N ≤ w3.heap.size
theorem RKeep.call {w w3 w' w'' : World} {N g : Nat} (h : RKeep w w3 N g w') (ho : Only g (g + 1) w' w'') (hg : N ≤ g) : RKeep w w3 N g w'' :=
  ⟨below_only h.bel ho hg (Nat.le_trans h.le h.size), fun k h1 h2 h3 => (ho.block k (Nat.lt_of_lt_of_le h3 h.size) (by omega)).trans (h.blk k h1 h2 h3), Nat.le_trans h.size ho.size, h.le⟩
theorem RKeep.set {w w3 w' : World} {N g : Nat} (h : RKeep w w3 N g w') (vs : List Value) : RKeep w w3 N g (setFrom w' N 0 vs) :=
  ⟨h.bel.trans (below_setFrom (Nat.le_refl _) vs 0 w'), fun k h1 h2 h3 => (heap_setFrom_other N k (by omega) vs 0 w').trans (h.blk k h1 h2 h3), Nat.le_trans h.size (below_setFrom (Nat.le_refl _) vs 0 w').size, h.le⟩
end Go.Proofs.Ytlkolehdikfddaa
/- How demands are drawn. -/
namespace Go.Proofs.Ytlkolehdikfddaa
open Go.RowKit
theorem dmOne : ∀ (a : Dm), ∀ u ∈ dmF.enc a, u.oneCell' = true := by
  intro a u hu
  simp [dmF] at hu
  rcases hu with rfl | rfl | rfl | rfl | rfl <;> rfl
/-- The ending of a call that draws demands. -/
def DrawnDemands (w : World) (base g : Nat) (e : Ending) (w' : World) : Prop := ∃ (l : List Dm) (A : Option Addr) (c : Nat), e = .returned (.slice A l.length c) ∧ l.length ≤ 5 ∧ (∀ x ∈ l, okDm x) ∧ OwnRows dmF 50 w' w.heap.size A l.length c l ∧ CurAt w' base g ∧ Only g (g + 1) w w'
theorem drawnDemands_mk {w w' : World} {base g : Nat} {v : Value} {l : List Dm} (h : RowVal dmF 50 w' w.heap.size v l) (hl : l.length ≤ 5) (hok : ∀ x ∈ l, okDm x) (hc : CurAt w' base g) (ho : Only g (g + 1) w w') : DrawnDemands w base g (.returned v) w' := by
  obtain ⟨A, c, rfl, hr⟩ := h.form
  exact ⟨l, A, c, rfl, hl, hok, hr, hc, ho⟩
theorem drawnDemands_own {w w' : World} {base g n : Nat} {A : Option Addr} {c : Nat} {l : List Dm} (hn : l.length = n) (h : OwnRows dmF 50 w' w.heap.size A n c l) (hl : l.length ≤ 5) (hok : ∀ x ∈ l, okDm x) (hc : CurAt w' base g) (ho : Only g (g + 1) w w') : DrawnDemands w base g (.returned (.slice A n c)) w' := by
  subst hn
  exact ⟨l, A, c, rfl, hl, hok, h, hc, ho⟩
theorem okDm_snoc {l : List Dm} (h : ∀ x ∈ l, okDm x) {y : Dm} (hy : okDm y) : ∀ x ∈ l ++ [y], okDm x := fun x hx => by
  rcases List.mem_append.1 hx with h1 | h1
  · exact h x h1
  · rw [List.mem_singleton.1 h1]; exact hy
theorem okDm_set {l : List Dm} (h : ∀ x ∈ l, okDm x) (k : Nat) {y : Dm} (hy : okDm y) : ∀ x ∈ l.set k y, okDm x := fun x hx => by
  rcases List.mem_or_eq_of_mem_set hx with h1 | h1
  · exact h x h1
  · rw [h1]; exact hy
set_option maxRecDepth 100000 in
set_option maxHeartbeats 8000000 in
theorem l13Demands_any (first : Int) (w : World) (base g : Nat) (hf : 0 ≤ first ∧ first ≤ 1000) (hc : CurAt w base g) : Calls Try.prog 32 #[.pointer (some ⟨g, 0, none⟩), .int .i64 first] w (DrawnDemands w base g) := by
  have hg := hc.lt
  have hs := below_alloc w (.cells #[] 50)
  have hr0 : RowVal dmF 50 (w.alloc (.cells #[] 50)) w.heap.size (.slice (some ⟨w.heap.size, 0, none⟩) 0 0) [] := empty_row rfl (Nat.le_refl _)
  have hc0 := hc.keep hs hg
  have HO0 : Only g (g + 1) w (w.alloc (.cells #[] 50)) := Only.of_below hs
  clear hs hc
  go_enter Try.func32, Try.ntmps32
  go_wp2_with fail
  generalize w.alloc (.cells #[] 50) = w0 at *
  refine (l1Below_any _ _ _ _ (by omega) hc0).mono ?_
  rintro e w1 ⟨n, rfl, ⟨n0, n1⟩, hc1, HO1⟩
  obtain ⟨n, rfl⟩ : ∃ k : Nat, n = (k : Int) := ⟨_, (Int.toNat_of_nonneg n0).symm⟩
  have hr1 := hr0.only HO1 (by omega)
  have H1 := HO0.trans HO1
  clear hr0 hc0 HO0 HO1
  go_wp2_with fail
  go_loopw [5, 6] (fun v t wr => ∃ (k : Nat) (l : List Dm), t = .int .i64 k ∧ k ≤ 5 ∧ l.length + k ≤ 5 ∧ Hid (∀ x ∈ l, okDm x) ∧ RowVal dmF 50 wr w.heap.size v l ∧ CurAt wr base g ∧ Only g (g + 1) w wr) (fun _ t _ => (intOf t).toNat)
  case atStart => exact ⟨n, [], rfl, by omega, by simp; omega, Lib.hid (by simp), hr1, hc1, H1⟩
  case round =>
    clear hr1 hc1 H1
    obtain ⟨k, l, rfl, hk, hlk, HOK, hrow, hcur, HO⟩ := hrel
    by_cases hpos : 0 < (k : Int)
    case pos =>
      obtain ⟨A9, c9, rfl, ho9⟩ := hrow.form
      replace hrow := ho9.val
      clear ho9
      have hw9 : IntKind.i64.wrap (first + (l.length : Int)) = first + (l.length : Int) := IntWalk.i64_in _ (by omega)
      have hg1 := hcur.lt
      go_wp2_with fail
      refine (l1Pick_any _ 4 _ [⟨#[65]⟩, ⟨#[65]⟩, ⟨#[66]⟩, ⟨#[67]⟩] _ base g (lit_strs (t := 9) rfl #[.string ⟨#[65]⟩, .string ⟨#[65]⟩, .string ⟨#[66]⟩, .string ⟨#[67]⟩] [⟨#[65]⟩, ⟨#[65]⟩, ⟨#[66]⟩, ⟨#[67]⟩] 4 rfl rfl (by simp)) (by omega) (fun a ha => by have := Option.some.inj ha; rw [← this]; show wr.heap.size ≠ g; omega) (hcur.keep (below_alloc _ _) hg1)).mono ?_
      rintro e w2 ⟨s, rfl, hs2, hc2, HO2⟩
      have hsz := size_mem (by decide) hs2
      have hr2 := (hrow.alloc (.cells #[.string ⟨#[65]⟩, .string ⟨#[65]⟩, .string ⟨#[66]⟩, .string ⟨#[67]⟩] 9)).only HO2 (by omega)
      have H2 := (HO.trans (Only.of_below (below_alloc wr (.cells #[.string ⟨#[65]⟩, .string ⟨#[65]⟩, .string ⟨#[66]⟩, .string ⟨#[67]⟩] 9)))).trans HO2
      clear hrow HO HO2 hcur hs2 hg1
      go_wp2_with fail
      refine (l1Below_any _ _ _ _ (by omega) hc2).mono ?_
      rintro e w3 ⟨q, rfl, ⟨q0, q1⟩, hc3, HO3⟩
      have hr3 := hr2.only HO3 (by omega)
      have H3 := H2.trans HO3
      clear hr2 H2 HO3 hc2
      go_wp2_with fail
      refine (l1Below_any _ _ _ _ (by omega) hc3).mono ?_
      rintro e w4 ⟨dy, rfl, ⟨dy0, dy1⟩, hc4, HO4⟩
      have hr4 := hr3.only HO4 (by omega)
      have H4 := H3.trans HO4
      clear hr3 H3 HO4 hc3
      go_wp2_with fail
      refine (l1Below_any _ _ _ _ (by omega) hc4).mono ?_
      rintro e w5 ⟨rk, rfl, ⟨rk0, rk1⟩, hc5, HO5⟩
      have hr5 := hr4.only HO5 (by omega)
      have H5 := H4.trans HO5
      have hz5 := H5.size
      clear hr4 H4 HO5 hc4
      go_wp2_with (at_builtin; refine wpList_append_one demandElem rfl _ _ rfl rfl (l := l) hr5 (by omega) (first + (l.length : Int), s, 1 + q, dy, rk) #[.int .i64 (first + (l.length : Int)), .string s, .int .i64 (1 + q), .int .i64 dy, .int .i64 rk] rfl (dmOne (first + (l.length : Int), s, 1 + q, dy, rk)) w5.heap.size _ rfl rfl hz5 ?_; intro v' w6 hrow6 hbl hgr)
      have hB := hbl w.heap.size (Nat.le_refl _) hz5
      have hok9 : Hid (∀ x ∈ l ++ [(first + (l.length : Int), s, 1 + q, dy, rk)], okDm x) := okDm_snoc HOK.out hsz
      go_roundw
      case rel => exact ⟨k - 1, l ++ [(first + (l.length : Int), s, 1 + q, dy, rk)], by go_num, by omega, by simp; omega, hok9, hrow6, hc5.keep hB hg, only_below H5 hB⟩
      case measure => simp [intOf]; omega
    obtain rfl : k = 0 := by omega
    go_wp2_with fail
    refine (l1Once_any _ _ _ _ (by omega) hcur).mono ?_
    rintro e w2 ⟨b, rfl, hc2, HO2⟩
    have hr2 := hrow.only HO2 (by omega)
    have H2 := HO.trans HO2
    clear hrow HO HO2 hcur
    cases b
    · go_wp2_with fail
      go_ret
      exact drawnDemands_mk hr2 (by omega) HOK.out hc2 H2
    by_cases hl0 : l.length = 0
    · obtain ⟨A9, c9, rfl, ho9⟩ := hr2.form
      rw [hl0]
      rw [hl0] at ho9
      go_wp2_with fail
      go_ret
      exact drawnDemands_own hl0 ho9 (by omega) HOK.out hc2 H2
    obtain ⟨n9, hn9⟩ : ∃ n9, l.length = n9 + 1 := ⟨l.length - 1, by omega⟩
    obtain ⟨b, c9, rfl⟩ := hr2.some_of hn9
    have hlob := own_block hr2 b rfl
    have hgt : (0 : Int) < ((n9 + 1 : Nat) : Int) := by omega
    go_wp2_with fail
    refine (l1Below_any _ _ _ _ (by omega) hc2).mono ?_
    rintro e w3 ⟨k, rfl, ⟨k0, k1⟩, hc3, HO3⟩
    obtain ⟨k, rfl⟩ : ∃ j : Nat, k = (j : Int) := ⟨_, (Int.toNat_of_nonneg k0).symm⟩
    have hr3 := hr2.only HO3 (by omega)
    have H3 := H2.trans HO3
    clear hr2 H2 HO3 hc2
    go_wp2_with fail
    refine (l1Below_any _ _ _ _ (by omega) hc3).mono ?_
    rintro e w4 ⟨y, rfl, ⟨y0, y1⟩, hc4, HO4⟩
    have hr4 := (hr3.only HO4 (by omega)).own_n hn9.symm
    have H4 := H3.trans HO4
    clear hr3 H3 HO4 hc3
    have hkl : k < l.length := by omega
    have hki : (k : Int) < ((n9 + 1 : Nat) : Int) := by omega
    have hcap := own_capD hr4
    have hokk := HOK.out _ (List.getElem_mem hkl)
    have hg4 := hc4.lt
    have h4 : (y = 0 ∨ y = 1) ∨ (y = 2 ∨ y = 3) := by omega
    rcases h4 with (rfl | rfl) | (rfl | rfl)
    · go_wp2_with fail
      refine (l1Odd_any _ _ _ hc4).mono ?_
      rintro e w5 ⟨z, rfl, _, hc5, HO5⟩
      have hr5 := hr4.only HO5 (by omega)
      have H5 := H4.trans HO5
      clear hr4 H4 HO5 hc4
      obtain ⟨x9, f9⟩ : w5.cell? ⟨b, k * 5 + 2, none⟩ = some (.int .i64 l[k].2.2.1) ∧ w5.frozen? ⟨b, k * 5 + 2, none⟩ = false := hr5.at_cell k 2 hkl _ rfl
      have hE : OwnRows dmF 50 (w5.setCell ⟨b, k * 5 + 2, none⟩ (.int .i64 z)) w.heap.size (some ⟨b, 0, none⟩) (n9 + 1) c9 (l.set k (l[k].1, l[k].2.1, z, l[k].2.2.2.1, l[k].2.2.2.2)) := hr5.edit k 2 hkl (by decide) (.int .i64 z) (l[k].1, l[k].2.1, z, l[k].2.2.2.1, l[k].2.2.2.2) rfl
      have HB : Below w.heap.size w5 (w5.setCell ⟨b, k * 5 + 2, none⟩ (.int .i64 z)) := (Below.refl w.heap.size w5).setCell (p := ⟨b, k * 5 + 2, none⟩) hlob _
      have hcF := hc5.keep HB hg
      have HF := only_below H5 HB
      have hokF : Hid (∀ x ∈ l.set k (l[k].1, l[k].2.1, z, l[k].2.2.2.1, l[k].2.2.2.2), okDm x) := okDm_set HOK.out k hokk
      clear hr5 hc5
      go_wp2_with fail
      go_ret
      exact drawnDemands_own (by rw [List.length_set]; exact hn9) hE (by rw [List.length_set]; omega) hokF.out hcF HF
    · go_wp2_with fail
      refine (l4Day_any _ _ _ hc4).mono ?_
      rintro e w5 ⟨z, rfl, _, hc5, HO5⟩
      have hr5 := hr4.only HO5 (by omega)
      have H5 := H4.trans HO5
      clear hr4 H4 HO5 hc4
      obtain ⟨x9, f9⟩ : w5.cell? ⟨b, k * 5 + 3, none⟩ = some (.int .i64 l[k].2.2.2.1) ∧ w5.frozen? ⟨b, k * 5 + 3, none⟩ = false := hr5.at_cell k 3 hkl _ rfl
      have hE : OwnRows dmF 50 (w5.setCell ⟨b, k * 5 + 3, none⟩ (.int .i64 z)) w.heap.size (some ⟨b, 0, none⟩) (n9 + 1) c9 (l.set k (l[k].1, l[k].2.1, l[k].2.2.1, z, l[k].2.2.2.2)) := hr5.edit k 3 hkl (by decide) (.int .i64 z) (l[k].1, l[k].2.1, l[k].2.2.1, z, l[k].2.2.2.2) rfl
      have HB : Below w.heap.size w5 (w5.setCell ⟨b, k * 5 + 3, none⟩ (.int .i64 z)) := (Below.refl w.heap.size w5).setCell (p := ⟨b, k * 5 + 3, none⟩) hlob _
      have hcF := hc5.keep HB hg
      have HF := only_below H5 HB
      have hokF : Hid (∀ x ∈ l.set k (l[k].1, l[k].2.1, l[k].2.2.1, z, l[k].2.2.2.2), okDm x) := okDm_set HOK.out k hokk
      clear hr5 hc5
      go_wp2_with fail
      go_ret
      exact drawnDemands_own (by rw [List.length_set]; exact hn9) hE (by rw [List.length_set]; omega) hokF.out hcF HF
    · have x0 : w4.cell? ⟨b, 0, none⟩ = some (.int .i64 l[0].1) := (hr4.at_cell 0 0 (by omega) _ rfl).1
      generalize l[0].1 = id0 at *
      obtain ⟨x9, f9⟩ : w4.cell? ⟨b, k * 5, none⟩ = some (.int .i64 l[k].1) ∧ w4.frozen? ⟨b, k * 5, none⟩ = false := hr4.at_cell k 0 hkl _ rfl
      have hE : OwnRows dmF 50 (w4.setCell ⟨b, k * 5, none⟩ (.int .i64 id0)) w.heap.size (some ⟨b, 0, none⟩) (n9 + 1) c9 (l.set k (id0, l[k].2.1, l[k].2.2.1, l[k].2.2.2.1, l[k].2.2.2.2)) := hr4.edit k 0 hkl (by decide) (.int .i64 id0) (id0, l[k].2.1, l[k].2.2.1, l[k].2.2.2.1, l[k].2.2.2.2) rfl
      have HB : Below w.heap.size w4 (w4.setCell ⟨b, k * 5, none⟩ (.int .i64 id0)) := (Below.refl w.heap.size w4).setCell (p := ⟨b, k * 5, none⟩) hlob _
      have hcF := hc4.keep HB hg
      have HF := only_below H4 HB
      have hokF : Hid (∀ x ∈ l.set k (id0, l[k].2.1, l[k].2.2.1, l[k].2.2.2.1, l[k].2.2.2.2), okDm x) := okDm_set HOK.out k hokk
      clear hr4 hc4
      go_wp2_with fail
      go_ret
      exact drawnDemands_own (by rw [List.length_set]; exact hn9) hE (by rw [List.length_set]; omega) hokF.out hcF HF
    · go_wp2_with fail
      refine (l1PickInt_any _ 3 _ [-1, 9, 10] _ base g (lit_ints rfl _ _ _ rfl rfl (by simp)) (by omega) (fun a ha => by have := Option.some.inj ha; rw [← this]; show w4.heap.size ≠ g; omega) (hc4.keep (below_alloc _ _) hg4)).mono ?_
      rintro e w5 ⟨z, rfl, _, hc5, HO5⟩
      have hr5 := OwnRows.only (hr4.keep (below_alloc w4 (.cells #[.int .i64 (-1), .int .i64 9, .int .i64 10] 3))) HO5 (by omega)
      have H5 := (H4.trans (Only.of_below (below_alloc w4 (.cells #[.int .i64 (-1), .int .i64 9, .int .i64 10] 3)))).trans HO5
      clear hr4 H4 HO5 hc4 hg4
      obtain ⟨x9, f9⟩ : w5.cell? ⟨b, k * 5 + 4, none⟩ = some (.int .i64 l[k].2.2.2.2) ∧ w5.frozen? ⟨b, k * 5 + 4, none⟩ = false := hr5.at_cell k 4 hkl _ rfl
      have hE : OwnRows dmF 50 (w5.setCell ⟨b, k * 5 + 4, none⟩ (.int .i64 z)) w.heap.size (some ⟨b, 0, none⟩) (n9 + 1) c9 (l.set k (l[k].1, l[k].2.1, l[k].2.2.1, l[k].2.2.2.1, z)) := hr5.edit k 4 hkl (by decide) (.int .i64 z) (l[k].1, l[k].2.1, l[k].2.2.1, l[k].2.2.2.1, z) rfl
      have HB : Below w.heap.size w5 (w5.setCell ⟨b, k * 5 + 4, none⟩ (.int .i64 z)) := (Below.refl w.heap.size w5).setCell (p := ⟨b, k * 5 + 4, none⟩) hlob _
      have hcF := hc5.keep HB hg
      have HF := only_below H5 HB
      have hokF : Hid (∀ x ∈ l.set k (l[k].1, l[k].2.1, l[k].2.2.1, l[k].2.2.2.1, z), okDm x) := okDm_set HOK.out k hokk
      clear hr5 hc5
      go_wp2_with fail
      go_ret
      exact drawnDemands_own (by rw [List.length_set]; exact hn9) hE (by rw [List.length_set]; omega) hokF.out hcF HF
end Go.Proofs.Ytlkolehdikfddaa
