/- How the laws on schedules draw their slots. -/
import Derived.Test.YtmkfinahbelpdaaDispSpec
import Derived.Test.YtmkfinahbelpdaaDrawDispatch
namespace Go.Proofs.Ytmkfinahbelpdaa
open Go.RowKit
theorem flat_set {α : Type} (F : Flat α) (f : Nat) (hf : f < F.sz) (u : Value) (x' : α) : ∀ (l : List α) (k : Nat) (hk : k < l.length) (_ : (F.enc l[k]).set f u = F.enc x'), (l.flatMap F.enc).set (k * F.sz + f) u = (l.set k x').flatMap F.enc
  | [], k, hk, _ => by simp at hk
  | a :: l, 0, _, he => by
    rw [List.flatMap_cons, List.set_append_left _ _ (by rw [F.len]; omega), List.set_cons_zero, List.flatMap_cons]
    simp only [List.getElem_cons_zero] at he
    rw [Nat.zero_mul, Nat.zero_add, he]
  | a :: l, k + 1, hk, he => by
    rw [List.flatMap_cons, List.set_append_right _ _ (by rw [F.len, Nat.succ_mul]; omega), F.len, show (k + 1) * F.sz + f - F.sz = k * F.sz + f by rw [Nat.succ_mul]; omega, List.set_cons_succ, List.flatMap_cons]
    rw [flat_set F f hf u x' l k (by simpa using hk) (by simpa using he)]
/-- One cell of a row is turned. -/
theorem OwnRows.edit {α : Type} {F : Flat α} {t : TypeId} {w : World} {lo b n c : Nat} {l : List α} (h : OwnRows F t w lo (some ⟨b, 0, none⟩) n c l) (k f : Nat) (hk : k < l.length) (hf : f < F.sz) (u : Value) (x' : α) (he : (F.enc l[k]).set f u = F.enc x') :
    OwnRows F t (w.setCell ⟨b, k * F.sz + f, none⟩ u) lo (some ⟨b, 0, none⟩) n c (l.set k x') := by
  refine ⟨by have := h.1; simpa using this, ?_⟩
  have := (h.2.stored (k * F.sz + f) u).1
  rw [flat_set F f hf u x' l k hk he] at this
  exact this
theorem OwnRows.at_cell {α : Type} {F : Flat α} {t : TypeId} {w : World} {lo b n c : Nat} {l : List α} (h : OwnRows F t w lo (some ⟨b, 0, none⟩) n c l) (k f : Nat) (hk : k < l.length) (u : Value) (he : (F.enc l[k])[f]? = some u) : w.cell? ⟨b, k * F.sz + f, none⟩ = some u ∧ w.frozen? ⟨b, k * F.sz + f, none⟩ = false := by
  have hf : f < F.sz := by have := (List.getElem?_eq_some_iff.1 he).1; rwa [F.len] at this
  have hn := h.1
  refine ⟨?_, h.2.frozenAt _⟩
  rw [h.2.cellAt (k * F.sz + f) (by rw [hn]; have : (k + 1) * F.sz ≤ l.length * F.sz := Nat.mul_le_mul_right _ hk; rw [Nat.succ_mul] at this; omega), flatMap_at F.enc F.sz F.len l k f hk hf, he]
theorem own_cap {α : Type} {F : Flat α} {t : TypeId} {w : World} {lo b n c : Nat} {l : List α} (h : OwnRows F t w lo (some ⟨b, 0, none⟩) n c l) : n ≤ c := by
  rcases h.2.2 with ⟨hv, _⟩ | ⟨g2, cap, cur, hv, _, _, hr⟩
  · cases hv
  · have : c = cap := by injection hv
    subst this
    exact hr.1
/-- The ending of a call that draws slots. -/
def DrawnSlots (w : World) (base g : Nat) (e : Ending) (w' : World) : Prop := ∃ (l : List Slt) (b c : Nat), e = .returned (.slice (some ⟨b, 0, none⟩) l.length c) ∧ l.length ≤ 30 ∧ (∀ s ∈ l, s.2.2.1.size ≤ 9223372036854775807) ∧ OwnRows slF 84 w' w.heap.size (some ⟨b, 0, none⟩) l.length c l ∧ CurAt w' base g ∧ Only g (g + 1) w w'
theorem drawnSlots_mk {w : World} {base g : Nat} {l : List Slt} {b n c : Nat} {w' : World} (hn : n = l.length) (h30 : l.length ≤ 30) (hsz : ∀ s ∈ l, s.2.2.1.size ≤ 9223372036854775807) (hr : OwnRows slF 84 w' w.heap.size (some ⟨b, 0, none⟩) n c l) (hc : CurAt w' base g) (HO : Only g (g + 1) w w') : DrawnSlots w base g (.returned (.slice (some ⟨b, 0, none⟩) n c)) w' := by
  subst hn
  exact ⟨l, b, c, rfl, h30, hsz, hr, hc, HO⟩
theorem set_sz {l : List Slt} {k : Nat} {x : Slt} (h : ∀ s ∈ l, s.2.2.1.size ≤ 9223372036854775807) (hx : x.2.2.1.size ≤ 9223372036854775807) : ∀ s ∈ l.set k x, s.2.2.1.size ≤ 9223372036854775807 := fun s hs => by
  rcases List.mem_or_eq_of_mem_set hs with h1 | rfl
  · exact h s h1
  · exact hx
set_option maxRecDepth 100000 in
set_option maxHeartbeats 4000000 in
theorem l22Slots_any (b n c : Nat) (R : List JbR) (jobs : List Jb) (lo : Nat) (w : World) (base g : Nat) (hc : CurAt w base g) (hr : OwnRows jbF 44 w lo (some ⟨b, 0, none⟩) n c R) (hJ : JbsOwn w lo R jobs) (hlo : g + 1 ≤ lo) (hok : ∀ x ∈ jobs, okJb x) (hlen : jobs.length ≤ 16777216) :
    Calls Try.prog 76 #[.pointer (some ⟨g, 0, none⟩), .slice (some ⟨b, 0, none⟩) n c] w (DrawnSlots w base g) := by
  have hg := hc.lt
  go_enter Try.func76, Try.ntmps76
  go_wp2_with fail
  refine (l1Below_any _ _ _ _ (by omega) hc).mono ?_
  rintro e w1 ⟨x, rfl, _, hc1, HO1⟩
  have hjobs := (hJ.only HO1 hlo).jobs (hr.only HO1 hlo) hlen
  have hg1 := hc1.lt
  have hz1 := HO1.size
  clear hr hJ
  go_wp2_with fail
  refine (specDispatchJobs_any _ _ _ jobs x _ hjobs hok).mono ?_
  rintro e w2 ⟨sl, b2, d2, rfl, hl30, hsz, _, hs, hB⟩
  have hc2 := hc1.keep hB hg1
  have HO2 := only_below HO1 (hB.mono hz1)
  have hs2 := hs.lower hz1
  have hz2 := hB.size
  clear hs hB hc1 HO1 hc hjobs hok
  cases sl with
  | nil =>
    go_wp2_with fail
    go_ret
    exact ⟨[], b2, d2, rfl, by simp, by simp, hs2, hc2, HO2⟩
  | cons s0 sl =>
    have hpos : 0 < (s0 :: sl).length := by simp
    generalize s0 :: sl = L at *
    go_wp2_with fail
    refine (l1Once_any _ _ _ _ (by omega) hc2).mono ?_
    rintro e w3 ⟨bb, rfl, hc3, HO3⟩
    have hs3 := hs2.only HO3 (by omega)
    have HOa := HO2.trans HO3
    clear hs2 hc2 HO2
    cases bb
    · go_wp2_with fail
      refine (l1Once_any _ _ _ _ (by omega) hc3).mono ?_
      rintro e w8 ⟨bb2, rfl, hc8, HO8⟩
      have hs8 := hs3.only HO8 (by omega)
      cases bb2
      · go_wp2_with fail
        go_ret
        exact drawnSlots_mk rfl hl30 hsz hs8 hc8 (HOa.trans HO8)
      · have y0 : w8.cell? ⟨b2, 1, none⟩ = some (.int .i64 (L[0]'hpos).2.1) := by have := (hs8.at_cell 0 1 hpos _ rfl).1; exact this
        have y1 : w8.frozen? ⟨b2, 1, none⟩ = false := hs8.2.frozenAt 1
        have hlo8 : w.heap.size ≤ b2 := (own_lt hs8.2 _ rfl).1
        go_wp2_with fail
        go_ret
        have hs9 : OwnRows slF 84 (w8.setCell ⟨b2, 1, none⟩ (.int .i64 (wrap64 ((L[0]'hpos).2.1 + 1)))) w.heap.size (some ⟨b2, 0, none⟩) _ d2 (L.set 0 ((L[0]'hpos).1, wrap64 ((L[0]'hpos).2.1 + 1), (L[0]'hpos).2.2)) := hs8.edit 0 1 hpos (by decide) (.int .i64 (wrap64 ((L[0]'hpos).2.1 + 1))) ((L[0]'hpos).1, wrap64 ((L[0]'hpos).2.1 + 1), (L[0]'hpos).2.2) rfl
        have hB9 : Below w.heap.size w8 (w8.setCell ⟨b2, 1, none⟩ (.int .i64 (wrap64 ((L[0]'hpos).2.1 + 1)))) := (Below.refl w.heap.size w8).setCell (p := ⟨b2, 1, none⟩) (by show w.heap.size ≤ b2; exact hlo8) _
        exact drawnSlots_mk (Eq.trans rfl List.length_set.symm) (by rw [List.length_set]; exact hl30) (set_sz (k := 0) (x := ((L[0]'hpos).1, wrap64 ((L[0]'hpos).2.1 + 1), (L[0]'hpos).2.2)) hsz (show (L[0]'hpos).2.2.1.size ≤ _ from hsz _ (List.getElem_mem hpos))) hs9 (hc8.keep hB9 hg) (only_below (HOa.trans HO8) hB9)
    · have hg3 := hc3.lt
      go_wp2_with fail
      refine (l1Below_any _ _ _ _ (by omega) hc3).mono ?_
      rintro e w4 ⟨kk, rfl, ⟨k0, k1⟩, hc4, HO4⟩
      obtain ⟨k, rfl⟩ : ∃ k : Nat, kk = (k : Int) := ⟨_, (Int.toNat_of_nonneg k0).symm⟩
      have hk : k < L.length := by omega
      have hs4 := hs3.only HO4 (by omega)
      have HOb := HOa.trans HO4
      clear hs3 hc3 HOa
      go_wp2_with fail
      refine (l1Below_any _ _ _ _ (by omega) hc4).mono ?_
      rintro e w5 ⟨y, rfl, ⟨y0, y1⟩, hc5, HO5⟩
      have hs5 := hs4.only HO5 (by omega)
      have HOc := HOb.trans HO5
      clear hs4 hc4 HOb
      have a3 : w5.cell? ⟨b2, k * 5 + 3, none⟩ = some (.int .i64 L[k].2.2.2.1) := (hs5.at_cell k 3 hk _ rfl).1
      have a4 : w5.cell? ⟨b2, k * 5 + 4, none⟩ = some (.int .i64 L[k].2.2.2.2) := (hs5.at_cell k 4 hk _ rfl).1
      have f3 : w5.frozen? ⟨b2, k * 5 + 3, none⟩ = false := hs5.2.frozenAt _
      have f4 : w5.frozen? ⟨b2, k * 5 + 4, none⟩ = false := hs5.2.frozenAt _
      have hs6 := hs5.edit k 3 hk (by decide) (.int .i64 (wrap64 (L[k].2.2.2.1 + (y - 4)))) (L[k].1, L[k].2.1, L[k].2.2.1, wrap64 (L[k].2.2.2.1 + (y - 4)), L[k].2.2.2.2) rfl
      have hk6 : k < (L.set k (L[k].1, L[k].2.1, L[k].2.2.1, wrap64 (L[k].2.2.2.1 + (y - 4)), L[k].2.2.2.2)).length := by rw [List.length_set]; exact hk
      have hs7 := hs6.edit k 4 hk6 (by decide) (.int .i64 (wrap64 (L[k].2.2.2.2 + (y - 4)))) (L[k].1, L[k].2.1, L[k].2.2.1, wrap64 (L[k].2.2.2.1 + (y - 4)), wrap64 (L[k].2.2.2.2 + (y - 4))) (by rw [List.getElem_set_self]; rfl)
      have hlo5 : w.heap.size ≤ b2 := (own_lt hs5.2 _ rfl).1
      have hB7 : Below w.heap.size w5 ((w5.setCell ⟨b2, k * 5 + 3, none⟩ (.int .i64 (wrap64 (L[k].2.2.2.1 + (y - 4))))).setCell ⟨b2, k * 5 + 4, none⟩ (.int .i64 (wrap64 (L[k].2.2.2.2 + (y - 4))))) := ((Below.refl w.heap.size w5).setCell (p := ⟨b2, k * 5 + 3, none⟩) (by show w.heap.size ≤ b2; exact hlo5) _).setCell (p := ⟨b2, k * 5 + 4, none⟩) (by show w.heap.size ≤ b2; exact hlo5) _
      have hsz7 := set_sz (k := k) (x := (L[k].1, L[k].2.1, L[k].2.2.1, wrap64 (L[k].2.2.2.1 + (y - 4)), wrap64 (L[k].2.2.2.2 + (y - 4)))) (set_sz (k := k) (x := (L[k].1, L[k].2.1, L[k].2.2.1, wrap64 (L[k].2.2.2.1 + (y - 4)), L[k].2.2.2.2)) hsz (show L[k].2.2.1.size ≤ _ from hsz _ (List.getElem_mem hk))) (show L[k].2.2.1.size ≤ _ from hsz _ (List.getElem_mem hk))
      have hlen7 : L.length = ((L.set k (L[k].1, L[k].2.1, L[k].2.2.1, wrap64 (L[k].2.2.2.1 + (y - 4)), L[k].2.2.2.2)).set k (L[k].1, L[k].2.1, L[k].2.2.1, wrap64 (L[k].2.2.2.1 + (y - 4)), wrap64 (L[k].2.2.2.2 + (y - 4)))).length := by rw [List.length_set, List.length_set]
      have hc7 := hc5.keep hB7 hg
      have HO7 := only_below HOc hB7
      have hpos7 := hpos
      rw [hlen7] at hpos7
      have h307 := hl30
      rw [hlen7] at h307
      have HL := Lib.hid hlen7
      clear hlen7
      generalize (L.set k (L[k].1, L[k].2.1, L[k].2.2.1, wrap64 (L[k].2.2.2.1 + (y - 4)), L[k].2.2.2.2)).set k (L[k].1, L[k].2.1, L[k].2.2.1, wrap64 (L[k].2.2.2.1 + (y - 4)), wrap64 (L[k].2.2.2.2 + (y - 4))) = L7 at *
      go_wp2_with fail
      change OwnRows _ _ ((w5.setCell ⟨b2, k * 5 + 3, none⟩ (.int .i64 (wrap64 (L[k].2.2.2.1 + (y - 4))))).setCell ⟨b2, k * 5 + 4, none⟩ (.int .i64 (wrap64 (L[k].2.2.2.2 + (y - 4))))) _ _ _ _ _ at hs7
      generalize (w5.setCell ⟨b2, k * 5 + 3, none⟩ (.int .i64 (wrap64 (L[k].2.2.2.1 + (y - 4))))).setCell ⟨b2, k * 5 + 4, none⟩ (.int .i64 (wrap64 (L[k].2.2.2.2 + (y - 4)))) = w7 at *
      clear hs6 hk6 hs5 a3 a4 f3 f4 hc5 HOc hB7
      refine (l1Once_any _ _ _ _ (by omega) hc7).mono ?_
      rintro e w8 ⟨bb2, rfl, hc8, HO8⟩
      have hs8 := hs7.only HO8 (by omega)
      cases bb2
      · go_wp2_with fail
        go_ret
        exact drawnSlots_mk HL.out h307 hsz7 hs8 hc8 (HO7.trans HO8)
      · have y0 : w8.cell? ⟨b2, 1, none⟩ = some (.int .i64 (L7[0]'hpos7).2.1) := by have := (hs8.at_cell 0 1 hpos7 _ rfl).1; exact this
        have y1 : w8.frozen? ⟨b2, 1, none⟩ = false := hs8.2.frozenAt 1
        have hlo8 : w.heap.size ≤ b2 := (own_lt hs8.2 _ rfl).1
        go_wp2_with fail
        go_ret
        have hs9 : OwnRows slF 84 (w8.setCell ⟨b2, 1, none⟩ (.int .i64 (wrap64 ((L7[0]'hpos7).2.1 + 1)))) w.heap.size (some ⟨b2, 0, none⟩) _ d2 (L7.set 0 ((L7[0]'hpos7).1, wrap64 ((L7[0]'hpos7).2.1 + 1), (L7[0]'hpos7).2.2)) := hs8.edit 0 1 hpos7 (by decide) (.int .i64 (wrap64 ((L7[0]'hpos7).2.1 + 1))) ((L7[0]'hpos7).1, wrap64 ((L7[0]'hpos7).2.1 + 1), (L7[0]'hpos7).2.2) rfl
        have hB9 : Below w.heap.size w8 (w8.setCell ⟨b2, 1, none⟩ (.int .i64 (wrap64 ((L7[0]'hpos7).2.1 + 1)))) := (Below.refl w.heap.size w8).setCell (p := ⟨b2, 1, none⟩) (by show w.heap.size ≤ b2; exact hlo8) _
        exact drawnSlots_mk (Eq.trans HL.out List.length_set.symm) (by rw [List.length_set]; exact h307) (set_sz (k := 0) (x := ((L7[0]'hpos7).1, wrap64 ((L7[0]'hpos7).2.1 + 1), (L7[0]'hpos7).2.2)) hsz7 (show (L7[0]'hpos7).2.2.1.size ≤ _ from hsz7 _ (List.getElem_mem hpos7))) hs9 (hc8.keep hB9 hg) (only_below (HO7.trans HO8) hB9)
/-- The ending of a call that draws jobs and slots. -/
def DrawnTwo (w : World) (e : Ending) (w' : World) : Prop := ∃ (l : List Jb) (sl : List Slt) (R : List JbR) (b c b2 c2 : Nat), e = .returned (.tuple #[.slice (some ⟨b, 0, none⟩) l.length c, .slice (some ⟨b2, 0, none⟩) sl.length c2]) ∧ l.length ≤ 4 ∧ (∀ j ∈ l, okJb j ∧ j.2.2.length ≤ 4) ∧ sl.length ≤ 30 ∧ OwnRows jbF 44 w' w.heap.size (some ⟨b, 0, none⟩) l.length c R ∧ JbsOwn w' w.heap.size R l ∧ OwnRows slF 84 w' w.heap.size (some ⟨b2, 0, none⟩) sl.length c2 sl ∧ (∀ s ∈ sl, s.2.2.1.size ≤ 9223372036854775807) ∧ Below w.heap.size w w'
set_option maxRecDepth 100000 in
set_option maxHeartbeats 1000000 in
theorem l22Two_any (A : Option Addr) (n c : Nat) (w : World) (hb : BytesAt w w.heap.size A n) : Calls Try.prog 52 #[.slice A n c] w (DrawnTwo w) := by
  go_enter Try.func52, Try.ntmps52
  go_wp2_with fail
  refine (l1New_any _ _ _ _ hb).mono ?_
  rintro e w1 ⟨g, rfl, hg, hc1, hb1⟩
  have hz1 := hb1.size
  go_wp2_with fail
  refine (l22Jobs_any _ _ _ hc1).mono ?_
  rintro e w2 ⟨l, R, b, c2, rfl, hl4, hok, hr, hJ, hc2, HO2⟩
  have hgl := hc1.lt
  have hz2 := HO2.size
  go_wp2_with fail
  refine (l22Slots_any _ _ _ R l w1.heap.size _ _ _ hc2 hr hJ (by omega) (fun x hx => (hok x hx).1) (by omega)).mono ?_
  rintro e w3 ⟨sl, b2, d2, rfl, h30, hsz, hs, hc3, HO3⟩
  have hr3 := hr.only HO3 (by omega)
  have hJ3 := hJ.only HO3 (by omega)
  have hz3 := HO3.size
  have hB3 := below_only (below_only hb1 HO2 hg hz1) HO3 hg (by omega)
  go_wp2_with fail
  go_ret2
  exact ⟨l, sl, R, b, c2, b2, d2, rfl, hl4, hok, h30, hr3.lower hz1, hJ3.lower hz1, hs.lower (by omega), hsz, hB3⟩
set_option maxRecDepth 100000 in
set_option maxHeartbeats 1000000 in
theorem DrawTardinessOf_any (A : Option Addr) (n c : Nat) (w : World) (hb : BytesAt w w.heap.size A n) : Calls Try.prog 19 #[.slice A n c] w (DrawnTwo w) := by
  go_enter Try.func19, Try.ntmps19
  go_wp2_with fail
  refine (l22Two_any _ _ _ _ hb).mono ?_
  rintro e w1 ⟨l, sl, R, b, c2, b2, d2, rfl, h1, h2, h3, h4, h5, h6, h7, h8⟩
  go_wp2_with fail
  go_ret2
  exact ⟨l, sl, R, b, c2, b2, d2, rfl, h1, h2, h3, h4, h5, h6, h7, h8⟩
end Go.Proofs.Ytmkfinahbelpdaa
