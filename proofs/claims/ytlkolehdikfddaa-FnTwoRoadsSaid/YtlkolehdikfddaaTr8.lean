/- Part 8 of the texts of this claim: The walk of the reference's way to add a flow; The walks of MergeFlows; The walks of DemandFlows; Need: its cells, and the walks of the laws' own helpers on lists of it; Receipt: its cells, and the walks of the laws' own helpers on lists of it; Plain law of calendars: hours of a day. No program in sight; Exception: its cells, and the walks of the laws' own helpers on lists of it. -/
import Derived.Test.YtlkolehdikfddaaTr7
import Derived.StillTailTactics
import Derived.Test.YtlkolehdikfddaaTr1
/- The walk of the reference's way to add a flow. -/
namespace Go.Proofs.Ytlkolehdikfddaa
open Go.RowKit
theorem size_alloc1 (w : World) (o : Obj) : (w.alloc o).heap.size = w.heap.size + 1 := by simp
theorem le_alloc1 {w : World} {B : Nat} (h : B ≤ w.heap.size) (o : Obj) : B ≤ (w.alloc o).heap.size := by simp; omega
theorem below_two {w w2 : World} (h : Below w.heap.size w w2) (o p : Obj) : Below w.heap.size w ((w2.alloc o).alloc p) := (h.alloc h.size _).alloc (by simp; have := h.size; omega) _
theorem len_take {l : List Fl} (k : Nat) (h : l.length ≤ 1048576) : (l.take k).length ≤ 16777216 := by simp; omega
theorem len_take1 {l : List Fl} (k : Nat) (x : Fl) (h : l.length ≤ 1048576) : (l.take k ++ [x]).length ≤ 16777216 := by simp; omega
theorem len_1 {l : List Fl} (x : Fl) (h : l.length ≤ 1048576) : (l ++ [x]).length ≤ 16777216 := by simp; omega
theorem new_row (w : World) {H : Nat} (hH : w.heap.size = H) (d q : Int) : RowsIn flF (w.alloc (.cells #[.int .i64 d, .int .i64 q] 107)) (some ⟨H, 0, none⟩) 1 [(d, q)] := by
  refine ⟨rfl, rfl, by omega, fun _ => ⟨H, 0, rfl, by simp; omega, fun j u hu => ?_⟩⟩
  have := news_at hH #[.int .i64 d, .int .i64 q] 107 j u hu
  rwa [Addr.add_lit] at this
theorem flF_set (l : List Fl) (k : Nat) (x : Int) (hk : k < l.length) : (l.flatMap flF.enc).set (k * 2 + 1) (.int .i64 x) = (l.set k (l[k].1, x)).flatMap flF.enc := by
  induction l generalizing k with
  | nil => simp at hk
  | cons f t ih =>
    cases k with
    | zero => simp [flF]
    | succ k =>
      have h := ih k (by simpa using hk)
      simp only [List.flatMap_cons, List.set_cons_succ, List.getElem_cons_succ]
      rw [← h, List.set_append_right _ _ (by simp [flF]; omega)]
      congr 2
      simp [flF]
      omega
theorem own_some {w : World} {lo n c : Nat} {A : Option Addr} {l : List Fl} (h : OwnRows flF 107 w lo A n c l) (hn : 0 < n) : ∃ g, A = some ⟨g, 0, none⟩ := by
  rcases h.2.2 with ⟨hv, h0⟩ | ⟨g, cap, cur, hv, _⟩
  · omega
  · exact ⟨g, by injection hv⟩
set_option maxRecDepth 100000 in
set_option maxHeartbeats 4000000 in
theorem l14Add_any (A : Option Addr) (n c : Nat) (l : List Fl) (d q : Int) (w : World) (ha : FlowsIn w A n l) (hnc : n ≤ c) (_hc : c ≤ 9223372036854775807) (hq : -1000000000000 ≤ q ∧ q ≤ 1000000000000) (hl : ∀ f ∈ l, -1000000000000 ≤ f.2 ∧ f.2 ≤ 1000000000000) (hn : l.length ≤ 1048576) :
    Calls Try.prog 74 #[.slice A n c, .int .i64 d, .int .i64 q] w (OneRow w (addS l d q)) := by
  obtain rfl := ha.1
  obtain ⟨q1, q2⟩ := hq
  have HL := Lib.hid hl
  clear hl
  go_enter Try.func74, Try.ntmps74
  go_wp2
  go_loop [7] (fun i => ∃ k : Nat, k ≤ l.length ∧ i = .int .i64 k ∧ Hid (∀ j (hj : j < l.length), j < k → l[j].1 < d)) (fun i => l.length - (intOf i).toNat)
  case atStart => exact ⟨0, by omega, rfl, fun j _ h => absurd h (by omega)⟩
  case round =>
    obtain ⟨k, hk, rfl, HI⟩ := hrel
    by_cases hlt : k < l.length
    · obtain ⟨b, o, rfl, hb, hc1, hc2⟩ := flow_at ha hlt
      by_cases h1 : l[k].1 < d
      · go_wp2
        go_round
        case rel =>
          refine ⟨k + 1, by omega, by go_num, ?_⟩
          intro j hj hjk
          rcases Nat.lt_or_ge j k with h3 | h3
          · exact HI.out j hj h3
          · obtain rfl : j = k := by omega
            exact h1
        case measure => simp [intOf]; omega
      by_cases h2 : l[k].1 = d
      · have e1 : (l[k].1 == d) = true := by rw [beq_iff_eq]; exact h2
        have H2 := Lib.hid h2
        clear h2
        have hfm : (l.flatMap flF.enc)[k * 2 + 1]? = some (.int .i64 l[k].2) := flatMap_at flF.enc 2 flF.len l k 1 hlt (by omega)
        have HF := Lib.hid hfm
        clear hfm
        obtain ⟨m1, m2⟩ := HL.out _ (List.getElem_mem hlt)
        go_wp2_with (at_builtin; refine wpList_append_copy flowElem flOne rfl (.tmp 24) (.tmp 25) rfl rfl (empty_row rfl (Nat.le_refl _)) rfl (ha.keep (below_alloc _ _)) (by simp) ?_; intro A2 c2 w2 ho2 hbl; have hB : Below w.heap.size w w2 := (below_alloc w (.cells #[] 107)).trans (hbl _ (Nat.le_refl _) (by simp)); clear hbl; obtain ⟨g, rfl⟩ := own_some ho2 (by omega); have hd1 := (hB.cell (p := ⟨b, o + k * 2, none⟩) hb).trans hc1; have hd2 := (ho2.2.cellAt (k * 2 + 1) (by show k * 2 + 1 < l.length * 2; omega)).trans HF.out; have hd3 := ho2.2.frozenAt (k * 2 + 1))
        have s1 := (ho2.2.stored (k * 2 + 1) (.int .i64 (l[k].2 + q))).1
        rw [flF_set l k _ hlt] at s1
        have S1 := Lib.hid s1
        have hsz := hB.size
        go_wp2
        go_ret
        refine oneRow_mk ?_ (hB.setCell (by exact (own_lt ho2.2 _ rfl).1) _)
        rw [addS_eq l d q k hlt HI.out H2.out]
        show World.ownsRow _ _ _ _ _ (l.set k (l[k].1, l[k].2 + q)).length _
        rw [List.length_set]
        exact S1.out
      · have e1 : (l[k].1 == d) = false := by rw [beq_eq_false_iff_ne]; exact h2
        have H2 := Lib.hid h2
        clear h2
        have hkc : k ≤ c := by omega
        go_wp2_with (at_builtin; refine wpList_append_copy flowElem flOne rfl (.tmp 24) (.tmp 25) rfl rfl (empty_row rfl (Nat.le_refl _)) rfl (ha.keep (below_alloc _ _)) (by simp) ?_; intro A2 c2 w2 ho2 hbl; have hB : Below w.heap.size w w2 := (below_alloc w (.cells #[] 107)).trans (hbl _ (Nat.le_refl _) (by simp)); clear hbl; have hd1 := (hB.cell (p := ⟨b, o + k * 2, none⟩) hb).trans hc1; have hr2 := ha.keep hB)
        have hsz := hB.size
        have HT : Hid (∀ W, Below w.heap.size w W → RowsIn flF W (some ⟨b, o, none⟩) k (l.take k)) := fun W hW => (ha.keep hW).take (by omega)
        have HD : Hid (∀ W, Below w.heap.size w W → RowsIn flF W (some ⟨b, o + k * 2, none⟩) (l.length - k) (l.drop k)) := fun W hW => by
          have := (ha.keep hW).drop (k := k) (cap := c) (by omega) hnc
          rw [if_neg (by omega)] at this
          simp only [Option.map_some, Addr.add_lit] at this
          exact this
        have hck : ¬ c = k := by omega
        go_region_law (first | (refine step_append_rows flowElem flOne rfl (.tmp 52) (.tmp 55) rfl ((w2.alloc (.cells #[] 107)).drew) (lo := w.heap.size) (v := .slice (some ⟨w2.heap.size, 0, none⟩) 0 0) (l := []) rfl (RowVal.drew (empty_row (F := flF) (e := 107) (H := w2.heap.size) rfl hB.size)) (Nat.zero_le _) rfl (HT.out _ ((hB.alloc hB.size _).drew)) ((hB.alloc hB.size _).drew).size ?_; intro v3 w3 hrow3 hg3; rw [List.nil_append] at hrow3; have hB3 : Below w.heap.size w w3 := ((hB.alloc hB.size _).drew).trans (RowVal.below (RowVal.drew (empty_row (F := flF) (e := 107) (H := w2.heap.size) rfl hB.size)) hg3 (Nat.le_refl _) ((hB.alloc hB.size _).drew).size); have hlen3 := len_take k hn; have hle3 := le_alloc1 hB3.size (.cells #[.int .i64 d, .int .i64 q] 107); clear hg3) | (refine step_append_rows flowElem flOne rfl (.tmp 52) (.tmp 55) rfl (((w2.alloc (.cells #[] 107)).alloc (.cells #[.int .i64 d, .int .i64 q] 107)).drew) (lo := w.heap.size) (v := .slice (some ⟨w2.heap.size, 0, none⟩) 0 0) (l := []) rfl (RowVal.drew (RowVal.alloc (empty_row (F := flF) (e := 107) (H := w2.heap.size) rfl hB.size) _)) (Nat.zero_le _) rfl (HT.out _ ((below_two hB _ _).drew)) ((below_two hB _ _).drew).size ?_; intro v3 w3 hrow3 hg3; rw [List.nil_append] at hrow3; have hB3 : Below w.heap.size w w3 := ((below_two hB _ _).drew).trans (RowVal.below (RowVal.drew (RowVal.alloc (empty_row (F := flF) (e := 107) (H := w2.heap.size) rfl hB.size) _)) hg3 (Nat.le_refl _) ((below_two hB _ _).drew).size); have hX3 := RowsIn.far (RowsIn.drew (new_row _ (H := w2.heap.size + 1) (size_alloc1 _ _) d q)) hg3 (by simp [Value.ownBlock]); have hlen3 := len_take k hn; have hle3 := le_alloc1 hB3.size (.cells #[.int .i64 d, .int .i64 q] 107); clear hg3) | (refine step_append_rows flowElem flOne rfl (.tmp 52) (.tmp 55) rfl (((w2.alloc (.cells #[.int .i64 d, .int .i64 q] 107)).alloc (.cells #[] 107)).drew) (lo := w.heap.size) (v := .slice (some ⟨w2.heap.size + 1, 0, none⟩) 0 0) (l := []) rfl (RowVal.drew (empty_row (F := flF) (e := 107) (H := w2.heap.size + 1) (size_alloc1 _ _) (le_alloc1 hB.size _))) (Nat.zero_le _) rfl (HT.out _ ((below_two hB _ _).drew)) ((below_two hB _ _).drew).size ?_; intro v3 w3 hrow3 hg3; rw [List.nil_append] at hrow3; have hB3 : Below w.heap.size w w3 := ((below_two hB _ _).drew).trans (RowVal.below (RowVal.drew (empty_row (F := flF) (e := 107) (H := w2.heap.size + 1) (size_alloc1 _ _) (le_alloc1 hB.size _))) hg3 (Nat.le_refl _) ((below_two hB _ _).drew).size); have hX3 := RowsIn.far (RowsIn.drew ((new_row w2 rfl d q).keep (below_alloc _ _))) hg3 (by simp [Value.ownBlock]); have hlen3 := len_take k hn; have hle3 := le_alloc1 hB3.size (.cells #[.int .i64 d, .int .i64 q] 107); clear hg3) | (refine step_append_rows flowElem flOne rfl (.tmp 56) (.tmp 60) rfl (w3.alloc (.cells #[.int .i64 d, .int .i64 q] 107)) (lo := w.heap.size) rfl (RowVal.alloc hrow3 _) hlen3 rfl (new_row w3 rfl d q) hle3 ?_; intro v4 w4 hrow4 hg4; have hB4 : Below w.heap.size w w4 := (hB3.alloc hB3.size _).trans (RowVal.below (RowVal.alloc hrow3 _) hg4 (Nat.le_refl _) hle3); have hlen4 := len_take1 k (d, q) hn; clear hg4) | (refine step_append_rows flowElem flOne rfl (.tmp 56) (.tmp 60) rfl w3 (lo := w.heap.size) rfl hrow3 hlen3 rfl hX3 hB3.size ?_; intro v4 w4 hrow4 hg4; have hB4 : Below w.heap.size w w4 := hB3.trans (RowVal.below hrow3 hg4 (Nat.le_refl _) hB3.size); have hlen4 := len_take1 k (d, q) hn; clear hg4) | (refine step_append_rows flowElem flOne rfl (.tmp 61) (.tmp 64) rfl w4 (lo := w.heap.size) rfl hrow4 hlen4 rfl (HD.out _ hB4) hB4.size ?_; intro v5 w5 hrow5 hg5; have hB5 : Below w.heap.size w w5 := hB4.trans (RowVal.below hrow4 hg5 (Nat.le_refl _) hB4.size); clear hg5))
        all_goals
          have hsz5 := hB5.size
          go_wp2
          go_ret
          refine oneRow_mk ?_ hB5
          rw [addS_gt l d q k hlt HI.out (by have := H2.out; omega)]
          exact hrow5
    · obtain rfl : k = l.length := by omega
      go_wp2_with (at_builtin; refine wpList_append_copy flowElem flOne rfl (.tmp 24) (.tmp 25) rfl rfl (empty_row rfl (Nat.le_refl _)) rfl (ha.keep (below_alloc _ _)) (by simp) ?_; intro A2 c2 w2 ho2 hbl; have hB : Below w.heap.size w w2 := (below_alloc w (.cells #[] 107)).trans (hbl _ (Nat.le_refl _) (by simp)); clear hbl)
      have hsz := hB.size
      have HT : Hid (∀ W, Below w.heap.size w W → RowsIn flF W A l.length l) := fun W hW => ha.keep hW
      have HD : Hid (∀ W, Below w.heap.size w W → ∀ X, RowsIn flF W X 0 []) := fun W _ X => RowsIn.nil_ W X
      go_region_law (first | (refine step_append_rows flowElem flOne rfl (.tmp 52) (.tmp 55) rfl ((w2.alloc (.cells #[] 107)).drew) (lo := w.heap.size) (v := .slice (some ⟨w2.heap.size, 0, none⟩) 0 0) (l := []) rfl (RowVal.drew (empty_row (F := flF) (e := 107) (H := w2.heap.size) rfl hB.size)) (Nat.zero_le _) rfl (HT.out _ ((hB.alloc hB.size _).drew)) ((hB.alloc hB.size _).drew).size ?_; intro v3 w3 hrow3 hg3; rw [List.nil_append] at hrow3; have hB3 : Below w.heap.size w w3 := ((hB.alloc hB.size _).drew).trans (RowVal.below (RowVal.drew (empty_row (F := flF) (e := 107) (H := w2.heap.size) rfl hB.size)) hg3 (Nat.le_refl _) ((hB.alloc hB.size _).drew).size); have hlen3 := (Nat.le_trans hn (by decide) : l.length ≤ 16777216); have hle3 := le_alloc1 hB3.size (.cells #[.int .i64 d, .int .i64 q] 107); clear hg3) | (refine step_append_rows flowElem flOne rfl (.tmp 52) (.tmp 55) rfl (((w2.alloc (.cells #[] 107)).alloc (.cells #[.int .i64 d, .int .i64 q] 107)).drew) (lo := w.heap.size) (v := .slice (some ⟨w2.heap.size, 0, none⟩) 0 0) (l := []) rfl (RowVal.drew (RowVal.alloc (empty_row (F := flF) (e := 107) (H := w2.heap.size) rfl hB.size) _)) (Nat.zero_le _) rfl (HT.out _ ((below_two hB _ _).drew)) ((below_two hB _ _).drew).size ?_; intro v3 w3 hrow3 hg3; rw [List.nil_append] at hrow3; have hB3 : Below w.heap.size w w3 := ((below_two hB _ _).drew).trans (RowVal.below (RowVal.drew (RowVal.alloc (empty_row (F := flF) (e := 107) (H := w2.heap.size) rfl hB.size) _)) hg3 (Nat.le_refl _) ((below_two hB _ _).drew).size); have hX3 := RowsIn.far (RowsIn.drew (new_row _ (H := w2.heap.size + 1) (size_alloc1 _ _) d q)) hg3 (by simp [Value.ownBlock]); have hlen3 := (Nat.le_trans hn (by decide) : l.length ≤ 16777216); have hle3 := le_alloc1 hB3.size (.cells #[.int .i64 d, .int .i64 q] 107); clear hg3) | (refine step_append_rows flowElem flOne rfl (.tmp 52) (.tmp 55) rfl (((w2.alloc (.cells #[.int .i64 d, .int .i64 q] 107)).alloc (.cells #[] 107)).drew) (lo := w.heap.size) (v := .slice (some ⟨w2.heap.size + 1, 0, none⟩) 0 0) (l := []) rfl (RowVal.drew (empty_row (F := flF) (e := 107) (H := w2.heap.size + 1) (size_alloc1 _ _) (le_alloc1 hB.size _))) (Nat.zero_le _) rfl (HT.out _ ((below_two hB _ _).drew)) ((below_two hB _ _).drew).size ?_; intro v3 w3 hrow3 hg3; rw [List.nil_append] at hrow3; have hB3 : Below w.heap.size w w3 := ((below_two hB _ _).drew).trans (RowVal.below (RowVal.drew (empty_row (F := flF) (e := 107) (H := w2.heap.size + 1) (size_alloc1 _ _) (le_alloc1 hB.size _))) hg3 (Nat.le_refl _) ((below_two hB _ _).drew).size); have hX3 := RowsIn.far (RowsIn.drew ((new_row w2 rfl d q).keep (below_alloc _ _))) hg3 (by simp [Value.ownBlock]); have hlen3 := (Nat.le_trans hn (by decide) : l.length ≤ 16777216); have hle3 := le_alloc1 hB3.size (.cells #[.int .i64 d, .int .i64 q] 107); clear hg3) | (refine step_append_rows flowElem flOne rfl (.tmp 56) (.tmp 60) rfl (w3.alloc (.cells #[.int .i64 d, .int .i64 q] 107)) (lo := w.heap.size) rfl (RowVal.alloc hrow3 _) hlen3 rfl (new_row w3 rfl d q) hle3 ?_; intro v4 w4 hrow4 hg4; have hB4 : Below w.heap.size w w4 := (hB3.alloc hB3.size _).trans (RowVal.below (RowVal.alloc hrow3 _) hg4 (Nat.le_refl _) hle3); have hlen4 := len_1 (d, q) hn; clear hg4) | (refine step_append_rows flowElem flOne rfl (.tmp 56) (.tmp 60) rfl w3 (lo := w.heap.size) rfl hrow3 hlen3 rfl hX3 hB3.size ?_; intro v4 w4 hrow4 hg4; have hB4 : Below w.heap.size w w4 := hB3.trans (RowVal.below hrow3 hg4 (Nat.le_refl _) hB3.size); have hlen4 := len_1 (d, q) hn; clear hg4) | (refine step_append_rows flowElem flOne rfl (.tmp 61) (.tmp 64) rfl w4 (lo := w.heap.size) rfl hrow4 hlen4 rfl (HD.out _ hB4 _) hB4.size ?_; intro v5 w5 hrow5 hg5; have hB5 : Below w.heap.size w w5 := hB4.trans (RowVal.below hrow4 hg5 (Nat.le_refl _) hB4.size); clear hg5))
      all_goals
        have hsz5 := hB5.size
        rw [List.append_nil] at hrow5
        go_wp2
        all_goals
          go_ret
          refine oneRow_mk ?_ hB5
          rw [addS_end l d q HI.out]
          exact hrow5
end Go.Proofs.Ytlkolehdikfddaa
/- The walks of MergeFlows. -/
namespace Go.Proofs.Ytlkolehdikfddaa
open Go.RowKit
def mergeTo (a b : List Fl) (k : Nat) : List Fl := (b.take k).foldl (fun o f => addS o f.1 f.2) a
def mergeFlows (a b : List Fl) : List Fl × Bool := if (areFlows a && areFlows b) && areFlows (mergeTo a b b.length) then (mergeTo a b b.length, true) else ([], false)
theorem own_cap {w : World} {lo n c : Nat} {A : Option Addr} {l : List Fl} (h : OwnRows flF 107 w lo A n c l) : n ≤ c ∧ c ≤ maxLen := by
  rcases h.2.2 with ⟨hv, h0⟩ | ⟨g, cap, cur, hv, _, _, h1, h2, _⟩
  · injection hv with _ h1 h2; unfold maxLen; omega
  · injection hv with _ h3 h4; subst h4; exact ⟨h1, h2⟩
end Go.Proofs.Ytlkolehdikfddaa
/- The walks of DemandFlows. -/
namespace Go.Proofs.Ytlkolehdikfddaa
open Go.RowKit
def demStep (item : ByteArray) (o : List Fl) (d : Dm) : List Fl := if d.2.1.toList == item.toList then addS o d.2.2.2.1 d.2.2.1 else o
def demTo (l : List Dm) (item : ByteArray) (k : Nat) : List Fl := (l.take k).foldl (demStep item) []
theorem demTo_succ (l : List Dm) (item : ByteArray) (k : Nat) (h : k < l.length) : demTo l item (k + 1) = demStep item (demTo l item k) l[k] := foldl_take _ _ _ _ h
theorem areDemands_mem {l : List Dm} (h : areDemands l = true) {k : Nat} (hk : k < l.length) : 1 ≤ l[k].2.2.1 ∧ l[k].2.2.1 ≤ 100000 ∧ 0 ≤ l[k].2.2.2.1 ∧ l[k].2.2.2.1 ≤ 999 := by
  simp only [areDemands, Bool.and_eq_true, List.all_eq_true, List.mem_range] at h
  have := h.1 k hk
  simp only [okDem, dm_getD l k hk, Bool.and_eq_true, inB_iff] at this
  omega
theorem areDemands_len {l : List Dm} (h : areDemands l = true) : l.length ≤ 16 := by
  simp only [areDemands, Bool.and_eq_true, decide_eq_true_eq] at h
  omega
theorem demTo_parts (l : List Dm) (item : ByteArray) (h : areDemands l = true) (k : Nat) (hk : k ≤ l.length) : ascends (demTo l item k) ∧ (demTo l item k).length ≤ k ∧ ∀ f ∈ demTo l item k, 0 ≤ f.2 ∧ f.2 ≤ 100000 * k := by
  induction k with
  | zero => exact ⟨fun i j hj => by simp [demTo] at hj, by simp [demTo], fun f hf => by simp [demTo] at hf⟩
  | succ k ih =>
    obtain ⟨h1, h2, h3⟩ := ih (by omega)
    have hm := areDemands_mem h (show k < l.length by omega)
    rw [demTo_succ l item k (by omega)]
    unfold demStep
    split
    · refine ⟨addS_ascends _ _ _ h1, by have := addS_len (demTo l item k) l[k].2.2.2.1 l[k].2.2.1; omega, fun f hf => ?_⟩
      have := addS_bd (demTo l item k) l[k].2.2.2.1 l[k].2.2.1 0 (100000 * k) 0 100000 h3 (by omega) (by omega) (by omega) (by omega) (by omega) f hf
      omega
    · exact ⟨h1, by omega, fun f hf => by have := h3 f hf; omega⟩
def demandFlows (l : List Dm) (item : ByteArray) : List Fl := if areDemands l then demTo l item l.length else []
theorem demandFlows_no {l : List Dm} {item : ByteArray} (h : areDemands l = false) : demandFlows l item = [] := by unfold demandFlows; rw [h]; rfl
theorem demandFlows_yes {l : List Dm} {item : ByteArray} (h : areDemands l = true) : demandFlows l item = demTo l item l.length := by unfold demandFlows; rw [if_pos h]
set_option maxRecDepth 100000 in
set_option maxHeartbeats 4000000 in
theorem specDemandFlows_any (A : Option Addr) (n c : Nat) (l : List Dm) (item : ByteArray) (w : World) (hl : DemandsIn w A n l) (hok : ∀ x ∈ l, okDm x) :
    Calls Try.prog 56 #[.slice A n c, .string item] w (OneRow w (demandFlows l item)) := by
  have hn := hl.len
  obtain rfl := hl.1
  cases hf : areDemands l
  · have HN : Hid (demandFlows l item = []) := demandFlows_no hf
    by_cases h0 : 0 < l.length
    · go_enter Try.func56, Try.ntmps56
      go_wp2
      refine wp_loop_rounds 1 ?_
      rw [rounds_succ]
      go_wp2_with fail
      refine (specAreDemands_any _ _ _ l _ (hl.keep (below_alloc _ _)) hok).mono ?_
      rintro e w1 ⟨rfl, hd⟩
      rw [hf]
      have hB := (below_alloc w (.cells #[] 107)).trans (hd.mono (by simp))
      have hr : RowVal flF 107 w1 w.heap.size (.slice (some ⟨w.heap.size, 0, none⟩) 0 0) [] := (empty_row (F := flF) (e := 107) (w := w) rfl (Nat.le_refl _)).keep hd
      clear hok
      go_wp2_with fail
      go_ret
      rw [HN.out]
      exact oneRow_mk hr hB
    · exfalso
      have : l = [] := List.eq_nil_of_length_eq_zero (by omega)
      subst this
      simp [areDemands] at hf
  have HP := Lib.hid (demTo_parts l item hf)
  have HM := Lib.hid (fun k hk => areDemands_mem hf (k := k) hk)
  have hl16 := areDemands_len hf
  have HO := Lib.hid hok
  clear hok
  go_enter Try.func56, Try.ntmps56
  go_wp2
  have hb0 := below_alloc w (.cells #[] 107)
  have hv0 : RowVal flF 107 (w.alloc (.cells #[] 107)) w.heap.size (.slice (some ⟨w.heap.size, 0, none⟩) 0 0) [] := empty_row rfl (Nat.le_refl _)
  go_loopw [5, 6] (fun v i wr => ∃ k : Nat, k ≤ l.length ∧ i = .int .i64 k ∧ RowVal flF 107 wr w.heap.size v (demTo l item k) ∧ Below w.heap.size w wr) (fun _ i _ => l.length - (intOf i).toNat)
  case atStart => exact ⟨0, by omega, rfl, hv0, hb0⟩
  case round =>
    clear hv0 hb0
    obtain ⟨k, hk, rfl, hrow, HR⟩ := hrel
    obtain ⟨p1, p2, p3⟩ := HP.out k hk
    obtain ⟨A2, c2, rfl, ho⟩ := hrow.form
    obtain ⟨k1, k2⟩ := own_cap ho
    clear p1
    by_cases hlt : k < l.length
    · have HS := Lib.hid (demTo_succ l item k hlt)
      obtain ⟨m1, m2, m3, m4⟩ := HM.out k hlt
      have HQ : Hid (∀ f ∈ demTo l item k, -1000000000000 ≤ f.2 ∧ f.2 ≤ 1000000000000) := fun f hf => by have := p3 f hf; omega
      clear p3
      go_wp2_with fail
      refine (specAreDemands_any _ _ _ l _ (hl.keep HR) HO.out).mono ?_
      rintro e w1 ⟨rfl, hd⟩
      rw [hf]
      have HR1 := below_on HR hd
      replace ho := ho.keep hd
      obtain ⟨b, o, rfl, _, hc0, hc1, hc2, hc3, hc4⟩ := demand_at (hl.keep HR1) hlt
      cases heq : (l[k].2.1.toList == item.toList)
      · have HE : Hid (demStep item (demTo l item k) l[k] = demTo l item k) := by show _ = _; unfold demStep; rw [heq]; rfl
        go_wp2_with fail
        go_roundw
        case rel => exact ⟨k + 1, by omega, by go_num, by rw [HS.out, HE.out]; exact ho.val, HR1⟩
        case measure => simp [intOf]; omega
      · have HE : Hid (demStep item (demTo l item k) l[k] = addS (demTo l item k) l[k].2.2.2.1 l[k].2.2.1) := by show _ = _; unfold demStep; rw [heq]; rfl
        go_wp2_with fail
        go_still_tail 11, (by kernel_rfl)
        change wpList _ _ _ _ _ w1.drew
        have HE2 : Below w.heap.size w w1.drew := HR1.drew
        have ho2 : OwnRows flF 107 w1.drew w.heap.size A2 (demTo l item k).length c2 (demTo l item k) := ho
        clear ho HR hd HR1 hc0 hc1 hc2 hc3 hc4 hrow
        generalize w1.drew = w2 at *
        go_wp2_with fail
        refine (l14Add_any _ _ _ (demTo l item k) _ _ _ (ho2.rows (by omega)) k1 (by unfold maxLen at k2; omega) (by omega) HQ.out (by omega)).mono ?_
        rintro e w3 ⟨A3, c3, rfl, ho3, hb3⟩
        rw [← HE.out, ← HS.out] at ho3
        rw [← HE.out, ← HS.out]
        go_wp2_with fail
        go_roundw
        case rel => exact ⟨k + 1, by omega, by go_num, (ho3.lower HE2.size).val, below_on HE2 hb3⟩
        case measure => simp [intOf]; omega
    · obtain rfl : k = l.length := by omega
      have HY := Lib.hid (demandFlows_yes (item := item) hf)
      clear p3
      go_wp2_with fail
      go_ret
      rw [HY.out]
      exact oneRow_mk ho.val HR
end Go.Proofs.Ytlkolehdikfddaa
/- Need: its cells, and the walks of the laws' own helpers on lists of it. -/
namespace Go.Proofs.Ytlkolehdikfddaa
open Go.RowKit

abbrev Nd := ByteArray × Int
def ndF : Flat Nd := ⟨fun f => [.string (f.1), .int .i64 (f.2)], 2, fun _ => rfl⟩
abbrev NeedsIn (w : World) (A : Option Addr) (n : Nat) (l : List Nd) : Prop := RowsIn ndF w A n l
theorem need_at {w : World} {A : Option Addr} {n : Nat} {l : List Nd} (h : NeedsIn w A n l) {k : Nat} (hk : k < l.length) :
    ∃ b o, A = some ⟨b, o, none⟩ ∧ b < w.heap.size ∧ w.cell? ⟨b, o + k * 2, none⟩ = some (.string (l[k].1)) ∧ w.cell? ⟨b, o + k * 2 + 1, none⟩ = some (.int .i64 (l[k].2)) := by
  obtain ⟨b, o, e, hlt, hc⟩ := h.at_ hk
  exact ⟨b, o, e, hlt, hc 0 _ rfl, hc 1 _ rfl⟩
theorem needInfo : (Try.prog.info? 70).map (fun i => (i.zero, i.size, i.bytes)) = some (some (.agg #[.string ByteArray.empty, .int .i64 0]), 2, 24) := by kernel_rfl
theorem needElem : ElemOk ndF 31 70 := by
  obtain ⟨i, h1, h2, h3, h4⟩ := info_parts needInfo
  exact ⟨i, _, 24, Try.underlying31, h1, h2, h3, h4, rfl, by decide, by omega⟩
def okNd (x : Nd) : Prop := x.1.size ≤ 9223372036854775807
end Go.Proofs.Ytlkolehdikfddaa
/- Receipt: its cells, and the walks of the laws' own helpers on lists of it. -/
namespace Go.Proofs.Ytlkolehdikfddaa
open Go.RowKit

abbrev Rc := ByteArray × Int × Int
def rcF : Flat Rc := ⟨fun f => [.string (f.1), .int .i64 (f.2.1), .int .i64 (f.2.2)], 3, fun _ => rfl⟩
abbrev ReceiptsIn (w : World) (A : Option Addr) (n : Nat) (l : List Rc) : Prop := RowsIn rcF w A n l
theorem receipt_at {w : World} {A : Option Addr} {n : Nat} {l : List Rc} (h : ReceiptsIn w A n l) {k : Nat} (hk : k < l.length) :
    ∃ b o, A = some ⟨b, o, none⟩ ∧ b < w.heap.size ∧ w.cell? ⟨b, o + k * 3, none⟩ = some (.string (l[k].1)) ∧ w.cell? ⟨b, o + k * 3 + 1, none⟩ = some (.int .i64 (l[k].2.1)) ∧ w.cell? ⟨b, o + k * 3 + 2, none⟩ = some (.int .i64 (l[k].2.2)) := by
  obtain ⟨b, o, e, hlt, hc⟩ := h.at_ hk
  exact ⟨b, o, e, hlt, hc 0 _ rfl, hc 1 _ rfl, hc 2 _ rfl⟩
theorem receiptInfo : (Try.prog.info? 100).map (fun i => (i.zero, i.size, i.bytes)) = some (some (.agg #[.string ByteArray.empty, .int .i64 0, .int .i64 0]), 3, 32) := by kernel_rfl
theorem receiptElem : ElemOk rcF 32 100 := by
  obtain ⟨i, h1, h2, h3, h4⟩ := info_parts receiptInfo
  exact ⟨i, _, 32, Try.underlying32, h1, h2, h3, h4, rfl, by decide, by omega⟩
def okRc (x : Rc) : Prop := x.1.size ≤ 9223372036854775807
end Go.Proofs.Ytlkolehdikfddaa
/- Plain law of calendars: hours of a day. No program in sight. -/
namespace Go.Proofs.Ytlkolehdikfddaa
def exNone : Int × Int := (0, 0)
def okEx (ex : List (Int × Int)) (k : Nat) : Bool :=
  inB (ex.getD k exNone).1 0 999 && (inB (ex.getD k exNone).2 0 24 && (decide (k = 0) || decide ((ex.getD (k - 1) exNone).1 < (ex.getD k exNone).1)))
def isCal (wk : List Int) (ex : List (Int × Int)) : Bool :=
  decide (wk.length = 7) && (decide (ex.length ≤ 20) && (wk.all (inB · 0 24) && (List.range ex.length).all (okEx ex)))
theorem ex_getD (l : List (Int × Int)) (k : Nat) (h : k < l.length) : l.getD k exNone = l[k] := by
  rw [List.getD_eq_getElem?_getD, List.getElem?_eq_getElem h]; rfl
theorem isCal_wk {wk : List Int} {ex : List (Int × Int)} {k : Nat} (hk : k < wk.length) (h : inB wk[k] 0 24 = false) : isCal wk ex = false := by
  have : wk.all (inB · 0 24) = false := by rw [List.all_eq_false]; exact ⟨_, List.getElem_mem hk, by simp [h]⟩
  simp [isCal, this]
theorem isCal_ex {wk : List Int} {ex : List (Int × Int)} {k : Nat} (hk : k < ex.length) (h : okEx ex k = false) : isCal wk ex = false := by
  have : (List.range ex.length).all (okEx ex) = false := by rw [List.all_eq_false]; exact ⟨k, by simpa using hk, by simp [h]⟩
  simp [isCal, this]
theorem isCal_yes {wk : List Int} {ex : List (Int × Int)} (h7 : wk.length = 7) (h20 : ex.length ≤ 20) (hw : wk.all (inB · 0 24) = true) (he : ∀ j < ex.length, okEx ex j = true) : isCal wk ex = true := by
  have : (List.range ex.length).all (okEx ex) = true := by rw [List.all_eq_true]; intro x hx; exact he x (by simpa using hx)
  simp [isCal, this, h7, h20, hw]
theorem isCal_no7 {wk : List Int} {ex : List (Int × Int)} (h : ¬ wk.length = 7) : isCal wk ex = false := by simp [isCal, h]
theorem isCal_no20 {wk : List Int} {ex : List (Int × Int)} (h : ¬ ex.length ≤ 20) : isCal wk ex = false := by
  have : decide (ex.length ≤ 20) = false := by simpa using h
  simp [isCal, this]
theorem isCal_parts {wk : List Int} {ex : List (Int × Int)} (h : isCal wk ex = true) : wk.length = 7 ∧ ex.length ≤ 20 ∧ (∀ x ∈ wk, 0 ≤ x ∧ x ≤ 24) ∧ (∀ k, k < ex.length → 0 ≤ (ex.getD k exNone).1 ∧ (ex.getD k exNone).1 ≤ 999 ∧ 0 ≤ (ex.getD k exNone).2 ∧ (ex.getD k exNone).2 ≤ 24 ∧ (0 < k → (ex.getD (k - 1) exNone).1 < (ex.getD k exNone).1)) := by
  simp only [isCal, Bool.and_eq_true, decide_eq_true_eq, List.all_eq_true, List.mem_range, okEx, Bool.or_eq_true, inB_iff] at h
  obtain ⟨h1, h2, h3, h4⟩ := h
  refine ⟨h1, h2, h3, fun k hk => ?_⟩
  obtain ⟨⟨a1, a2⟩, ⟨a3, a4⟩, a5⟩ := h4 k hk
  exact ⟨a1, a2, a3, a4, fun h0 => by rcases a5 with h | h <;> omega⟩
/-- The hours of a day with the first k exceptions. -/
def hoursTo (wk : List Int) (ex : List (Int × Int)) (day : Nat) : Nat → Int
  | 0 => wk.getD (day % 7) 0
  | k + 1 => if (ex.getD k exNone).1 = day then (ex.getD k exNone).2 else hoursTo wk ex day k
theorem ex_lt {wk : List Int} {ex : List (Int × Int)} (h : isCal wk ex = true) (a b : Nat) (hab : a < b) (hb : b < ex.length) : (ex.getD a exNone).1 < (ex.getD b exNone).1 := by
  have hp := (isCal_parts h).2.2.2
  induction b with
  | zero => omega
  | succ b ih =>
    have h1 := (hp (b + 1) hb).2.2.2.2 (by omega)
    rw [Nat.add_sub_cancel] at h1
    rcases Nat.lt_or_ge a b with h2 | h2
    · have := ih h2 (by omega); omega
    · obtain rfl : a = b := by omega
      exact h1
/-- The first exception of a day is its last one. -/
theorem hoursTo_hit {wk : List Int} {ex : List (Int × Int)} (h : isCal wk ex = true) (day k : Nat) (hk : k < ex.length) (hd : (ex.getD k exNone).1 = day) : hoursTo wk ex day ex.length = (ex.getD k exNone).2 := by
  have key : ∀ m, m ≤ ex.length → k < m → hoursTo wk ex day m = (ex.getD k exNone).2 := by
    intro m
    induction m with
    | zero => omega
    | succ m ih =>
      intro hm hkm
      simp only [hoursTo]
      rcases Nat.lt_or_ge k m with h1 | h1
      · have := ex_lt h k m h1 (by omega)
        rw [if_neg (by omega)]; exact ih (by omega) h1
      · obtain rfl : k = m := by omega
        rw [if_pos hd]
  exact key _ (Nat.le_refl _) hk
theorem hoursTo_miss (wk : List Int) (ex : List (Int × Int)) (day k : Nat) (h : ∀ j < k, (ex.getD j exNone).1 ≠ day) : hoursTo wk ex day k = wk.getD (day % 7) 0 := by
  induction k with
  | zero => rfl
  | succ k ih => simp only [hoursTo]; rw [if_neg (h k (by omega))]; exact ih (fun j hj => h j (by omega))
theorem hoursTo_bd {wk : List Int} {ex : List (Int × Int)} (h : isCal wk ex = true) (day k : Nat) (hk : k ≤ ex.length) : 0 ≤ hoursTo wk ex day k ∧ hoursTo wk ex day k ≤ 24 := by
  obtain ⟨h7, _, hw, he⟩ := isCal_parts h
  induction k with
  | zero =>
    have hlt : day % 7 < wk.length := by omega
    simp only [hoursTo]
    rw [List.getD_eq_getElem?_getD, List.getElem?_eq_getElem hlt]
    exact hw _ (List.getElem_mem hlt)
  | succ k ih =>
    simp only [hoursTo]
    split
    · have := he k (by omega); omega
    · exact ih (by omega)
def hoursOn (wk : List Int) (ex : List (Int × Int)) (day : Int) : Int := if isCal wk ex && inB day 0 999 then hoursTo wk ex day.toNat ex.length else 0
def minutesOn (wk : List Int) (ex : List (Int × Int)) (m day : Int) : Int := if inB m 0 20 then hoursOn wk ex day * 60 * m else 0
/-- The row of the hours of all days, with the first k exceptions. -/
def hoursRow (wk : List Int) (ex : List (Int × Int)) (k : Nat) : List Int := (List.range 1000).map fun d => hoursTo wk ex d k
/-- The row of the week's hours while the first d days are written. -/
def weekRow (wk : List Int) (d : Nat) : List Int := (List.range 1000).map fun j => if j < d then wk.getD (j % 7) 0 else 0
end Go.Proofs.Ytlkolehdikfddaa
/- Exception: its cells, and the walks of the laws' own helpers on lists of it. -/
namespace Go.Proofs.Ytlkolehdikfddaa
open Go.RowKit

abbrev Ex := Int × Int
def exF : Flat Ex := ⟨fun f => [.int .i64 (f.1), .int .i64 (f.2)], 2, fun _ => rfl⟩
abbrev ExsIn (w : World) (A : Option Addr) (n : Nat) (l : List Ex) : Prop := RowsIn exF w A n l
theorem exc_at {w : World} {A : Option Addr} {n : Nat} {l : List Ex} (h : ExsIn w A n l) {k : Nat} (hk : k < l.length) :
    ∃ b o, A = some ⟨b, o, none⟩ ∧ b < w.heap.size ∧ w.cell? ⟨b, o + k * 2, none⟩ = some (.int .i64 (l[k].1)) ∧ w.cell? ⟨b, o + k * 2 + 1, none⟩ = some (.int .i64 (l[k].2)) := by
  obtain ⟨b, o, e, hlt, hc⟩ := h.at_ hk
  exact ⟨b, o, e, hlt, hc 0 _ rfl, hc 1 _ rfl⟩
theorem excInfo : (Try.prog.info? 122).map (fun i => (i.zero, i.size, i.bytes)) = some (some (.agg #[.int .i64 0, .int .i64 0]), 2, 16) := by kernel_rfl
theorem excElem : ElemOk exF 27 122 := by
  obtain ⟨i, h1, h2, h3, h4⟩ := info_parts excInfo
  exact ⟨i, _, 16, Try.underlying27, h1, h2, h3, h4, rfl, by decide, by omega⟩
end Go.Proofs.Ytlkolehdikfddaa
