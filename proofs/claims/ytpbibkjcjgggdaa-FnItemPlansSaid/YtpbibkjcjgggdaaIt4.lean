/- Part 4 of the texts of this claim: The walk of the reference's way to add a flow; The walks of MergeFlows; What merged flows are: the sums of both up to every day, whichever comes first; Sums of flows (plain); What net needs are: with them all is covered, on their days just so, and with one piece less it is not; The walks of the rule of lots. -/
import Derived.Test.YtpbibkjcjgggdaaIt3
import Derived.StillTailTactics
import Derived.Test.YtpbibkjcjgggdaaIt2
import Derived.Test.YtpbibkjcjgggdaaIt1
/- The walk of the reference's way to add a flow. -/
namespace Go.Proofs.Ytpbibkjcjgggdaa
open Go.RowKit
theorem size_alloc1 (w : World) (o : Obj) : (w.alloc o).heap.size = w.heap.size + 1 := by simp
theorem le_alloc1 {w : World} {B : Nat} (h : B ≤ w.heap.size) (o : Obj) : B ≤ (w.alloc o).heap.size := by simp; omega
theorem below_two {w w2 : World} (h : Below w.heap.size w w2) (o p : Obj) : Below w.heap.size w ((w2.alloc o).alloc p) := (h.alloc h.size _).alloc (by simp; have := h.size; omega) _
theorem len_take {l : List Fl} (k : Nat) (h : l.length ≤ 1048576) : (l.take k).length ≤ 16777216 := by simp; omega
theorem len_take1 {l : List Fl} (k : Nat) (x : Fl) (h : l.length ≤ 1048576) : (l.take k ++ [x]).length ≤ 16777216 := by simp; omega
theorem len_1 {l : List Fl} (x : Fl) (h : l.length ≤ 1048576) : (l ++ [x]).length ≤ 16777216 := by simp; omega
theorem new_row (w : World) {H : Nat} (hH : w.heap.size = H) (d q : Int) : RowsIn flF (w.alloc (.cells #[.int .i64 d, .int .i64 q] 53)) (some ⟨H, 0, none⟩) 1 [(d, q)] := by
  refine ⟨rfl, rfl, by omega, fun _ => ⟨H, 0, rfl, by simp; omega, fun j u hu => ?_⟩⟩
  have := news_at hH #[.int .i64 d, .int .i64 q] 53 j u hu
  rwa [Addr.add_lit] at this
theorem flF_set (l : List Fl) (k : Nat) (x : Int) (hk : k < l.length) : (l.flatMap flF.enc).set (k * 2 + 1) (.int .i64 x) = (l.set k (l[k].1, x)).flatMap flF.enc := by
  induction l generalizing k with
  | nil => simp at hk
  | cons f t ih =>
    cases k with
    | zero => simp [flF]
    | succ k =>
      have h := ih k (by simpa using hk)
      simp only [List.flatMap_cons, List.set_cons_succ, List.getElem_cons_succ]
      rw [← h, List.set_append_right _ _ (by simp [flF]; omega)]
      congr 2
      simp [flF]
      omega
theorem own_some {w : World} {lo n c : Nat} {A : Option Addr} {l : List Fl} (h : OwnRows flF 53 w lo A n c l) (hn : 0 < n) : ∃ g, A = some ⟨g, 0, none⟩ := by
  rcases h.2.2 with ⟨hv, h0⟩ | ⟨g, cap, cur, hv, _⟩
  · omega
  · exact ⟨g, by injection hv⟩
set_option maxRecDepth 100000 in
set_option maxHeartbeats 4000000 in
theorem l14Add_any (A : Option Addr) (n c : Nat) (l : List Fl) (d q : Int) (w : World) (ha : FlowsIn w A n l) (hnc : n ≤ c) (_hc : c ≤ 9223372036854775807) (hq : -1000000000000 ≤ q ∧ q ≤ 1000000000000) (hl : ∀ f ∈ l, -1000000000000 ≤ f.2 ∧ f.2 ≤ 1000000000000) (hn : l.length ≤ 1048576) :
    Calls Try.prog 33 #[.slice A n c, .int .i64 d, .int .i64 q] w (OneRow w (addS l d q)) := by
  obtain rfl := ha.1
  obtain ⟨q1, q2⟩ := hq
  have HL := Lib.hid hl
  clear hl
  go_enter Try.func33, Try.ntmps33
  go_wp2
  go_loop [7] (fun i => ∃ k : Nat, k ≤ l.length ∧ i = .int .i64 k ∧ Hid (∀ j (hj : j < l.length), j < k → l[j].1 < d)) (fun i => l.length - (intOf i).toNat)
  case atStart => exact ⟨0, by omega, rfl, fun j _ h => absurd h (by omega)⟩
  case round =>
    obtain ⟨k, hk, rfl, HI⟩ := hrel
    by_cases hlt : k < l.length
    · obtain ⟨b, o, rfl, hb, hc1, hc2⟩ := flow_at ha hlt
      by_cases h1 : l[k].1 < d
      · go_wp2
        go_round
        case rel =>
          refine ⟨k + 1, by omega, by go_num, ?_⟩
          intro j hj hjk
          rcases Nat.lt_or_ge j k with h3 | h3
          · exact HI.out j hj h3
          · obtain rfl : j = k := by omega
            exact h1
        case measure => simp [intOf]; omega
      by_cases h2 : l[k].1 = d
      · have e1 : (l[k].1 == d) = true := by rw [beq_iff_eq]; exact h2
        have H2 := Lib.hid h2
        clear h2
        have hfm : (l.flatMap flF.enc)[k * 2 + 1]? = some (.int .i64 l[k].2) := flatMap_at flF.enc 2 flF.len l k 1 hlt (by omega)
        have HF := Lib.hid hfm
        clear hfm
        obtain ⟨m1, m2⟩ := HL.out _ (List.getElem_mem hlt)
        go_wp2_with (at_builtin; refine wpList_append_copy flowElem flOne rfl (.tmp 24) (.tmp 25) rfl rfl (empty_row rfl (Nat.le_refl _)) rfl (ha.keep (below_alloc _ _)) (by simp) ?_; intro A2 c2 w2 ho2 hbl; have hB : Below w.heap.size w w2 := (below_alloc w (.cells #[] 53)).trans (hbl _ (Nat.le_refl _) (by simp)); clear hbl; obtain ⟨g, rfl⟩ := own_some ho2 (by omega); have hd1 := (hB.cell (p := ⟨b, o + k * 2, none⟩) hb).trans hc1; have hd2 := (ho2.2.cellAt (k * 2 + 1) (by show k * 2 + 1 < l.length * 2; omega)).trans HF.out; have hd3 := ho2.2.frozenAt (k * 2 + 1))
        have s1 := (ho2.2.stored (k * 2 + 1) (.int .i64 (l[k].2 + q))).1
        rw [flF_set l k _ hlt] at s1
        have S1 := Lib.hid s1
        have hsz := hB.size
        go_wp2
        go_ret
        refine oneRow_mk ?_ (hB.setCell (by exact (own_lt ho2.2 _ rfl).1) _)
        rw [addS_eq l d q k hlt HI.out H2.out]
        show World.ownsRow _ _ _ _ _ (l.set k (l[k].1, l[k].2 + q)).length _
        rw [List.length_set]
        exact S1.out
      · have e1 : (l[k].1 == d) = false := by rw [beq_eq_false_iff_ne]; exact h2
        have H2 := Lib.hid h2
        clear h2
        have hkc : k ≤ c := by omega
        go_wp2_with (at_builtin; refine wpList_append_copy flowElem flOne rfl (.tmp 24) (.tmp 25) rfl rfl (empty_row rfl (Nat.le_refl _)) rfl (ha.keep (below_alloc _ _)) (by simp) ?_; intro A2 c2 w2 ho2 hbl; have hB : Below w.heap.size w w2 := (below_alloc w (.cells #[] 53)).trans (hbl _ (Nat.le_refl _) (by simp)); clear hbl; have hd1 := (hB.cell (p := ⟨b, o + k * 2, none⟩) hb).trans hc1; have hr2 := ha.keep hB)
        have hsz := hB.size
        have HT : Hid (∀ W, Below w.heap.size w W → RowsIn flF W (some ⟨b, o, none⟩) k (l.take k)) := fun W hW => (ha.keep hW).take (by omega)
        have HD : Hid (∀ W, Below w.heap.size w W → RowsIn flF W (some ⟨b, o + k * 2, none⟩) (l.length - k) (l.drop k)) := fun W hW => by
          have := (ha.keep hW).drop (k := k) (cap := c) (by omega) hnc
          rw [if_neg (by omega)] at this
          simp only [Option.map_some, Addr.add_lit] at this
          exact this
        have hck : ¬ c = k := by omega
        go_region_law (first | (refine step_append_rows flowElem flOne rfl (.tmp 52) (.tmp 55) rfl ((w2.alloc (.cells #[] 53)).drew) (lo := w.heap.size) (v := .slice (some ⟨w2.heap.size, 0, none⟩) 0 0) (l := []) rfl (RowVal.drew (empty_row (F := flF) (e := 53) (H := w2.heap.size) rfl hB.size)) (Nat.zero_le _) rfl (HT.out _ ((hB.alloc hB.size _).drew)) ((hB.alloc hB.size _).drew).size ?_; intro v3 w3 hrow3 hg3; rw [List.nil_append] at hrow3; have hB3 : Below w.heap.size w w3 := ((hB.alloc hB.size _).drew).trans (RowVal.below (RowVal.drew (empty_row (F := flF) (e := 53) (H := w2.heap.size) rfl hB.size)) hg3 (Nat.le_refl _) ((hB.alloc hB.size _).drew).size); have hlen3 := len_take k hn; have hle3 := le_alloc1 hB3.size (.cells #[.int .i64 d, .int .i64 q] 53); clear hg3) | (refine step_append_rows flowElem flOne rfl (.tmp 52) (.tmp 55) rfl (((w2.alloc (.cells #[] 53)).alloc (.cells #[.int .i64 d, .int .i64 q] 53)).drew) (lo := w.heap.size) (v := .slice (some ⟨w2.heap.size, 0, none⟩) 0 0) (l := []) rfl (RowVal.drew (RowVal.alloc (empty_row (F := flF) (e := 53) (H := w2.heap.size) rfl hB.size) _)) (Nat.zero_le _) rfl (HT.out _ ((below_two hB _ _).drew)) ((below_two hB _ _).drew).size ?_; intro v3 w3 hrow3 hg3; rw [List.nil_append] at hrow3; have hB3 : Below w.heap.size w w3 := ((below_two hB _ _).drew).trans (RowVal.below (RowVal.drew (RowVal.alloc (empty_row (F := flF) (e := 53) (H := w2.heap.size) rfl hB.size) _)) hg3 (Nat.le_refl _) ((below_two hB _ _).drew).size); have hX3 := RowsIn.far (RowsIn.drew (new_row _ (H := w2.heap.size + 1) (size_alloc1 _ _) d q)) hg3 (by simp [Value.ownBlock]); have hlen3 := len_take k hn; have hle3 := le_alloc1 hB3.size (.cells #[.int .i64 d, .int .i64 q] 53); clear hg3) | (refine step_append_rows flowElem flOne rfl (.tmp 52) (.tmp 55) rfl (((w2.alloc (.cells #[.int .i64 d, .int .i64 q] 53)).alloc (.cells #[] 53)).drew) (lo := w.heap.size) (v := .slice (some ⟨w2.heap.size + 1, 0, none⟩) 0 0) (l := []) rfl (RowVal.drew (empty_row (F := flF) (e := 53) (H := w2.heap.size + 1) (size_alloc1 _ _) (le_alloc1 hB.size _))) (Nat.zero_le _) rfl (HT.out _ ((below_two hB _ _).drew)) ((below_two hB _ _).drew).size ?_; intro v3 w3 hrow3 hg3; rw [List.nil_append] at hrow3; have hB3 : Below w.heap.size w w3 := ((below_two hB _ _).drew).trans (RowVal.below (RowVal.drew (empty_row (F := flF) (e := 53) (H := w2.heap.size + 1) (size_alloc1 _ _) (le_alloc1 hB.size _))) hg3 (Nat.le_refl _) ((below_two hB _ _).drew).size); have hX3 := RowsIn.far (RowsIn.drew ((new_row w2 rfl d q).keep (below_alloc _ _))) hg3 (by simp [Value.ownBlock]); have hlen3 := len_take k hn; have hle3 := le_alloc1 hB3.size (.cells #[.int .i64 d, .int .i64 q] 53); clear hg3) | (refine step_append_rows flowElem flOne rfl (.tmp 56) (.tmp 60) rfl (w3.alloc (.cells #[.int .i64 d, .int .i64 q] 53)) (lo := w.heap.size) rfl (RowVal.alloc hrow3 _) hlen3 rfl (new_row w3 rfl d q) hle3 ?_; intro v4 w4 hrow4 hg4; have hB4 : Below w.heap.size w w4 := (hB3.alloc hB3.size _).trans (RowVal.below (RowVal.alloc hrow3 _) hg4 (Nat.le_refl _) hle3); have hlen4 := len_take1 k (d, q) hn; clear hg4) | (refine step_append_rows flowElem flOne rfl (.tmp 56) (.tmp 60) rfl w3 (lo := w.heap.size) rfl hrow3 hlen3 rfl hX3 hB3.size ?_; intro v4 w4 hrow4 hg4; have hB4 : Below w.heap.size w w4 := hB3.trans (RowVal.below hrow3 hg4 (Nat.le_refl _) hB3.size); have hlen4 := len_take1 k (d, q) hn; clear hg4) | (refine step_append_rows flowElem flOne rfl (.tmp 61) (.tmp 64) rfl w4 (lo := w.heap.size) rfl hrow4 hlen4 rfl (HD.out _ hB4) hB4.size ?_; intro v5 w5 hrow5 hg5; have hB5 : Below w.heap.size w w5 := hB4.trans (RowVal.below hrow4 hg5 (Nat.le_refl _) hB4.size); clear hg5))
        all_goals
          have hsz5 := hB5.size
          go_wp2
          go_ret
          refine oneRow_mk ?_ hB5
          rw [addS_gt l d q k hlt HI.out (by have := H2.out; omega)]
          exact hrow5
    · obtain rfl : k = l.length := by omega
      go_wp2_with (at_builtin; refine wpList_append_copy flowElem flOne rfl (.tmp 24) (.tmp 25) rfl rfl (empty_row rfl (Nat.le_refl _)) rfl (ha.keep (below_alloc _ _)) (by simp) ?_; intro A2 c2 w2 ho2 hbl; have hB : Below w.heap.size w w2 := (below_alloc w (.cells #[] 53)).trans (hbl _ (Nat.le_refl _) (by simp)); clear hbl)
      have hsz := hB.size
      have HT : Hid (∀ W, Below w.heap.size w W → RowsIn flF W A l.length l) := fun W hW => ha.keep hW
      have HD : Hid (∀ W, Below w.heap.size w W → ∀ X, RowsIn flF W X 0 []) := fun W _ X => RowsIn.nil_ W X
      go_region_law (first | (refine step_append_rows flowElem flOne rfl (.tmp 52) (.tmp 55) rfl ((w2.alloc (.cells #[] 53)).drew) (lo := w.heap.size) (v := .slice (some ⟨w2.heap.size, 0, none⟩) 0 0) (l := []) rfl (RowVal.drew (empty_row (F := flF) (e := 53) (H := w2.heap.size) rfl hB.size)) (Nat.zero_le _) rfl (HT.out _ ((hB.alloc hB.size _).drew)) ((hB.alloc hB.size _).drew).size ?_; intro v3 w3 hrow3 hg3; rw [List.nil_append] at hrow3; have hB3 : Below w.heap.size w w3 := ((hB.alloc hB.size _).drew).trans (RowVal.below (RowVal.drew (empty_row (F := flF) (e := 53) (H := w2.heap.size) rfl hB.size)) hg3 (Nat.le_refl _) ((hB.alloc hB.size _).drew).size); have hlen3 := (Nat.le_trans hn (by decide) : l.length ≤ 16777216); have hle3 := le_alloc1 hB3.size (.cells #[.int .i64 d, .int .i64 q] 53); clear hg3) | (refine step_append_rows flowElem flOne rfl (.tmp 52) (.tmp 55) rfl (((w2.alloc (.cells #[] 53)).alloc (.cells #[.int .i64 d, .int .i64 q] 53)).drew) (lo := w.heap.size) (v := .slice (some ⟨w2.heap.size, 0, none⟩) 0 0) (l := []) rfl (RowVal.drew (RowVal.alloc (empty_row (F := flF) (e := 53) (H := w2.heap.size) rfl hB.size) _)) (Nat.zero_le _) rfl (HT.out _ ((below_two hB _ _).drew)) ((below_two hB _ _).drew).size ?_; intro v3 w3 hrow3 hg3; rw [List.nil_append] at hrow3; have hB3 : Below w.heap.size w w3 := ((below_two hB _ _).drew).trans (RowVal.below (RowVal.drew (RowVal.alloc (empty_row (F := flF) (e := 53) (H := w2.heap.size) rfl hB.size) _)) hg3 (Nat.le_refl _) ((below_two hB _ _).drew).size); have hX3 := RowsIn.far (RowsIn.drew (new_row _ (H := w2.heap.size + 1) (size_alloc1 _ _) d q)) hg3 (by simp [Value.ownBlock]); have hlen3 := (Nat.le_trans hn (by decide) : l.length ≤ 16777216); have hle3 := le_alloc1 hB3.size (.cells #[.int .i64 d, .int .i64 q] 53); clear hg3) | (refine step_append_rows flowElem flOne rfl (.tmp 52) (.tmp 55) rfl (((w2.alloc (.cells #[.int .i64 d, .int .i64 q] 53)).alloc (.cells #[] 53)).drew) (lo := w.heap.size) (v := .slice (some ⟨w2.heap.size + 1, 0, none⟩) 0 0) (l := []) rfl (RowVal.drew (empty_row (F := flF) (e := 53) (H := w2.heap.size + 1) (size_alloc1 _ _) (le_alloc1 hB.size _))) (Nat.zero_le _) rfl (HT.out _ ((below_two hB _ _).drew)) ((below_two hB _ _).drew).size ?_; intro v3 w3 hrow3 hg3; rw [List.nil_append] at hrow3; have hB3 : Below w.heap.size w w3 := ((below_two hB _ _).drew).trans (RowVal.below (RowVal.drew (empty_row (F := flF) (e := 53) (H := w2.heap.size + 1) (size_alloc1 _ _) (le_alloc1 hB.size _))) hg3 (Nat.le_refl _) ((below_two hB _ _).drew).size); have hX3 := RowsIn.far (RowsIn.drew ((new_row w2 rfl d q).keep (below_alloc _ _))) hg3 (by simp [Value.ownBlock]); have hlen3 := (Nat.le_trans hn (by decide) : l.length ≤ 16777216); have hle3 := le_alloc1 hB3.size (.cells #[.int .i64 d, .int .i64 q] 53); clear hg3) | (refine step_append_rows flowElem flOne rfl (.tmp 56) (.tmp 60) rfl (w3.alloc (.cells #[.int .i64 d, .int .i64 q] 53)) (lo := w.heap.size) rfl (RowVal.alloc hrow3 _) hlen3 rfl (new_row w3 rfl d q) hle3 ?_; intro v4 w4 hrow4 hg4; have hB4 : Below w.heap.size w w4 := (hB3.alloc hB3.size _).trans (RowVal.below (RowVal.alloc hrow3 _) hg4 (Nat.le_refl _) hle3); have hlen4 := len_1 (d, q) hn; clear hg4) | (refine step_append_rows flowElem flOne rfl (.tmp 56) (.tmp 60) rfl w3 (lo := w.heap.size) rfl hrow3 hlen3 rfl hX3 hB3.size ?_; intro v4 w4 hrow4 hg4; have hB4 : Below w.heap.size w w4 := hB3.trans (RowVal.below hrow3 hg4 (Nat.le_refl _) hB3.size); have hlen4 := len_1 (d, q) hn; clear hg4) | (refine step_append_rows flowElem flOne rfl (.tmp 61) (.tmp 64) rfl w4 (lo := w.heap.size) rfl hrow4 hlen4 rfl (HD.out _ hB4 _) hB4.size ?_; intro v5 w5 hrow5 hg5; have hB5 : Below w.heap.size w w5 := hB4.trans (RowVal.below hrow4 hg5 (Nat.le_refl _) hB4.size); clear hg5))
      all_goals
        have hsz5 := hB5.size
        rw [List.append_nil] at hrow5
        go_wp2
        all_goals
          go_ret
          refine oneRow_mk ?_ hB5
          rw [addS_end l d q HI.out]
          exact hrow5
end Go.Proofs.Ytpbibkjcjgggdaa
/- The walks of MergeFlows. -/
namespace Go.Proofs.Ytpbibkjcjgggdaa
open Go.RowKit
def mergeTo (a b : List Fl) (k : Nat) : List Fl := (b.take k).foldl (fun o f => addS o f.1 f.2) a
theorem mergeTo_succ (a b : List Fl) (k : Nat) (h : k < b.length) : mergeTo a b (k + 1) = addS (mergeTo a b k) b[k].1 b[k].2 := by
  unfold mergeTo
  rw [List.take_succ_eq_append_getElem h, List.foldl_append]; rfl
theorem mergeTo_parts (a b : List Fl) (ha : areFlows a = true) (hb : areFlows b = true) (k : Nat) (hk : k ≤ b.length) :
    ascends (mergeTo a b k) ∧ (mergeTo a b k).length ≤ 40 + k ∧ ∀ f ∈ mergeTo a b k, 0 ≤ f.2 ∧ f.2 ≤ 1000000000 + 1000000000 * k := by
  induction k with
  | zero =>
    refine ⟨areFlows_ascends ha, (areFlows_parts ha).2, fun f hf => ?_⟩
    have := (areFlows_mem ha f hf).2
    simp; omega
  | succ k ih =>
    obtain ⟨h1, h2, h3⟩ := ih (by omega)
    have hm := (areFlows_mem hb b[k] (List.getElem_mem (by omega))).2
    rw [mergeTo_succ a b k (by omega)]
    refine ⟨addS_ascends _ _ _ h1, by have := addS_len (mergeTo a b k) b[k].1 b[k].2; omega, fun f hf => ?_⟩
    have := addS_bd (mergeTo a b k) b[k].1 b[k].2 0 (1000000000 + 1000000000 * k) 0 1000000000 h3 (by omega) (by omega) (by omega) (by omega) (by omega) f hf
    simp; omega
def mergeFlows (a b : List Fl) : List Fl × Bool := if (areFlows a && areFlows b) && areFlows (mergeTo a b b.length) then (mergeTo a b b.length, true) else ([], false)
theorem mergeFlows_no {a b : List Fl} (h : ((areFlows a && areFlows b) && areFlows (mergeTo a b b.length)) = false) : mergeFlows a b = ([], false) := by unfold mergeFlows; rw [h]; rfl
theorem mergeFlows_yes {a b : List Fl} (h : ((areFlows a && areFlows b) && areFlows (mergeTo a b b.length)) = true) : mergeFlows a b = (mergeTo a b b.length, true) := by unfold mergeFlows; rw [h]; rfl
theorem mergeFlows_flows (a b : List Fl) : areFlows (mergeFlows a b).1 = true := by
  unfold mergeFlows
  split
  · rename_i h
    simp only [Bool.and_eq_true] at h
    exact h.2
  · rfl
theorem mergeFlows_len (a b : List Fl) : (mergeFlows a b).1.length ≤ 16777216 := by
  have := (areFlows_parts (mergeFlows_flows a b)).2
  omega
theorem own_cap {w : World} {lo n c : Nat} {A : Option Addr} {l : List Fl} (h : OwnRows flF 53 w lo A n c l) : n ≤ c ∧ c ≤ maxLen := by
  rcases h.2.2 with ⟨hv, h0⟩ | ⟨g, cap, cur, hv, _, _, h1, h2, _⟩
  · injection hv with _ h1 h2; unfold maxLen; omega
  · injection hv with _ h3 h4; subst h4; exact ⟨h1, h2⟩
set_option maxRecDepth 100000 in
set_option maxHeartbeats 2000000 in
theorem specMergeFlows_any (A B : Option Addr) (n m c cb : Nat) (a b : List Fl) (w : World) (ha : FlowsIn w A n a) (hm : FlowsIn w B m b) :
    Calls Try.prog 12 #[.slice A n c, .slice B m cb] w (PairRows w (mergeFlows a b)) := by
  have hb : Below w.heap.size w w := Below.refl _ _
  have hlb := hm.len
  obtain rfl := hm.1
  go_enter Try.func12, Try.ntmps12
  go_wp2_with fail
  refine (specAreFlows_any _ _ _ a _ (ha.keep hb)).mono ?_
  rintro e u1 ⟨rfl, hs⟩
  replace hb := below_on hb (hs.below _)
  clear hs
  cases g1 : areFlows a
  · go_wp2_with fail
    go_ret2
    exact pairRows_mk (l := []) (mergeFlows_no (by simp [g1])) (empty_row rfl hb.size) (hb.alloc hb.size _)
  go_wp2_with fail
  refine (specAreFlows_any _ _ _ b _ (hm.keep hb)).mono ?_
  rintro e u2 ⟨rfl, hs⟩
  replace hb := below_on hb (hs.below _)
  clear hs
  cases g2 : areFlows b
  · go_wp2_with fail
    go_ret2
    exact pairRows_mk (l := []) (mergeFlows_no (by simp [g2])) (empty_row rfl hb.size) (hb.alloc hb.size _)
  have hb40 := (areFlows_parts g2).2
  have HPA := Lib.hid (mergeTo_parts a b g1 g2)
  have hsz0 := hb.size
  have hb1 := hb.alloc hsz0 (.cells #[] 53)
  go_wp2_with (at_builtin; refine wpList_append_copy flowElem flOne rfl (.tmp 17) (.tmp 18) rfl rfl (empty_row rfl (Nat.le_refl _)) rfl (ha.keep hb1) (by simp) ?_; intro A1 c1 w1 ho1 hbl)
  have hB : Below w.heap.size w w1 := hb1.trans (hbl _ (by omega) (by simp; omega))
  have ho0 : OwnRows flF 53 w1 w.heap.size A1 (mergeTo a b 0).length c1 (mergeTo a b 0) := by
    have h0 : mergeTo a b 0 = a := rfl
    rw [h0]
    have := ho1.lower hsz0
    rw [ha.1] at this
    exact this
  have hn1 : n = (mergeTo a b 0).length := ha.1
  clear hbl hb1 hb ho1
  subst hn1
  go_loopw [6, 7] (fun v i wr => ∃ (k : Nat) (A2 : Option Addr) (c2 : Nat), k ≤ b.length ∧ i = .int .i64 k ∧ v = .slice A2 (mergeTo a b k).length c2 ∧ OwnRows flF 53 wr w.heap.size A2 (mergeTo a b k).length c2 (mergeTo a b k) ∧ Below w.heap.size w wr) (fun _ i _ => b.length - (intOf i).toNat)
  case atStart => exact ⟨0, A1, c1, by omega, rfl, rfl, ho0, hB⟩
  case round =>
    clear ho0 hB
    obtain ⟨k, A2, c2, hk, rfl, rfl, ho, HR⟩ := hrel
    obtain ⟨p1, p2, p3⟩ := HPA.out k hk
    have HP := Lib.hid p1
    clear p1
    obtain ⟨k1, k2⟩ := own_cap ho
    by_cases hlt : k < b.length
    · obtain ⟨bb, o, rfl, _, hc1, hc2⟩ := flow_at (hm.keep HR) hlt
      obtain ⟨m1, m2⟩ := (areFlows_mem g2 b[k] (List.getElem_mem hlt)).2
      have HS := Lib.hid (mergeTo_succ a b k hlt)
      have HQ : Hid (∀ f ∈ mergeTo a b k, -1000000000000 ≤ f.2 ∧ f.2 ≤ 1000000000000) := fun f hf => by have := p3 f hf; omega
      clear p3
      go_wp2
      go_still_tail 11, (by kernel_rfl)
      change wpList _ _ _ _ _ wr.drew
      have HE : Below w.heap.size w wr.drew := HR.drew
      have ho2 : OwnRows flF 53 wr.drew w.heap.size A2 (mergeTo a b k).length c2 (mergeTo a b k) := ho
      clear ho HR hc1 hc2
      generalize wr.drew = w2 at *
      go_wp2_with fail
      refine (l14Add_any _ _ _ (mergeTo a b k) _ _ _ (ho2.rows (by omega)) k1 (by unfold maxLen at k2; omega) (by omega) HQ.out (by omega)).mono ?_
      rintro e w3 ⟨A3, c3, rfl, ho3, hb3⟩
      rw [← HS.out] at ho3
      rw [← HS.out]
      go_wp2_with fail
      go_roundw
      case rel => exact ⟨k + 1, A3, c3, by omega, by go_num, rfl, ho3.lower HE.size, below_on HE hb3⟩
      case measure => simp [intOf]; omega
    · obtain rfl : k = b.length := by omega
      clear p3
      go_wp2_with fail
      refine (specAreFlows_any _ _ _ (mergeTo a b b.length) _ (ho.rows (by omega))).mono ?_
      rintro e v1 ⟨rfl, hs⟩
      replace ho := ho.keep (hs.below _)
      replace HR := HR.trans (hs.below _)
      clear hs
      have hsz := HR.size
      cases hfl : areFlows (mergeTo a b b.length)
      · go_wp2_with fail
        go_ret2
        exact pairRows_mk (l := []) (mergeFlows_no (by rw [hfl, Bool.and_false])) (empty_row rfl hsz) (HR.alloc hsz _)
      · go_wp2_with fail
        go_ret2
        exact pairRows_mk (mergeFlows_yes (by rw [hfl, g1, g2]; rfl)) ho.val HR
end Go.Proofs.Ytpbibkjcjgggdaa
/- What merged flows are: the sums of both up to every day, whichever comes first. -/
namespace Go.Proofs.Ytpbibkjcjgggdaa

theorem upTo_addS (l : List Fl) (d q e : Int) : upTo (addS l d q) e = upTo l e + if d ≤ e then q else 0 := by
  induction l with
  | nil => simp [addS, upTo]
  | cons f t ih =>
    simp only [addS]
    split
    · simp only [upTo, ih]; omega
    · split
      · rename_i h1 h2
        subst h2
        simp only [upTo]
        split <;> omega
      · simp only [upTo]; omega
theorem upTo_mergeTo (a b : List Fl) (k : Nat) (e : Int) (hk : k ≤ b.length) : upTo (mergeTo a b k) e = upTo a e + upTo (b.take k) e := by
  induction k with
  | zero => simp [mergeTo, upTo]
  | succ k ih =>
    rw [mergeTo_succ a b k (by omega), upTo_addS, ih (by omega), upTo_take b e k (by omega)]
    omega
theorem addS_pos (l : List Fl) (d q : Int) (h : ∀ f ∈ l, 1 ≤ f.2) (hq : 1 ≤ q) : ∀ f ∈ addS l d q, 1 ≤ f.2 := by
  induction l with
  | nil => intro f hf; simp [addS] at hf; rw [hf]; exact hq
  | cons g t ih =>
    have hg := h g List.mem_cons_self
    have ht := ih (fun f hf => h f (List.mem_cons_of_mem _ hf))
    intro f hf
    simp only [addS] at hf
    split at hf
    · rcases List.mem_cons.1 hf with rfl | hf
      · exact hg
      · exact ht f hf
    · split at hf
      · rcases List.mem_cons.1 hf with rfl | hf
        · simp only; omega
        · exact h f (List.mem_cons_of_mem _ hf)
      · rcases List.mem_cons.1 hf with rfl | hf
        · exact hq
        · exact h f hf
theorem mergeTo_pos (a b : List Fl) (ha : areFlows a = true) (hb : areFlows b = true) (k : Nat) (hk : k ≤ b.length) : ∀ f ∈ mergeTo a b k, 1 ≤ f.2 := by
  induction k with
  | zero => intro f hf; exact (areFlows_mem ha f hf).2.1
  | succ k ih =>
    rw [mergeTo_succ a b k (by omega)]
    exact addS_pos _ _ _ (ih (by omega)) (areFlows_mem hb _ (List.getElem_mem (by omega))).2.1
theorem upTo_late (l : List Fl) (e : Int) (h : ∀ f ∈ l, e < f.1) : upTo l e = 0 := by
  induction l with
  | nil => rfl
  | cons f t ih =>
    have h0 := h f List.mem_cons_self
    have h1 := ih (fun g hg => h g (List.mem_cons_of_mem _ hg))
    simp only [upTo]
    rw [if_neg (by omega), h1]; omega
theorem upTo_nonneg (l : List Fl) (e : Int) (h : ∀ f ∈ l, 1 ≤ f.2) : 0 ≤ upTo l e := by
  induction l with
  | nil => simp [upTo]
  | cons f t ih =>
    have h0 := h f List.mem_cons_self
    have h1 := ih (fun g hg => h g (List.mem_cons_of_mem _ hg))
    simp only [upTo]
    split <;> omega
/-- Flows in ascending order are known by what they bring up to each day. -/
theorem canon (l m : List Fl) (hl : ascends l) (hm : ascends m) (pl : ∀ f ∈ l, 1 ≤ f.2) (pm : ∀ f ∈ m, 1 ≤ f.2) (h : ∀ e, upTo l e = upTo m e) : l = m := by
  induction l generalizing m with
  | nil =>
    cases m with
    | nil => rfl
    | cons g s =>
      have h1 := h g.1
      have h2 := pm g List.mem_cons_self
      have h3 := upTo_nonneg s g.1 (fun f hf => pm f (List.mem_cons_of_mem _ hf))
      simp only [upTo, if_pos (Int.le_refl _)] at h1
      omega
  | cons f t ih =>
    have pf := pl f List.mem_cons_self
    have pt := fun x hx => pl x (List.mem_cons_of_mem f hx)
    have hf := ascends_head hl
    cases m with
    | nil =>
      have h1 := h f.1
      have h3 := upTo_nonneg t f.1 pt
      simp only [upTo, if_pos (Int.le_refl _)] at h1
      omega
    | cons g s =>
      have pg := pm g List.mem_cons_self
      have ps := fun x hx => pm x (List.mem_cons_of_mem g hx)
      have hg := ascends_head hm
      have e1 := h f.1
      have e2 := h g.1
      simp only [upTo] at e1 e2
      rw [if_pos (Int.le_refl _), upTo_late t f.1 hf] at e1
      rw [if_pos (Int.le_refl _), upTo_late s g.1 hg] at e2
      have n1 := upTo_nonneg s f.1 ps
      have n2 := upTo_nonneg t g.1 pt
      have hd : f.1 = g.1 := by
        rcases Int.lt_trichotomy f.1 g.1 with h1 | h1 | h1
        · rw [if_neg (by omega), upTo_late s f.1 (fun x hx => by have := hg x hx; omega)] at e1
          omega
        · exact h1
        · rw [if_neg (by omega), upTo_late t g.1 (fun x hx => by have := hf x hx; omega)] at e2
          omega
      rw [if_pos (by omega), hd, upTo_late s g.1 hg] at e1
      have hfg : f = g := Prod.ext hd (by omega)
      subst hfg
      rw [ih s (ascends_tail hl) (ascends_tail hm) pt ps (fun e => by
        have := h e
        simp only [upTo] at this
        omega)]
theorem mergeTo_comm (a b : List Fl) (ha : areFlows a = true) (hb : areFlows b = true) : mergeTo a b b.length = mergeTo b a a.length := by
  refine canon _ _ (mergeTo_parts a b ha hb _ (Nat.le_refl _)).1 (mergeTo_parts b a hb ha _ (Nat.le_refl _)).1 (mergeTo_pos a b ha hb _ (Nat.le_refl _)) (mergeTo_pos b a hb ha _ (Nat.le_refl _)) (fun e => ?_)
  rw [upTo_mergeTo a b _ e (Nat.le_refl _), upTo_mergeTo b a _ e (Nat.le_refl _), List.take_length, List.take_length]
  omega
theorem mergeFlows_comm (a b : List Fl) : mergeFlows a b = mergeFlows b a := by
  unfold mergeFlows
  cases ha : areFlows a <;> cases hb : areFlows b <;> simp
  rw [mergeTo_comm a b ha hb]
theorem mergeFlows_upTo {a b : List Fl} (h : (mergeFlows a b).2 = true) (e : Int) : flowUpTo (mergeFlows a b).1 e = flowUpTo a e + flowUpTo b e := by
  rw [flowUpTo_yes (mergeFlows_flows a b)]
  unfold mergeFlows at h ⊢
  split at h
  · rename_i hc
    rw [if_pos hc]
    simp only [Bool.and_eq_true] at hc
    rw [flowUpTo_yes hc.1.1, flowUpTo_yes hc.1.2, upTo_mergeTo _ _ _ _ (Nat.le_refl _), List.take_length]
  · simp at h
theorem mergeFlows_nil {a b : List Fl} (h : (mergeFlows a b).2 = false) : (mergeFlows a b).1 = [] := by
  unfold mergeFlows at h ⊢
  split at h
  · simp at h
  · rename_i hc
    rw [if_neg hc]
end Go.Proofs.Ytpbibkjcjgggdaa
/- Sums of flows (plain). -/
namespace Go.Proofs.Ytpbibkjcjgggdaa
def fSum : List Fl → Int
  | [] => 0
  | f :: t => f.2 + fSum t
theorem fSum_append (a b : List Fl) : fSum (a ++ b) = fSum a + fSum b := by
  induction a with
  | nil => simp [fSum]
  | cons p t ih => simp only [List.cons_append, fSum, ih]; omega
theorem fSum_take (l : List Fl) (k : Nat) (h : k < l.length) : fSum (l.take (k + 1)) = fSum (l.take k) + l[k].2 := by
  rw [List.take_succ_eq_append_getElem h, fSum_append]; simp [fSum]
theorem upTo_all (l : List Fl) (d : Int) (h : ∀ f ∈ l, f.1 ≤ d) : upTo l d = fSum l := by
  induction l with
  | nil => rfl
  | cons f t ih =>
    have h0 := h f List.mem_cons_self
    simp only [upTo, fSum, if_pos h0, ih (fun g hg => h g (List.mem_cons_of_mem _ hg))]
theorem upTo_split (l : List Fl) (d : Int) (k : Nat) : upTo l d = upTo (l.take k) d + upTo (l.drop k) d := by
  rw [← upTo_append, List.take_append_drop]
theorem take_mem {l : List Fl} {k : Nat} {f : Fl} (h : f ∈ l.take k) : ∃ (j : Nat) (hj : j < l.length), j < k ∧ f = l[j] := by
  obtain ⟨j, hj, rfl⟩ := List.mem_iff_getElem.1 h
  rw [List.length_take] at hj
  exact ⟨j, by omega, by omega, by simp⟩
theorem drop_mem {l : List Fl} {k : Nat} {f : Fl} (h : f ∈ l.drop k) : ∃ (j : Nat) (hj : j < l.length), k ≤ j ∧ f = l[j] := by
  obtain ⟨j, hj, rfl⟩ := List.mem_iff_getElem.1 h
  simp at hj
  exact ⟨k + j, by omega, by omega, by simp⟩
theorem fSum_upTo {l : List Fl} (ha : ascends l) {i : Nat} (hi : i < l.length) : fSum (l.take (i + 1)) = upTo l l[i].1 := by
  rw [upTo_split l _ (i + 1), upTo_all (l.take (i + 1)), upTo_late (l.drop (i + 1))]
  · omega
  · intro f hf
    obtain ⟨j, hj, hjk, rfl⟩ := drop_mem hf
    exact ha i j hj (by omega)
  · intro f hf
    obtain ⟨j, hj, hjk, rfl⟩ := take_mem hf
    rcases Nat.lt_or_ge j i with h | h
    · have := ha j i hi h; omega
    · have : j = i := by omega
      subst this; omega
theorem fSum_nonneg (l : List Fl) (h : ∀ f ∈ l, 1 ≤ f.2) : 0 ≤ fSum l := by
  induction l with
  | nil => simp [fSum]
  | cons f t ih =>
    have h0 := h f List.mem_cons_self
    have h1 := ih (fun g hg => h g (List.mem_cons_of_mem _ hg))
    simp only [fSum]; omega
theorem fSum_999 {l : List Fl} (h : areFlows l = true) : flowUpTo l 999 = fSum l := by
  rw [flowUpTo_yes h, upTo_all l 999 (fun f hf => (areFlows_mem h f hf).1.2)]
end Go.Proofs.Ytpbibkjcjgggdaa
/- What net needs are: with them all is covered, on their days just so, and with one piece less it is not. -/
namespace Go.Proofs.Ytpbibkjcjgggdaa
section
variable {rcv dem : List Fl} {stock safety : Int}
theorem net_sum (k : Nat) : fSum (netTo rcv dem stock safety k).1 = (netTo rcv dem stock safety k).2 := by
  induction k with
  | zero => simp [netTo, fSum]
  | succ k ih =>
    rw [netTo_succ]
    split
    · simp only [fSum_append, fSum, ih]; omega
    · exact ih
theorem net_days (k : Nat) : ∀ f ∈ (netTo rcv dem stock safety k).1, ∃ e : Nat, e < k ∧ f.1 = (e : Int) ∧ projected rcv dem stock e + (netTo rcv dem stock safety (e + 1)).2 = safety := by
  induction k with
  | zero => intro f hf; simp [netTo] at hf
  | succ k ih =>
    have hmore : ∀ f ∈ (netTo rcv dem stock safety k).1, ∃ e : Nat, e < k + 1 ∧ f.1 = (e : Int) ∧ projected rcv dem stock e + (netTo rcv dem stock safety (e + 1)).2 = safety := fun f hf => by
      obtain ⟨e, h1, h2⟩ := ih f hf
      exact ⟨e, by omega, h2⟩
    intro f hf
    have hs := netTo_succ rcv dem stock safety k
    rw [hs] at hf
    by_cases hc : 0 < safety - projected rcv dem stock k - (netTo rcv dem stock safety k).2
    · rw [if_pos hc] at hf hs
      rcases List.mem_append.1 hf with h | h
      · exact hmore f h
      · have he : f = ((k : Int), safety - projected rcv dem stock k - (netTo rcv dem stock safety k).2) := by simpa using h
        refine ⟨k, by omega, by rw [he], ?_⟩
        rw [hs]; simp only; omega
    · rw [if_neg hc] at hf
      exact hmore f hf
theorem net_upTo (e k : Nat) (h : e + 1 ≤ k) : upTo (netTo rcv dem stock safety k).1 e = (netTo rcv dem stock safety (e + 1)).2 := by
  induction k with
  | zero => omega
  | succ k ih =>
    rcases Nat.lt_or_ge e k with hlt | hge
    · rw [netTo_succ]
      split
      · rw [upTo_append, ih (by omega)]
        simp only [upTo]
        rw [if_neg (by omega)]; omega
      · exact ih (by omega)
    · obtain rfl : e = k := by omega
      rw [upTo_all _ _ (fun f hf => by obtain ⟨j, h1, h2, _⟩ := net_days (e + 1) f hf; omega), net_sum]
theorem net_enough (e : Nat) : safety ≤ projected rcv dem stock e + (netTo rcv dem stock safety (e + 1)).2 := by
  rw [netTo_succ]
  split
  · simp only; omega
  · omega
theorem net_nil (k : Nat) : (netTo rcv dem stock safety k).1 = [] ↔ ∀ e : Nat, e < k → safety ≤ projected rcv dem stock e := by
  constructor
  · intro h e he
    have h1 := net_enough (rcv := rcv) (dem := dem) (stock := stock) (safety := safety) e
    have h2 := net_upTo (rcv := rcv) (dem := dem) (stock := stock) (safety := safety) e k he
    rw [h] at h2
    simp only [upTo] at h2
    omega
  · intro h
    induction k with
    | zero => rfl
    | succ k ih =>
      have h1 := ih (fun e he => h e (by omega))
      have h2 := net_sum (rcv := rcv) (dem := dem) (stock := stock) (safety := safety) k
      rw [h1] at h2
      simp only [fSum] at h2
      have h3 := h k (by omega)
      rw [netTo_succ, if_neg (by omega)]
      exact h1
/-- All that a guard of net needs says. -/
theorem netNeeds_all {m : List Fl} (h : netNeeds rcv dem stock safety = (m, true)) : inB stock 0 1000000000 = true ∧ inB safety 0 1000000000 = true ∧ areFlows rcv = true ∧ areFlows dem = true ∧ areFlows m = true ∧ m = (netTo rcv dem stock safety 1000).1 := by
  unfold netNeeds at h
  split at h
  · rename_i hc
    simp only [Bool.and_eq_true] at hc
    simp only [Prod.mk.injEq, and_true] at h
    subst h
    exact ⟨hc.1.1, hc.1.2.1, hc.1.2.2.1, hc.1.2.2.2, hc.2, rfl⟩
  · simp at h
theorem netNeeds_nil (h : (netNeeds rcv dem stock safety).2 = false) : (netNeeds rcv dem stock safety).1 = [] := by
  unfold netNeeds at h ⊢
  split at h
  · simp at h
  · rename_i hc
    rw [if_neg hc]
/-- What there is with other flows beside the receipts. -/
theorem projected_merged {m all : List Fl} (hs : inB stock 0 1000000000 = true) (hr : areFlows rcv = true) (hd : areFlows dem = true) (h : mergeFlows rcv m = (all, true)) (e : Int) : areFlows m = true ∧ areFlows all = true ∧ projected all dem stock e = projected rcv dem stock e + upTo m e := by
  have h1 : areFlows all = true := by have := mergeFlows_flows rcv m; rw [h] at this; exact this
  have h2 := mergeFlows_upTo (a := rcv) (b := m) (by rw [h]) e
  rw [h] at h2
  have hm : areFlows m = true := by
    unfold mergeFlows at h
    split at h
    · rename_i hc
      simp only [Bool.and_eq_true] at hc
      exact hc.1.2
    · simp at h
  simp only at h2
  rw [projected_yes hs h1 hd, projected_yes hs hr hd, h2, flowUpTo_yes hm]
  exact ⟨hm, h1, by omega⟩
theorem net_covered {m all : List Fl} (h : netNeeds rcv dem stock safety = (m, true)) (hm : mergeFlows rcv m = (all, true)) : isCovered all dem stock safety = true := by
  obtain ⟨h1, h2, h3, h4, h5, h6⟩ := netNeeds_all h
  refine isCovered_yes h1 h2 (projected_merged h1 h3 h4 hm 0).2.1 h4 (fun k hk => ?_)
  rw [(projected_merged h1 h3 h4 hm k).2.2, h6, net_upTo k 1000 (by omega)]
  exact net_enough k
theorem net_just {m all : List Fl} (h : netNeeds rcv dem stock safety = (m, true)) (hm : mergeFlows rcv m = (all, true)) : ∀ f ∈ m, projected all dem stock f.1 = safety := by
  obtain ⟨h1, h2, h3, h4, h5, h6⟩ := netNeeds_all h
  intro f hf
  have hf2 := hf
  rw [h6] at hf2
  obtain ⟨e, e1, e2, e3⟩ := net_days 1000 f hf2
  rw [(projected_merged h1 h3 h4 hm f.1).2.2, e2, h6, net_upTo e 1000 (by omega)]
  exact e3
theorem net_iff {m : List Fl} (h : netNeeds rcv dem stock safety = (m, true)) : isCovered rcv dem stock safety = decide (m.length = 0) := by
  obtain ⟨h1, h2, h3, h4, h5, h6⟩ := netNeeds_all h
  rw [Bool.eq_iff_iff, decide_eq_true_eq]
  constructor
  · intro hc
    have : m = [] := by
      rw [h6, net_nil]
      intro e he
      unfold isCovered at hc
      simp only [Bool.and_eq_true, List.all_eq_true, List.mem_range, decide_eq_true_eq] at hc
      exact hc.2 e he
    rw [this]; rfl
  · intro hl
    have hn : (netTo rcv dem stock safety 1000).1 = [] := by rw [← h6]; exact List.eq_nil_of_length_eq_zero hl
    exact isCovered_yes h1 h2 h3 h4 (fun k hk => (net_nil 1000).1 hn k hk)
/-- The needs less one piece of the i-th. -/
def lessOne (m : List Fl) (i : Nat) : List Fl := (if 1 < (m.getD i (0, 0)).2 then m.take i ++ [((m.getD i (0, 0)).1, (m.getD i (0, 0)).2 - 1)] else m.take i) ++ m.drop (i + 1)
theorem lessOne_upTo (m : List Fl) (i : Nat) (hi : i < m.length) (hq : 1 ≤ m[i].2) : upTo (lessOne m i) m[i].1 = upTo m m[i].1 - 1 := by
  have h1 : upTo m m[i].1 = upTo (m.take i) m[i].1 + (m[i].2 + upTo (m.drop (i + 1)) m[i].1) := by
    rw [upTo_split m _ i, List.drop_eq_getElem_cons hi]
    simp only [upTo, if_pos (Int.le_refl _)]
  unfold lessOne
  rw [getD_at _ _ _ hi, upTo_append]
  split
  · rw [upTo_append]
    simp only [upTo, if_pos (Int.le_refl _)]
    omega
  · omega
theorem net_less {m some : List Fl} (h : netNeeds rcv dem stock safety = (m, true)) (i : Nat) (hi : i < m.length) (hm : mergeFlows rcv (lessOne m i) = (some, true)) : isCovered some dem stock safety = false := by
  obtain ⟨h1, h2, h3, h4, h5, h6⟩ := netNeeds_all h
  have hf := List.getElem_mem hi
  have hq := (areFlows_mem h5 _ hf).2.1
  have hf2 : m[i] ∈ (netTo rcv dem stock safety 1000).1 := by rw [← h6]; exact hf
  obtain ⟨e, e1, e2, e3⟩ := net_days 1000 _ hf2
  refine isCovered_at e1 ?_
  have hl := lessOne_upTo m i hi hq
  rw [e2] at hl
  rw [(projected_merged h1 h3 h4 hm e).2.2, hl]
  have hu : upTo m (e : Int) = (netTo rcv dem stock safety (e + 1)).2 := by rw [h6, net_upTo e 1000 (by omega)]
  omega
end
end Go.Proofs.Ytpbibkjcjgggdaa
/- The walks of the rule of lots. -/
namespace Go.Proofs.Ytpbibkjcjgggdaa
open Go.RowKit
def lotRule (r s : Int) : Bool := ((r == 0) && (s == 0)) || (((r == 1) || (r == 2)) && inB s 1 1000)
theorem inB_12 (r : Int) : inB r 1 2 = ((r == 1) || (r == 2)) := by
  rw [Bool.eq_iff_iff, inB_iff]
  simp only [Bool.or_eq_true, beq_iff_eq]
  omega
set_option maxRecDepth 100000 in
set_option maxHeartbeats 2000000 in
theorem l15Rule_any (r s : Int) (w : World) : Calls Try.prog 60 #[.int .i64 r, .int .i64 s] w fun e w' => e = .returned (.bool (lotRule r s)) ∧ w = w' := by
  unfold lotRule
  rw [← inB_12]
  cases h1 : (r == 0) <;> cases h2 : (s == 0) <;> cases h3 : inB r 1 2 <;> cases h4 : inB s 1 1000
  all_goals
    go_enter Try.func60, Try.ntmps60
    go_wp2_with (go_at_call 35; refine (l1In_any _ _ _ _).mono ?_; rintro e w' ⟨rfl, rfl⟩)
    go_ret
    exact ⟨rfl, rfl⟩
set_option maxRecDepth 100000 in
set_option maxHeartbeats 2000000 in
theorem isLotRule_any (r s : Int) (w : World) : Calls Try.prog 54 #[.int .i64 r, .int .i64 s] w fun e w' => e = .returned (.bool (lotRule r s)) ∧ w = w' := by
  unfold lotRule
  cases h1 : (r == 0) <;> cases h2 : (s == 0) <;> cases h3 : (r == 1) <;> cases h5 : (r == 2) <;> cases h4 : inB s 1 1000
  all_goals
    go_enter Try.func54, Try.ntmps54
    go_wp2_with (go_at_call 51; refine (in_any _ _ _ _).mono ?_; rintro e w' ⟨rfl, rfl⟩)
    go_ret
    exact ⟨rfl, rfl⟩
end Go.Proofs.Ytpbibkjcjgggdaa
