/- Part 14 of the texts of this claim: slices.SortFunc on an own row of loads: it holds the sorted loads. -/
import Derived.Test.YtlnkofnfgemfdaaLd13
/- slices.SortFunc on an own row of loads: it holds the sorted loads. -/
namespace Go.Proofs.Ytlnkofnfgemfdaa
open Go.RowKit Go.Shelf Go.Sort
set_option maxRecDepth 100000
theorem heap_sortedK {w : World} {g n : Nat} {os : Array Obj} {cur : Array Value} {e : TypeId} {fr : Nat × Nat} (F : Array Value) (hb : w.heap[g]? = some (.cells cur e fr)) :
    (grow (putRow id (Sort.ahead w n) g 0 F) os).heap[g]? = some (.cells (putCells id 0 F cur) e fr) := by
  have hg : g < w.heap.size := (Array.getElem?_eq_some_iff.1 hb).1
  rw [heap_grow_old _ _ (by simpa using hg)]
  simp [putRow, mapBlock, Sort.ahead, Array.getElem?_modify, hb, onCells]
theorem grownBy_sortedK {w : World} {g n : Nat} {os : Array Obj} (F : Array Value) : w.grownBy (grow (putRow id (Sort.ahead w n) g 0 F) os) (some g) := by
  refine ⟨rfl, rfl, rfl, by simp, fun k hk hne => ?_⟩
  rw [heap_grow_old _ _ (by simpa using hk)]
  have : g ≠ k := fun e => hne (by rw [e])
  simp [putRow, mapBlock, Sort.ahead, Array.getElem?_modify, this]
theorem take_putCellsK (cur F : Array Value) (h : F.size ≤ cur.size) : (putCells id 0 F cur).toList.take F.size = F.toList := by
  apply List.ext_getElem?
  intro j
  by_cases hj : j < F.size
  · rw [List.getElem?_take_of_lt hj, Array.getElem?_toList, Array.getElem?_toList]
    simp [putCells, hj, show j < cur.size by omega]
  · rw [List.getElem?_take_eq_none (by omega), List.getElem?_eq_none (by simp; omega)]
theorem holds_of_blockK {w : World} {g : Nat} {cur F : Array Value} {e : TypeId} (hb : w.heap[g]? = some (.cells cur e (0, 0))) (ht : cur.toList.take F.size = F.toList) : Holds id w g 0 F := by
  intro j hj
  refine ⟨?_, by simp [World.frozen?, hb]⟩
  have h1 : (cur.toList.take F.size)[j]? = F.toList[j]? := by rw [ht]
  rw [List.getElem?_take_of_lt hj] at h1
  simp only [World.cell?, hb, Nat.zero_add]
  simp only [Option.isSome_none, Bool.false_eq_true, if_false]
  rw [← Array.getElem?_toList, h1, Array.getElem?_toList]
  simp [hj]
theorem flatK_list {α : Type} [Inhabited α] (enc : α → List Value) (k : Nat) (hk : ∀ x, (enc x).length = k) (d : Array α) : (flatK enc k d).toList = d.toList.flatMap enc := by
  have hlen : (d.toList.flatMap enc).length = d.size * k := by rw [flatMap_len enc k hk]; simp
  apply List.ext_getElem?
  intro t
  by_cases ht : t < d.size * k
  · have hk0 : 0 < k := by
      rcases Nat.eq_zero_or_pos k with h | h
      · rw [h, Nat.mul_zero] at ht; omega
      · exact h
    have hq : t / k < d.size := Nat.div_lt_of_lt_mul (by rw [Nat.mul_comm]; exact ht)
    have hm := Nat.mod_lt t hk0
    have e := flatMap_at enc k hk d.toList (t / k) (t % k) (by simpa using hq) hm
    rw [show t / k * k + t % k = t by rw [Nat.mul_comm]; exact Nat.div_add_mod t k] at e
    have h2 : t < (flatK enc k d).size := by rw [size_flatK]; exact ht
    rw [e, Array.getElem?_toList, Array.getElem?_eq_getElem h2]
    have h3 := get_flatK enc k d t ht
    rw [getElem!_pos _ t h2] at h3
    rw [h3, getElem!_pos d _ hq, getElem!_pos _ _ (by rw [hk]; exact hm), List.getElem?_eq_getElem (by rw [hk]; exact hm)]
    simp
  · rw [List.getElem?_eq_none (by simp; omega), List.getElem?_eq_none (by omega)]
theorem sorted_of_in {S : List Ld} (hS : SortedL S) [Inhabited {x : Ld // x ∈ S}] (d' : Array {x : Ld // x ∈ S}) (hnd : d'.toList.Nodup) (hs : SortedIn (ltOf fun x y : {x : Ld // x ∈ S} => cmpL x.1 y.1) 0 d'.size d') : SortedL (d'.toList.map Subtype.val) := by
  unfold SortedL
  rw [List.pairwise_map, List.pairwise_iff_getElem]
  intro i j hi hj hij
  have hi' : i < d'.size := by simpa using hi
  have hj' : j < d'.size := by simpa using hj
  have h1 := hs i j (Nat.zero_le _) hij hj'
  rw [getElem!_pos d' i hi', getElem!_pos d' j hj'] at h1
  unfold ltOf at h1
  rw [cmpL_lt] at h1
  simp only [Array.getElem_toList]
  cases h2 : ltK d'[i].1.1 d'[i].1.2.1 d'[j].1.1 d'[j].1.2.1
  · obtain ⟨a, b⟩ := ltK_total h2 h1
    have e := sorted_key hS d'[i].2 d'[j].2 a b
    have e2 : d'.toList[i] = d'.toList[j] := by simp only [Array.getElem_toList]; exact Subtype.ext e
    have := (List.nodup_iff_pairwise_ne.1 hnd)
    exact absurd e2 (List.pairwise_iff_getElem.1 this i j hi hj hij)
  · rfl
theorem cmp_swo (S : List Ld) : SWO (ltOf fun x y : {x : Ld // x ∈ S} => cmpL x.1 y.1) where
  irrefl x := by unfold ltOf; rw [cmpL_lt]; exact ltK_irrefl _ _
  trans x y z h1 h2 := by unfold ltOf at *; rw [cmpL_lt] at *; exact ltK_trans h1 h2
  ntrans x y z h1 h2 := by
    unfold ltOf at *
    rw [cmpL_lt] at *
    cases h3 : ltK x.1.1 x.1.2.1 z.1.1 z.1.2.1
    · rfl
    · exfalso
      cases h4 : ltK z.1.1 z.1.2.1 y.1.1 y.1.2.1
      · obtain ⟨a, b⟩ := ltK_total h2 h4
        rw [a, b, h3] at h1; cases h1
      · rw [ltK_trans h3 h4] at h1; cases h1
theorem ldAgg (w : World) : (isAgg 91).run Try.prog w = .ok true w := Try.isAgg91 w
theorem ldSize (w : World) : (Go.sizeOf 91).run Try.prog w = .ok 3 w := Try.sizeOf91 w
theorem implSort_any (v : Value) (S L : List Ld) (w : World) (lo : Nat) (hrow : RowVal ldF 91 w lo v L) (hS : SortedL S) (hmem : ∀ x, x ∈ L ↔ x ∈ S) (hnd : L.Nodup) (hday : ∀ x ∈ S, 0 ≤ x.2.1 ∧ x.2.1 ≤ 999) (hlen : L.length ≤ 16777216) :
    Calls Try.prog 99 #[v, .func (.func 100) #[] #[]] w fun e w' => e = .returned (.tuple #[]) ∧ RowVal ldF 91 w' lo v S ∧ ∀ B, B ≤ lo → B ≤ w.heap.size → Below B w w' := by
  obtain ⟨A, c, rfl, ho⟩ := hrow.form
  by_cases h0 : L.length = 0
  · have hL : L = [] := List.length_eq_zero_iff.1 h0
    subst hL
    have hSn : S = [] := List.eq_nil_iff_forall_not_mem.2 fun x hx => by have := (hmem x).2 hx; simp at this
    subst hSn
    have hcon := AnyF.slices_SortFunc_none sortLd A c (.func (.func 100) #[] #[]) w
    refine hcon.mono fun e w' h => ?_
    obtain ⟨rfl, rfl⟩ := h
    exact ⟨rfl, hrow, fun B _ hB => Below.refl B _⟩
  · obtain ⟨g, rfl⟩ := rowOf_some ho (by omega)
    obtain ⟨hx, hn | ⟨g', cap, cur, hv, hlo, hb, hc1, hc2, hc3, hc4⟩⟩ := ho.2
    · exact absurd hn.2 h0
    injection hv with hv1 _ hv3
    injection hv1 with hv1
    injection hv1 with hv1
    subst hv1; subst hv3
    have hg : g < w.heap.size := (Array.getElem?_eq_some_iff.1 hb).1
    have hx0 : L[0]'(by omega) ∈ S := (hmem _).1 (List.getElem_mem _)
    letI : Inhabited {x : Ld // x ∈ S} := ⟨⟨L[0]'(by omega), hx0⟩⟩
    let enc : {x : Ld // x ∈ S} → List Value := fun x => ldF.enc x.1
    have hk : ∀ x, (enc x).length = 3 := fun x => ldF.len x.1
    let d : Array {x : Ld // x ∈ S} := (L.attachWith (· ∈ S) (fun x hx => (hmem x).1 hx)).toArray
    have hdl : d.toList.map Subtype.val = L := by simp only [d]; exact List.attachWith_map_subtype_val _
    have hds : d.size = L.length := by simp [d]
    have hfl : ∀ a : Array {x : Ld // x ∈ S}, (flatK enc 3 a).toList = (a.toList.map Subtype.val).flatMap ldF.enc := fun a => by
      rw [flatK_list enc 3 hk, List.flatMap_map]
    have hH : HoldsK enc 3 w g 0 d := holds_of_blockK hb (by rw [hfl, hdl, size_flatK, hds]; exact hc4)
    have eg : ∀ args w, (callFunc 100 args).run Try.prog w = .ok (.enter 100 args) w := enters_of Try.func100 (by kernel_rfl) rfl
    have hcmp : CmpLays Try.prog 100 #[] enc 3 (fun x y => cmpL x.1 y.1) g 0 d.size w := fun _ _ _ _ x y => implCmp_any x.1 y.1 _ (hday _ x.2) (hday _ y.2)
    have hcon := AnyQ.slices_SortFunc sortLd 3 ldAgg ldSize enc hk (fun x u hu => ldOne x.1 u hu) (fun x y => cmpL x.1 y.1) (cmp_swo S) 100 #[] g 0 c d w eg hcmp hH hg (by omega)
    rw [hds] at hcon
    refine hcon.mono fun e w' h => ?_
    obtain ⟨rfl, d', m, os, hp, hs, rfl⟩ := h
    obtain ⟨hsz, _, hperm⟩ := hp
    rw [← hds] at hs hperm
    rw [show d'.extract 0 d.size = d' by rw [← hsz]; exact Array.extract_size, Array.extract_size] at hperm
    have hnd2 : d.toList.Nodup := by
      have h := hnd
      rw [← hdl] at h
      exact List.Pairwise.of_map Subtype.val (fun a b hne e => hne (by rw [e])) h
    have hnd' : d'.toList.Nodup := hperm.symm.nodup_iff.1 hnd2
    have hsz' : d'.size = d.size := hsz
    have hfin : d'.toList.map Subtype.val = S := by
      refine sorted_ext (sorted_of_in hS d' hnd' (by rw [hsz']; exact hs)) hS (fun x => ?_)
      rw [← hmem x, ← hdl]
      exact (hperm.map Subtype.val).mem_iff
    have hSl : S.length = L.length := by rw [← hfin, List.length_map, Array.length_toList, hsz, hds]
    have hF : (flatK enc 3 d').toList = S.flatMap ldF.enc := by rw [hfl, hfin]
    have hFs : (flatK enc 3 d').size = L.length * 3 := by rw [size_flatK, hsz, hds]
    have hl3 : (S.flatMap ldF.enc).length = L.length * 3 := by rw [flatMap_len ldF.enc 3 ldF.len, hSl]
    refine ⟨rfl, ?_, fun B hB hB2 => below_grown (grownBy_sortedK (flatK enc 3 d')) hB2 (fun g' hg' => by cases hg'; omega)⟩
    unfold RowVal
    rw [hSl]
    refine ⟨by rw [hl3]; rfl, .inr ⟨g, c, _, rfl, hlo, heap_sortedK _ hb, hc1, hc2, by simpa [putCells] using hc3, ?_⟩⟩
    rw [← hF]
    have h3 := take_putCellsK cur (flatK enc 3 d') (by rw [hFs, hc3]; exact Nat.mul_le_mul_right 3 hc1)
    rw [hFs] at h3
    exact h3
end Go.Proofs.Ytlnkofnfgemfdaa
