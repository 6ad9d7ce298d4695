/- The program's DispatchJobs: a schedule that ends not after the last release and all work, whatever the rule. -/
import Derived.Test.YtmkfinahbelpdaaDispInv
import Derived.Test.YtmkfinahbelpdaaBefore
import Derived.Test.YtmkfinahbelpdaaBox
namespace Go.Proofs.Ytmkfinahbelpdaa
open Go.RowKit Go.Maps Go.WideMaps
theorem ownsMap_blk {w w' : World} {k : TypeId} {R : Value → Option (DataW Unit × List MemPlace)} {b n : Nat} {D : DataW Unit} (h : w.ownsMap Try.prog k R b n D) (he : w'.heap[b]? = w.heap[b]?) : w'.ownsMap Try.prog k R b n D := by
  obtain ⟨es, clock, hb, F, hs, hD⟩ := h
  exact ⟨es, clock, he.trans hb, F, hs, hD⟩
theorem row_no_map {α : Type} {F : Flat α} {t k : TypeId} {R : Value → Option (DataW Unit × List MemPlace)} {w : World} {lo g n c b m : Nat} {l : List α} {D : DataW Unit} (h : RowVal F t w lo (.slice (some ⟨g, 0, none⟩) n c) l) (hm : w.ownsMap Try.prog k R b m D) : g ≠ b := by
  intro e
  subst e
  obtain ⟨es, clock, hb, _⟩ := hm
  rcases h.2 with ⟨h0, _⟩ | ⟨g1, cap1, cur1, hv1, _, hg1, _⟩
  · cases h0
  · injection hv1 with e1
    injection e1 with e1
    injection e1 with e1
    subst e1
    rw [hb] at hg1
    cases hg1
def lenOf (v : Value) : Nat := match v with
  | .slice _ n _ => n
  | _ => 0
/-- The ending. -/
def DispOut (w : World) (is : Bool) (jobs : List Jb) (e : Ending) (w' : World) : Prop :=
  (is = false ∧ e = .returned (.tuple #[.slice none 0 0, .bool false]) ∧ Below w.heap.size w w') ∨
  (is = true ∧ ∃ (l : List Slt) (b c : Nat), e = .returned (.tuple #[.slice (some ⟨b, 0, none⟩) l.length c, .bool true]) ∧ isSched jobs l = true ∧ makespanOf l ≤ lastTo jobs jobs.length + workTo jobs jobs.length ∧ l.length ≤ 30 ∧ OwnRows slF 84 w' w.heap.size (some ⟨b, 0, none⟩) l.length c l ∧ Below w.heap.size w w')
/-- What is chosen so far: the job, and when its next step can begin. -/
def BestI (jobs : List Jb) (nx : List Nat) (rd : List Int) (fr : ByteArray → Int) (k : Nat) (bst st : Int) : Prop :=
  (bst = -1 ∧ ∀ j (h1 : j < nx.length) (h2 : j < jobs.length), j < k → nx[j] = jobs[j].2.2.length) ∨
  ∃ q : Nat, bst = q ∧ ∃ (h1 : q < nx.length) (h2 : q < jobs.length) (h3 : nx[q] < jobs[q].2.2.length) (h4 : q < rd.length), st = max rd[q] (fr jobs[q].2.2[nx[q]].1)
theorem BestI.skip {jobs : List Jb} {nx : List Nat} {rd : List Int} {fr : ByteArray → Int} {k : Nat} {bst st : Int} (h : BestI jobs nx rd fr k bst st) (hf : ∀ (h1 : k < nx.length) (h2 : k < jobs.length), nx[k] = jobs[k].2.2.length) : BestI jobs nx rd fr (k + 1) bst st := by
  rcases h with ⟨h1, h2⟩ | h
  · refine .inl ⟨h1, fun j a b hj => ?_⟩
    by_cases e : j = k
    · subst e; exact hf a b
    · exact h2 j a b (by omega)
  · exact .inr h
structure DispBd (jobs : List Jb) (nx : List Nat) (rd : List Int) (fr : ByteArray → Int) : Prop where
  rd : ∀ x ∈ rd, 0 ≤ x ∧ x ≤ 130000
  fr : ∀ c, 0 ≤ fr c ∧ fr c ≤ 130000
  tot : nx.sum ≤ 30
theorem DispInv.bd {jobs : List Jb} {out : List Slt} {nx : List Nat} {rd : List Int} {fr : ByteArray → Int} (h : DispInv jobs out nx rd fr) (hj : areJobs jobs = true) : DispBd jobs nx rd fr := by
  have hm : ∀ j ∈ jobs, MinOk j.2.2 := fun j hjj => by
    obtain ⟨k, hk, rfl⟩ := List.mem_iff_getElem.1 hjj
    have := (areJobs_parts hj).2 k hk
    exact ⟨this.2.2.2.2.1, this.2.2.2.2.2⟩
  have h1 := doneW_le jobs nx h.next hm
  have h2 := workW_bd hm
  have h3 := lastTo_bd hj jobs.length (Nat.le_refl _)
  have h4 := (areJobs_parts hj).1
  refine ⟨fun x hx => ?_, fun c => ?_, ?_⟩
  · obtain ⟨k, hk, rfl⟩ := List.mem_iff_getElem.1 hx
    have h5 := h.rdle _ (List.getElem_mem hk)
    have hk2 : k < jobs.length := by have := h.rdlen; omega
    have h6 := h.rel k hk hk2
    have h7 := (areJobs_parts hj).2 k hk2
    omega
  · have := h.frle c; omega
  · have h5 := h.next.sum_le
    have h6 := totN_le (jobs := jobs) (fun j hj => (hm j hj).1)
    omega
set_option maxRecDepth 100000 in
set_option maxHeartbeats 8000000 in
theorem implDispatchJobs_any (A : Option Addr) (n c : Nat) (jobs : List Jb) (rule : Int) (w : World) (hl : JobsC w A n jobs) (hok : ∀ x ∈ jobs, okJb x) :
    Calls Try.prog 13 #[.slice A n c, .int .i64 rule] w (DispOut w (areJobs jobs && isRule rule) jobs) := by
  have hn := hl.len
  obtain rfl := hl.num
  have hmm := @run_makeMap Try.prog
  cases hp : areJobs jobs
  · go_enter Try.func13, Try.ntmps13
    go_wp2_with fail
    refine (implAreJobs_any _ _ _ jobs _ hl.in_ hok).mono ?_
    rintro e w1 ⟨rfl, hb⟩
    rw [hp]
    go_wp2_with fail
    go_ret2
    exact .inl ⟨rfl, rfl, hb⟩
  cases hq : isRule rule
  · go_enter Try.func13, Try.ntmps13
    go_wp2_with fail
    refine (implAreJobs_any _ _ _ jobs _ hl.in_ hok).mono ?_
    rintro e w1 ⟨rfl, hb⟩
    rw [hp]
    go_wp2_with fail
    refine (in_any _ _ _ _).mono ?_
    rintro e w2 ⟨rfl, rfl⟩
    have hq2 : inB rule 0 2 = false := hq
    rw [hq2]
    go_wp2_with fail
    go_ret2
    exact .inl ⟨rfl, rfl, hb⟩
  have HJ := Lib.hid (areJobs_parts hp)
  have HP := Lib.hid hp
  have HO := Lib.hid hok
  go_enter Try.func13, Try.ntmps13
  go_wp2_with fail
  refine (implAreJobs_any _ _ _ jobs _ hl.in_ hok).mono ?_
  rintro e w1 ⟨rfl, hb⟩
  rw [hp]
  go_wp2_with fail
  refine (in_any _ _ _ _).mono ?_
  rintro e w2 ⟨rfl, rfl⟩
  have hq2 : inB rule 0 2 = true := hq
  rw [hq2]
  clear hp hok hq hq2
  have hwz := hb.size
  have hl1 := hl.keep hb
  go_wp2_with (at_make; refine wpList_make_nums rfl (.tmp 27) (.tmp 27) rfl w.heap.size jobs.length rfl rfl rfl rfl (by omega) (by omega) ?_; intro w2 hA hA2 hA3)
  have hb2 := below_on hb hA2
  have hl2 := hl1.keep hA2
  generalize hGn : w1.heap.size = gn at *
  have hi0 := below_alloc w2 (.cells #[] 3)
  have hI := numRow_empty (w := w2) (lo := w2.heap.size) rfl (Nat.le_refl _)
  have hz2 : w2.heap.size < (w2.alloc (.cells #[] 3)).heap.size := by simp
  clear hA2 hb hl1
  go_loopw [7, 32] (fun v i wr => ∃ k g cc : Nat, k ≤ jobs.length ∧ i = .int .i64 k ∧ v = .slice (some ⟨g, 0, none⟩) k cc ∧ NumRow wr w2.heap.size g k cc ((jobs.take k).map (·.1)) ∧ w2.heap.size < wr.heap.size ∧ Below w2.heap.size w2 wr) (fun _ i _ => jobs.length - (intOf i).toNat)
  case atStart => exact ⟨0, _, _, by omega, rfl, rfl, hI, hz2, hi0⟩
  case round =>
    clear hI hz2 hi0
    obtain ⟨k, g, cc, hk, rfl, rfl, hR, hz2, hi0⟩ := hrel
    by_cases hlt : k < jobs.length
    · obtain ⟨b, o, B, c2, rfl, hbl, hcap, hcells, hwk⟩ := jbc_all hl2 hlt
      obtain ⟨hd0, hd1, hd2⟩ := hcells wr hi0
      have hll : ((jobs.take k).map (·.1)).length ≤ 16777216 := by simp; omega
      have hR1 := hR.keep (below_alloc wr (.cells #[.int .i64 jobs[k].1, .int .i64 jobs[k].2.1, .slice B jobs[k].2.2.length c2] 44))
      have hi1 := hi0.alloc hi0.size (.cells #[.int .i64 jobs[k].1, .int .i64 jobs[k].2.1, .slice B jobs[k].2.2.length c2] 44)
      have hz1 : w2.heap.size < (wr.alloc (.cells #[.int .i64 jobs[k].1, .int .i64 jobs[k].2.1, .slice B jobs[k].2.2.length c2] 44)).heap.size := by simp; omega
      clear hcells
      go_wp2_with (at_builtin; refine wpList_append_num rfl _ _ rfl rfl hR1 hll jobs[k].1 (wr.heap.size + 1) _ (by simp) rfl (by omega) ?_; intro b' c' w9 hnum2 hbl2 hgr2)
      have hB := hbl2 w2.heap.size (Nat.le_refl _) (by omega)
      have hT : (jobs.take (k + 1)).map (·.1) = (jobs.take k).map (·.1) ++ [jobs[k].1] := by rw [List.take_succ_eq_append_getElem hlt, List.map_append]; rfl
      go_roundw
      case rel => exact ⟨k + 1, b', c', by omega, by go_num, rfl, by rw [hT]; exact hnum2, by omega, hi1.trans hB⟩
      case measure => simp [intOf]; omega
    · obtain rfl : k = jobs.length := by omega
      rw [List.take_length] at hR
      have hgl := hR.lt
      have hA4 := hA.keepB hi0 hA3
      have hb3 := below_on hb2 hi0
      have hzz := hi0.size
      -- the map and the row of slots
      have hm0 : (wr.alloc (.map #[] 0)).ownsMap Try.prog 9 (plainElem Try.prog 3) wr.heap.size 0 (.map [] : DataW Unit) := World.ownsMap_made (H := Unit) wr Try.prog 9 (plainElem Try.prog 3)
      have hbm := below_alloc wr (.map #[] 0)
      have hbs := below_alloc (wr.alloc (.map #[] 0)) (.cells #[] 84)
      have hzm : (wr.alloc (.map #[] 0)).heap.size = wr.heap.size + 1 := by simp
      have hr0 : RowVal slF 84 ((wr.alloc (.map #[] 0)).alloc (.cells #[] 84)) w.heap.size (.slice (some ⟨wr.heap.size + 1, 0, none⟩) 0 0) [] := empty_row (F := slF) hzm (by omega)
      have hmF := ownsMap_blk hm0 (w' := (wr.alloc (.map #[] 0)).alloc (.cells #[] 84)) (hbs.block _ (by simp))
      have hbms := below_on hbm hbs
      have hnx : NumRow ((wr.alloc (.map #[] 0)).alloc (.cells #[] 84)) w.heap.size gn jobs.length jobs.length ((List.replicate jobs.length 0).map Int.ofNat) := by
        rw [List.map_replicate]; exact (hA4.keep hbms)
      have hrd : NumRow ((wr.alloc (.map #[] 0)).alloc (.cells #[] 84)) w.heap.size g jobs.length cc (jobs.map (·.1)) := (hR.keep hbms).lower (by omega)
      have hbW := below_on hb3 hbms
      have hgn : w.heap.size ≤ gn := by omega
      have hgg : gn < g := by omega
      have hgm : g < wr.heap.size := by omega
      have hzF : wr.heap.size < ((wr.alloc (.map #[] 0)).alloc (.cells #[] 84)).heap.size := by simp; omega
      clear hm0 hbm hbs hzm hbms hA4 hR hA hb3 hb2 hl2 hi0 hz2 hwz hA3 hgl hzz
      go_wp2_with fail
      generalize hBm : wr.heap.size = Bm at *
      generalize hW3 : (wr.alloc (.map #[] 0)).alloc (.cells #[] 84) = w3 at *
      clear hBm hW3 hmm
      go_loopw [11] (fun v wr2 => ∃ (sl : List Slt) (nx : List Nat) (rd : List Int) (D : DataW Unit) (fr : ByteArray → Int) (S : ByteArray → Prop) (ob oc : Nat), v = .slice (some ⟨ob, 0, none⟩) sl.length oc ∧ RowVal slF 84 wr2 w.heap.size (.slice (some ⟨ob, 0, none⟩) sl.length oc) sl ∧ Hid (DispInv jobs sl nx rd fr) ∧ wr2.ownsMap Try.prog 9 (plainElem Try.prog 3) Bm sl.length D ∧ Hid (View D fr S ∧ ∀ s, ¬ S s → fr s = 0) ∧ NumRow wr2 w.heap.size gn jobs.length jobs.length (nx.map Int.ofNat) ∧ NumRow wr2 w.heap.size g jobs.length cc rd ∧ Below w.heap.size w wr2) (fun v _ => totN jobs - lenOf v)
      case atStart => exact ⟨[], List.replicate jobs.length 0, jobs.map (·.1), .map [], fun _ => 0, fun _ => False, _, _, rfl, hr0, Lib.hid (DispInv.zero HP.out), hmF, Lib.hid ⟨View.empty, fun _ _ => rfl⟩, hnx, hrd, hbW⟩
      case round =>
        clear hr0 hmF hnx hrd hbW hzF
        obtain ⟨sl, nx, rd, D, fr, S, ob, oc, rfl, hsl, HI, hm, HV, hnx, hrd, hW⟩ := hrel
        go_wp2_with fail
        have hno := HI.out.next
        have hnl := hno.1
        have hr30 : rd.length = jobs.length := hrd.len
        have hbd := HI.out.bd HP.out
        have HLN := Lib.hid HI.out.len
        have hl30 : sl.length ≤ 30 := by have := HLN.out; have := hbd.tot; omega
        have hob := (own_lt hsl.own_.2 _ rfl)
        obtain ⟨wo, rfl⟩ : ∃ W, W = wr := ⟨wr, rfl⟩
        have hlo := hl.keep hW
        have hwz := hW.size
        have hbm1 := hm.lt
        go_loopw [12, 13, 46] (fun bv sv iv wr3 => ∃ (k : Nat) (bst st : Int), k ≤ jobs.length ∧ iv = .int .i64 k ∧ bv = .int .i64 bst ∧ sv = .int .i64 st ∧ Hid (BestI jobs nx rd fr k bst st) ∧ Below wo.heap.size wo wr3) (fun _ _ i _ => jobs.length - (intOf i).toNat)
        case atStart => exact ⟨0, -1, 0, by omega, rfl, rfl, rfl, Lib.hid (.inl ⟨rfl, fun j h1 h2 h3 => by omega⟩), Below.refl _ _⟩
        case round =>
          obtain ⟨k, bst, st, hk, rfl, rfl, rfl, HBE, hb3⟩ := hrel
          by_cases hlt : k < jobs.length
          · obtain ⟨b, o, B, c2, hAe, hbl, hcap, hcells, hwk⟩ := jbc_all hlo hlt
            subst hAe
            obtain ⟨hd0, hd1, hd2⟩ := hcells _ hb3
            have hk5 := (HJ.out.2 k hlt).2.2.2.2.1
            have hsz3 := hb3.size
            have hbx := boxOf_alloc wr #[.int .i64 jobs[k].1, .int .i64 jobs[k].2.1, .slice B jobs[k].2.2.length c2] 44
            simp only at hbx
            have hbq := hb3.alloc hsz3 (.cells #[.int .i64 jobs[k].1, .int .i64 jobs[k].2.1, .slice B jobs[k].2.2.length c2] 44)
            clear hcells
            go_wp2_with fail
            generalize wr.alloc (.cells #[.int .i64 jobs[k].1, .int .i64 jobs[k].2.1, .slice B jobs[k].2.2.length c2] 44) = wq at *
            generalize wr.heap.size = N at *
            clear hd0 hd1 hd2 hb3
            have x2 := hbx.2 2 _ rfl
            have cn : wq.cell? ⟨gn, k, none⟩ = some (.int .i64 (nx[k]'(by omega))) := by
              rw [(hnx.keep hbq).cell (by simp; omega)]; simp
            have cr : wq.cell? ⟨g, k, none⟩ = some (.int .i64 (rd[k]'(by omega))) := (hrd.keep hbq).cell (by omega)
            by_cases hfull : nx[k]'(by omega) = jobs[k].2.2.length
            · have hd : ((nx[k]'(by omega) : Int) == (jobs[k].2.2.length : Int)) = true := by rw [hfull]; exact beq_self_eq_true _
              have HF := Lib.hid hfull
              clear hfull
              go_quiet (fail)
              go_wp2_with fail
              go_roundw
              case rel => exact ⟨k + 1, bst, st, by omega, by go_num, rfl, rfl, Lib.hid (HBE.out.skip (fun _ _ => HF.out)), below_drewN hbq _⟩
              case measure => simp [intOf]; omega
            · have hlt2 : nx[k]'(by omega) < jobs[k].2.2.length := by have := hno.2 k (by omega) hlt; omega
              have hd : ((nx[k]'(by omega) : Int) == (jobs[k].2.2.length : Int)) = false := beq_eq_false_iff_ne.2 (by omega)
              clear hfull
              go_quiet (fail)
              go_wp2_with fail
              have hbr := below_drewN hbq nq
              have hbx2 : BoxOf (wq.drewN nq) N [.int .i64 jobs[k].1, .int .i64 jobs[k].2.1, .slice B jobs[k].2.2.length c2] := hbx.keep (below_drewN (Below.refl _ _) _)
              generalize wq.drewN nq = w4 at *
              clear hbq hbx cn cr x2 hd
              obtain ⟨bw, ow, rfl, hbw, hw0, hw1⟩ := work_at (hwk.keep hbr) hlt2
              have x2 := hbx2.2 2 _ rfl
              have cn : w4.cell? ⟨gn, k, none⟩ = some (.int .i64 (nx[k]'(by omega))) := by
                rw [(hnx.keep hbr).cell (by simp; omega)]; simp
              have cr : w4.cell? ⟨g, k, none⟩ = some (.int .i64 (rd[k]'(by omega))) := (hrd.keep hbr).cell (by omega)
              have hkey : keyOf Try.prog 9 (.string (jobs[k].2.2[nx[k]'(by omega)]).1) = some (kl (jobs[k].2.2[nx[k]'(by omega)]).1) := keyOf_string_mk Try.underlying9 (by unfold maxLen; exact HO.out _ (List.getElem_mem hlt) _ (List.getElem_mem hlt2))
              have hm4 := ownsMap_blk hm (hbr.block Bm hbm1)
              have HLK : ∀ n, (Instr.lookup 81 (.map (some Bm)) (.string (jobs[k].2.2[nx[k]'(by omega)]).1) false).run Try.prog (w4.drewN n) = .ok (.int .i64 (fr (jobs[k].2.2[nx[k]'(by omega)]).1)) (w4.drewN n) := by
                intro n
                obtain ⟨c9, hrun, hat, _⟩ := (ownsMap_blk hm4 (w' := w4.drewN n) ((below_drewN (Below.refl w4.heap.size w4) n).block Bm hm4.lt)).lookup_int strKeyed Try.underlying81 Try.underlying3 (zeroI _) hkey
                have : c9 = fr (jobs[k].2.2[nx[k]'(by omega)]).1 := by
                  by_cases hS : S (jobs[k].2.2[nx[k]'(by omega)]).1
                  · exact HV.out.1.at_ hS hat
                  · rw [HV.out.2 _ hS]; exact HV.out.1.none hS hat
                rw [← this]; exact hrun
              have hrk := hbd.rd (rd[k]'(by omega)) (List.getElem_mem _)
              have hfk := hbd.fr (jobs[k].2.2[nx[k]'(by omega)]).1
              obtain ⟨s, hs, hs2⟩ : ∃ s : Int, (if rd[k]'(by omega) < fr (jobs[k].2.2[nx[k]'(by omega)]).1 then fr (jobs[k].2.2[nx[k]'(by omega)]).1 else rd[k]'(by omega)) = s ∧ s = max (rd[k]'(by omega)) (fr (jobs[k].2.2[nx[k]'(by omega)]).1) := ⟨_, rfl, by split <;> omega⟩
              have HS2 := Lib.hid hs2
              clear hs2 hkey
              go_quiet (fail)
              have hbs := below_drewN hbr nq
              generalize w4.drewN nq = w5 at *
              clear HLK hbx2 hm4 cn cr x2 hw0 hw1 hbr
              have HNEW : Hid (BestI jobs nx rd fr (k + 1) (k : Int) s) := Lib.hid (.inr ⟨k, rfl, by omega, hlt, hlt2, by omega, HS2.out⟩)
              rcases HBE.out with ⟨rfl, _⟩ | ⟨q, rfl, hq1, hq2, hq3, hq4, hst9⟩
              · go_wp2_with fail
                go_roundw
                case rel => exact ⟨k + 1, k, s, by omega, by go_num, rfl, rfl, HNEW, hbs⟩
                case measure => simp [intOf]; omega
              · clear hst9
                have hq5 := (HJ.out.2 q hq2).2.2.2.2.1
                have dq : decide ((q : Int) < 0) = false := decide_eq_false (by omega)
                have HOLD : Hid (BestI jobs nx rd fr (k + 1) (q : Int) st) := by
                  rcases HBE.out with ⟨h, _⟩ | h
                  · omega
                  · exact Lib.hid (.inr h)
                rcases Int.lt_trichotomy s st with ht | ht | ht
                · have dt : decide (s < st) = true := decide_eq_true ht
                  go_wp2_with fail
                  go_roundw
                  case rel => exact ⟨k + 1, k, s, by omega, by go_num, rfl, rfl, HNEW, hbs⟩
                  case measure => simp [intOf]; omega
                · subst ht
                  go_wp2_with fail
                  refine (before_any _ jobs.length c jobs w.heap.size gn jobs.length jobs.length nx rule k q _ (hlo.keep hbs) (hnx.keep hbs) (by omega) hlt hlt2 hk5 hq1 hq2 hq3 hq5).mono ?_
                  rintro e w6 ⟨yb, rfl, hB6⟩
                  have hbt := below_on hbs hB6
                  cases yb
                  · go_wp2_with fail
                    go_roundw
                    case rel => exact ⟨k + 1, q, s, by omega, by go_num, rfl, rfl, HOLD, hbt⟩
                    case measure => simp [intOf]; omega
                  · go_wp2_with fail
                    go_roundw
                    case rel => exact ⟨k + 1, k, s, by omega, by go_num, rfl, rfl, HNEW, hbt⟩
                    case measure => simp [intOf]; omega
                · have n1 : ¬ s < st := by omega
                  have n2 : ¬ s = st := by omega
                  go_wp2_with fail
                  go_roundw
                  case rel => exact ⟨k + 1, q, st, by omega, by go_num, rfl, rfl, HOLD, hbs⟩
                  case measure => simp [intOf]; omega
          · obtain rfl : k = jobs.length := by omega
            rcases HBE.out with ⟨rfl, hall⟩ | ⟨q, rfl, hq1, hq2, hq3, hq4, hstq⟩
            · have HD := Lib.hid (HI.out.done HP.out (fun k h1 h2 => hall k h1 h2 h2))
              clear hall
              go_wp2_with fail
              go_ret2
              exact .inr ⟨rfl, sl, ob, oc, rfl, HD.out.1, HD.out.2, hl30, ⟨rfl, hsl.keep hb3⟩, below_on hW hb3⟩
            · have dq : decide ((q : Int) < 0) = false := decide_eq_false (by omega)
              have HSTQ := Lib.hid hstq
              have hrq := hbd.rd rd[q] (List.getElem_mem _)
              have hfq := hbd.fr jobs[q].2.2[nx[q]].1
              have hst0 : 0 ≤ st ∧ st ≤ 130000 := by omega
              clear hstq
              obtain ⟨b, o, B, c2, hAe, hbl, hcap, hcells, hwk⟩ := jbc_all hlo hq2
              subst hAe
              obtain ⟨_, _, hd2⟩ := hcells _ hb3
              obtain ⟨bw, ow, rfl, hbw, hw0, hw1⟩ := work_at (hwk.keep hb3) hq3
              obtain ⟨hmn0, hmn1⟩ := (HJ.out.2 q hq2).2.2.2.2.2 _ hq3
              have hq5 : nx[q] < 5 := by have := (HJ.out.2 q hq2).2.2.2.2.1; omega
              have hokw := HO.out _ (List.getElem_mem hq2) _ (List.getElem_mem hq3)
              have cn : wr.cell? ⟨gn, q, none⟩ = some (.int .i64 nx[q]) := by
                rw [(hnx.keep hb3).cell (by simp; omega)]; simp
              clear hcells
              go_wp2_with fail
              go_region_held3 (fun w' => w'.cell? ⟨b, o + q * 3 + 2, none⟩ = some (.slice (some ⟨bw, ow, none⟩) jobs[q].2.2.length c2) ∧ w'.cell? ⟨gn, q, none⟩ = some (.int .i64 nx[q]) ∧ w'.cell? ⟨bw, ow + nx[q] * 2, none⟩ = some (.string jobs[q].2.2[nx[q]].1) ∧ w'.cell? ⟨bw, ow + nx[q] * 2 + 1, none⟩ = some (.int .i64 jobs[q].2.2[nx[q]].2)) (go_keep) (fail)
              have v0 : (wr.alloc (.cells #[.string jobs[q].2.2[nx[q]].1, .int .i64 jobs[q].2.2[nx[q]].2] 46)).drew.cell? ⟨wr.heap.size, 0, none⟩ = some (.string jobs[q].2.2[nx[q]].1) := by simp [go_sem]
              have v1 : (wr.alloc (.cells #[.string jobs[q].2.2[nx[q]].1, .int .i64 jobs[q].2.2[nx[q]].2] 46)).drew.cell? ⟨wr.heap.size, 1, none⟩ = some (.int .i64 jobs[q].2.2[nx[q]].2) := by simp [go_sem]
              have hb5 := (hb3.alloc hb3.size (.cells #[.string jobs[q].2.2[nx[q]].1, .int .i64 jobs[q].2.2[nx[q]].2] 46)).drew
              have hN5 : wr.heap.size < (wr.alloc (.cells #[.string jobs[q].2.2[nx[q]].1, .int .i64 jobs[q].2.2[nx[q]].2] 46)).drew.heap.size := by simp
              have hzo := hb3.size
              generalize (wr.alloc (.cells #[.string jobs[q].2.2[nx[q]].1, .int .i64 jobs[q].2.2[nx[q]].2] 46)).drew = w5 at *
              generalize wr.heap.size = N at *
              clear hb3
              have hz5 := hb5.size
              have cn5 : w5.cell? ⟨gn, q, none⟩ = some (.int .i64 nx[q]) := by
                rw [(hnx.keep hb5).cell (by simp; omega)]; simp
              have m3 : IntKind.i64.wrap (st + jobs[q].2.2[nx[q]].2) = st + jobs[q].2.2[nx[q]].2 := IntWalk.i64_in _ (by omega)
              have hv5 : RowVal slF 84 ((w5.alloc (.cells #[.int .i64 q, .int .i64 nx[q], .string jobs[q].2.2[nx[q]].1, .int .i64 st, .int .i64 (st + jobs[q].2.2[nx[q]].2)] 84)).drew) w.heap.size (.slice (some ⟨ob, 0, none⟩) sl.length oc) sl := RowVal.drew (RowVal.alloc (hsl.keep hb5) _)
              have hsrc : RowsIn slF ((w5.alloc (.cells #[.int .i64 q, .int .i64 nx[q], .string jobs[q].2.2[nx[q]].1, .int .i64 st, .int .i64 (st + jobs[q].2.2[nx[q]].2)] 84)).drew) (some ⟨w5.heap.size, 0, none⟩) 1 [((q : Int), (nx[q] : Int), jobs[q].2.2[nx[q]].1, st, st + jobs[q].2.2[nx[q]].2)] := RowsIn.drew (lit_row rfl _ _ rfl)
              have hsz6 : w.heap.size ≤ ((w5.alloc (.cells #[.int .i64 q, .int .i64 nx[q], .string jobs[q].2.2[nx[q]].1, .int .i64 st, .int .i64 (st + jobs[q].2.2[nx[q]].2)] 84)).drew).heap.size := by simp; omega
              have hB6 := (below_alloc w5 (.cells #[.int .i64 q, .int .i64 nx[q], .string jobs[q].2.2[nx[q]].1, .int .i64 st, .int .i64 (st + jobs[q].2.2[nx[q]].2)] 84)).drew
              go_wp2_with fail
              go_region_law (refine step_append_rows slotElem slOne rfl (.tmp 112) (.tmp 126) rfl ((w5.alloc (.cells #[.int .i64 q, .int .i64 nx[q], .string jobs[q].2.2[nx[q]].1, .int .i64 st, .int .i64 (st + jobs[q].2.2[nx[q]].2)] 84)).drew) (lo := w.heap.size) rfl hv5 (by omega) rfl hsrc hsz6 ?_; intro v9 w9 hr9 hg9; obtain ⟨b9, c9, rfl⟩ := hr9.some_of (n := sl.length) (by simp))
              all_goals
                have e1 : ob ≠ gn := fun e => RowVal.apart (by decide) hsl hnx.own ob rfl (by simp [Value.ownBlock, e])
                have e2 : ob ≠ g := fun e => RowVal.apart (by decide) hsl hrd.own ob rfl (by simp [Value.ownBlock, e])
                have e5 : ob ≠ Bm := row_no_map hsl hm
                have hnw : gn < wo.heap.size := hnx.lt.2
                have hgw : g < wo.heap.size := hrd.lt.2
                have hobw : ob < wo.heap.size := hob.2
                have hap : ∀ k, k < w5.heap.size → k ≠ ob → w9.heap[k]? = w5.heap[k]? := fun k hk hne => (hg9.block k (by simp; omega) (fun e => hne (Option.some.inj (show some k = some ob from e)))).trans (hB6.block k hk)
                have hB9 : Below w.heap.size w5 w9 := (hB6.mono (by omega)).trans (RowVal.below hv5 hg9 (Nat.le_refl _) hsz6)
                have hn9 := (hnx.keep hb5).blk (hap gn (by omega) (by omega))
                have hd9 := (hrd.keep hb5).blk (hap g (by omega) (by omega))
                have hm9 := ownsMap_blk hm ((hap Bm (by omega) (by omega)).trans (hb5.block Bm hbm1))
                have v09 : w9.cell? ⟨N, 0, none⟩ = some (.string jobs[q].2.2[nx[q]].1) := (World.cell?_of_block (hap N (by omega) (by omega))).trans v0
                have v19 : w9.cell? ⟨N, 1, none⟩ = some (.int .i64 jobs[q].2.2[nx[q]].2) := (World.cell?_of_block (hap N (by omega) (by omega))).trans v1
                have c9n : w9.cell? ⟨gn, q, none⟩ = some (.int .i64 nx[q]) := by rw [hn9.cell (by simp; omega)]; simp
                have f9n : w9.frozen? ⟨gn, q, none⟩ = false := hn9.frozen q
                have hn10 := hn9.set q (nx[q] + 1)
                have hd10 := hd9.far (p := ⟨gn, q, none⟩) (v := .int .i64 (nx[q] + 1)) (by show gn ≠ g; omega)
                have c10 : (w9.setCell ⟨gn, q, none⟩ (.int .i64 (nx[q] + 1))).cell? ⟨g, q, none⟩ = some (.int .i64 rd[q]) := hd10.cell (by omega)
                have f10 : (w9.setCell ⟨gn, q, none⟩ (.int .i64 (nx[q] + 1))).frozen? ⟨g, q, none⟩ = false := hd10.frozen q
                have v010 : (w9.setCell ⟨gn, q, none⟩ (.int .i64 (nx[q] + 1))).cell? ⟨N, 0, none⟩ = some (.string jobs[q].2.2[nx[q]].1) := (cell_far (by omega)).trans v09
                have v110 : (w9.setCell ⟨gn, q, none⟩ (.int .i64 (nx[q] + 1))).cell? ⟨N, 1, none⟩ = some (.int .i64 jobs[q].2.2[nx[q]].2) := (cell_far (by omega)).trans v19
                have hd11 := hd10.set q (st + jobs[q].2.2[nx[q]].2)
                have hn11 := hn10.far (p := ⟨g, q, none⟩) (v := .int .i64 (st + jobs[q].2.2[nx[q]].2)) (by show g ≠ gn; omega)
                have v011 : ((w9.setCell ⟨gn, q, none⟩ (.int .i64 (nx[q] + 1))).setCell ⟨g, q, none⟩ (.int .i64 (st + jobs[q].2.2[nx[q]].2))).cell? ⟨N, 0, none⟩ = some (.string jobs[q].2.2[nx[q]].1) := (cell_far (by omega)).trans v010
                have v111 : ((w9.setCell ⟨gn, q, none⟩ (.int .i64 (nx[q] + 1))).setCell ⟨g, q, none⟩ (.int .i64 (st + jobs[q].2.2[nx[q]].2))).cell? ⟨N, 1, none⟩ = some (.int .i64 jobs[q].2.2[nx[q]].2) := (cell_far (by omega)).trans v110
                have e3 : b9 ≠ gn := fun e => RowVal.apart (by decide) hr9 hn9.own b9 rfl (by simp [Value.ownBlock, e])
                have e4 : b9 ≠ g := fun e => RowVal.apart (by decide) hr9 hd9.own b9 rfl (by simp [Value.ownBlock, e])
                have e6 : b9 ≠ Bm := row_no_map hr9 hm9
                have e7 : gn ≠ Bm := row_no_map hn9.own hm9
                have e8 : g ≠ Bm := row_no_map hd9.own hm9
                have hr11 := (hr9.blk (w' := w9.setCell ⟨gn, q, none⟩ (.int .i64 (nx[q] + 1))) (fun k hk hlt => heap_setCell_other w9 _ k _ (by intro e; simp [Value.ownBlock] at hk e; omega))).blk (w' := (w9.setCell ⟨gn, q, none⟩ (.int .i64 (nx[q] + 1))).setCell ⟨g, q, none⟩ (.int .i64 (st + jobs[q].2.2[nx[q]].2))) (fun k hk hlt => heap_setCell_other _ _ k _ (by intro e; simp [Value.ownBlock] at hk e; omega))
                have hm11 := ownsMap_blk (ownsMap_blk hm9 (w' := w9.setCell ⟨gn, q, none⟩ (.int .i64 (nx[q] + 1))) (heap_setCell_other w9 _ Bm _ (by intro e; simp at e; omega))) (w' := (w9.setCell ⟨gn, q, none⟩ (.int .i64 (nx[q] + 1))).setCell ⟨g, q, none⟩ (.int .i64 (st + jobs[q].2.2[nx[q]].2))) (heap_setCell_other _ _ Bm _ (by intro e; simp at e; omega))
                have hB11 : Below w.heap.size w ((w9.setCell ⟨gn, q, none⟩ (.int .i64 (nx[q] + 1))).setCell ⟨g, q, none⟩ (.int .i64 (st + jobs[q].2.2[nx[q]].2))) := (((below_on hW hb5).trans hB9).setCell (p := ⟨gn, q, none⟩) (by show w.heap.size ≤ gn; omega) _).setCell (p := ⟨g, q, none⟩) (by show w.heap.size ≤ g; omega) _
                have HB9z : N < w9.heap.size := by have := hB9.size; omega
                have HS2 := Lib.hid (sum_set nx q hq1)
                have hle' := (hno.step hq1 hq2 hq3).sum_le
                have HS1 := Lib.hid hle'
                have HKEY : Hid (keyOf Try.prog 9 (.string jobs[q].2.2[nx[q]].1) = some (kl jobs[q].2.2[nx[q]].1)) := keyOf_string_mk Try.underlying9 (by unfold maxLen; exact hokw)
                have HMORE := Lib.hid (HI.out.more HP.out hq1 hq2 hq3 hq4 st HSTQ.out (fun s => if kl s = kl jobs[q].2.2[nx[q]].1 then st + jobs[q].2.2[nx[q]].2 else fr s) (fun s => rfl))
                have hql : (q : Int) < jobs.length := by omega
                clear hn9 hd9 hm9 hn10 hd10 hsrc hv5 hB6 hg9 hap m3 hle' hB9
                go_wp2_with (at_mapUpdate; refine wpList_mapUpdate_own _ rfl _ _ _ 81 rfl 9 3 strKeyed Try.underlying81 (plainElem Try.prog 3) Bm sl.length D rfl hm11 (by unfold maxLen; omega) _ _ _ rfl rfl HKEY.out _ [] (plainElem_int Try.underlying3 (WalkArith.wf_i64 (by omega))) ?_; intro w12 hm12 hg12)
                have hr12 := hr11.blk (w' := w12) (fun k hk hlt => hg12.block k hlt (by intro e; simp [Value.ownBlock] at hk e; omega))
                have hn12 := hn11.blk (hg12.block gn (by simp; omega) (by intro e; simp at e; omega))
                have hd12 := hd11.blk (hg12.block g (by simp; omega) (by intro e; simp at e; omega))
                have hB12 : Below w.heap.size w w12 := hB11.trans (below_grown hg12 hB11.size (fun g2 hg2 => by cases hg2; omega))
                go_roundw
                case rel =>
                  (repeat apply Exists.intro)
                  refine ⟨?_, rfl⟩
                  refine ⟨sl ++ [((q : Int), (nx[q] : Int), jobs[q].2.2[nx[q]].1, st, st + jobs[q].2.2[nx[q]].2)], nx.set q (nx[q] + 1), rd.set q (st + jobs[q].2.2[nx[q]].2), D.put (kl jobs[q].2.2[nx[q]].1) (.lit (.int .i64 (st + jobs[q].2.2[nx[q]].2))), (fun s => if kl s = kl jobs[q].2.2[nx[q]].1 then st + jobs[q].2.2[nx[q]].2 else fr s), (fun s => S s ∨ kl s = kl jobs[q].2.2[nx[q]].1), b9, c9, by simp, ?_, HMORE, ?_, Lib.hid ⟨HV.out.1.put _ _, fun s hs => ?_⟩, ?_, hd12, hB12⟩
                  · have := hr12
                    simp only [List.length_append, List.length_cons, List.length_nil] at this ⊢
                    exact this
                  · rw [List.length_append]; exact hm12
                  · have h1 : ¬ kl s = kl jobs[q].2.2[nx[q]].1 := fun e => hs (.inr e)
                    have h2 : ¬ S s := fun e => hs (.inl e)
                    show (if _ then _ else _) = _
                    rw [if_neg h1]; exact HV.out.2 s h2
                  · rw [List.map_set]; exact hn12
                case measure =>
                  have h1 := HLN.out
                  have h2 := HS2.out
                  have h3 := HS1.out
                  show totN jobs - (sl.length + 1) < totN jobs - sl.length
                  omega
end Go.Proofs.Ytmkfinahbelpdaa
