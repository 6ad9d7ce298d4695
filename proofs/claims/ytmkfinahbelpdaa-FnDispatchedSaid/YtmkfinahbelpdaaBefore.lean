/- The program's rule: which step is taken ahead of which: some Bool, and no memory is turned. -/
import Derived.Test.YtmkfinahbelpdaaDispSpec
namespace Go.Proofs.Ytmkfinahbelpdaa
open Go.RowKit
/-- Jobs whose rows of steps are no longer than their room. -/
def JobsC (w : World) (A : Option Addr) (n : Nat) (l : List Jb) : Prop := ∃ R, RowsIn jbF w A n R ∧ JobOfs (WorksIn w) R l ∧ ∀ r ∈ R, r.2.2.2.1 ≤ r.2.2.2.2
theorem JobsC.in_ {w : World} {A : Option Addr} {n : Nat} {l : List Jb} (h : JobsC w A n l) : JobsIn w A n l := by
  obtain ⟨R, h1, h2, _⟩ := h
  exact ⟨R, h1, h2⟩
theorem JobsC.keep {w w' : World} {A : Option Addr} {n : Nat} {l : List Jb} (h : JobsC w A n l) (hb : Below w.heap.size w w') : JobsC w' A n l := by
  obtain ⟨R, h1, h2, h3⟩ := h
  exact ⟨R, h1.keep hb, h2.imp (fun _ _ _ h => h.keep hb), h3⟩
theorem JobsC.len {w : World} {A : Option Addr} {n : Nat} {l : List Jb} (h : JobsC w A n l) : l.length ≤ 16777216 := h.in_.len
theorem JobsC.num {w : World} {A : Option Addr} {n : Nat} {l : List Jb} (h : JobsC w A n l) : n = l.length := h.in_.num
theorem own_cap2 {α : Type} {F : Flat α} {t : TypeId} {w : World} {lo n c : Nat} {A : Option Addr} {l : List α} (h : OwnRows F t w lo A n c l) : n ≤ c := by
  rcases h.2.2 with ⟨hv, h0⟩ | ⟨g2, cap, cur, hv, _, _, hr⟩
  · omega
  · have : c = cap := by injection hv
    subst this
    exact hr.1
theorem JbsOwn.jobsC {w : World} {lo n c : Nat} {A : Option Addr} {R : List JbR} {l : List Jb} (hr : OwnRows jbF 44 w lo A n c R) (h : JbsOwn w lo R l) (hn : l.length ≤ 16777216) : JobsC w A n l := by
  refine ⟨R, hr.rows (by rw [h.1]; exact hn), ⟨h.1, fun k h1 h2 => ?_⟩, fun r hr => ?_⟩
  · have h3 := h.2 k h1 h2
    simp only [JbOwn] at h3
    simp only [JbOf]
    exact ⟨h3.1, h3.2.1, h3.2.2.2.rows h3.2.2.1⟩
  · obtain ⟨k, hk, rfl⟩ := List.mem_iff_getElem.1 hr
    have h3 := h.2 k hk (by have := h.1; omega)
    simp only [JbOwn] at h3
    exact own_cap2 h3.2.2.2
theorem jbc_all {w : World} {A : Option Addr} {n : Nat} {l : List Jb} (h : JobsC w A n l) {k : Nat} (hk : k < l.length) :
    ∃ b o B c, A = some ⟨b, o, none⟩ ∧ b < w.heap.size ∧ l[k].2.2.length ≤ c ∧ (∀ w', Below w.heap.size w w' → w'.cell? ⟨b, o + k * 3, none⟩ = some (.int .i64 l[k].1) ∧ w'.cell? ⟨b, o + k * 3 + 1, none⟩ = some (.int .i64 l[k].2.1) ∧ w'.cell? ⟨b, o + k * 3 + 2, none⟩ = some (.slice B l[k].2.2.length c)) ∧ WorksIn w B l[k].2.2.length l[k].2.2 := by
  obtain ⟨R, h1, h2, hc⟩ := h
  have hkR : k < R.length := by have := h2.1; omega
  obtain ⟨b, o, e, hlt, hcell⟩ := h1.at_ hkR
  have h4 := h2.2 k hkR hk
  simp only [JbOf] at h4
  obtain ⟨e1, e2, hw⟩ := h4
  have hm := hw.1
  have hcap := hc _ (List.getElem_mem hkR)
  have c0 := hcell 0 _ rfl
  have c1 := hcell 1 _ rfl
  have c2 := hcell 2 _ rfl
  simp only [jbF] at c0 c1 c2
  rw [e1] at c0
  rw [e2] at c1
  rw [hm] at c2 hw hcap
  exact ⟨b, o, _, _, e, hlt, hcap, fun w' hb => ⟨(hb.cell (p := ⟨b, o + k * 3, none⟩) hlt).trans c0, (hb.cell (p := ⟨b, o + k * 3 + 1, none⟩) hlt).trans c1, (hb.cell (p := ⟨b, o + k * 3 + 2, none⟩) hlt).trans c2⟩, hw⟩
/-- The ending: some number, and memory made. -/
def SomeI (w : World) (e : Ending) (w' : World) : Prop := ∃ y : Int, e = .returned (.int .i64 y) ∧ Below w.heap.size w w'
def SomeB (w : World) (e : Ending) (w' : World) : Prop := ∃ y : Bool, e = .returned (.bool y) ∧ Below w.heap.size w w'
set_option maxRecDepth 100000 in
set_option maxHeartbeats 2000000 in
theorem left_any (A : Option Addr) (n c : Nat) (jobs : List Jb) (lo g m d : Nat) (nx : List Nat) (k P1 P2 : Nat) (w : World) (x1 : w.cell? ⟨P1, 0, none⟩ = some (.slice A n c)) (x2 : w.cell? ⟨P2, 0, none⟩ = some (.slice (some ⟨g, 0, none⟩) m d)) (hl : JobsC w A n jobs) (hn : NumRow w lo g m d (nx.map Int.ofNat)) (hk1 : k < nx.length) (hk2 : k < jobs.length) (hlt : nx[k] < jobs[k].2.2.length) (h5 : jobs[k].2.2.length ≤ 5) :
    Calls Try.prog 74 #[.int .i64 k, .pointer (some ⟨P1, 0, none⟩), .pointer (some ⟨P2, 0, none⟩)] w (SomeI w) := by
  have hjl := hl.len
  obtain rfl := hl.num
  have hml := hn.len
  rw [List.length_map] at hml
  obtain rfl := hml
  obtain ⟨b, o, B, c2, rfl, hbl, hcap, hcells, hwk⟩ := jbc_all hl hk2
  obtain ⟨hd0, hd1, hd2⟩ := hcells w (Below.refl _ _)
  have cn : w.cell? ⟨g, k, none⟩ = some (.int .i64 nx[k]) := by
    rw [hn.cell (by simp; omega)]; simp
  obtain ⟨bw, ow, rfl, hbw, _, _⟩ := work_at hwk hlt
  have hck : ¬ c2 = nx[k] := by omega
  have HD : Hid (∀ W, Below w.heap.size w W → RowsIn wkF W (some ⟨bw, ow + nx[k] * 2, none⟩) (jobs[k].2.2.length - nx[k]) (jobs[k].2.2.drop nx[k])) := fun W hW => by
    have := (hwk.keep hW).drop (k := nx[k]) (cap := c2) (by omega) hcap
    rw [if_neg (by omega)] at this
    simp only [Option.map_some, Addr.add_lit] at this
    exact this
  clear hcells hd0 hd1
  have hsub : ((jobs[k].2.2.length - nx[k] : Nat) : Int) = (jobs[k].2.2.length : Int) - nx[k] := by omega
  have hdl : (jobs[k].2.2.drop nx[k]).length = jobs[k].2.2.length - nx[k] := List.length_drop ..
  go_enter Try.func74, Try.ntmps74
  go_wp2_with fail
  go_quiet (fail)
  go_wp2_with fail
  clear hck hd2 cn x1 x2 hn
  go_loopw [5, 19] (fun s i wr => ∃ (j : Nat) (y : Int), j ≤ jobs[k].2.2.length - nx[k] ∧ i = .int .i64 j ∧ s = .int .i64 y ∧ Below w.heap.size w wr) (fun _ i _ => jobs[k].2.2.length - nx[k] - (intOf i).toNat)
  case atStart => exact ⟨0, 0, by omega, rfl, rfl, below_drewN (Below.refl _ _) _⟩
  case round =>
    obtain ⟨j, y, hj, rfl, rfl, HR⟩ := hrel
    by_cases hjl : j < jobs[k].2.2.length - nx[k]
    · obtain ⟨b9, o9, he, hb9, v0, v1⟩ := work_at (HD.out _ HR) (k := j) (by rw [hdl]; exact hjl)
      have he1 := Option.some.inj he
      injection he1 with e1 e2
      subst e1 e2
      clear he
      have hji : (j : Int) < (jobs[k].2.2.length : Int) - nx[k] := by omega
      have hsz := HR.size
      go_wp2_with fail
      go_roundw
      case rel => exact ⟨j + 1, _, by omega, by go_num, rfl, HR.alloc hsz _⟩
      case measure => simp [intOf]; omega
    · have hji : ¬ (j : Int) < (jobs[k].2.2.length : Int) - nx[k] := by omega
      go_wp2_with fail
      go_ret
      exact ⟨y, rfl, HR⟩
set_option maxRecDepth 100000 in
set_option maxHeartbeats 4000000 in
theorem before_any (A : Option Addr) (n c : Nat) (jobs : List Jb) (lo g m d : Nat) (nx : List Nat) (r : Int) (k q : Nat) (w : World) (hl : JobsC w A n jobs) (hn : NumRow w lo g m d (nx.map Int.ofNat)) (hk1 : k < nx.length) (hk2 : k < jobs.length) (hk3 : nx[k] < jobs[k].2.2.length) (hk5 : jobs[k].2.2.length ≤ 5) (hq1 : q < nx.length) (hq2 : q < jobs.length) (hq3 : nx[q] < jobs[q].2.2.length) (hq5 : jobs[q].2.2.length ≤ 5) :
    Calls Try.prog 49 #[.slice A n c, .slice (some ⟨g, 0, none⟩) m d, .int .i64 r, .int .i64 k, .int .i64 q] w (SomeB w) := by
  have hmf : ∀ (fn : Fn) (first cap : Array Value) (w : World), (Instr.makeFunc fn first cap).run Try.prog w = .ok (.func fn first cap) w := fun _ _ _ _ => rfl
  have hjl := hl.len
  obtain rfl := hl.num
  have hml := hn.len
  rw [List.length_map] at hml
  obtain rfl := hml
  have hb := (below_alloc w (.cells #[.slice A jobs.length c] 36)).trans ((below_alloc (w.alloc (.cells #[.slice A jobs.length c] 36)) (.cells #[.slice (some ⟨g, 0, none⟩) nx.length d] 25)).mono (by simp))
  have p1 : ((w.alloc (.cells #[.slice A jobs.length c] 36)).alloc (.cells #[.slice (some ⟨g, 0, none⟩) nx.length d] 25)).cell? ⟨w.heap.size, 0, none⟩ = some (.slice A jobs.length c) := by simp [go_sem]
  have p2 : ((w.alloc (.cells #[.slice A jobs.length c] 36)).alloc (.cells #[.slice (some ⟨g, 0, none⟩) nx.length d] 25)).cell? ⟨w.heap.size + 1, 0, none⟩ = some (.slice (some ⟨g, 0, none⟩) nx.length d) := by simp [go_sem]
  have hz : w.heap.size + 1 < ((w.alloc (.cells #[.slice A jobs.length c] 36)).alloc (.cells #[.slice (some ⟨g, 0, none⟩) nx.length d] 25)).heap.size := by simp
  have hl2 := hl.keep hb
  have hn2 := hn.keep hb
  by_cases r0 : r = 0
  · subst r0
    go_enter Try.func49, Try.ntmps49
    go_wp2_with fail
    generalize ((w.alloc (.cells #[.slice A jobs.length c] 36)).alloc (.cells #[.slice (some ⟨g, 0, none⟩) nx.length d] 25)) = w2 at *
    obtain ⟨b, o, B, c2, rfl, hbl, hcap, hcells, hwk⟩ := jbc_all hl2 hk2
    obtain ⟨hd0, hd1, hd2⟩ := hcells w2 (Below.refl _ _)
    obtain ⟨b5, o5, B5, c5, he, hbl5, hcap5, hcells5, hwk5⟩ := jbc_all hl2 hq2
    obtain ⟨rfl, rfl⟩ : b = b5 ∧ o = o5 := by simpa using he
    obtain ⟨hq0, hqq1, hqq2⟩ := hcells5 w2 (Below.refl _ _)
    clear hcells hcells5 he
    go_quiet (fail)
    go_wp2_with fail
    go_ret
    exact ⟨_, rfl, below_drewN hb _⟩
  · by_cases r1 : r = 1
    · subst r1
      go_enter Try.func49, Try.ntmps49
      go_wp2_with fail
      generalize ((w.alloc (.cells #[.slice A jobs.length c] 36)).alloc (.cells #[.slice (some ⟨g, 0, none⟩) nx.length d] 25)) = w2 at *
      obtain ⟨b, o, B, c2, rfl, hbl, hcap, hcells, hwk⟩ := jbc_all hl2 hk2
      obtain ⟨hd0, hd1, hd2⟩ := hcells w2 (Below.refl _ _)
      obtain ⟨b5, o5, B5, c5, he, hbl5, hcap5, hcells5, hwk5⟩ := jbc_all hl2 hq2
      obtain ⟨rfl, rfl⟩ : b = b5 ∧ o = o5 := by simpa using he
      obtain ⟨hq0, hqq1, hqq2⟩ := hcells5 w2 (Below.refl _ _)
      obtain ⟨bw, ow, rfl, hbw, v0, v1⟩ := work_at hwk hk3
      obtain ⟨bw5, ow5, rfl, hbw5, v50, v51⟩ := work_at hwk5 hq3
      have cn : w2.cell? ⟨g, k, none⟩ = some (.int .i64 nx[k]) := by
        rw [hn2.cell (by simp; omega)]; simp
      have cq : w2.cell? ⟨g, q, none⟩ = some (.int .i64 nx[q]) := by
        rw [hn2.cell (by simp; omega)]; simp
      clear hcells hcells5 he
      go_quiet (fail)
      go_wp2_with fail
      go_ret
      exact ⟨_, rfl, below_drewN hb _⟩
    · go_enter Try.func49, Try.ntmps49
      go_wp2_with fail
      generalize ((w.alloc (.cells #[.slice A jobs.length c] 36)).alloc (.cells #[.slice (some ⟨g, 0, none⟩) nx.length d] 25)) = w2 at *
      refine (left_any A jobs.length c jobs lo g nx.length d nx k _ _ _ p1 p2 hl2 hn2 hk1 hk2 hk3 hk5).mono ?_
      rintro e w3 ⟨y3, rfl, hz3⟩
      have p3 := below_in hz3 (by omega) p1
      have p4 := below_in hz3 (by omega) p2
      go_wp2_with fail
      refine (left_any A jobs.length c jobs lo g nx.length d nx q _ _ _ p3 p4 (hl2.keep hz3) (hn2.keep hz3) hq1 hq2 hq3 hq5).mono ?_
      rintro e w4 ⟨y4, rfl, hz4⟩
      go_wp2_with fail
      go_ret
      exact ⟨_, rfl, below_on (below_on hb hz3) hz4⟩
end Go.Proofs.Ytmkfinahbelpdaa
