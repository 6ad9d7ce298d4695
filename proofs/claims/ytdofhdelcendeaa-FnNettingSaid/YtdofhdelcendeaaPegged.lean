/- The walks of PeggedFor. -/
import Derived.Test.YtdofhdelcendeaaPegTo
namespace Go.Proofs.Ytdofhdelcendeaa
open Go.RowKit
def peggedStep (d s : Int) (p : Pg) : Int := if (p.1 == d) && inB p.2.2 1 1000000000 then s + p.2.2 else s
def peggedTo (l : List Pg) (d : Int) (k : Nat) : Int := (l.take k).foldl (peggedStep d) 0
theorem peggedTo_succ (l : List Pg) (d : Int) (k : Nat) (h : k < l.length) : peggedTo l d (k + 1) = peggedStep d (peggedTo l d k) l[k] := by
  unfold peggedTo
  rw [List.take_succ_eq_append_getElem h, List.foldl_append]; rfl
theorem peggedTo_bd (l : List Pg) (d : Int) (k : Nat) (hk : k ≤ l.length) : 0 ≤ peggedTo l d k ∧ peggedTo l d k ≤ 1000000000 * k := by
  induction k with
  | zero => simp [peggedTo]
  | succ k ih =>
    obtain ⟨h1, h2⟩ := ih (by omega)
    rw [peggedTo_succ l d k (by omega)]
    unfold peggedStep
    split
    · rename_i h
      simp only [Bool.and_eq_true, inB_iff] at h
      omega
    · omega
def peggedFor (l : List Pg) (d : Int) : Int := peggedTo l d l.length
set_option maxRecDepth 100000 in
set_option maxHeartbeats 1000000 in
theorem implPeggedFor_any (A : Option Addr) (n c : Nat) (l : List Pg) (d : Int) (w : World) (ha : PegsIn w A n l) :
    Calls Try.prog 43 #[.slice A n c, .int .i64 d] w fun e w' => e = .returned (.int .i64 (peggedFor l d)) ∧ Below w.heap.size w w' := by
  have hn := ha.len
  obtain rfl := ha.1
  have HB := Lib.hid (peggedTo_bd l d)
  go_enter Try.func43, Try.ntmps43
  go_wp2
  go_loopw [5, 10] (fun s i wr => ∃ k : Nat, k ≤ l.length ∧ i = .int .i64 k ∧ s = .int .i64 (peggedTo l d k) ∧ Below w.heap.size w wr) (fun _ i _ => l.length - (intOf i).toNat)
  case atStart => exact ⟨0, by omega, rfl, rfl, Below.refl _ _⟩
  case round =>
    obtain ⟨k, hk, rfl, rfl, HR⟩ := hrel
    by_cases hlt : k < l.length
    · obtain ⟨b, o, rfl, _, hc0, hc1, hc2⟩ := peg_at (ha.keep HR) hlt
      have hsz := HR.size
      have HT := Lib.hid (peggedTo_succ l d k hlt)
      obtain ⟨b1, b2⟩ := HB.out k hk
      cases hd : (l[k].1 == d)
      · go_wp2_with (go_at_call 72; refine (in_any _ _ _ _).mono ?_; rintro e w' ⟨rfl, rfl⟩)
        go_roundw
        case rel => exact ⟨k + 1, by omega, by go_num, by rw [HT.out]; simp [peggedStep, hd], HR.alloc hsz _⟩
        case measure => simp [intOf]; omega
      cases hq : inB l[k].2.2 1 1000000000
      · go_wp2_with (go_at_call 72; refine (in_any _ _ _ _).mono ?_; rintro e w' ⟨rfl, rfl⟩)
        go_roundw
        case rel => exact ⟨k + 1, by omega, by go_num, by rw [HT.out]; simp [peggedStep, hd, hq], HR.alloc hsz _⟩
        case measure => simp [intOf]; omega
      obtain ⟨q1, q2⟩ := inB_iff.1 hq
      go_wp2_with (go_at_call 72; refine (in_any _ _ _ _).mono ?_; rintro e w' ⟨rfl, rfl⟩)
      go_roundw
      case rel => exact ⟨k + 1, by omega, by go_num, by rw [HT.out]; simp [peggedStep, hd, hq], HR.alloc hsz _⟩
      case measure => simp [intOf]; omega
    · obtain rfl : k = l.length := by omega
      go_wp2
      go_ret
      exact ⟨rfl, HR⟩
end Go.Proofs.Ytdofhdelcendeaa
