/- Whether pegs take no more than there is: the reference's way and the program's come to one. -/
import Derived.Test.YtdofhdelcendeaaPegged
import Derived.Test.YtdofhdelcendeaaFlowPlain
namespace Go.Proofs.Ytdofhdelcendeaa

/-- How much the first pegs take of place i (by the demand's or the supply's number). -/
def took (g : Pg → Int) (l : List Pg) (i : Nat) : Int := match l with
  | [] => 0
  | p :: t => (if g p = (i : Int) then p.2.2 else 0) + took g t i
theorem took_append (g : Pg → Int) (a b : List Pg) (i : Nat) : took g (a ++ b) i = took g a i + took g b i := by
  induction a with
  | nil => simp [took]
  | cons p t ih => simp only [List.cons_append, took, ih]; omega
theorem took_take (g : Pg → Int) (l : List Pg) (k i : Nat) (h : k < l.length) : took g (l.take (k + 1)) i = took g (l.take k) i + if g l[k] = (i : Int) then l[k].2.2 else 0 := by
  rw [List.take_succ_eq_append_getElem h, took_append]; simp [took]
def okPeg (nd ns : Nat) (p : Pg) : Bool := inB p.1 0 ((nd : Int) - 1) && (inB p.2.1 0 ((ns : Int) - 1) && inB p.2.2 1 1000000000)
theorem took_bd (g : Pg → Int) (nd ns : Nat) (l : List Pg) (i : Nat) (h : ∀ p ∈ l, okPeg nd ns p = true) : 0 ≤ took g l i ∧ took g l i ≤ 1000000000 * l.length := by
  induction l with
  | nil => simp [took]
  | cons p t ih =>
    obtain ⟨h1, h2⟩ := ih (fun q hq => h q (List.mem_cons_of_mem _ hq))
    have h3 := h p List.mem_cons_self
    simp only [okPeg, Bool.and_eq_true, inB_iff] at h3
    simp only [took, List.length_cons]
    split <;> omega
theorem took_mono (g : Pg → Int) (nd ns : Nat) (l : List Pg) (i k : Nat) (h : ∀ p ∈ l, okPeg nd ns p = true) : took g (l.take k) i ≤ took g l i := by
  have h1 : l = l.take k ++ l.drop k := (List.take_append_drop k l).symm
  have h2 := took_bd g nd ns (l.drop k) i (fun p hp => h p (List.mem_of_mem_drop hp))
  have h3 : took g l i = took g (l.take k) i + took g (l.drop k) i := by
    conv => lhs; rw [h1]
    rw [took_append]
  omega
def isPegging (dem sup : List Fl) (l : List Pg) : Bool :=
  (areFlows dem && (areFlows sup && decide ((l.length : Int) ≤ 80))) && ((l.all (okPeg dem.length sup.length)) &&
    (((List.range dem.length).all fun i => decide (took (·.1) l i ≤ (dem.getD i (0, 0)).2)) && ((List.range sup.length).all fun i => decide (took (·.2.1) l i ≤ (sup.getD i (0, 0)).2))))
end Go.Proofs.Ytdofhdelcendeaa
