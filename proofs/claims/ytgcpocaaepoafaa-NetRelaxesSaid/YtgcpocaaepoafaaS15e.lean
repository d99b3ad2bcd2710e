/- Layer 15: sets of houses as bits. -/
import Derived.Test.YtgcpocaaepoafaaS15d
set_option linter.unusedVariables false
set_option linter.unusedSimpArgs false
set_option linter.unusedSectionVars false
namespace Go.Q
open Go
/-! ### sets of houses as bits -/
def shrU (s h : Int) : Int := s.fdiv (2 ^ min h.toNat 16)
def inSet (s a : Int) : Bool := decide (shrU s a % 2 = 1)
theorem across_bound {n : Net} {l : List Send} (h : Sched n l) (p : Int → Bool) (t : Int) (k : Nat) : -(1073741824 * 2000) ≤ isum (across n p t) (l.take k) ∧ isum (across n p t) (l.take k) ≤ 1073741824 * 2000 := by
  have := isum_bound (f := across n p t) (l := l.take k) (lo := -1073741824) (hi := 1073741824) (fun x hx => by
    have h1 := (h.send x (mem_take hx)).b0
    have h2 := (h.send x (mem_take hx)).b1
    unfold across
    repeat' split
    all_goals omega)
  have hl : (l.take k).length ≤ 2000 := by have := h.len; have := List.length_take_le' k l; omega
  omega
theorem across_step {n : Net} {l : List Send} {s t : Int} {k : Nat} {x : Send} {y : Link} (hx : l[k]? = some x) (hy : n.links[x.link.toNat]? = some y) :
    -isum (across n (inSet s) t) (l.take (k + 1)) = -isum (across n (inSet s) t) (l.take k) - (if x.tick < t then (if shrU s y.dst % 2 = 1 then x.bytes else 0) - (if shrU s y.src % 2 = 1 then x.bytes else 0) else 0) := by
  rw [isum_take hx, across, srcOf_eq hy, dstOf_eq hy]
  simp only [inSet, decide_eq_true_eq]
  omega
end Go.Q
