/- Layer 15: the examples of the document, computed. -/
import Derived.Test.YtgcpocaaepoafaaS15b
set_option linter.unusedVariables false
set_option linter.unusedSimpArgs false
set_option linter.unusedSectionVars false
namespace Go.Q
open Go Go.RowKit
def flatP (a b c p : Int) (k : Nat) : Link := ⟨a, b, List.replicate k c ++ List.replicate (24 - k) 0, List.replicate k p ++ List.replicate (24 - k) 0⟩
def sanN : Net := ⟨3, [flatP 0 1 100 2 24, flatP 1 2 100 2 24, flatP 0 2 10 1 24]⟩
def sanD : Demand := ⟨0, 2, 120, 5, 8⟩
def sanL : List Send := [⟨0, 5, 100⟩, ⟨2, 5, 10⟩, ⟨1, 6, 100⟩, ⟨2, 6, 10⟩]
def sanE : List Send := [⟨0, 5, 100⟩, ⟨1, 5, 100⟩, ⟨2, 5, 10⟩, ⟨2, 6, 10⟩]
def sanF : List Send := [⟨0, 5, 100⟩, ⟨2, 5, 10⟩, ⟨1, 6, 100⟩, ⟨2, 6, 11⟩]
def sanJ : List Send := [⟨0, 5, 200⟩, ⟨2, 5, 20⟩, ⟨1, 6, 200⟩, ⟨2, 6, 20⟩]
theorem sanOk : NetOk sanN := by
  intro x hx
  simp only [sanN, List.mem_cons, List.not_mem_nil, or_false] at hx
  rcases hx with rfl | rfl | rfl <;> exact ⟨rfl, rfl⟩
theorem san_cost : cost sanN sanL = (420, 0) := by decide
theorem san_arr : arrives sanN sanL sanD = (7, 0) := by decide
theorem san_st0 : stock sanN sanL sanD 0 6 = (10, 0) := by decide
theorem san_st1 : stock sanN sanL sanD 1 6 = (100, 0) := by decide
theorem san_st2 : stock sanN sanL sanD 2 6 = (10, 0) := by decide
theorem san_st3 : stock sanN sanL sanD 2 7 = (120, 0) := by decide
theorem san_left0 : left sanN sanL 0 5 = (0, 0) := by decide
theorem san_left1 : left sanN sanL 0 29 = (100, 0) := by decide
theorem san_sv : serves sanN sanL sanD = 0 := by decide
theorem san_svE : serves sanN sanE sanD = 4 := by decide
theorem san_svT : serves sanN (sanL.take 3) sanD = 21 := by decide
theorem san_svF : serves sanN sanF sanD = 13 := by decide
theorem san_fits : fits sanN sanJ = 13 := by decide
theorem san_nil : netCheck ⟨0, []⟩ = 2 := by decide
theorem san_join (a : Option Addr) : join sanN [⟨sanL, a, 4⟩, ⟨sanL, a, 4⟩] = (sanJ, 0) := by rfl
theorem flat_step {a b c p : Int} {k : Nat} (h : k < 24) : (encLink (flatP a b c p (k + 1))).toArray = ((encLink (flatP a b c p k)).toArray.setIfInBounds (0 + 2 + (k : Int).toNat * 1) (.int .i64 c)).setIfInBounds (0 + 26 + (k : Int).toNat * 1) (.int .i64 p) := by
  have h' : ∀ k, k < 24 → (encLink (flatP a b c p (k + 1))).toArray = ((encLink (flatP a b c p k)).toArray.setIfInBounds (0 + 2 + (k : Int).toNat * 1) (.int .i64 c)).setIfInBounds (0 + 26 + (k : Int).toNat * 1) (.int .i64 p) := by
    intro k hk
    have : k = 0 ∨ k = 1 ∨ k = 2 ∨ k = 3 ∨ k = 4 ∨ k = 5 ∨ k = 6 ∨ k = 7 ∨ k = 8 ∨ k = 9 ∨ k = 10 ∨ k = 11 ∨ k = 12 ∨ k = 13 ∨ k = 14 ∨ k = 15 ∨ k = 16 ∨ k = 17 ∨ k = 18 ∨ k = 19 ∨ k = 20 ∨ k = 21 ∨ k = 22 ∨ k = 23 := by omega
    rcases this with rfl | rfl | rfl | rfl | rfl | rfl | rfl | rfl | rfl | rfl | rfl | rfl | rfl | rfl | rfl | rfl | rfl | rfl | rfl | rfl | rfl | rfl | rfl | rfl <;> rfl
  exact h' k h
theorem flat_size (a b c p : Int) {k : Nat} (h : k ≤ 24) : (encLink (flatP a b c p k)).toArray.size = 50 := by
  simp [encLink, flatP]; omega
end Go.Q
