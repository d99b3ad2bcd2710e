/- Shifts and single bits. -/
import Derived.Test.YtgcpocaaepoafaaQ15
set_option linter.unusedVariables false
set_option linter.unusedSimpArgs false
set_option linter.unusedSectionVars false
namespace Go.Q
open Go Go.RowKit
variable {P : Program}
section
variable {Z : Env} {N : Nat} {L : List (Nat × Value)} {M : Mem} {d : Option Tmp} {x y : Operand} {T T' ty : TypeId} {pos : String} {af : Array Edge} {g : Option (Nat × Bool)}
theorem qv_shrN {k k' : IntKind} {i j : Int} (hx : ev L x = some (.int k i)) (hy : ev L y = some (.int k' j)) (h : 0 ≤ j) : Qv P Z N L M ⟨d, .binOp .shr T x y T', ty, pos, af, g⟩ (.int k (i.fdiv (2 ^ min j.toNat k.bits))) := qv_of fun a hf w _ => by
  simp [execOp, hf.eval hx, hf.eval hy, eqGuard, binOp, Op.shift, show ¬ j < 0 by omega]
theorem and_one (i : Int) : IntKind.u16.wrap ((BitVec.ofInt 16 i &&& BitVec.ofInt 16 1).toNat : Int) = i % 2 := by
  have h1 : (BitVec.ofInt 16 i &&& BitVec.ofInt 16 1).toNat = (BitVec.ofInt 16 i).toNat % 2 := by
    rw [BitVec.toNat_and, show (BitVec.ofInt 16 1).toNat = 1 by decide, Nat.and_one_is_mod]
  have h2 : (BitVec.ofInt 16 i).toNat = (i % 65536).toNat := by simp
  rw [h1, h2]
  simp [IntKind.wrap, IntKind.bits, IntKind.signed]
  omega
theorem qv_and1 {i : Int} (hx : ev L x = some (.int .u16 i)) (hy : ev L y = some (.int .u16 1)) : Qv P Z N L M ⟨d, .binOp .and T x y T', ty, pos, af, g⟩ (.int .u16 (i % 2)) := qv_of fun a hf w _ => by
  have h_ := and_one i
  rw [show BitVec.ofInt 16 1 = 1#16 from rfl] at h_
  simp [execOp, hf.eval hx, hf.eval hy, eqGuard, binOp, Op.intBits, IntKind.bits, -BitVec.toNat_and]
  exact h_
end
end Go.Q
