/- Conversions between integers. -/
import Derived.Test.YtgcpocaaepoafaaQ16
set_option linter.unusedVariables false
set_option linter.unusedSimpArgs false
set_option linter.unusedSectionVars false
namespace Go.Q
open Go Go.RowKit
variable {P : Program}
section
variable {Z : Env} {N : Nat} {L : List (Nat × Value)} {M : Mem} {d : Option Tmp} {x y : Operand} {T T' ty : TypeId} {pos : String} {af : Array Edge} {g : Option (Nat × Bool)}
theorem qv_convI {D : TypeDesc} {k : IntKind} {i : Int} (h1 : P.underlying T = some D) (h2 : P.underlying T' = some (.int .i64)) (hx : ev L x = some (.int k i)) (hb : -9223372036854775808 ≤ i ∧ i ≤ 9223372036854775807) : Qv P Z N L M ⟨d, .convert T T' x, ty, pos, af, g⟩ (.int .i64 i) := qv_of fun a hf w _ => by
  have hw : IntKind.i64.wrap i = i := by simp [IntKind.wrap, IntKind.bits, IntKind.signed]; omega
  have : (convert T T' (.int k i)).run P w = .ok (.int .i64 i) w := by
    simp only [convert, Sem.run_bind, run_underlying h1, run_underlying h2, Result.andThen_ok]
    cases D <;> simp [Conv.intToInt, hw]
  simp [execOp, hf.eval hx, this]
end
theorem wf_u16 {y : Int} (h : (Lit.int .u16 y).wf = true) : 0 ≤ y ∧ y ≤ 65535 := by
  simp [Lit.wf, IntKind.min, IntKind.max, IntKind.bits, IntKind.signed] at h
  omega
end Go.Q
