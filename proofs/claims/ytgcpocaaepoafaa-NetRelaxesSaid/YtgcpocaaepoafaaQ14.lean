/- Slices that are built from parts and read: a box as a slice of elements. -/
import Derived.Test.YtgcpocaaepoafaaQ13
set_option linter.unusedVariables false
set_option linter.unusedSimpArgs false
set_option linter.unusedSectionVars false
namespace Go.Q
open Go Go.RowKit

/-- a world with one block in its place -/
def boxW (b : Nat) (o : Obj) : World := { (default : World) with heap := Array.replicate (b + 1) o }
theorem boxW_get (b : Nat) (o : Obj) : (boxW b o).heap[b]? = some o := by simp [boxW]
theorem Mem.has_box {B : World} {bs : List (Nat × Obj)} {ks : List Kp} {ms : List Nat} {rs : List (Option (Nat × Obj))} {b : Nat} {o : Obj} (h : (b, o) ∈ bs) : Mem.has ⟨B, bs, ks, ms, rs⟩ (boxW b o) b (b + 1) := fun w hm => by
  have hb := (hm.boxOf h).2
  refine ⟨get_lt hb, fun c h1 h2 => ?_⟩
  obtain rfl : c = b := by omega
  rw [hb, boxW_get]
theorem SlAt.ofBox {α : Type} {enc : α → List Value} {sz b E : Nat} {l : List α} (hl : l.length ≤ 1000000) (hk : ∀ x ∈ l, (enc x).length = sz) : SlAt (boxW b (.cells (l.flatMap enc).toArray E (0, 0))) b (b + 1) sz enc (some ⟨b, 0, Option.none⟩) l := by
  refine ⟨by simp only [maxLen]; omega, hk, fun _ => ⟨rfl, Nat.le_refl _, Nat.lt_succ_self _⟩, fun i j x v hx hv => ?_⟩
  have hj : j < sz := by have := (List.getElem?_eq_some_iff.1 hv).1; rwa [hk x (List.mem_of_getElem? hx)] at this
  refine cell_of (boxW_get _ _) ?_
  have := flatMap_get hk hx hj
  simpa [offs, hv] using this

section
variable {P : Program} {Z : Env} {N : Nat} {L : List (Nat × Value)} {Q : Exit → Act → World → Prop} {ops : Array Oper} {rest : List Oper} {ty : TypeId} {pos : String} {af : Array Edge} {dd : Nat}
theorem tl_buildSliceL {α : Type} {enc : α → List Value} {B : World} {bs : List (Nat × Obj)} {ks : List Kp} {ms : List Nat} {rs : List (Option (Nat × Obj))} {T len E sz : Nat} {zs0 : Array Value} {parts : Array (Nat × Operand)} {ps : List (Nat × Value)} (l : List α) (hT : BuildSl P T len E sz zs0)
    (h : ∀ b, TL P Z N ((dd, .slice (some ⟨b, 0, none⟩) len len) :: L) ⟨B, (b, .cells (l.flatMap enc).toArray E (0, 0)) :: bs, ks, ms, rs⟩ ops rest Q)
    (hp : evp L parts.toList = some ps) (hc : Instr.fill (fun i => some (i * sz, sz)) zs0 ps = some (l.flatMap enc).toArray) (hd : dd < N := by decide) :
    TL P Z N L ⟨B, bs, ks, ms, rs⟩ ops (⟨some dd, .buildSlice T len parts, ty, pos, af, none⟩ :: rest) Q := tl_buildSlice hT h hp hc hd
end
end Go.Q
