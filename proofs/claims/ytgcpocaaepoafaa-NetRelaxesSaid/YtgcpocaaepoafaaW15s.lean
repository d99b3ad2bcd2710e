/- A part of the proof: see the last text. -/
import Derived.Shelf.SlSortCmp.NoneTotal
import Derived.Shelf.Small.Bits
import Derived.Test.YtgcpocaaepoafaaShelf
import Derived.Test.YtgcpocaaepoafaaProg
import Derived.Laws.StructEq
import Derived.Test.YtgcpocaaepoafaaS15b
import Derived.Test.YtgcpocaaepoafaaQ7
import Derived.Test.YtgcpocaaepoafaaQ13
set_option linter.unusedVariables false
set_option linter.unusedSimpArgs false
set_option linter.unusedSectionVars false
namespace Go.Q
open Go Go.Proofs Go.RowKit
theorem aggI (w : World) : (isAgg 3).run Try.prog w = .ok false w := by kernel_rfl
theorem eq_key (a b c d : Int) (w : World) : (Op.equal 109 (.agg #[.int .i64 a, .int .i64 b]) (.agg #[.int .i64 c, .int .i64 d])).run Try.prog w = .ok (decide (a = c ∧ b = d)) w :=
  eqStruct2 (by kernel_rfl) (by kernel_rfl) Try.underlying3 aggI (by kernel_rfl) a b c d w
theorem eq_send (x y : Send) (w : World) : (Op.equal 70 (.agg (encSend x).toArray) (.agg (encSend y).toArray)).run Try.prog w = .ok (decide (x = y)) w :=
  eqStruct3 (by kernel_rfl) (by kernel_rfl) Try.underlying3 aggI (by kernel_rfl) x y w
theorem qv_neSend {Z : Env} {N : Nat} {L : List (Nat × Value)} {M : Mem} {d : Option Tmp} {a b : Operand} {T ty : TypeId} {pos : String} {af : Array Edge} {g : Option (Nat × Bool)} (x y : Send) (hx : ev L a = some (.agg (encSend x).toArray)) (hy : ev L b = some (.agg (encSend y).toArray)) : Qv Try.prog Z N L M ⟨d, .binOp .neq 70 a b T, ty, pos, af, g⟩ (.bool (decide (x ≠ y))) := by
  have h := qv_aggNe (P := Try.prog) (Z := Z) (N := N) (L := L) (M := M) (d := d) (T' := T) (ty := ty) (pos := pos) (af := af) (g := g) (T := 70) (by kernel_rfl) hx hy (fun w => eq_send x y w)
  rwa [show (!decide (x = y)) = decide (x ≠ y) by simp] at h
theorem key_109 : KeyTy Try.prog 109 encKey := by
  have h3 : Try.prog.underlying 3 = some (.int .i64) := Try.underlying3
  refine keyTy_agg (.inl ⟨_, Try.underlying109⟩) (fun b k w => ?_) (fun k k' w => ?_) (fun k => ?_)
  · have h : ∀ n, (Instr.checkKey b (n + 1 + 1) 109 (encKey k)).run Try.prog w = .ok () w := fun n => by
      simp [encKey, Instr.checkKey, run_underlying Try.underlying109, run_underlying h3, part, aggI, Result.andThen]
    exact h 9998
  · rw [encKey, encKey, eq_key]
    simp [Prod.ext_iff]
  · simp [encKey, Instr.sameBits]
end Go.Q
namespace Go.Proofs
open Go.Shelf Go.RowKit Go.Lib Go.Sort Go.Q
def cmpS (x y : Send) : Int := if x.tick = y.tick then x.link - y.link else x.tick - y.tick
set_option maxHeartbeats 1000000 in
theorem closureS (x y : Send) (hx : Bnd x) (hy : Bnd y) (W : World) : Calls Try.prog 63 #[.agg #[.int .i64 x.link, .int .i64 x.tick, .int .i64 x.bytes], .agg #[.int .i64 y.link, .int .i64 y.tick, .int .i64 y.bytes]] W fun e w' => e = .returned (.int .i64 (cmpS x y)) ∧ ∃ q os', w' = grow (W.drewN q) os' := by
  obtain ⟨a1, a2, a3, a4⟩ := hx
  obtain ⟨b1, b2, b3, b4⟩ := hy
  have e1 : IntKind.i64.wrap (x.tick - y.tick) = x.tick - y.tick := by simp [IntKind.wrap, IntKind.bits, IntKind.signed]; omega
  have e2 : IntKind.i64.wrap (x.link - y.link) = x.link - y.link := by simp [IntKind.wrap, IntKind.bits, IntKind.signed]; omega
  have r1 : x.tick = y.tick → cmpS x y = x.link - y.link := fun h => if_pos h
  have r2 : ¬ x.tick = y.tick → cmpS x y = x.tick - y.tick := fun h => if_neg h
  generalize cmpS x y = r at r1 r2 ⊢
  go_enter Try.func63, Try.ntmps63
  go_wp2
  all_goals go_ret
  all_goals refine ⟨?_, 0, #[_, _], by rw [alloc_eq_grow, alloc_eq_grow, grow_grow]; rfl⟩
  all_goals (rename_i hh; first | (rw [r2 (by simpa using hh)]; rfl) | (rw [r1 (by simpa using hh)]; rfl))
def cmpB (x y : BS) : Int := cmpS x.1 y.1
theorem ltB (x y : BS) : ltOf cmpB x y = decide (x.1.tick < y.1.tick ∨ (x.1.tick = y.1.tick ∧ x.1.link < y.1.link)) := by
  unfold ltOf cmpB cmpS
  split
  · rename_i h; rw [decide_eq_decide]; omega
  · rename_i h; rw [decide_eq_decide]; omega
theorem swoB : SWO (ltOf cmpB) where
  irrefl x := by rw [ltB]; simp
  trans x y z h1 h2 := by rw [ltB] at *; simp only [decide_eq_true_eq] at *; omega
  ntrans x y z h1 h2 := by rw [ltB] at *; simp only [decide_eq_false_iff_not] at *; omega
theorem cmpLaysS (blk off size : Nat) (w : World) : CmpLays Try.prog 63 #[] encB 3 cmpB blk off size w := fun _ _ _ _ x y => closureS x.1 y.1 x.2 y.2 _
theorem sort_none (p : Option Addr) (cap : Nat) (fv : Value) (w : World) : Calls Try.prog 62 #[.slice p 0 cap, fv] w fun e w' => e = .returned (.tuple #[]) ∧ w' = w := AnyF.slices_SortFunc_none Try.sortSend p cap fv w
theorem sort_some {l : List BS} (hsz : l.length < 1000000000) (blk cap : Nat) (w : World) (hH : HoldsK encB 3 w blk 0 l.toArray) (hb : blk < w.heap.size) :
    Calls Try.prog 62 #[.slice (some ⟨blk, 0, none⟩) l.length cap, .func (.func 63) #[] #[]] w fun e w' => e = .returned (.tuple #[]) ∧ ∃ (l' : List BS) (n : Nat) (os : Array Obj), l'.length = l.length ∧ SortedB l l' ∧ w' = sortWorldK encB 3 w blk 0 n l'.toArray os := by
  have h := AnyQ.slices_SortFunc Try.sortSend 3 (fun w => by kernel_rfl) (fun w => by kernel_rfl) encB (fun _ => rfl) (fun x v hv => by simp [encB, encSend] at hv; rcases hv with rfl | rfl | rfl <;> rfl) cmpB swoB 63 #[] blk 0 cap l.toArray w (enters_of Try.func63 (by kernel_rfl) rfl) (cmpLaysS blk 0 _ w) hH hb (by simp; omega)
  have e : l.toArray.size = l.length := by simp
  rw [e] at h
  refine h.mono fun e w' ⟨he, d', n, os, h1, h2, h3⟩ => ⟨he, d'.toList, n, os, ?_, ⟨?_, ?_⟩, ?_⟩
  · have := h1.1; simpa using this
  · have h4 := h1.2.2
    have e1 : d'.extract 0 l.length = d' := by have := h1.1; rw [show l.length = d'.size by simpa using this.symm]; simp
    rw [e1] at h4
    simpa using h4
  · refine List.pairwise_iff_getElem.2 fun i j hi hj hij => ?_
    have hs : d'.size = l.length := by have := h1.1; simpa using this
    have h4 := h2 i j (Nat.zero_le _) hij (by rw [← hs]; simpa using hj)
    rw [ltB, getElem!_pos d' i (by simpa using hi), getElem!_pos d' j (by simpa using hj)] at h4
    simpa using h4
  · rw [h3]
end Go.Proofs

