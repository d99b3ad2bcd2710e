/- Struct literals, results that lie in a variable. -/
import Derived.Test.YtgcpocaaepoafaaQ6
set_option linter.unusedVariables false
set_option linter.unusedSimpArgs false
set_option linter.unusedSectionVars false
namespace Go.Q
open Go Go.RowKit

def BuildTy (P : Program) (T : TypeId) (places : Array (Nat × Nat)) (zs : Array Value) : Prop :=
  ∃ fields : Array Field, P.underlying T = some (.struct fields) ∧ (∀ w, (fields.mapM (fun f => do pure (f.offset, ← sizeOf f.type)) : Sem (Array (Nat × Nat))).run P w = .ok places w) ∧ Zero P T zs

section
variable {P : Program} {Z : Env} {N : Nat} {L : List (Nat × Value)} {M : Mem} {Q : Exit → Act → World → Prop} {ops : Array Oper} {rest : List Oper} {d : Option Tmp} {ty : TypeId} {pos : String} {af : Array Edge} {g : Option (Nat × Bool)} {x y : Operand} {v : Value}

def evp (L : List (Nat × Value)) : List (Nat × Operand) → Option (List (Nat × Value))
  | [] => some []
  | (i, o) :: os => match ev L o, evp L os with
    | some v, some vs => some ((i, v) :: vs)
    | _, _ => none
theorem evp_map {a : Act} (hf : Fr Z N L a) : ∀ {l : List (Nat × Operand)} {vs : List (Nat × Value)}, evp L l = some vs → l.map (fun (i, x) => (i, a.eval x)) = vs
  | [], vs, h => by simp [evp] at h; subst h; rfl
  | (i, o) :: os, vs, h => by
    simp only [evp] at h
    split at h
    · rename_i v us h1 h2
      cases h
      simp only [List.map_cons, hf.eval h1]
      rw [evp_map hf h2]
    · cases h

theorem qv_build {T : TypeId} {parts : Array (Nat × Operand)} {places : Array (Nat × Nat)} {zs cells : Array Value} {ps : List (Nat × Value)} (hT : BuildTy P T places zs) (hp : evp L parts.toList = some ps) (hc : Instr.fill (places[·]?) zs ps = some cells) :
    Qv P Z N L M ⟨d, .build T parts, ty, pos, af, g⟩ (.agg cells) := qv_of fun a hf w _ => by
  obtain ⟨fields, hu, hpl, hz⟩ := hT
  obtain ⟨z, hz1, hz2⟩ := hz w
  have hm : parts.map (fun (i, x) => (i, a.eval x)) = ps.toArray := by
    apply Array.ext'
    simpa using evp_map hf hp
  have : (Instr.build T ps.toArray).run P w = .ok (.agg cells) w := by
    simp only [Instr.build, Sem.run_bind, hz1, Result.andThen_ok, run_underlying hu, hpl w, hz2, hc, Sem.run_pure]
  simp only [execOp, Sem.run_bind]
  rw [hm, this]
  rfl

theorem tl_storeO {T : TypeId} {B : World} {bs : List (Nat × Obj)} {ks : List Kp} {ms : List Nat} {rs : List (Option (Nat × Obj))} {i b n : Nat} {cs us : Array Value} {T0 : TypeId} (hS : Size P T n) (hx : ev L x = some (.pointer (some ⟨b, 0, none⟩))) (hy : ev L y = some v)
    (hi : bs[i]? = some (b, .cells cs T0 (0, 0))) (hu : v.cells = us) (hn' : us.size = n) (hone : us.toList.all Value.oneCell' = true) (hn : cs.size = us.size)
    (h : TL P Z N L ⟨B, bs.set i (b, .cells us T0 (0, 0)), ks, ms, rs⟩ ops rest Q) : TL P Z N L ⟨B, bs, ks, ms, rs⟩ ops (⟨none, .store T x y, ty, pos, af, none⟩ :: rest) Q :=
  tl_storeW (hn' ▸ hS) hx hy hi hu (fun u hu => List.all_eq_true.1 hone u hu) hn h

theorem tp_endC {ro : Option Nat} {fn : Func} {R : Ending → World → Prop} {t T n : Nat} {B : World} {bs : List (Nat × Obj)} {ks : List Kp} {ms : List Nat} {rs : List (Option (Nat × Obj))} {i b : Nat} {cs : Array Value} {T0 : TypeId} {fz : Nat × Nat} (hr : fn.results = #[.cell t T]) (hl : L.lookup t = some (.pointer (some ⟨b, 0, none⟩)))
    (hT : Agg P T n) (hi : bs[i]? = some (b, .cells cs T0 fz)) (hn : cs.size = n) (h : ∀ w, Mem.holds ⟨B, bs, ks, ms, rs⟩ w → R (.returned (.agg cs)) w) : TP ⟨ro, []⟩ N L ⟨B, bs, ks, ms, rs⟩ .ret (bodyPost P fn R) := fun a w hf hm =>
  ⟨hf.2.1, .agg cs, by
    have hb := (hm.boxOf (List.mem_of_getElem? hi)).2
    have hld : (loadVar T ⟨b, 0, none⟩).run P w = .ok (.agg cs.toList.toArray) w := run_loadVar_agg (by simpa [hn] using hT) fun j hj => by simp [World.cell?, hb]
    have ht := hf.2.2 t _ hl
    simp only [Array.toArray_toList] at hld
    simp [results, hr, Array.getD_eq_getD_getElem?, ht, asAddr, hld], h w hm⟩

/-- '!=', '==' on structs of plain numbers -/
theorem qv_aggEq {T T' : TypeId} {us vs : Array Value} {r : Bool} (hg : P.eqGuardType P.depth T = false) (hx : ev L x = some (.agg us)) (hy : ev L y = some (.agg vs)) (he : ∀ w, (Op.equal T (.agg us) (.agg vs)).run P w = .ok r w) :
    Qv P Z N L M ⟨d, .binOp .eql T x y T', ty, pos, af, g⟩ (.bool r) := qv_of fun a hf w _ => by
  have h2 : (binOp .eql T (.agg us) (.agg vs)).run P w = .ok (.bool r) w := by
    show ((do pure (.bool (← Op.equal T (.agg us) (.agg vs)))) : Sem Value).run P w = _
    simp [he w]
  simp [execOp, hf.eval hx, hf.eval hy, eqGuard, hg, h2]
theorem qv_aggNe {T T' : TypeId} {us vs : Array Value} {r : Bool} (hg : P.eqGuardType P.depth T = false) (hx : ev L x = some (.agg us)) (hy : ev L y = some (.agg vs)) (he : ∀ w, (Op.equal T (.agg us) (.agg vs)).run P w = .ok r w) :
    Qv P Z N L M ⟨d, .binOp .neq T x y T', ty, pos, af, g⟩ (.bool !r) := qv_of fun a hf w _ => by
  have h2 : (binOp .neq T (.agg us) (.agg vs)).run P w = .ok (.bool !r) w := by
    show ((do pure (.bool (!(← Op.equal T (.agg us) (.agg vs))))) : Sem Value).run P w = _
    simp [he w]
  simp [execOp, hf.eval hx, hf.eval hy, eqGuard, hg, h2]
end
end Go.Q
