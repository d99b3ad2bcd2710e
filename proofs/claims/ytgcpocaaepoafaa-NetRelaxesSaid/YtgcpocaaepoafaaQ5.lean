/- Short forms of the steps, for printed walks. Printed by gensteps.py. -/
import Derived.Test.YtgcpocaaepoafaaQ4
set_option linter.unusedVariables false
set_option linter.unusedSimpArgs false
set_option linter.unusedSectionVars false
namespace Go.Q
open Go Go.RowKit
section
variable {P : Program} {Z : Env} {N : Nat} {L : List (Nat × Value)} {M : Mem} {Q : Exit → Act → World → Prop} {ops : Array Oper} {rest : List Oper} {o : Oper} {d : Nat} {K : Act → Prop}

theorem s0 {v : Value} (hq : Qv P Z N L M o v) (h : TL P Z N ((d, v) :: L) M ops rest Q) (hg : o.guard = none := by rfl) (hd : o.dst = some d := by rfl) (hN : d < N := by decide) : TL P Z N L M ops (o :: rest) Q := tl_step hg hd hN hq h
theorem sb {b : Bool} (hq : Qv P Z N L M o (.bool b)) (ht : b = true → TL P Z N ((d, .bool true) :: L) M ops rest Q) (hf : b = false → TL P Z N ((d, .bool false) :: L) M ops rest Q) (hg : o.guard = none := by rfl) (hd : o.dst = some d := by rfl) (hN : d < N := by decide) : TL P Z N L M ops (o :: rest) Q := tl_bool hg hd hN hq ht hf
theorem sd {p : Prop} [Decidable p] (hq : Qv P Z N L M o (.bool (decide p))) (ht : p → TL P Z N ((d, .bool true) :: L) M ops rest Q) (hf : ¬ p → TL P Z N ((d, .bool false) :: L) M ops rest Q) (hg : o.guard = none := by rfl) (hd : o.dst = some d := by rfl) (hN : d < N := by decide) : TL P Z N L M ops (o :: rest) Q := tl_dec hg hd hN hq ht hf
theorem si {α : Type} {T sz cap : Nat} {k : IntKind} {enc : α → List Value} {a : Option Addr} {l : List α} {W : World} {lo hi : Nat} {x y : Operand} {ty : TypeId} {pos : String} {af : Array Edge} {i : Int} (hT : SliceTy P T sz) (hs : SlAt W lo hi sz enc a l) (hx : ev L x = some (.slice a l.length cap)) (hy : ev L y = some (.int k i)) (hb : 0 ≤ i ∧ i < l.length) (h : ∀ e, l[i.toNat]? = some e → TL P Z N ((d, .pointer (some ⟨blk a, offs a + i.toNat * sz, none⟩)) :: L) M ops rest Q) (hN : d < N := by decide) : TL P Z N L M ops (⟨some d, .indexAddr T x y, ty, pos, af, none⟩ :: rest) Q := by
  obtain ⟨e, he⟩ := get_ex hb
  exact tl_step rfl rfl hN (qv_ia hT hs hx hy hb) (h e he)
theorem sn {α : Type} {T sz cap : Nat} {k : IntKind} {enc : α → List Value} {a : Option Addr} {l : List α} {W : World} {lo hi : Nat} {x y : Operand} {ty : TypeId} {pos : String} {af : Array Edge} {i : Nat} (hT : SliceTy P T sz) (hs : SlAt W lo hi sz enc a l) (hx : ev L x = some (.slice a l.length cap)) (hy : ev L y = some (.int k (i : Int))) (hb : i < l.length) (h : ∀ e, l[i]? = some e → TL P Z N ((d, .pointer (some ⟨blk a, offs a + i * sz, none⟩)) :: L) M ops rest Q) (hN : d < N := by decide) : TL P Z N L M ops (⟨some d, .indexAddr T x y, ty, pos, af, none⟩ :: rest) Q := by
  obtain ⟨e, he⟩ := get_exN hb
  exact tl_step rfl rfl hN (qv_iaN hT hs hx hy hb) (h e he)

theorem s0g {j t : Nat} {want : Bool} {v : Value} (hq : Qv P Z N L M o v) (h : TL P Z N ((d, v) :: L) M ops rest Q) (hg : o.guard = some (j, want) := by rfl) (hj : (ops[j]?).bind (·.dst) = some t := by rfl) (hl : L.lookup t = some (.bool want) := by rfl) (hd : o.dst = some d := by rfl) (hN : d < N := by decide) : TL P Z N L M ops (o :: rest) Q := tl_stepg hg hj hl hd hN hq h
theorem sbg {j t : Nat} {want : Bool} {b : Bool} (hq : Qv P Z N L M o (.bool b)) (ht : b = true → TL P Z N ((d, .bool true) :: L) M ops rest Q) (hf : b = false → TL P Z N ((d, .bool false) :: L) M ops rest Q) (hg : o.guard = some (j, want) := by rfl) (hj : (ops[j]?).bind (·.dst) = some t := by rfl) (hl : L.lookup t = some (.bool want) := by rfl) (hd : o.dst = some d := by rfl) (hN : d < N := by decide) : TL P Z N L M ops (o :: rest) Q := tl_boolg hg hj hl hd hN hq ht hf
theorem sdg {j t : Nat} {want : Bool} {p : Prop} [Decidable p] (hq : Qv P Z N L M o (.bool (decide p))) (ht : p → TL P Z N ((d, .bool true) :: L) M ops rest Q) (hf : ¬ p → TL P Z N ((d, .bool false) :: L) M ops rest Q) (hg : o.guard = some (j, want) := by rfl) (hj : (ops[j]?).bind (·.dst) = some t := by rfl) (hl : L.lookup t = some (.bool want) := by rfl) (hd : o.dst = some d := by rfl) (hN : d < N := by decide) : TL P Z N L M ops (o :: rest) Q := tl_decg hg hj hl hd hN hq ht hf
theorem sig {j t : Nat} {want : Bool} {α : Type} {T sz cap : Nat} {k : IntKind} {enc : α → List Value} {a : Option Addr} {l : List α} {W : World} {lo hi : Nat} {x y : Operand} {ty : TypeId} {pos : String} {af : Array Edge} {i : Int} (hT : SliceTy P T sz) (hs : SlAt W lo hi sz enc a l) (hx : ev L x = some (.slice a l.length cap)) (hy : ev L y = some (.int k i)) (hb : 0 ≤ i ∧ i < l.length) (h : ∀ e, l[i.toNat]? = some e → TL P Z N ((d, .pointer (some ⟨blk a, offs a + i.toNat * sz, none⟩)) :: L) M ops rest Q) (hj : (ops[j]?).bind (·.dst) = some t := by rfl) (hl : L.lookup t = some (.bool want) := by rfl) (hN : d < N := by decide) : TL P Z N L M ops (⟨some d, .indexAddr T x y, ty, pos, af, some (j, want)⟩ :: rest) Q := by
  obtain ⟨e, he⟩ := get_ex hb
  exact tl_stepg rfl hj hl rfl hN (qv_ia hT hs hx hy hb) (h e he)
theorem sng {j t : Nat} {want : Bool} {α : Type} {T sz cap : Nat} {k : IntKind} {enc : α → List Value} {a : Option Addr} {l : List α} {W : World} {lo hi : Nat} {x y : Operand} {ty : TypeId} {pos : String} {af : Array Edge} {i : Nat} (hT : SliceTy P T sz) (hs : SlAt W lo hi sz enc a l) (hx : ev L x = some (.slice a l.length cap)) (hy : ev L y = some (.int k (i : Int))) (hb : i < l.length) (h : ∀ e, l[i]? = some e → TL P Z N ((d, .pointer (some ⟨blk a, offs a + i * sz, none⟩)) :: L) M ops rest Q) (hj : (ops[j]?).bind (·.dst) = some t := by rfl) (hl : L.lookup t = some (.bool want) := by rfl) (hN : d < N := by decide) : TL P Z N L M ops (⟨some d, .indexAddr T x y, ty, pos, af, some (j, want)⟩ :: rest) Q := by
  obtain ⟨e, he⟩ := get_exN hb
  exact tl_stepg rfl hj hl rfl hN (qv_iaN hT hs hx hy hb) (h e he)

theorem sk {j t : Nat} {want : Bool} {u : Value} (h : TL P Z N ((d, undef) :: L) M ops rest Q) (hg : o.guard = some (j, want) := by rfl) (hj : (ops[j]?).bind (·.dst) = some t := by rfl) (hl : L.lookup t = some u := by rfl) (hb : asks u want = false := by rfl) (hd : o.dst = some d := by rfl) (hN : d < N := by decide) : TL P Z N L M ops (o :: rest) Q := tl_skip hg hj hl hb hd hN h
theorem q0 {v : Value} (hq : Qv P Z N L M o v) (h : TQ P Z N ((d, v) :: L) M ops rest K) (hg : o.guard = none := by rfl) (hd : o.dst = some d := by rfl) (hN : d < N := by decide) : TQ P Z N L M ops (o :: rest) K := tq_step hg hd hN hq h
theorem qb {b : Bool} (hq : Qv P Z N L M o (.bool b)) (ht : b = true → TQ P Z N ((d, .bool true) :: L) M ops rest K) (hf : b = false → TQ P Z N ((d, .bool false) :: L) M ops rest K) (hg : o.guard = none := by rfl) (hd : o.dst = some d := by rfl) (hN : d < N := by decide) : TQ P Z N L M ops (o :: rest) K := tq_bool hg hd hN hq ht hf
theorem qd {p : Prop} [Decidable p] (hq : Qv P Z N L M o (.bool (decide p))) (ht : p → TQ P Z N ((d, .bool true) :: L) M ops rest K) (hf : ¬ p → TQ P Z N ((d, .bool false) :: L) M ops rest K) (hg : o.guard = none := by rfl) (hd : o.dst = some d := by rfl) (hN : d < N := by decide) : TQ P Z N L M ops (o :: rest) K := tq_dec hg hd hN hq ht hf
theorem qi {α : Type} {T sz cap : Nat} {k : IntKind} {enc : α → List Value} {a : Option Addr} {l : List α} {W : World} {lo hi : Nat} {x y : Operand} {ty : TypeId} {pos : String} {af : Array Edge} {i : Int} (hT : SliceTy P T sz) (hs : SlAt W lo hi sz enc a l) (hx : ev L x = some (.slice a l.length cap)) (hy : ev L y = some (.int k i)) (hb : 0 ≤ i ∧ i < l.length) (h : ∀ e, l[i.toNat]? = some e → TQ P Z N ((d, .pointer (some ⟨blk a, offs a + i.toNat * sz, none⟩)) :: L) M ops rest K) (hN : d < N := by decide) : TQ P Z N L M ops (⟨some d, .indexAddr T x y, ty, pos, af, none⟩ :: rest) K := by
  obtain ⟨e, he⟩ := get_ex hb
  exact tq_step rfl rfl hN (qv_ia hT hs hx hy hb) (h e he)
theorem qn {α : Type} {T sz cap : Nat} {k : IntKind} {enc : α → List Value} {a : Option Addr} {l : List α} {W : World} {lo hi : Nat} {x y : Operand} {ty : TypeId} {pos : String} {af : Array Edge} {i : Nat} (hT : SliceTy P T sz) (hs : SlAt W lo hi sz enc a l) (hx : ev L x = some (.slice a l.length cap)) (hy : ev L y = some (.int k (i : Int))) (hb : i < l.length) (h : ∀ e, l[i]? = some e → TQ P Z N ((d, .pointer (some ⟨blk a, offs a + i * sz, none⟩)) :: L) M ops rest K) (hN : d < N := by decide) : TQ P Z N L M ops (⟨some d, .indexAddr T x y, ty, pos, af, none⟩ :: rest) K := by
  obtain ⟨e, he⟩ := get_exN hb
  exact tq_step rfl rfl hN (qv_iaN hT hs hx hy hb) (h e he)

theorem q0g {j t : Nat} {want : Bool} {v : Value} (hq : Qv P Z N L M o v) (h : TQ P Z N ((d, v) :: L) M ops rest K) (hg : o.guard = some (j, want) := by rfl) (hj : (ops[j]?).bind (·.dst) = some t := by rfl) (hl : L.lookup t = some (.bool want) := by rfl) (hd : o.dst = some d := by rfl) (hN : d < N := by decide) : TQ P Z N L M ops (o :: rest) K := tq_stepg hg hj hl hd hN hq h
theorem qbg {j t : Nat} {want : Bool} {b : Bool} (hq : Qv P Z N L M o (.bool b)) (ht : b = true → TQ P Z N ((d, .bool true) :: L) M ops rest K) (hf : b = false → TQ P Z N ((d, .bool false) :: L) M ops rest K) (hg : o.guard = some (j, want) := by rfl) (hj : (ops[j]?).bind (·.dst) = some t := by rfl) (hl : L.lookup t = some (.bool want) := by rfl) (hd : o.dst = some d := by rfl) (hN : d < N := by decide) : TQ P Z N L M ops (o :: rest) K := tq_boolg hg hj hl hd hN hq ht hf
theorem qdg {j t : Nat} {want : Bool} {p : Prop} [Decidable p] (hq : Qv P Z N L M o (.bool (decide p))) (ht : p → TQ P Z N ((d, .bool true) :: L) M ops rest K) (hf : ¬ p → TQ P Z N ((d, .bool false) :: L) M ops rest K) (hg : o.guard = some (j, want) := by rfl) (hj : (ops[j]?).bind (·.dst) = some t := by rfl) (hl : L.lookup t = some (.bool want) := by rfl) (hd : o.dst = some d := by rfl) (hN : d < N := by decide) : TQ P Z N L M ops (o :: rest) K := tq_decg hg hj hl hd hN hq ht hf
theorem qig {j t : Nat} {want : Bool} {α : Type} {T sz cap : Nat} {k : IntKind} {enc : α → List Value} {a : Option Addr} {l : List α} {W : World} {lo hi : Nat} {x y : Operand} {ty : TypeId} {pos : String} {af : Array Edge} {i : Int} (hT : SliceTy P T sz) (hs : SlAt W lo hi sz enc a l) (hx : ev L x = some (.slice a l.length cap)) (hy : ev L y = some (.int k i)) (hb : 0 ≤ i ∧ i < l.length) (h : ∀ e, l[i.toNat]? = some e → TQ P Z N ((d, .pointer (some ⟨blk a, offs a + i.toNat * sz, none⟩)) :: L) M ops rest K) (hj : (ops[j]?).bind (·.dst) = some t := by rfl) (hl : L.lookup t = some (.bool want) := by rfl) (hN : d < N := by decide) : TQ P Z N L M ops (⟨some d, .indexAddr T x y, ty, pos, af, some (j, want)⟩ :: rest) K := by
  obtain ⟨e, he⟩ := get_ex hb
  exact tq_stepg rfl hj hl rfl hN (qv_ia hT hs hx hy hb) (h e he)
theorem qng {j t : Nat} {want : Bool} {α : Type} {T sz cap : Nat} {k : IntKind} {enc : α → List Value} {a : Option Addr} {l : List α} {W : World} {lo hi : Nat} {x y : Operand} {ty : TypeId} {pos : String} {af : Array Edge} {i : Nat} (hT : SliceTy P T sz) (hs : SlAt W lo hi sz enc a l) (hx : ev L x = some (.slice a l.length cap)) (hy : ev L y = some (.int k (i : Int))) (hb : i < l.length) (h : ∀ e, l[i]? = some e → TQ P Z N ((d, .pointer (some ⟨blk a, offs a + i * sz, none⟩)) :: L) M ops rest K) (hj : (ops[j]?).bind (·.dst) = some t := by rfl) (hl : L.lookup t = some (.bool want) := by rfl) (hN : d < N := by decide) : TQ P Z N L M ops (⟨some d, .indexAddr T x y, ty, pos, af, some (j, want)⟩ :: rest) K := by
  obtain ⟨e, he⟩ := get_exN hb
  exact tq_stepg rfl hj hl rfl hN (qv_iaN hT hs hx hy hb) (h e he)

theorem qk {j t : Nat} {want : Bool} {u : Value} (h : TQ P Z N ((d, undef) :: L) M ops rest K) (hg : o.guard = some (j, want) := by rfl) (hj : (ops[j]?).bind (·.dst) = some t := by rfl) (hl : L.lookup t = some u := by rfl) (hb : asks u want = false := by rfl) (hd : o.dst = some d := by rfl) (hN : d < N := by decide) : TQ P Z N L M ops (o :: rest) K := tq_skip hg hj hl hb hd hN h

/-- two ways meet again: V: the slots that vary, by a ghost -/
def CutK {β : Type} (Z : Env) (N : Nat) (V : β → List (Nat × Value)) (I : β → Prop) (L : List (Nat × Value)) (M : Mem) : Act → World → Prop := fun a w => ∃ b, I b ∧ Fr Z N (V b ++ L) a ∧ M.holds w
theorem tc_cut {β : Type} {x y : Code} (V : β → List (Nat × Value)) (I : β → Prop) (hx : TC P Z N L M x (Exit.then (CutK Z N V I L M) Q)) (hy : ∀ b, I b → TC P Z N (V b ++ L) M y Q) : TC P Z N L M (.seq x y) Q :=
  fun a w hf hm => wpIn_seq (Go.wpIn_mono (hx a w hf hm) fun e a' w' h => by
    cases e with
    | normal => obtain ⟨b, hI, hf', hm'⟩ := h; exact hy b hI a' w' hf' hm'
    | _ => exact h)
theorem tp_cut {β : Type} {V : β → List (Nat × Value)} {I : β → Prop} {Le : List (Nat × Value)} {B : World} {bs bs' : List (Nat × Obj)} {ks ks' : List Kp} {ms : List Nat} {rs : List (Option (Nat × Obj))} (b : β) (hI : I b) (hV : Sub Le (V b)) (hE : Le.drop (Le.length - L.length) = L)
    (hk : (Le.take (Le.length - L.length)).all (fun p => hasKey (V b) p.1 || (L.lookup p.1).isNone) = true) (h1 : bs'.drop (bs'.length - bs.length) = bs) (h2 : ks'.drop (ks'.length - ks.length) = ks) :
    TP Z N Le ⟨B, bs', ks', ms, rs⟩ .normal (Exit.then (CutK Z N V I L ⟨B, bs, ks, ms, rs⟩) Q) :=
  fun _ _ hf hm => ⟨b, hI, hf.again hV hE hk, hm.less (h1 ▸ List.drop_sublist _ _) (h2 ▸ List.drop_sublist _ _)⟩

theorem qv_mk {fn : Fn} {cap : Array Operand} {vs : List Value} {dd : Option Tmp} {ty : TypeId} {pos : String} {af : Array Edge} {g : Option (Nat × Bool)} (hvs : evs L cap.toList = some vs) : Qv P Z N L M ⟨dd, .makeFunc fn #[] cap, ty, pos, af, g⟩ (.func fn #[] vs.toArray) := qv_of fun a hf w _ => by
  have : cap.map a.eval = vs.toArray := by
    apply Array.ext'
    simpa using evs_map hf hvs
  simp [execOp, Instr.makeFunc, this]
/-- a store of an element into a variable of its own -/
theorem tl_storeL {T n : Nat} {x y : Operand} {ty : TypeId} {pos : String} {af : Array Edge} {B : World} {bs : List (Nat × Obj)} {ks : List Kp} {ms : List Nat} {rs : List (Option (Nat × Obj))} {i b : Nat} {cs : Array Value} {us : List Value} {T0 : TypeId} (hS : Size P T n) (hlen : us.length = n) (hone : ∀ u ∈ us, u.oneCell' = true)
    (hx : ev L x = some (.pointer (some ⟨b, 0, none⟩))) (hy : ev L y = some (.agg us.toArray)) (hi : bs[i]? = some (b, .cells cs T0 (0, 0))) (hn : cs.size = n)
    (h : TL P Z N L ⟨B, bs.set i (b, .cells us.toArray T0 (0, 0)), ks, ms, rs⟩ ops rest Q) : TL P Z N L ⟨B, bs, ks, ms, rs⟩ ops (⟨none, .store T x y, ty, pos, af, none⟩ :: rest) Q :=
  tl_storeW (us := us.toArray) (by simpa [hlen] using hS) hx hy hi rfl (by simpa using hone) (by simp [hn, hlen]) h

end
end Go.Q
