/- Steps that split, steps that name an element, loops over the slots that vary. -/
import Derived.Test.YtgcpocaaepoafaaQ3
set_option linter.unusedVariables false
set_option linter.unusedSimpArgs false
set_option linter.unusedSectionVars false
namespace Go.Q
open Go Go.RowKit

section
variable {P : Program} {Z : Env} {N : Nat} {L : List (Nat × Value)} {M : Mem} {Q : Exit → Act → World → Prop} {ops : Array Oper} {rest : List Oper} {o : Oper} {d : Nat} {K : Act → Prop}

theorem tl_bool {b : Bool} (hg : o.guard = none) (hd : o.dst = some d) (hN : d < N) (hq : Qv P Z N L M o (.bool b)) (ht : b = true → TL P Z N ((d, .bool true) :: L) M ops rest Q) (hf : b = false → TL P Z N ((d, .bool false) :: L) M ops rest Q) :
    TL P Z N L M ops (o :: rest) Q := by
  cases b
  · exact tl_step hg hd hN hq (hf rfl)
  · exact tl_step hg hd hN hq (ht rfl)
theorem tl_dec {p : Prop} [Decidable p] (hg : o.guard = none) (hd : o.dst = some d) (hN : d < N) (hq : Qv P Z N L M o (.bool (decide p))) (ht : p → TL P Z N ((d, .bool true) :: L) M ops rest Q) (hf : ¬ p → TL P Z N ((d, .bool false) :: L) M ops rest Q) :
    TL P Z N L M ops (o :: rest) Q := tl_bool hg hd hN hq (fun e => ht (by simpa using e)) (fun e => hf (by simpa using e))
theorem tl_boolg {j t : Nat} {want : Bool} {b : Bool} (hg : o.guard = some (j, want)) (hj : (ops[j]?).bind (·.dst) = some t) (hl : L.lookup t = some (.bool want)) (hd : o.dst = some d) (hN : d < N) (hq : Qv P Z N L M o (.bool b))
    (ht : b = true → TL P Z N ((d, .bool true) :: L) M ops rest Q) (hf : b = false → TL P Z N ((d, .bool false) :: L) M ops rest Q) :
    TL P Z N L M ops (o :: rest) Q := by
  cases b
  · exact tl_stepg hg hj hl hd hN hq (hf rfl)
  · exact tl_stepg hg hj hl hd hN hq (ht rfl)
theorem tl_decg {j t : Nat} {want : Bool} {p : Prop} [Decidable p] (hg : o.guard = some (j, want)) (hj : (ops[j]?).bind (·.dst) = some t) (hl : L.lookup t = some (.bool want)) (hd : o.dst = some d) (hN : d < N) (hq : Qv P Z N L M o (.bool (decide p)))
    (ht : p → TL P Z N ((d, .bool true) :: L) M ops rest Q) (hf : ¬ p → TL P Z N ((d, .bool false) :: L) M ops rest Q) :
    TL P Z N L M ops (o :: rest) Q := tl_boolg hg hj hl hd hN hq (fun e => ht (by simpa using e)) (fun e => hf (by simpa using e))

theorem tq_bool {b : Bool} (hg : o.guard = none) (hd : o.dst = some d) (hN : d < N) (hq : Qv P Z N L M o (.bool b)) (ht : b = true → TQ P Z N ((d, .bool true) :: L) M ops rest K) (hf : b = false → TQ P Z N ((d, .bool false) :: L) M ops rest K) :
    TQ P Z N L M ops (o :: rest) K := by
  cases b
  · exact tq_step hg hd hN hq (hf rfl)
  · exact tq_step hg hd hN hq (ht rfl)
theorem tq_dec {p : Prop} [Decidable p] (hg : o.guard = none) (hd : o.dst = some d) (hN : d < N) (hq : Qv P Z N L M o (.bool (decide p))) (ht : p → TQ P Z N ((d, .bool true) :: L) M ops rest K) (hf : ¬ p → TQ P Z N ((d, .bool false) :: L) M ops rest K) :
    TQ P Z N L M ops (o :: rest) K := tq_bool hg hd hN hq (fun e => ht (by simpa using e)) (fun e => hf (by simpa using e))
theorem tq_boolg {j t : Nat} {want : Bool} {b : Bool} (hg : o.guard = some (j, want)) (hj : (ops[j]?).bind (·.dst) = some t) (hl : L.lookup t = some (.bool want)) (hd : o.dst = some d) (hN : d < N) (hq : Qv P Z N L M o (.bool b))
    (ht : b = true → TQ P Z N ((d, .bool true) :: L) M ops rest K) (hf : b = false → TQ P Z N ((d, .bool false) :: L) M ops rest K) :
    TQ P Z N L M ops (o :: rest) K := by
  cases b
  · exact tq_stepg hg hj hl hd hN hq (hf rfl)
  · exact tq_stepg hg hj hl hd hN hq (ht rfl)
theorem tq_decg {j t : Nat} {want : Bool} {p : Prop} [Decidable p] (hg : o.guard = some (j, want)) (hj : (ops[j]?).bind (·.dst) = some t) (hl : L.lookup t = some (.bool want)) (hd : o.dst = some d) (hN : d < N) (hq : Qv P Z N L M o (.bool (decide p)))
    (ht : p → TQ P Z N ((d, .bool true) :: L) M ops rest K) (hf : ¬ p → TQ P Z N ((d, .bool false) :: L) M ops rest K) :
    TQ P Z N L M ops (o :: rest) K := tq_boolg hg hj hl hd hN hq (fun e => ht (by simpa using e)) (fun e => hf (by simpa using e))

theorem get_ex {α : Type} {l : List α} {i : Int} (h : 0 ≤ i ∧ i < l.length) : ∃ e, l[i.toNat]? = some e := ⟨_, List.getElem?_eq_getElem (by omega)⟩
theorem get_exN {α : Type} {l : List α} {i : Nat} (h : i < l.length) : ∃ e, l[i]? = some e := ⟨_, List.getElem?_eq_getElem h⟩

/-! ### loops: the slots that vary stand ahead of those that stay -/

theorem Fr.vary {V : List (Nat × Value)} {a : Act} (h : Fr Z N L a) (hV : Sub L V) : Fr Z N (V ++ L) a := by
  refine ⟨h.1, h.2.1, fun t v hl => ?_⟩
  rw [List.lookup_append] at hl
  cases hv : V.lookup t with
  | none => rw [hv] at hl; exact h.2.2 t v (by simpa using hl)
  | some u =>
    rw [hv] at hl
    simp at hl
    subst hl
    exact h.2.2 t _ (hV.lookup t _ hv)

theorem lookup_take_drop (L : List (Nat × Value)) (m t : Nat) : L.lookup t = ((L.take m).lookup t).or ((L.drop m).lookup t) := by
  conv => lhs; rw [← List.take_append_drop m L]
  rw [List.lookup_append]

def hasKey (V : List (Nat × Value)) (t : Nat) : Bool := V.any (fun p => p.1 == t)

theorem lookup_none_of_hasKey {V : List (Nat × Value)} {t : Nat} : (V.lookup t = none) → hasKey V t = false := by
  induction V with
  | nil => intro _; rfl
  | cons p V ih =>
    obtain ⟨s, u⟩ := p
    intro h
    simp only [List.lookup_cons] at h
    by_cases e : t = s
    · subst e; simp at h
    · have hb : (t == s) = false := by simpa using e
      rw [hb] at h
      have := ih h
      simp only [hasKey, List.any_cons] at this ⊢
      rw [this]
      simpa using fun e' => e e'.symm

/-- the slots at a round's end: those that vary have their new values, the others their old ones -/
theorem Fr.again {Le V : List (Nat × Value)} {a : Act} (h : Fr Z N Le a) (hV : Sub Le V) (hE : Le.drop (Le.length - L.length) = L)
    (hk : (Le.take (Le.length - L.length)).all (fun p => hasKey V p.1 || (L.lookup p.1).isNone) = true) : Fr Z N (V ++ L) a := by
  refine ⟨h.1, h.2.1, fun t v hl => ?_⟩
  rw [List.lookup_append] at hl
  cases hv : V.lookup t with
  | some u =>
    rw [hv] at hl
    simp at hl
    subst hl
    exact h.2.2 t _ (hV.lookup t _ hv)
  | none =>
    rw [hv] at hl
    simp at hl
    refine h.2.2 t v ?_
    rw [lookup_take_drop Le (Le.length - L.length) t, hE]
    have : (Le.take (Le.length - L.length)).lookup t = none := by
      have hk' := List.all_eq_true.1 hk
      cases hx : (Le.take (Le.length - L.length)).lookup t with
      | none => rfl
      | some u =>
        have hmem : (t, u) ∈ Le.take (Le.length - L.length) := by
          clear hk' hk hE
          generalize Le.take (Le.length - L.length) = T at hx ⊢
          induction T with
          | nil => simp at hx
          | cons p T ih =>
            obtain ⟨s, u'⟩ := p
            simp only [List.lookup_cons] at hx
            by_cases e : t = s
            · subst e; simp at hx; subst hx; simp
            · have hb : (t == s) = false := by simpa using e
              rw [hb] at hx
              exact List.mem_cons_of_mem _ (ih hx)
        have := hk' _ hmem
        rw [lookup_none_of_hasKey hv, hl] at this
        simp at this
    rw [this]
    simpa using hl

/-- a loop by a ghost; V: the slots that vary -/
theorem tc_loopV {β : Type} {c : Code} (V : β → List (Nat × Value)) (Me : β → Mem) (I : β → Prop) (μ : β → Nat) (b₀ : β) (h0 : I b₀) (hL : Sub L (V b₀)) (hM : ∀ w, M.holds w → (Me b₀).holds w)
    (round : ∀ b, I b → TC P Z N (V b ++ L) (Me b) c (Exit.then (fun a w => ∃ b', I b' ∧ μ b' < μ b ∧ Fr Z N (V b' ++ L) a ∧ (Me b').holds w) Q)) : TC P Z N L M (.loop c) Q :=
  tc_loop (fun b => V b ++ L) Me I μ b₀ h0 (fun _ h => h.vary hL) hM round

/-- a loop that leaves the boxes as they are -/
theorem tc_loopS {β : Type} {c : Code} (V : β → List (Nat × Value)) (I : β → Prop) (μ : β → Nat) (b₀ : β) (h0 : I b₀) (hL : Sub L (V b₀))
    (round : ∀ b, I b → TC P Z N (V b ++ L) M c (Exit.then (fun a w => ∃ b', I b' ∧ μ b' < μ b ∧ Fr Z N (V b' ++ L) a ∧ M.holds w) Q)) : TC P Z N L M (.loop c) Q :=
  tc_loopV V (fun _ => M) I μ b₀ h0 hL (fun _ h => h) round

theorem tp_roundV {β : Type} {V : β → List (Nat × Value)} {Me : β → Mem} {I : β → Prop} {μ : β → Nat} {b : β} {Le : List (Nat × Value)} {Mw : Mem} (b' : β) (hI : I b') (hμ : μ b' < μ b) (hV : Sub Le (V b')) (hE : Le.drop (Le.length - L.length) = L)
    (hk : (Le.take (Le.length - L.length)).all (fun p => hasKey (V b') p.1 || (L.lookup p.1).isNone) = true) (hM : ∀ w, Mw.holds w → (Me b').holds w) :
    TP Z N Le Mw .normal (Exit.then (fun a w => ∃ b', I b' ∧ μ b' < μ b ∧ Fr Z N (V b' ++ L) a ∧ (Me b').holds w) Q) :=
  fun _ w hf hm => ⟨b', hI, hμ, hf.again hV hE hk, hM w hm⟩

theorem tp_roundS {β : Type} {V : β → List (Nat × Value)} {I : β → Prop} {μ : β → Nat} {b : β} {Le : List (Nat × Value)} {B : World} {bs bs' : List (Nat × Obj)} {ks ks' : List Kp} {ms : List Nat} {rs : List (Option (Nat × Obj))} (b' : β) (hI : I b') (hμ : μ b' < μ b) (hV : Sub Le (V b')) (hE : Le.drop (Le.length - L.length) = L)
    (hk : (Le.take (Le.length - L.length)).all (fun p => hasKey (V b') p.1 || (L.lookup p.1).isNone) = true) (h1 : bs'.drop (bs'.length - bs.length) = bs) (h2 : ks'.drop (ks'.length - ks.length) = ks) :
    TP Z N Le ⟨B, bs', ks', ms, rs⟩ .normal (Exit.then (fun a w => ∃ b', I b' ∧ μ b' < μ b ∧ Fr Z N (V b' ++ L) a ∧ Mem.holds ⟨B, bs, ks, ms, rs⟩ w) Q) :=
  fun _ w hf hm => ⟨b', hI, hμ, hf.again hV hE hk, hm.less (h1 ▸ List.drop_sublist _ _) (h2 ▸ List.drop_sublist _ _)⟩

end
end Go.Q
