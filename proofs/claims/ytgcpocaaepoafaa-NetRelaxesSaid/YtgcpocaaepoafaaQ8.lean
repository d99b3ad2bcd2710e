/- A range over a function; functions that do; yield; calls that turn memory. -/
import Derived.Test.YtgcpocaaepoafaaQ7
set_option linter.unusedVariables false
set_option linter.unusedSimpArgs false
set_option linter.unusedSectionVars false
namespace Go.Q
open Go Go.RowKit

/-- whatever is there stays, but for the blocks of C -/
structure Upto (C : Nat → Prop) (w w' : World) : Prop where
  os : w'.os = w.os
  tape : w'.tape = w.tape
  output : w'.output = w.output
  size : w.heap.size ≤ w'.heap.size
  block : ∀ b, b < w.heap.size → ¬ C b → w'.heap[b]? = w.heap[b]?

section
variable {P : Program} {Z : Env} {N : Nat} {L : List (Nat × Value)} {M : Mem} {Q : Exit → Act → World → Prop} {ops : Array Oper} {rest : List Oper} {ty : TypeId} {pos : String} {af : Array Edge} {x y : Operand} {v : Value}

/-! ### calls that turn memory -/
theorem tl_callM {β : Type} {dd : Option Tmp} {val : β → Value} {R : β → World → World → Prop} {f : FuncId} {args : Array Operand} {at' : Array TypeId} {vs caps : List Value} {fo : Operand} (hF : IsFn P f) (hfo : ev L fo = some (.func (.func f) #[] caps.toArray)) (hvs : evs L args.toList = some vs)
    (hC : ∀ w, M.holds w → Calls P f (vs ++ caps).toArray w fun e w' => ∃ r, e = .returned (val r) ∧ R r w w')
    (h : ∀ r w1 w2, M.holds w1 → R r w1 w2 → ∃ M' : Mem, M'.holds w2 ∧ TL P Z N (match dd with | some d => (d, val r) :: L | none => L) M' ops rest Q) (hd : dd.all (· < N) = true) :
    TL P Z N L M ops (⟨dd, .call { callee := .value fo, args := args, argTypes := at' }, ty, pos, af, none⟩ :: rest) Q := fun a w hf hm => by
  refine wpList_enter rfl (run_call hf hF hfo hvs w) ((hC w hm).mono ?_)
  rintro e w' ⟨r, rfl, hr⟩
  obtain ⟨M', hm', hk⟩ := h r w w' hm hr
  refine ⟨_, rfl, hk _ _ ?_ hm'⟩
  cases dd with
  | none => exact hf.put_none _
  | some d => exact hf.put (by simpa using hd) _

/-! ### yield -/
theorem tl_yield {β : Type} {d : Nat} {val : β → Value} {R : β → World → World → Prop} {l : Nat} {args : Array Operand} {at' : Array TypeId} {vs : List Value} {fo : Operand} (hfo : ev L fo = some (.func (.yield l) #[] #[])) (hvs : evs L args.toList = some vs)
    (hY : ∀ w, M.holds w → YieldAt (FW none) 0 P l vs.toArray w fun e w' => ∃ r, e = .returned (val r) ∧ R r w w')
    (h : ∀ r w1 w2, M.holds w1 → R r w1 w2 → ∃ M' : Mem, M'.holds w2 ∧ TL P Z N ((d, val r) :: L) M' ops rest Q) (hd : d < N) :
    TL P Z N L M ops (⟨some d, .call { callee := .value fo, args := args, argTypes := at' }, ty, pos, af, none⟩ :: rest) Q := fun a w hf hm => by
  obtain ⟨fn, tmps, assign, body, hy, hR⟩ := hY w hm
  have h1 : args.map a.eval = vs.toArray := by
    apply Array.ext'
    simpa using evs_map hf hvs
  have hrun : (execOp a.eval ⟨some d, .call { callee := .value fo, args := args, argTypes := at' }, ty, pos, af, none⟩).run P w = .ok (.round l fn tmps assign body) w := by
    simp [execOp, resolve, hf.eval hfo, Deferred.ofValue, invoke, h1, hy]
  unfold wpListIn
  rw [if_pos (by simp [Region.wanted])]
  refine wpIn_of ?_
  rw [semAt_of hrun (by simp)]
  refine ⟨fun hd => by simp [Fence.wide] at hd, RoundIn.mono hR ?_⟩
  rintro e w' ⟨r, rfl, hr⟩
  obtain ⟨M', hm', hk⟩ := h r w w' hm hr
  exact hk _ _ (hf.put hd _) hm'

/-! ### functions that range over a function -/
theorem leavesM {fn : Func} {tmps : Array Value} {R : Ending → World → Prop} {v : Value} {B : World} {bs : List (Nat × Obj)} {ks : List Kp} {rs : List (Option (Nat × Obj))}
    (h : ∀ w, Mem.holds ⟨B, bs, ks, [], rs⟩ w → (results fn tmps).run P w = .ok v w ∧ R (.returned v) w) : ∀ (ds : List Nat) (w : World), Mem.holds ⟨B, bs, ks, ds, rs⟩ w → LeavesInM (FW none) 0 P fn tmps R (ds.map mk) .returning w
  | [], w, hm => ⟨v, h w hm⟩
  | D :: ds, w, hm => ⟨by simp, .inl ⟨D, _, rfl, run_takeDeferred (hm.box (markBox D) (List.mem_append_right _ (by simp))).2, leavesM h ds _ (hm.shut _)⟩⟩

theorem tp_end1M {ds : List Nat} {fn : Func} {R : Ending → World → Prop} {t : Tmp} {B : World} {bs : List (Nat × Obj)} {ks : List Kp} {rs : List (Option (Nat × Obj))} (hr : fn.results = #[.tmp t]) (hl : L.lookup t = some v) (h : ∀ w, Mem.holds ⟨B, bs, ks, [], rs⟩ w → R (.returned v) w) :
    TP ⟨none, ds⟩ N L ⟨B, bs, ks, ds, rs⟩ .ret (bodyPostW P fn R) := fun a w hf hm => by
  show LeavesInM (FW none) 0 P fn a.tmps R a.defers .returning w
  rw [hf.2.1]
  exact leavesM (fun w hm => ⟨by rw [results_tmp hr]; simp [Array.getD_eq_getD_getElem?, hf.2.2 t v hl], h w hm⟩) ds w hm
theorem tp_end2M {ds : List Nat} {fn : Func} {R : Ending → World → Prop} {t u : Tmp} {x : Value} {B : World} {bs : List (Nat × Obj)} {ks : List Kp} {rs : List (Option (Nat × Obj))} (hr : fn.results = #[.tmp t, .tmp u]) (hl : L.lookup t = some v) (hu : L.lookup u = some x) (h : ∀ w, Mem.holds ⟨B, bs, ks, [], rs⟩ w → R (.returned (.tuple #[v, x])) w) :
    TP ⟨none, ds⟩ N L ⟨B, bs, ks, ds, rs⟩ .ret (bodyPostW P fn R) := fun a w hf hm => by
  show LeavesInM (FW none) 0 P fn a.tmps R a.defers .returning w
  rw [hf.2.1]
  exact leavesM (fun w hm => ⟨by rw [results_tmp2 hr]; simp [Array.getD_eq_getD_getElem?, hf.2.2 t v hl, hf.2.2 u x hu], h w hm⟩) ds w hm
theorem tp_end0M {ds : List Nat} {fn : Func} {R : Ending → World → Prop} {B : World} {bs : List (Nat × Obj)} {ks : List Kp} {rs : List (Option (Nat × Obj))} (hr : fn.results = #[]) (h : ∀ w, Mem.holds ⟨B, bs, ks, [], rs⟩ w → R (.returned (.tuple #[])) w) :
    TP ⟨none, ds⟩ N L ⟨B, bs, ks, ds, rs⟩ .ret (bodyPostW P fn R) := fun a w hf hm => by
  show LeavesInM (FW none) 0 P fn a.tmps R a.defers .returning w
  rw [hf.2.1]
  exact leavesM (fun w hm => ⟨by rw [results_none hr], h w hm⟩) ds w hm

/-! ### the statement -/
def zipL : List Nat → List Value → List (Nat × Value) → List (Nat × Value)
  | t :: ts, v :: vs, L => zipL ts vs ((t, v) :: L)
  | _, _, L => L
theorem zipL_fr : ∀ (ts : List Nat) (vs : List Value) (L : List (Nat × Value)) (tmps : Array Value) {Z : Env}, (∀ t ∈ ts, t < N) → Fr Z N L { tmps := tmps, defers := Z.ds.map mk } →
    Fr Z N (zipL ts vs L) { tmps := (ts.zip vs).foldl (fun c p => c.setIfInBounds p.1 p.2) tmps, defers := Z.ds.map mk }
  | [], vs, L, tmps, Z, _, h => by simpa [zipL] using h
  | t :: ts, [], L, tmps, Z, _, h => by simpa [zipL] using h
  | t :: ts, v :: vs, L, tmps, Z, ht, h => by
    simp only [zipL, List.zip_cons_cons, List.foldl_cons]
    exact zipL_fr ts vs _ _ (fun t' h' => ht t' (List.mem_cons_of_mem _ h')) (by
      have := h.put (ht t (by simp)) v
      simpa [Act.put] using this)

/-- the head of a round, behind the assignment -/
def BeginK (P : Program) (l : Nat) (body : Code) (Qb : Exit → Act → World → Prop) : Exit → Act → World → Prop :=
  Exit.then (fun a w => ∃ w₂, (Instr.beginRound l).run P w = .ok () w₂ ∧ body.wpIn (FW (some l)) 0 P Qb a w₂) (fun _ _ _ => False)

theorem tp_begin {l i : Nat} {r : Loop} {body : Code} {Qb : Exit → Act → World → Prop} {B : World} {bs : List (Nat × Obj)} {ks : List Kp} {ms : List Nat} {rs : List (Option (Nat × Obj))} (hi : bs[i]? = some (l, .loop r)) (hr : r.state = .ready)
    (h : TC P ⟨some l, []⟩ N L ⟨B, bs.set i (l, .loop { r with state := .busy }), ks, ms, rs⟩ body Qb) : TP ⟨some l, []⟩ N L ⟨B, bs, ks, ms, rs⟩ .normal (BeginK P l body Qb) := fun a w hf hm =>
  ⟨_, run_beginRound (hm.boxOf (List.mem_of_getElem? hi)).2 hr, h a _ hf (hm.put hi _)⟩

def busy (l : Nat) (r : Loop) : Nat × Obj := (l, .loop { r with state := .busy })
/-- the end of a round -/
def RoundQ {β : Type} (I : β → Prop) (Me : β → Mem) : Exit → Act → World → Prop
  | .normal, _, w => ∃ b, I b ∧ (Me b).holds w
  | _, _, _ => False

/-- what a function that is ranged over promises: it yields the elements of xs, one behind the other; the rounds may turn the blocks of C -/
def Yields1 {α : Type} (P : Program) (gf : FuncId) (caps : List Value) (enc : α → List Value) (xs : List α) (C : Nat → Prop) (l : Nat) (W1 : World) : Prop :=
  ∀ J : List α → World → Prop, (∀ pre W W', J pre W → Below W.heap.size W W' → J pre W') →
    (∀ pre x post W, xs = pre ++ x :: post → J pre W → YieldAt (FW none) 0 P l (enc x).toArray W fun e W' => e = .returned (.bool true) ∧ J (pre ++ [x]) W' ∧ Upto C W W') →
    J [] W1 → Calls P gf (.func (.yield l) #[] #[] :: caps).toArray W1 fun e w' => e = .returned (.tuple #[]) ∧ J xs w'

def allBut (W : World) (C : Nat → Prop) : Kp := ⟨W, 0, W.heap.size, fun b => ¬ C b⟩
def turns (l D : Nat) (Ds Cs : List Nat) : Nat → Prop := fun b => b = l ∨ b = D ∨ b ∈ Ds ∨ b ∈ Cs

theorem tc_rangeFunc {α β : Type} {g : Operand} {ps : Array Tmp} {assign body : Code} {gf : FuncId} {caps : List Value} {ds : List Nat} (enc : α → List Value) (xs : List α) (bs : β → List (Nat × Obj)) (ks : β → List Kp) (Cs : List Nat) (I : List α → β → Prop) (b0 : β)
    (hg : ev L g = some (.func (.func gf) #[] caps.toArray)) (hF : IsFn P gf) (hps : ps.all (· < N) = true) (hlen : ∀ x, (enc x).length = ps.size)
    (hCs : ∀ b, (bs b).map Prod.fst = Cs) (h0 : I [] b0) (hM : ∀ w, M.holds w → Mem.holds ⟨M.base, bs b0, ks b0, M.marks, M.rows⟩ w)
    (hit : ∀ w W1 l (C : Nat → Prop), M.holds w → Below w.heap.size w W1 → (∀ b, b < M.base.heap.size → ¬ C b) → (∀ k ∈ ks b0, ∀ b, k.lo ≤ b → b < k.hi → k.on b → ¬ C b) → (∀ b, C b → b < W1.heap.size) → Yields1 P gf caps enc xs C l W1)
    (hround : ∀ l D W (r : Loop) pre x post b, xs = pre ++ x :: post → I pre b → r.state = .ready → TC P ⟨some l, []⟩ N (zipL ps.toList (enc x) L) ⟨M.base, bs b ++ [(l, .loop r)], allBut W (turns l D (M.marks ++ M.rb) Cs) :: ks b, D :: M.marks, M.rows⟩ assign
      (BeginK P l body (RoundQ (I (pre ++ [x])) (fun b' => ⟨M.base, bs b' ++ [busy l r], allBut W (turns l D (M.marks ++ M.rb) Cs) :: ks b', D :: M.marks, M.rows⟩))))
    (hdone : ∀ D b, I xs b → TP ⟨none, D :: ds⟩ N L ⟨M.base, bs b, ks b, D :: M.marks, M.rows⟩ .normal Q) :
    TC P ⟨none, ds⟩ N L M (.rangeFunc g ps assign body) Q := by
  intro a w hf hm
  refine wpIn_rangeFunc fun fn _ => ?_
  obtain ⟨l, hl⟩ : ∃ l, l = w.heap.size + 1 := ⟨_, rfl⟩
  obtain ⟨D, hD⟩ : ∃ D, D = w.heap.size := ⟨_, rfl⟩
  obtain ⟨r, hr⟩ : ∃ r : Loop, r = { state := .ready, pending := none, fn, tmps := a.tmps, params := ps, assign, body, defers := D } := ⟨_, rfl⟩
  obtain ⟨W1, hW1⟩ : ∃ W1, W1 = (w.alloc (.deferred (some []))).alloc (.loop r) := ⟨_, rfl⟩
  have hbel : Below w.heap.size w W1 := by rw [hW1]; exact ((Below.refl _ w).alloc (Nat.le_refl _) _).alloc (by simp) _
  have hm0 := hM w hm
  have hm2 : Mem.holds ⟨M.base, bs b0 ++ [(l, .loop r)], ks b0, D :: M.marks, M.rows⟩ W1 := by
    have h1 := (hm0.alloc (.deferred (some []))).alloc (.loop r)
    rw [← hW1] at h1
    have hp : ((w.alloc (.deferred (some []))).heap.size, Obj.loop r) = (l, Obj.loop r) := by rw [hl]; simp
    simp only [hp] at h1
    have hperm : ((l, Obj.loop r) :: (w.heap.size, Obj.deferred (some [])) :: (bs b0 ++ (M.rows.filterMap id ++ M.marks.map markBox))).Perm ((bs b0 ++ [(l, Obj.loop r)]) ++ (M.rows.filterMap id ++ (D :: M.marks).map markBox)) := by
      simp only [List.map_cons, List.append_assoc, List.cons_append, List.nil_append, markBox, hD]
      have h2 := List.perm_middle (a := (l, Obj.loop r)) (l₁ := bs b0) (l₂ := M.rows.filterMap id ++ (w.heap.size, Obj.deferred (some [])) :: M.marks.map markBox)
      refine List.Perm.trans (List.Perm.cons _ ?_) h2.symm
      have h3 := List.perm_middle (a := (w.heap.size, Obj.deferred (some []))) (l₁ := bs b0 ++ M.rows.filterMap id) (l₂ := M.marks.map markBox)
      simp only [List.append_assoc] at h3
      exact h3.symm
    exact ⟨h1.os, h1.tape, h1.output, h1.size, h1.old, fun p hp => h1.box p (hperm.mem_iff.2 hp), (hperm.pairwise_iff (fun {a b} h => Ne.symm h)).1 h1.nodup, h1.kept, fun p hp => h1.apart p (hperm.mem_iff.2 hp)⟩
  have hmem : ∀ b, turns l D (M.marks ++ M.rb) Cs b → b = l ∨ b = D ∨ ∃ o, (b, o) ∈ (Mem.mk M.base (bs b0) (ks b0) M.marks M.rows).all := by
    rintro b (h | h | h | h)
    · exact .inl h
    · exact .inr (.inl h)
    · rcases List.mem_append.1 h with h | h
      · exact .inr (.inr ⟨_, List.mem_append_right _ (List.mem_append_right _ (List.mem_map.2 ⟨b, h, rfl⟩))⟩)
      · obtain ⟨p, hp, rfl⟩ := List.mem_map.1 h
        exact .inr (.inr ⟨p.2, List.mem_append_right _ (List.mem_append_left _ hp)⟩)
    · rw [← hCs b0] at h
      obtain ⟨p, hp, rfl⟩ := List.mem_map.1 h
      exact .inr (.inr ⟨p.2, List.mem_append_left _ hp⟩)
  refine ⟨l, [mk D], W1, { target := .fn (.func gf) caps.toArray, args := #[.func (.yield l) #[] #[]] }, W1, gf, (.func (.yield l) #[] #[] :: caps).toArray, W1, ?_, ?_, fun _ _ => trivial, ?_, fun hd => by simp [Fence.wide] at hd, ?_⟩
  · rw [hW1, hr, hl, hD]
    exact run_enterLoop_outer _ _ _ _ _
  · simp only [resolve, hf.eval hg]
    simp [go_sem]
  · simp [invoke, hF _ _]
  refine calls_in (ro := none) ((hit w W1 l (turns l D (M.marks ++ M.rb) Cs) hm hbel (fun b hb hc => by
      rcases hmem b hc with h | h | ⟨o, h⟩
      · have := hm0.size; simp only at this; omega
      · have := hm0.size; simp only at this; omega
      · have := (hm0.box _ h).1; simp only at this; omega) (fun k hk b h1 h2 h3 hc => by
      rcases hmem b hc with h | h | ⟨o, h⟩
      · have := (hm0.kept k hk).1; omega
      · have := (hm0.kept k hk).1; omega
      · rcases hm0.apart _ h k hk with h4 | h4 | h4
        · simp only at h4; omega
        · simp only at h4; omega
        · exact h4 h3) (fun b hc => by
      rcases hmem b hc with h | h | ⟨o, h⟩
      · rw [h, hl, hW1]; simp
      · rw [h, hD, hW1]; simp; omega
      · have := get_lt (hm0.box _ h).2; have := hbel.size; simp only at *; omega) (fun pre W => ∃ b, I pre b ∧ Mem.holds ⟨M.base, bs b ++ [(l, .loop r)], ks b, D :: M.marks, M.rows⟩ W) (fun pre W W' ⟨b, h1, h2⟩ hb => ⟨b, h1, h2.ext hb⟩) ?_ ⟨b0, h0, hm2⟩).mono ?_)
  · rintro pre x post W hx ⟨b, hI, hmW⟩
    have hlast : (l, Obj.loop r) ∈ (Mem.mk M.base (bs b ++ [(l, .loop r)]) (ks b) (D :: M.marks) M.rows).boxes := by simp
    have hy := run_yield (P := P) (args := (enc x).toArray) (hmW.boxOf hlast).2 (by rw [hr]; simp [hlen x])
    refine ⟨_, _, _, _, hy, ?_⟩
    rw [hr]
    have hmW' : Mem.holds ⟨M.base, bs b ++ [(l, .loop r)], allBut W (turns l D (M.marks ++ M.rb) Cs) :: ks b, D :: M.marks, M.rows⟩ W := by
      refine ⟨hmW.os, hmW.tape, hmW.output, hmW.size, hmW.old, hmW.box, hmW.nodup, fun k hk => ?_, fun p hp k hk => ?_⟩
      · rcases List.mem_cons.1 hk with rfl | hk
        · exact ⟨Nat.le_refl _, fun _ _ _ _ => rfl⟩
        · exact hmW.kept k hk
      · rcases List.mem_cons.1 hk with rfl | hk
        · simp only [Mem.all, List.mem_append, List.mem_singleton] at hp
          rcases hp with (hp | hp) | hp | hp
          · exact .inr (.inr (fun hn => hn (.inr (.inr (.inr (by rw [← hCs b]; exact List.mem_map_of_mem hp))))))
          · exact .inr (.inr (fun hn => hn (.inl (by rw [hp]))))
          · exact .inr (.inr (fun hn => hn (.inr (.inr (.inl (List.mem_append_right _ (List.mem_map_of_mem hp)))))))
          · obtain ⟨D', hD', rfl⟩ := List.mem_map.1 hp
            exact .inr (.inr (fun hn => hn (by
              rcases List.mem_cons.1 hD' with h | h
              · exact .inr (.inl h)
              · exact .inr (.inr (.inl (List.mem_append_left _ h))))))
        · exact hmW.apart p hp k hk
    have hrd := hround l D W r pre x post b hx hI (by rw [hr])
    have hfr : Fr ⟨some l, []⟩ N (zipL ps.toList (enc x) L) { tmps := (ps.toList.zip (enc x)).foldl (fun c p => c.setIfInBounds p.1 p.2) a.tmps, defers := [] } :=
      zipL_fr (Z := ⟨some l, []⟩) ps.toList (enc x) L a.tmps (fun t ht => by
        have := Array.all_eq_true'.1 hps t (by simpa using ht)
        simpa using this) ⟨hf.1, rfl, hf.2.2⟩
    have hstart := hrd _ W hfr hmW'
    rw [hr] at hstart
    refine roundIn_of_wpIn (F := FW none) trivial ?_
    have hz : (ps.zip (enc x).toArray).foldl (fun tmps (p : Nat × Value) => tmps.setIfInBounds p.1 p.2) a.tmps = (ps.toList.zip (enc x)).foldl (fun c p => c.setIfInBounds p.1 p.2) a.tmps := by
      rw [← Array.foldl_toList, Array.toList_zip]
    rw [← hz] at hstart
    refine Go.wpIn_mono hstart ?_
    intro e a1 w1 he
    cases e with
    | normal =>
      obtain ⟨w2, hb2, hbody⟩ := he
      refine ⟨w2, hb2, Go.wpIn_mono hbody ?_⟩
      intro e a3 w3 he3
      cases e with
      | normal =>
        obtain ⟨b', hI', hm3⟩ := he3
        have hidx : (bs b' ++ [busy l { state := .ready, pending := none, fn := fn, tmps := a.tmps, params := ps, assign := assign, body := body, defers := D }])[(bs b').length]? = some (busy l { state := .ready, pending := none, fn := fn, tmps := a.tmps, params := ps, assign := assign, body := body, defers := D }) := by simp
        have hend := run_endRound (P := P) none (hm3.boxOf (List.mem_of_getElem? hidx)).2
        refine ⟨_, _, hend, rfl, ⟨b', hI', ?_⟩, ?_⟩
        · have := hm3.put hidx (.loop { state := .ready, pending := none, fn := fn, tmps := a.tmps, params := ps, assign := assign, body := body, defers := D })
          have hs : (bs b' ++ [busy l { state := .ready, pending := none, fn := fn, tmps := a.tmps, params := ps, assign := assign, body := body, defers := D }]).set (bs b').length (l, .loop { state := .ready, pending := none, fn := fn, tmps := a.tmps, params := ps, assign := assign, body := body, defers := D }) = bs b' ++ [(l, .loop { state := .ready, pending := none, fn := fn, tmps := a.tmps, params := ps, assign := assign, body := body, defers := D })] := by simp [List.set_append_right]
          rw [hs] at this
          exact this.less (List.Sublist.refl _) (List.sublist_cons_self _ _)
        · have hk := hm3.kept _ (List.mem_cons_self ..)
          refine ⟨hm3.os.trans hmW.os.symm, hm3.tape.trans hmW.tape.symm, hm3.output.trans hmW.output.symm, ?_, fun c hc hn => ?_⟩
          · simp only [World.putObj_size]; exact hk.1
          · exact (World.putObj_heap_other (fun h => hn (.inl h))).trans (hk.2 c (Nat.zero_le _) hc hn)
      | _ => exact he3.elim
    | _ => exact he.elim
  · rintro e w' ⟨rfl, b, hI, hm'⟩
    have hlast : (bs b ++ [(l, Obj.loop r)])[(bs b).length]? = some (l, .loop r) := by simp
    have hrun := run_endLoop (P := P) (hm'.boxOf (List.mem_of_getElem? hlast)).2 (by rw [hr]; simp)
    have hpend : r.pending = none := by rw [hr]
    have hfin : Mem.holds ⟨M.base, bs b, ks b, D :: M.marks, M.rows⟩ (w'.putObj l (.loop { r with state := .exhausted })) :=
      (hm'.put hlast (.loop { r with state := .exhausted })).less (by simp [List.set_append_right]) (List.Sublist.refl _)
    refine ⟨none, w'.putObj l (.loop { r with state := .exhausted }), by rw [← hpend]; exact hrun, ?_⟩
    exact hdone D b hI _ _ ⟨hf.1, by simp [hf.2.1], hf.2.2⟩ hfin
end
end Go.Q
