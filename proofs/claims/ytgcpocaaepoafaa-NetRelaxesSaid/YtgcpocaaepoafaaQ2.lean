/- The judgements on code and on operations, and their rules. -/
import Derived.Test.YtgcpocaaepoafaaQ1
set_option linter.unusedVariables false
set_option linter.unusedSimpArgs false
set_option linter.unusedSectionVars false
namespace Go.Q
open Go Go.RowKit

section
variable {P : Program} {Z : Env} {N : Nat} {L L' : List (Nat × Value)} {M M' : Mem} {Q : Exit → Act → World → Prop}

/-- code, from what is known of the frame and of memory -/
def TC (P : Program) (Z : Env) (N : Nat) (L : List (Nat × Value)) (M : Mem) (c : Code) (Q : Exit → Act → World → Prop) : Prop :=
  ∀ a w, Fr Z N L a → M.holds w → c.wpIn (FW Z.ro) 0 P Q a w

/-- an end, from what is known -/
def TP (Z : Env) (N : Nat) (L : List (Nat × Value)) (M : Mem) (e : Exit) (Q : Exit → Act → World → Prop) : Prop :=
  ∀ a w, Fr Z N L a → M.holds w → Q e a w

/-- operations from here on, in the order of the text -/
def TL (P : Program) (Z : Env) (N : Nat) (L : List (Nat × Value)) (M : Mem) (ops : Array Oper) (rest : List Oper) (Q : Exit → Act → World → Prop) : Prop :=
  ∀ a w, Fr Z N L a → M.holds w → wpListIn (FW Z.ro) 0 P ops Q rest a w

/-- quiet operations, one behind the other: each yields one value, and the world has at most grown -/
def QS (P : Program) (ops : Array Oper) (M : Mem) (K : Act → Prop) : List Oper → Act → Prop
  | [], a => K a
  | o :: rest, a => if Region.wanted o (yielded ops a.tmps) then ∃ v, (∀ w, M.holds w → o.quietAt P a (fun w' => Below w.heap.size w w') w v) ∧ QS P ops M K rest (a.put o.dst v)
    else QS P ops M K rest (a.put o.dst undef)

/-- quiet operations from here on -/
def TQ (P : Program) (Z : Env) (N : Nat) (L : List (Nat × Value)) (M : Mem) (ops : Array Oper) (rest : List Oper) (K : Act → Prop) : Prop :=
  ∀ a, Fr Z N L a → QS P ops M K rest a

/-- an operation yields a value, whatever the world -/
def Qv (P : Program) (Z : Env) (N : Nat) (L : List (Nat × Value)) (M : Mem) (o : Oper) (v : Value) : Prop :=
  ∀ a, Fr Z N L a → ∀ w, M.holds w → o.quietAt P a (fun w' => Below w.heap.size w w') w v

/-! ### code -/

theorem tc_seq {x y : Code} (h : TC P Z N L M x (Exit.then (y.wpIn (FW Z.ro) 0 P Q) Q)) : TC P Z N L M (.seq x y) Q := fun a w hf hm => wpIn_seq (h a w hf hm)

theorem tc_skip (h : TP Z N L M .normal Q) : TC P Z N L M .skip Q := fun a w hf hm => wpIn_skip (h a w hf hm)
theorem tc_ret (h : TP Z N L M .ret Q) : TC P Z N L M .ret Q := fun a w hf hm => wpIn_ret (h a w hf hm)
theorem tc_exit {i : Nat} (h : TP Z N L M (.exit i) Q) : TC P Z N L M (.exit i) Q := fun a w hf hm => wpIn_exit (h a w hf hm)
theorem tc_block {i : Nat} {c : Code} (h : TC P Z N L M c (Exit.inBlock i Q)) : TC P Z N L M (.block i c) Q := fun a w hf hm => wpIn_block (h a w hf hm)

theorem tc_true {c : Operand} {x y : Code} (hc : ev L c = some (.bool true)) (h : TC P Z N L M x Q) : TC P Z N L M (.cond c x y) Q :=
  fun a w hf hm => wpIn_cond_true (hf.eval hc) (h a w hf hm)
theorem tc_false {c : Operand} {x y : Code} (hc : ev L c = some (.bool false)) (h : TC P Z N L M y Q) : TC P Z N L M (.cond c x y) Q :=
  fun a w hf hm => wpIn_cond_false (hf.eval hc) (h a w hf hm)
theorem tc_bool {c : Operand} {x y : Code} {b : Bool} (hc : ev L c = some (.bool b)) (ht : b = true → TC P Z N L M x Q) (hn : b = false → TC P Z N L M y Q) : TC P Z N L M (.cond c x y) Q :=
  fun a w hf hm => wpIn_cond_split (hf.eval hc) (fun e => ht e a w hf hm) (fun e => hn e a w hf hm)
theorem tc_dec {c : Operand} {x y : Code} {p : Prop} [Decidable p] (hc : ev L c = some (.bool (decide p))) (ht : p → TC P Z N L M x Q) (hn : ¬ p → TC P Z N L M y Q) : TC P Z N L M (.cond c x y) Q :=
  tc_bool hc (fun e => ht (by simpa using e)) (fun e => hn (by simpa using e))

theorem TC.sub {c : Code} (hs : Sub L L') (h : TC P Z N L' M c Q) : TC P Z N L M c Q := fun a w hf hm => h a w (hf.sub hs) hm
theorem TC.less {B : World} {bs bs' : List (Nat × Obj)} {ks ks' : List Kp} {ms : List Nat} {rs : List (Option (Nat × Obj))} {c : Code} (h1 : bs'.Sublist bs) (h2 : ks'.Sublist ks) (h : TC P Z N L ⟨B, bs', ks', ms, rs⟩ c Q) : TC P Z N L ⟨B, bs, ks, ms, rs⟩ c Q :=
  fun a w hf hm => h a w hf (hm.less h1 h2)
theorem TC.mem {c : Code} (hm : ∀ w, M.holds w → M'.holds w) (h : TC P Z N L M' c Q) : TC P Z N L M c Q := fun a w hf h' => h a w hf (hm w h')
theorem TC.mono {c : Code} {Q' : Exit → Act → World → Prop} (h : TC P Z N L M c Q') (hq : ∀ e a w, Q' e a w → Q e a w) : TC P Z N L M c Q := fun a w hf hm => Go.wpIn_mono (h a w hf hm) hq

/-! ### ends -/

theorem tp_normal {y : Code} (h : TC P Z N L M y Q) : TP Z N L M .normal (Exit.then (y.wpIn (FW Z.ro) 0 P Q) Q) := h
theorem tp_then_ret {K : Act → World → Prop} (h : TP Z N L M .ret Q) : TP Z N L M .ret (Exit.then K Q) := h
theorem tp_then_exit {K : Act → World → Prop} {i : Nat} (h : TP Z N L M (.exit i) Q) : TP Z N L M (.exit i) (Exit.then K Q) := h
theorem tp_block_normal {i : Nat} (h : TP Z N L M .normal Q) : TP Z N L M .normal (Exit.inBlock i Q) := h
theorem tp_block_ret {i : Nat} (h : TP Z N L M .ret Q) : TP Z N L M .ret (Exit.inBlock i Q) := h
theorem tp_block_exit {i : Nat} (h : TP Z N L M .normal Q) : TP Z N L M (.exit i) (Exit.inBlock i Q) := fun a w hf hm => by
  simpa [Exit.inBlock] using h a w hf hm
theorem tp_block_pass {i j : Nat} (hne : (j == i) = false) (h : TP Z N L M (.exit j) Q) : TP Z N L M (.exit j) (Exit.inBlock i Q) := fun a w hf hm => by
  have : ¬ j = i := by simpa using hne
  simpa [Exit.inBlock, this] using h a w hf hm

/-! ### loops -/

theorem tc_loopZ {β : Type} {c : Code} (Zf : β → Env) (S : β → List (Nat × Value)) (Me : β → Mem) (I : β → Prop) (μ : β → Nat) (b₀ : β) (h0 : I b₀) (hro : ∀ b, (Zf b).ro = Z.ro) (hL : ∀ a, Fr Z N L a → Fr (Zf b₀) N (S b₀) a) (hM : ∀ w, M.holds w → (Me b₀).holds w)
    (round : ∀ b, I b → TC P (Zf b) N (S b) (Me b) c (Exit.then (fun a w => ∃ b', I b' ∧ μ b' < μ b ∧ Fr (Zf b') N (S b') a ∧ (Me b').holds w) Q)) : TC P Z N L M (.loop c) Q := by
  intro a w hf hm bf k cs hro' hb hr
  have key : ∀ n, ∀ b : β, μ b = n → I b → ∀ a w, Fr (Zf b) N (S b) a → (Me b).holds w →
      ∃ e a' w', Q e a' w' ∧ ArrivesIn (Machine.fenced P (FW Z.ro)) P (lone (bf.atR a (.code c :: .inLoop c :: k)) cs w) bf k cs e a' w' := by
    intro n
    induction n using Nat.strongRecOn with
    | _ n ih =>
      intro b hbn hI a w hf hm
      have hrd := round b hI a w hf hm
      rw [hro b] at hrd
      obtain ⟨e, a₁, w₁, hq, harr⟩ := hrd bf (.inLoop c :: k) cs hro' hb hr
      cases e with
      | normal =>
        obtain ⟨b', hI', hlt, hf', hm'⟩ := hq
        obtain ⟨e₂, a₂, w₂, hq₂, harr₂⟩ := ih (μ b') (by omega) b' rfl hI' a₁ w₁ hf' hm'
        exact ⟨e₂, a₂, w₂, hq₂, .of_steps (StepsIn.trans harr (.one (fenced_calm hb hr rfl) stepR_inLoop)) harr₂⟩
      | exit id => exact ⟨_, a₁, w₁, hq, .pass (x := .inLoop c) rfl (fun _ _ => .inl (by simp)) harr⟩
      | goto l => exact ⟨_, a₁, w₁, hq, .pass (x := .inLoop c) rfl (fun _ _ => .inl (by simp)) harr⟩
      | ret => exact ⟨_, a₁, w₁, hq, .pass (x := .inLoop c) rfl (fun _ _ => .inl (by simp)) harr⟩
      | panic ch => exact ⟨_, a₁, w₁, hq, .pass (x := .inLoop c) rfl (fun _ _ => .inl (by simp)) harr⟩
      | outgrown => exact ⟨_, a₁, w₁, hq, .pass (x := .inLoop c) rfl (fun _ _ => .inl (by simp)) harr⟩
  obtain ⟨e, a', w', hq, harr⟩ := key _ b₀ rfl h0 a w (hL a hf) (hM w hm)
  exact ⟨e, a', w', hq, .of_steps (.one (fenced_calm hb hr rfl) stepR_loop) harr⟩

/-- what is known at the head of a loop: the frame, the memory, by a ghost -/
theorem tc_loop {β : Type} {c : Code} (S : β → List (Nat × Value)) (Me : β → Mem) (I : β → Prop) (μ : β → Nat) (b₀ : β) (h0 : I b₀) (hL : ∀ a, Fr Z N L a → Fr Z N (S b₀) a) (hM : ∀ w, M.holds w → (Me b₀).holds w)
    (round : ∀ b, I b → TC P Z N (S b) (Me b) c (Exit.then (fun a w => ∃ b', I b' ∧ μ b' < μ b ∧ Fr Z N (S b') a ∧ (Me b').holds w) Q)) : TC P Z N L M (.loop c) Q :=
  tc_loopZ (fun _ => Z) S Me I μ b₀ h0 (fun _ => rfl) hL hM round

/-! ### a function -/

def argsL : Nat → List Value → List (Nat × Value)
  | _, [] => []
  | i, v :: vs => (i, v) :: argsL (i + 1) vs

theorem argsL_lookup : ∀ (vs : List Value) (i t : Nat) (v : Value), (argsL i vs).lookup t = some v → i ≤ t ∧ vs[t - i]? = some v
  | [], i, t, v, h => by simp [argsL] at h
  | x :: vs, i, t, v, h => by
    simp only [argsL, List.lookup_cons] at h
    by_cases ht : t = i
    · subst ht
      simp at h
      subst h
      simp
    · have hb : (t == i) = false := by simpa using ht
      rw [hb] at h
      obtain ⟨h1, h2⟩ := argsL_lookup vs (i + 1) t v h
      refine ⟨by omega, ?_⟩
      have : t - i = (t - (i + 1)) + 1 := by omega
      rw [this]
      simpa using h2

theorem fr_args {fn : Func} {vs : List Value} (hN : fn.ntmps = N) (hvs : vs.length ≤ N) : Fr ⟨none, []⟩ N (argsL 0 vs) { tmps := vs.toArray ++ Array.replicate (fn.ntmps - vs.toArray.size) undef, defers := [] } := by
  refine ⟨?_, rfl, ?_⟩
  · simp [hN]; omega
  · intro t v ht
    obtain ⟨_, h2⟩ := argsL_lookup vs 0 t v ht
    have h2' : vs[t]? = some v := by simpa using h2
    have hlt : t < vs.length := by
      rcases Nat.lt_or_ge t vs.length with h' | h'
      · exact h'
      · rw [List.getElem?_eq_none h'] at h2'; cases h2'
    simp only
    rw [Array.getElem?_append_left (by simpa using hlt)]
    simpa using h2'

theorem calls_of_tc {f : FuncId} {fn : Func} {c : Code} {vs : List Value} {w : World} {R : Ending → World → Prop} (hf : P.funcs[f]? = some fn) (hb : fn.body = some c) (hN : fn.ntmps = N) (hvs : vs.length ≤ N)
    (h : TC P ⟨none, []⟩ N (argsL 0 vs) (Mem.init w) c (bodyPost P fn R)) : Calls P f vs.toArray w R :=
  callsIn_wide.1 (callsIn_of_wp (F := Fence.wide) (n := 0) hf hb trivial (h _ _ (fr_args hN hvs) (Mem.init_holds w)))

/-- a function that ranges over a function -/
def bodyPostW (P : Program) (fn : Func) (R : Ending → World → Prop) : Exit → Act → World → Prop := bodyPostM (FW none) 0 P fn R
theorem calls_of_tcM {f : FuncId} {fn : Func} {c : Code} {vs : List Value} {w : World} {R : Ending → World → Prop} (hf : P.funcs[f]? = some fn) (hb : fn.body = some c) (hN : fn.ntmps = N) (hvs : vs.length ≤ N)
    (h : TC P ⟨none, []⟩ N (argsL 0 vs) (Mem.init w) c (bodyPostW P fn R)) : Calls P f vs.toArray w R :=
  callsIn_wide.1 (callsIn_of_wp_marks (F := Fence.wide) (n := 0) hf hb trivial (h _ _ (fr_args hN hvs) (Mem.init_holds w)))

theorem tp_end1 {ro : Option Nat} {fn : Func} {R : Ending → World → Prop} {t : Tmp} {v : Value} (hr : fn.results = #[.tmp t]) (hl : L.lookup t = some v) (h : ∀ w, M.holds w → R (.returned v) w) :
    TP ⟨ro, []⟩ N L M .ret (bodyPost P fn R) := fun a w hf hm =>
  ⟨hf.2.1, v, by rw [results_tmp hr]; simp [Array.getD_eq_getD_getElem?, hf.2.2 t v hl], h w hm⟩
theorem tp_end2 {ro : Option Nat} {fn : Func} {R : Ending → World → Prop} {t u : Tmp} {v x : Value} (hr : fn.results = #[.tmp t, .tmp u]) (hl : L.lookup t = some v) (hu : L.lookup u = some x) (h : ∀ w, M.holds w → R (.returned (.tuple #[v, x])) w) :
    TP ⟨ro, []⟩ N L M .ret (bodyPost P fn R) := fun a w hf hm =>
  ⟨hf.2.1, _, by rw [results_tmp2 hr]; simp [Array.getD_eq_getD_getElem?, hf.2.2 t v hl, hf.2.2 u x hu], h w hm⟩
theorem tp_end0 {ro : Option Nat} {fn : Func} {R : Ending → World → Prop} (hr : fn.results = #[]) (h : ∀ w, M.holds w → R (.returned (.tuple #[])) w) :
    TP ⟨ro, []⟩ N L M .ret (bodyPost P fn R) := fun a w hf hm => ⟨hf.2.1, _, by rw [results_none hr], h w hm⟩
theorem tp_end0n {ro : Option Nat} {fn : Func} {R : Ending → World → Prop} (hr : fn.results = #[]) (h : ∀ w, M.holds w → R (.returned (.tuple #[])) w) :
    TP ⟨ro, []⟩ N L M .normal (bodyPost P fn R) := fun a w hf hm => ⟨hf.2.1, _, by rw [results_none hr], h w hm⟩

/-! ### regions -/

theorem tc_region {id : Nat} {l : List Oper} (h : TL P Z N L M l.toArray l Q) : TC P Z N L M (.region id l.toArray false) Q :=
  fun a w hf hm => wpIn_region_lit (h a w hf hm)

theorem tl_nil {ops : Array Oper} (h : TP Z N L M .normal Q) : TL P Z N L M ops [] Q := h

theorem quietAt_mono {o : Oper} {a : Act} {C C' : World → Prop} {w : World} {v : Value} (hC : ∀ w', C w' → C' w') (h : o.quietAt P a C w v) : o.quietAt P a C' w v := by
  unfold Oper.quietAt at *
  generalize (execOp a.eval o).run P w = r at *
  cases r with
  | ok n w' =>
    cases n <;> simp only [Oper.quietUpon] at h ⊢
    case enter f args => exact ⟨h.1, h.2.mono fun e w'' ⟨he, hw⟩ => ⟨he, hC _ hw⟩⟩
    all_goals exact h
  | halt x w' => simp only [Oper.quietUpon] at h

theorem tq_nil {ops : Array Oper} (h : TP Z N L M .normal Q) : TQ P Z N L M ops [] (fun a => ∀ w, M.holds w → Q .normal a w) :=
  fun a hf w hm => h a w hf hm

section ops
variable {ops : Array Oper} {o : Oper} {rest : List Oper} {v : Value} {d : Nat}

theorem wanted_none (hg : o.guard = none) (t : Array Value) : Region.wanted o (yielded ops t) = true := by simp [Region.wanted, hg]

theorem wanted_some {j t : Nat} {want b : Bool} {a : Act} (hg : o.guard = some (j, want)) (hj : (ops[j]?).bind (·.dst) = some t) (hf : Fr Z N L a) (hl : L.lookup t = some (.bool b)) :
    Region.wanted o (yielded ops a.tmps) = (b == want) := by
  have := hf.2.2 t _ hl
  simp [Region.wanted, hg, yielded, hj, this]

def asks (u : Value) (want : Bool) : Bool := match u with | .bool b => b == want | _ => false
theorem wanted_any {j t : Nat} {want : Bool} {u : Value} {a : Act} (hg : o.guard = some (j, want)) (hj : (ops[j]?).bind (·.dst) = some t) (hf : Fr Z N L a) (hl : L.lookup t = some u) (hu : asks u want = false) :
    Region.wanted o (yielded ops a.tmps) = false := by
  have := hf.2.2 t _ hl
  cases u <;> simp_all [Region.wanted, yielded, asks]

theorem semAt_of {ro : Option Nat} {ρ : Operand → Value} {w w' : World} {n : Next} (h : (execOp ρ o).run P w = .ok n w') (hn : ∀ d, n ≠ .defer d) : (o.semAt ro ρ).run P w = .ok n w' := by
  rw [Oper.semAt_eq]
  · exact h
  · intro c hc
    unfold execOp at h
    simp only [hc] at h
    simp only [Sem.run_bind] at h
    cases hr : (resolve ρ c o.type).run P w with
    | ok d w2 =>
      rw [hr] at h
      simp only [Result.andThen_ok, Sem.run_pure] at h
      injection h with h1 h2
      exact hn _ h1.symm
    | halt x w2 => rw [hr] at h; simp [Result.andThen] at h

theorem calls_in {ro : Option Nat} {n : Nat} {f : FuncId} {args : Array Value} {w : World} {R : Ending → World → Prop} (h : Calls P f args w R) : CallsIn (FW ro) n P f args w R :=
  (callsIn_wide (n := n)).2 h

theorem wpIn_of {o : Oper} {a : Act} {w : World} {K : Act → World → Prop} {ro : Option Nat} (h : o.uponIn (FW ro) 0 P a K Q ((o.semAt ro a.eval).run P w)) : o.wpIn (FW ro) 0 P a w K Q := ⟨fun _ _ => trivial, h⟩

theorem wpIn_of_quietAt {a : Act} {w : World} {ro : Option Nat} {K : Act → World → Prop} (hm : M.holds w) (hq : o.quietAt P a (fun w' => Below w.heap.size w w') w v)
    (h : ∀ w', M.holds w' → K (a.put o.dst v) w') : o.wpIn (FW ro) 0 P a w K Q := by
  refine wpIn_of ?_
  unfold Oper.quietAt at hq
  cases hr : (execOp a.eval o).run P w with
  | ok n w' =>
    rw [hr] at hq
    cases n <;> simp only [Oper.quietUpon] at hq
    case value u =>
      obtain ⟨e1, e2⟩ := hq
      rw [semAt_of hr (by simp), e1, e2]
      exact h _ hm
    case skip =>
      obtain ⟨e1, e2⟩ := hq
      rw [semAt_of hr (by simp), e1]
      simp only [Oper.uponIn]
      rw [← e2]
      exact h _ hm
    case enter f args =>
      obtain ⟨e1, hc⟩ := hq
      rw [semAt_of hr (by simp), e1]
      exact ⟨fun hd => by simp [Fence.wide] at hd, calls_in (hc.mono fun e w'' ⟨he, hw''⟩ => by subst he; exact h _ (hm.ext hw''))⟩
  | halt x w' => rw [hr] at hq; simp only [Oper.quietUpon] at hq

theorem wpList_of_quietAt {a : Act} {w : World} {ro : Option Nat} (hm : M.holds w) (hwant : Region.wanted o (yielded ops a.tmps) = true) (hq : o.quietAt P a (fun w' => Below w.heap.size w w') w v)
    (h : ∀ w', M.holds w' → wpListIn (FW ro) 0 P ops Q rest (a.put o.dst v) w') : wpListIn (FW ro) 0 P ops Q (o :: rest) a w := by
  unfold wpListIn
  rw [if_pos hwant]
  exact wpIn_of_quietAt hm hq h

theorem wpList_skip' {a : Act} {w : World} {ro : Option Nat} (hw : Region.wanted o (yielded ops a.tmps) = false) (h : wpListIn (FW ro) 0 P ops Q rest (a.put o.dst undef) w) : wpListIn (FW ro) 0 P ops Q (o :: rest) a w := by
  unfold wpListIn
  rw [if_neg (by simp [hw])]
  exact ⟨fun _ _ => trivial, h⟩

theorem tl_step (hg : o.guard = none) (hd : o.dst = some d) (hN : d < N) (hq : Qv P Z N L M o v) (h : TL P Z N ((d, v) :: L) M ops rest Q) : TL P Z N L M ops (o :: rest) Q :=
  fun a w hf hm => wpList_of_quietAt hm (wanted_none hg _) (hq a hf w hm) (fun w' hm' => h _ w' (by rw [hd]; exact hf.put hN v) hm')

theorem tl_stepg {j t : Nat} {want : Bool} (hg : o.guard = some (j, want)) (hj : (ops[j]?).bind (·.dst) = some t) (hl : L.lookup t = some (.bool want)) (hd : o.dst = some d) (hN : d < N) (hq : Qv P Z N L M o v)
    (h : TL P Z N ((d, v) :: L) M ops rest Q) : TL P Z N L M ops (o :: rest) Q :=
  fun a w hf hm => wpList_of_quietAt hm (by rw [wanted_some hg hj hf hl]; simp) (hq a hf w hm) (fun w' hm' => h _ w' (by rw [hd]; exact hf.put hN v) hm')

theorem tl_skip {j t : Nat} {want : Bool} {u : Value} (hg : o.guard = some (j, want)) (hj : (ops[j]?).bind (·.dst) = some t) (hl : L.lookup t = some u) (hb : asks u want = false) (hd : o.dst = some d) (hN : d < N)
    (h : TL P Z N ((d, undef) :: L) M ops rest Q) : TL P Z N L M ops (o :: rest) Q := fun a w hf hm =>
  wpList_skip' (wanted_any hg hj hf hl hb) (h _ w (by rw [hd]; exact hf.put hN _) hm)

variable {K : Act → Prop}

theorem tq_step (hg : o.guard = none) (hd : o.dst = some d) (hN : d < N) (hq : Qv P Z N L M o v) (h : TQ P Z N ((d, v) :: L) M ops rest K) : TQ P Z N L M ops (o :: rest) K :=
  fun a hf => by
    unfold QS
    rw [if_pos (wanted_none hg _)]
    exact ⟨v, fun w hm => hq a hf w hm, h _ (by rw [hd]; exact hf.put hN v)⟩

theorem tq_stepg {j t : Nat} {want : Bool} (hg : o.guard = some (j, want)) (hj : (ops[j]?).bind (·.dst) = some t) (hl : L.lookup t = some (.bool want)) (hd : o.dst = some d) (hN : d < N) (hq : Qv P Z N L M o v)
    (h : TQ P Z N ((d, v) :: L) M ops rest K) : TQ P Z N L M ops (o :: rest) K :=
  fun a hf => by
    unfold QS
    rw [if_pos (by rw [wanted_some hg hj hf hl]; simp)]
    exact ⟨v, fun w hm => hq a hf w hm, h _ (by rw [hd]; exact hf.put hN v)⟩

theorem tq_skip {j t : Nat} {want : Bool} {u : Value} (hg : o.guard = some (j, want)) (hj : (ops[j]?).bind (·.dst) = some t) (hl : L.lookup t = some u) (hb : asks u want = false) (hd : o.dst = some d) (hN : d < N)
    (h : TQ P Z N ((d, undef) :: L) M ops rest K) : TQ P Z N L M ops (o :: rest) K := fun a hf => by
  unfold QS
  rw [if_neg (by rw [wanted_any hg hj hf hl hb]; simp)]
  exact h _ (by rw [hd]; exact hf.put hN _)

theorem TL.sub (hs : Sub L L') (h : TL P Z N L' M ops rest Q) : TL P Z N L M ops rest Q := fun a w hf hm => h a w (hf.sub hs) hm
theorem TQ.sub (hs : Sub L L') (h : TQ P Z N L' M ops rest K) : TQ P Z N L M ops rest K := fun a hf => h a (hf.sub hs)
end ops
end
end Go.Q
