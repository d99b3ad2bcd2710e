/- Loops and ranges that turn boxes; what is read through kept blocks; iterators. -/
import Derived.Test.YtgcpocaaepoafaaQ8
set_option linter.unusedVariables false
set_option linter.unusedSimpArgs false
set_option linter.unusedSectionVars false
namespace Go.Q
open Go Go.RowKit

def setB (bs : List (Nat × Obj)) (V : List (Nat × Nat × Obj)) : List (Nat × Obj) := V.foldl (fun bs p => bs.set p.1 p.2) bs

section
variable {P : Program} {Z : Env} {N : Nat} {L : List (Nat × Value)} {M : Mem} {Q : Exit → Act → World → Prop} {ops : Array Oper} {rest : List Oper} {ty : TypeId} {pos : String} {af : Array Edge} {x y : Operand} {v : Value} {d : Option Tmp} {g : Option (Nat × Bool)}

/-! ### loops that turn boxes -/
theorem tc_loopB {β : Type} {B : World} {bs : List (Nat × Obj)} {ks : List Kp} {ms : List Nat} {rs : List (Option (Nat × Obj))} {c : Code} (V : β → List (Nat × Value)) (VB : β → List (Nat × Nat × Obj)) (I : β → Prop) (μ : β → Nat) (b₀ : β) (h0 : I b₀) (hL : Sub L (V b₀)) (hM : setB bs (VB b₀) = bs)
    (round : ∀ b, I b → TC P Z N (V b ++ L) ⟨B, setB bs (VB b), ks, ms, rs⟩ c (Exit.then (fun a w => ∃ b', I b' ∧ μ b' < μ b ∧ Fr Z N (V b' ++ L) a ∧ Mem.holds ⟨B, setB bs (VB b'), ks, ms, rs⟩ w) Q)) : TC P Z N L ⟨B, bs, ks, ms, rs⟩ (.loop c) Q :=
  tc_loopV V (fun b => ⟨B, setB bs (VB b), ks, ms, rs⟩) I μ b₀ h0 hL (fun w h => by rw [hM]; exact h) round

theorem tp_roundB {β : Type} {V : β → List (Nat × Value)} {VB : β → List (Nat × Nat × Obj)} {I : β → Prop} {μ : β → Nat} {b : β} {Le : List (Nat × Value)} {B : World} {bs bs' : List (Nat × Obj)} {ks ks' : List Kp} {ms : List Nat} {rs : List (Option (Nat × Obj))} (b' : β) (hI : I b') (hμ : μ b' < μ b) (hV : Sub Le (V b')) (hE : Le.drop (Le.length - L.length) = L)
    (hk : (Le.take (Le.length - L.length)).all (fun p => hasKey (V b') p.1 || (L.lookup p.1).isNone) = true) (h1 : bs'.drop (bs'.length - bs.length) = setB bs (VB b')) (h2 : ks'.drop (ks'.length - ks.length) = ks) :
    TP Z N Le ⟨B, bs', ks', ms, rs⟩ .normal (Exit.then (fun a w => ∃ b', I b' ∧ μ b' < μ b ∧ Fr Z N (V b' ++ L) a ∧ Mem.holds ⟨B, setB bs (VB b'), ks, ms, rs⟩ w) Q) :=
  fun _ w hf hm => ⟨b', hI, hμ, hf.again hV hE hk, hm.less (h1 ▸ List.drop_sublist _ _) (h2 ▸ List.drop_sublist _ _)⟩

/-! ### ranges over functions that turn boxes -/
theorem tc_rangeFuncB {α β : Type} {B : World} {bs : List (Nat × Obj)} {ks : List Kp} {ms : List Nat} {rs : List (Option (Nat × Obj))} {g : Operand} {ps : Array Tmp} {assign body : Code} {gf : FuncId} {caps : List Value} {ds : List Nat} (enc : α → List Value) (xs : List α) (VB : β → List (Nat × Nat × Obj)) (I : List α → β → Prop) (b0 : β)
    (hF : IsFn P gf) (h0 : I [] b0) (hlen : ∀ x, (enc x).length = ps.size) (hCs : ∀ b, (setB bs (VB b)).map Prod.fst = bs.map Prod.fst) (hM : setB bs (VB b0) = bs)
    (hit : ∀ w W1 l (C : Nat → Prop), Mem.holds ⟨B, bs, ks, ms, rs⟩ w → Below w.heap.size w W1 → (∀ b, b < B.heap.size → ¬ C b) → (∀ k ∈ ks, ∀ b, k.lo ≤ b → b < k.hi → k.on b → ¬ C b) → (∀ b, C b → b < W1.heap.size) → Yields1 P gf caps enc xs C l W1)
    (hround : ∀ l D W (r : Loop) pre x post b, xs = pre ++ x :: post → I pre b → r.state = .ready → TC P ⟨some l, []⟩ N (zipL ps.toList (enc x) L) ⟨B, setB bs (VB b) ++ [(l, .loop r)], allBut W (turns l D (ms ++ rbOf rs) (bs.map Prod.fst)) :: ks, D :: ms, rs⟩ assign
      (BeginK P l body (RoundQ (I (pre ++ [x])) (fun b' => ⟨B, setB bs (VB b') ++ [busy l r], allBut W (turns l D (ms ++ rbOf rs) (bs.map Prod.fst)) :: ks, D :: ms, rs⟩))))
    (hdone : ∀ D b, I xs b → TP ⟨none, D :: ds⟩ N L ⟨B, setB bs (VB b), ks, D :: ms, rs⟩ .normal Q)
    (hg : ev L g = some (.func (.func gf) #[] caps.toArray) := by rfl) (hps : ps.toList.all (fun t => Nat.blt t N) = true := by rfl) :
    TC P ⟨none, ds⟩ N L ⟨B, bs, ks, ms, rs⟩ (.rangeFunc g ps assign body) Q :=
  tc_rangeFunc enc xs (fun b => setB bs (VB b)) (fun _ => ks) (bs.map Prod.fst) I b0 hg hF (Array.all_eq_true'.2 fun t ht => by have := List.all_eq_true.1 hps t (by simpa using ht); simpa using this) hlen hCs h0 (fun w h => by rw [hM]; exact h) hit hround hdone

theorem tp_roundF {β : Type} {I : β → Prop} {l D : Nat} {r : Loop} {Le : List (Nat × Value)} {B : World} {VB : β → List (Nat × Nat × Obj)} {bs bs' : List (Nat × Obj)} {ks ks' : List Kp} {ms : List Nat} {rs : List (Option (Nat × Obj))} (b' : β) (hI : I b') (h1 : bs'.drop (bs'.length - (bs.length + 1)) = setB bs (VB b') ++ [busy l r]) (h2 : ks'.drop (ks'.length - ks.length) = ks) :
    TP Z N Le ⟨B, bs', ks', D :: ms, rs⟩ .normal (RoundQ I (fun b' => ⟨B, setB bs (VB b') ++ [busy l r], ks, D :: ms, rs⟩)) :=
  fun _ w hf hm => ⟨b', hI, hm.less (h1 ▸ List.drop_sublist _ _) (h2 ▸ List.drop_sublist _ _)⟩

/-! ### loads from blocks that are kept -/
theorem qv_ldH {T : TypeId} {b o lo hi : Nat} {W : World} {cs : Array Value} {T0 : TypeId} {fz : Nat × Nat} (hT : Scalar P T) (hM : M.has W lo hi) (h1 : lo ≤ b) (h2 : b < hi) (hi' : W.heap[b]? = some (.cells cs T0 fz)) (hx : ev L x = some (.pointer (some ⟨b, o, none⟩))) (ho : cs[o]? = some v) :
    Qv P Z N L M ⟨d, .load T x, ty, pos, af, g⟩ v :=
  qv_load hx fun w hm => run_loadVar_scalar hT (cell_of (by rw [(hM w hm).2 b h1 h2]; exact hi') ho)
theorem qv_ldHW {T : TypeId} {b n lo hi : Nat} {W : World} {cs : Array Value} {T0 : TypeId} {fz : Nat × Nat} (hT : Agg P T n) (hM : M.has W lo hi) (h1 : lo ≤ b) (h2 : b < hi) (hi' : W.heap[b]? = some (.cells cs T0 fz)) (hx : ev L x = some (.pointer (some ⟨b, 0, none⟩))) (hn : cs.size = n) :
    Qv P Z N L M ⟨d, .load T x, ty, pos, af, g⟩ (.agg cs) := by
  have := qv_load (P := P) (Z := Z) (N := N) (L := L) (M := M) (d := d) (ty := ty) (pos := pos) (af := af) (g := g) (T := T) (v := .agg cs.toList.toArray) hx fun w hm => run_loadVar_agg (by simpa [hn] using hT) fun j hj => by
    have : w.heap[b]? = some (.cells cs T0 fz) := by rw [(hM w hm).2 b h1 h2]; exact hi'
    simp [World.cell?, this]
  simpa using this

/-! ### iterators -/
theorem Mem.init_known {w w' : World} {ks : List Kp} (h : (Mem.init w).holds w') (hk : ∀ k ∈ ks, k.w = w ∧ k.hi ≤ w.heap.size) : Mem.holds ⟨w, [], ks, [], []⟩ w' :=
  ⟨h.os, h.tape, h.output, h.size, h.old, fun p hp => by simp [Mem.all] at hp, by simp [Mem.all], fun k h' => ⟨Nat.le_trans (hk k h').2 h.size, fun b _ h2 _ => by rw [(hk k h').1]; exact h.old b (Nat.lt_of_lt_of_le h2 (hk k h').2)⟩, fun p hp => by simp [Mem.all] at hp⟩
theorem Mem.holds.rebase {M : Mem} {C : Nat → Prop} {w1 w2 : World} {ks : List Kp} (hm : M.holds w1) (hu : Upto C w1 w2) (h : ∀ k ∈ ks, k.hi ≤ w1.heap.size ∧ ∀ b, k.lo ≤ b → b < k.hi → k.on b → ¬ C b ∧ w1.heap[b]? = k.w.heap[b]?) : Mem.holds ⟨w2, [], ks, [], []⟩ w2 :=
  ⟨rfl, rfl, rfl, Nat.le_refl _, fun _ _ => rfl, fun p hp => by simp [Mem.all] at hp, by simp [Mem.all], fun k hk => ⟨Nat.le_trans (h k hk).1 hu.size, fun b h1 h2 h3 => by
    obtain ⟨h4, h5⟩ := (h k hk).2 b h1 h2 h3
    rw [hu.block b (Nat.lt_of_lt_of_le h2 (h k hk).1) h4]; exact h5⟩, fun p hp => by simp [Mem.all] at hp⟩

theorem not_at {C : Nat → Prop} {c b : Nat} (h : ¬ C c) (h1 : c ≤ b) (h2 : b < c + 1) : ¬ C b := by rwa [show b = c by omega]

/-- a guarded operation that is wanted -/
theorem tl_unguard {op : Op} {j t : Nat} {want : Bool} (h : TL P Z N L M ops (⟨d, op, ty, pos, af, none⟩ :: rest) Q) (hj : (ops[j]?).bind (·.dst) = some t := by rfl) (hl : L.lookup t = some (.bool want) := by rfl) : TL P Z N L M ops (⟨d, op, ty, pos, af, some (j, want)⟩ :: rest) Q := fun a w hf hm => by
  have h' := h a w hf hm
  unfold wpListIn at h' ⊢
  rw [if_pos (by rw [wanted_some rfl hj hf hl]; simp)]
  rw [if_pos (by simp [Region.wanted])] at h'
  exact h'

/-- yield in an iterator that keeps J -/
theorem tl_yieldJ {α : Type} {C : Nat → Prop} {J : List α → World → Prop} {enc : α → List Value} {dd l : Nat} {args : Array Operand} {at' : Array TypeId} {fo : Operand} (hJ : ∀ pre W W', J pre W → Below W.heap.size W W' → J pre W') (pre : List α) (e : α)
    (hY : ∀ W, J pre W → YieldAt (FW none) 0 P l (enc e).toArray W fun e' W' => e' = .returned (.bool true) ∧ J (pre ++ [e]) W' ∧ Upto C W W')
    (h0 : J pre M.base) (hfo : ev L fo = some (.func (.yield l) #[] #[])) (hvs : evs L args.toList = some (enc e))
    (h : ∀ w1 w2, M.holds w1 → J (pre ++ [e]) w2 → Upto C w1 w2 → ∃ M' : Mem, M'.holds w2 ∧ TL P Z N ((dd, .bool true) :: L) M' ops rest Q) (hd : dd < N := by decide) :
    TL P Z N L M ops (⟨some dd, .call { callee := .value fo, args := args, argTypes := at' }, ty, pos, af, none⟩ :: rest) Q :=
  tl_yield (β := Unit) (val := fun _ => .bool true) (R := fun _ w1 w2 => J (pre ++ [e]) w2 ∧ Upto C w1 w2) hfo hvs (fun w hm => by
    obtain ⟨fn, tmps, assign, body, h1, h2⟩ := hY w (hJ pre _ _ h0 hm.below)
    exact ⟨fn, tmps, assign, body, h1, RoundIn.mono h2 fun e' W' ⟨h3, h4, h5⟩ => ⟨(), h3, h4, h5⟩⟩) (fun _ w1 w2 hm ⟨h4, h5⟩ => h w1 w2 hm h4 h5) hd

/-! ### the loop of an iterator: the world since the last yield is a ghost -/
def AgainW {β : Type} (Z : Env) (N : Nat) (L : List (Nat × Value)) (ks : List Kp) (V : β → List (Nat × Value)) (I : β → World → Prop) (μ : β → Nat) (b : β) : Act → World → Prop :=
  fun a w => ∃ p : β × World, I p.1 p.2 ∧ μ p.1 < μ b ∧ Fr Z N (V p.1 ++ L) a ∧ Mem.holds ⟨p.2, [], ks, [], []⟩ w
theorem tc_loopW {β : Type} {c : Code} (ks : List Kp) (V : β → List (Nat × Value)) (I : β → World → Prop) (μ : β → Nat) (b₀ : β) (W₀ : World) (h0 : I b₀ W₀) (hL : Sub L (V b₀)) (hM : ∀ w, M.holds w → Mem.holds ⟨W₀, [], ks, [], []⟩ w)
    (round : ∀ b W, I b W → TC P Z N (V b ++ L) ⟨W, [], ks, [], []⟩ c (Exit.then (AgainW Z N L ks V I μ b) Q)) : TC P Z N L M (.loop c) Q :=
  tc_loopV (β := β × World) (fun p => V p.1) (fun p => ⟨p.2, [], ks, [], []⟩) (fun p => I p.1 p.2) (fun p => μ p.1) (b₀, W₀) h0 hL hM (fun p hI => round p.1 p.2 hI)
theorem tp_roundW {β : Type} {V : β → List (Nat × Value)} {I : β → World → Prop} {μ : β → Nat} {b : β} {Le : List (Nat × Value)} {W : World} {bs' : List (Nat × Obj)} {ks ks' : List Kp} (b' : β) (hI : I b' W) (hμ : μ b' < μ b) (hV : Sub Le (V b')) (hE : Le.drop (Le.length - L.length) = L)
    (hk : (Le.take (Le.length - L.length)).all (fun p => hasKey (V b') p.1 || (L.lookup p.1).isNone) = true) (h2 : ks'.drop (ks'.length - ks.length) = ks) :
    TP Z N Le ⟨W, bs', ks', [], []⟩ .normal (Exit.then (AgainW Z N L ks V I μ b) Q) :=
  fun _ w hf hm => ⟨(b', W), hI, hμ, hf.again hV hE hk, hm.less (List.nil_sublist _) (h2 ▸ List.drop_sublist _ _)⟩

theorem Mem.has.later {W w w' : World} {lo hi : Nat} (h : M.has W lo hi) (hm : M.holds w) (hb : Below w.heap.size w w') : hi ≤ w'.heap.size ∧ ∀ b, lo ≤ b → b < hi → w'.heap[b]? = W.heap[b]? :=
  ⟨Nat.le_trans (h w hm).1 hb.size, fun b h1 h2 => by rw [hb.block b (Nat.lt_of_lt_of_le h2 (h w hm).1)]; exact (h w hm).2 b h1 h2⟩

theorem qv_negI {T : TypeId} {n : Int} (hx : ev L x = some (.int .i64 n)) (h : -9223372036854775808 ≤ 0 - n ∧ 0 - n ≤ 9223372036854775807) : Qv P Z N L M ⟨d, .unOp .neg T x, ty, pos, af, g⟩ (.int .i64 (-n)) := by
  have := qv_neg (P := P) (Z := Z) (N := N) (M := M) (d := d) (ty := ty) (pos := pos) (af := af) (g := g) (T := T) hx
  rwa [wrap_in h.1 h.2, Int.zero_sub] at this

def BuildArr (P : Program) (T : TypeId) (sz : Nat) (zs : Array Value) : Prop := ∃ n E, P.underlying T = some (.array n E) ∧ Size P E sz ∧ Zero P T zs
theorem qv_buildA {T : TypeId} {parts : Array (Nat × Operand)} {sz : Nat} {zs cells : Array Value} {ps : List (Nat × Value)} (hT : BuildArr P T sz zs) (hp : evp L parts.toList = some ps) (hc : Instr.fill (fun i => some (i * sz, sz)) zs ps = some cells) :
    Qv P Z N L M ⟨d, .build T parts, ty, pos, af, g⟩ (.agg cells) := qv_of fun a hf w _ => by
  obtain ⟨n, E, hu, hs, hz⟩ := hT
  obtain ⟨z, hz1, hz2⟩ := hz w
  have hm : parts.map (fun (i, x) => (i, a.eval x)) = ps.toArray := by
    apply Array.ext'
    simpa using evp_map hf hp
  have : (Instr.build T ps.toArray).run P w = .ok (.agg cells) w := by
    simp only [Instr.build, Sem.run_bind, hz1, Result.andThen_ok, run_underlying hu, hs w, hz2, hc, Sem.run_pure]
  simp only [execOp, Sem.run_bind]
  rw [hm, this]
  rfl

/-- the first elements of a slice -/
theorem SlAt.take {α : Type} {W : World} {lo hi sz : Nat} {enc : α → List Value} {a : Option Addr} {l : List α} (h : SlAt W lo hi sz enc a l) (k : Nat) : SlAt W lo hi sz enc a (l.take k) :=
  ⟨Nat.le_trans (List.length_take_le' _ _) h.len, fun x hx => h.szs x (List.mem_of_mem_take hx), fun hn => h.nz (fun e => hn (by rw [e]; simp)), fun i j x v hx hv => h.cell i j x v (by
    rw [List.getElem?_take] at hx
    split at hx
    · exact hx
    · cases hx) hv⟩

theorem qv_sliceN {α : Type} {T sz c i : Nat} {k : IntKind} {enc : α → List Value} {a : Option Addr} {l : List α} {W : World} {lo hi : Nat} (hT : SliceTy P T sz) (hs : SlAt W lo hi sz enc a l)
    (hx : ev L x = some (.slice a l.length c)) (hy : ev L y = some (.int k (i : Int))) (h : 0 < i ∧ i ≤ l.length) (hc : l.length ≤ c) : Qv P Z N L M ⟨d, .slice T x none (some y) none, ty, pos, af, g⟩ (.slice a (l.take i).length c) := qv_of fun a' hf w _ => by
  obtain ⟨E, hE, hsz⟩ := hT
  obtain ⟨e, _, _⟩ := hs.nz (fun e => by subst e; simp at h; omega)
  have hl : (l.take i).length = i := by simp; omega
  rw [hl]
  have : (Instr.sliceAt T (.slice a l.length c) none (some (.int k (i : Int))) none).run P w = .ok (.slice a i c) w := by
    rw [e]
    have h1 : i ≤ c := by omega
    simp [Instr.sliceAt, Instr.slice, Instr.sliceBounds, Instr.sliceBound, asIntOf, run_underlying hE, hsz w, add_none, blk, offs, h1]
  simp [execOp, hf.eval hx, hf.eval hy, this]
theorem qv_sliceHi {α : Type} {T sz c : Nat} {n : Int} {k : IntKind} {enc : α → List Value} {a : Option Addr} {l : List α} {W : World} {lo hi : Nat} (hT : SliceTy P T sz) (hs : SlAt W lo hi sz enc a l)
    (hx : ev L x = some (.slice a l.length c)) (hy : ev L y = some (.int k n)) (h : 0 < n ∧ n ≤ l.length) (hc : l.length ≤ c) : Qv P Z N L M ⟨d, .slice T x none (some y) none, ty, pos, af, g⟩ (.slice a (l.take n.toNat).length c) := qv_of fun a' hf w _ => by
  obtain ⟨E, hE, hsz⟩ := hT
  obtain ⟨e, _, _⟩ := hs.nz (fun e => by subst e; simp at h; omega)
  have hl : (l.take n.toNat).length = n.toNat := by simp; omega
  rw [hl]
  have : (Instr.sliceAt T (.slice a l.length c) none (some (.int k n)) none).run P w = .ok (.slice a n.toNat c) w := by
    rw [e]
    have h1 : 0 ≤ n ∧ n ≤ (c : Int) := by omega
    simp [Instr.sliceAt, Instr.slice, Instr.sliceBounds, Instr.sliceBound, asIntOf, run_underlying hE, hsz w, add_none, blk, offs, h1]
  simp [execOp, hf.eval hx, hf.eval hy, this]
end
end Go.Q
