/- The operations: what each yields. -/
import Derived.Test.YtgcpocaaepoafaaQ2
set_option linter.unusedVariables false
set_option linter.unusedSimpArgs false
set_option linter.unusedSectionVars false
namespace Go.Q
open Go Go.RowKit

/-! ### what is asked of types (closed facts of a program) -/
def Scalar (P : Program) (T : TypeId) : Prop := ∀ w, (isAgg T).run P w = .ok false w
def Agg (P : Program) (T : TypeId) (n : Nat) : Prop := ∀ w, (isAgg T).run P w = .ok true w ∧ (sizeOf T).run P w = .ok n w
def Size (P : Program) (T : TypeId) (n : Nat) : Prop := ∀ w, (sizeOf T).run P w = .ok n w
def FOff (P : Program) (S f off : Nat) : Prop := ∀ (b o : Nat) (w : World), (Instr.fieldAt S (.pointer (some ⟨b, o, none⟩)) f).run P w = .ok (.pointer (some ⟨b, o + off, none⟩)) w
def SliceTy (P : Program) (T sz : Nat) : Prop := ∃ E, P.underlying T = some (.slice E) ∧ Size P E sz
def ArrTy (P : Program) (T n sz : Nat) : Prop := ∃ E, P.underlying T = some (.array n E) ∧ Size P E sz
def Zero (P : Program) (T : TypeId) (cs : Array Value) : Prop := ∀ w, ∃ z, (zeroValue T).run P w = .ok z w ∧ z.cells = cs
def IsFn (P : Program) (f : FuncId) : Prop := ∀ args w, (callFunc f args).run P w = .ok (.enter f args) w

theorem isFn_of {P : Program} {f : FuncId} {fn : Func} (hf : P.funcs[f]? = some fn) (hn : (fn.name == "runtime.NumGoroutine") = false) (hb : fn.body.isNone = false) : IsFn P f := by
  intro args w
  simp only [callFunc, Sem.run_bind, run_program, Result.andThen_ok, hf]
  simp [hn, hb]

/-! ### memory -/
def Mem.has (M : Mem) (W : World) (lo hi : Nat) : Prop := ∀ w, M.holds w → hi ≤ w.heap.size ∧ ∀ b, lo ≤ b → b < hi → w.heap[b]? = W.heap[b]?

theorem Mem.has_base {B : World} {bs : List (Nat × Obj)} {ks : List Kp} {ms : List Nat} {rs : List (Option (Nat × Obj))} : Mem.has ⟨B, bs, ks, ms, rs⟩ B 0 B.heap.size := fun _ h => ⟨h.size, fun b _ hb => h.old b hb⟩
theorem Mem.has_kept {B : World} {bs : List (Nat × Obj)} {ks : List Kp} {ms : List Nat} {rs : List (Option (Nat × Obj))} {W : World} {lo hi : Nat} (h : Kin W lo hi ∈ ks) : Mem.has ⟨B, bs, ks, ms, rs⟩ W lo hi := fun _ hm => ⟨(hm.kept _ h).1, fun b h1 h2 => (hm.kept _ h).2 b h1 h2 trivial⟩

theorem add_none (b o n : Nat) : (⟨b, o, none⟩ : Addr).add n = ⟨b, o + n, none⟩ := by
  unfold Addr.add
  split
  · rename_i h; subst h; rfl
  · rfl

theorem cell_of {w : World} {b o : Nat} {cs : Array Value} {T : TypeId} {fz : Nat × Nat} {v : Value} (h : w.heap[b]? = some (.cells cs T fz)) (hv : cs[o]? = some v) : w.cell? ⟨b, o, none⟩ = some v := by
  simp [World.cell?, h, hv]

theorem cell_same {w w' : World} {b o : Nat} (h : w'.heap[b]? = w.heap[b]?) : w'.cell? ⟨b, o, none⟩ = w.cell? ⟨b, o, none⟩ := by simp [World.cell?, h]

/-! ### slices that are read -/
def blk : Option Addr → Nat | some p => p.block | none => 0
def offs : Option Addr → Nat | some p => p.off | none => 0

structure SlAt {α : Type} (W : World) (lo hi sz : Nat) (enc : α → List Value) (a : Option Addr) (l : List α) : Prop where
  len : l.length ≤ maxLen
  szs : ∀ x ∈ l, (enc x).length = sz
  nz : l ≠ [] → a = some ⟨blk a, offs a, none⟩ ∧ lo ≤ blk a ∧ blk a < hi
  cell : ∀ i j x v, l[i]? = some x → (enc x)[j]? = some v → W.cell? ⟨blk a, offs a + i * sz + j, none⟩ = some v

def SlIn {α : Type} (w : World) (sz : Nat) (enc : α → List Value) (a : Option Addr) (l : List α) : Prop := SlAt w 0 w.heap.size sz enc a l

theorem SlAt.move {α : Type} {W w : World} {lo hi lo' hi' sz : Nat} {enc : α → List Value} {a : Option Addr} {l : List α} (h : SlAt W lo hi sz enc a l) (hk : ∀ b, lo ≤ b → b < hi → w.heap[b]? = W.heap[b]?)
    (h1 : lo' ≤ lo) (h2 : hi ≤ hi') : SlAt w lo' hi' sz enc a l := by
  refine ⟨h.len, h.szs, fun hn => ?_, fun i j x v hx hv => ?_⟩
  · obtain ⟨e, h3, h4⟩ := h.nz hn
    exact ⟨e, by omega, by omega⟩
  · have hn : l ≠ [] := fun e => by subst e; simp at hx
    obtain ⟨_, h3, h4⟩ := h.nz hn
    rw [cell_same (hk _ h3 h4)]
    exact h.cell i j x v hx hv

theorem SlAt.into {α : Type} {M : Mem} {W w : World} {lo hi sz : Nat} {enc : α → List Value} {a : Option Addr} {l : List α} (h : SlAt W lo hi sz enc a l) (hM : M.has W lo hi) (hm : M.holds w) : SlIn w sz enc a l :=
  h.move (hM w hm).2 (Nat.zero_le _) (hM w hm).1

theorem SlIn.ext {α : Type} {w w' : World} {sz : Nat} {enc : α → List Value} {a : Option Addr} {l : List α} (h : SlIn w sz enc a l) (hb : Below w.heap.size w w') : SlIn w' sz enc a l :=
  SlAt.move h (fun b _ hlt => hb.block b hlt) (Nat.le_refl _) hb.size

/-! ### operations -/
section
variable {P : Program} {Z : Env} {N : Nat} {L : List (Nat × Value)} {M : Mem} {d : Option Tmp} {ty : TypeId} {pos : String} {af : Array Edge} {g : Option (Nat × Bool)} {x y : Operand} {v : Value}

theorem qv_of {o : Oper} (h : ∀ a, Fr Z N L a → ∀ w, M.holds w → (execOp a.eval o).run P w = .ok (.value v) w) : Qv P Z N L M o v := fun a hf w hm => by
  unfold Oper.quietAt
  rw [h a hf w hm]
  exact ⟨rfl, rfl⟩

theorem qv_move (hx : ev L x = some v) : Qv P Z N L M ⟨d, .move x, ty, pos, af, g⟩ v := qv_of fun a hf w _ => by
  simp [execOp, hf.eval hx]
theorem qv_assign (hx : ev L x = some v) : Qv P Z N L M ⟨d, .assign x, ty, pos, af, g⟩ v := qv_of fun a hf w _ => by
  simp [execOp, hf.eval hx]
theorem qv_pickT {c : Operand} (hc : ev L c = some (.bool true)) (hx : ev L x = some v) : Qv P Z N L M ⟨d, .pick c x y, ty, pos, af, g⟩ v := qv_of fun a hf w _ => by
  simp [execOp, hf.eval hc, hf.eval hx, asBool]
theorem qv_pickF {c : Operand} (hc : ev L c = some (.bool false)) (hy : ev L y = some v) : Qv P Z N L M ⟨d, .pick c x y, ty, pos, af, g⟩ v := qv_of fun a hf w _ => by
  simp [execOp, hf.eval hc, hf.eval hy, asBool]
theorem qv_not {T : TypeId} {b : Bool} (hx : ev L x = some (.bool b)) : Qv P Z N L M ⟨d, .unOp .not T x, ty, pos, af, g⟩ (.bool (!b)) := qv_of fun a hf w _ => by
  simp [execOp, hf.eval hx, Op.unary]
theorem qv_neg {T : TypeId} {k : IntKind} {n : Int} (hx : ev L x = some (.int k n)) : Qv P Z N L M ⟨d, .unOp .neg T x, ty, pos, af, g⟩ (.int k (k.wrap (0 - n))) := qv_of fun a hf w _ => by
  simp [execOp, hf.eval hx, Op.unary, Op.intArith]

section ints
variable {T T' : TypeId} {k : IntKind} {m n : Int}
theorem qv_lss (hx : ev L x = some (.int k m)) (hy : ev L y = some (.int k n)) : Qv P Z N L M ⟨d, .binOp .lss T x y T', ty, pos, af, g⟩ (.bool (decide (m < n))) := qv_of fun a hf w _ => by
  simp [execOp, hf.eval hx, hf.eval hy, eqGuard, binOp, Op.intCmp]
theorem qv_leq (hx : ev L x = some (.int k m)) (hy : ev L y = some (.int k n)) : Qv P Z N L M ⟨d, .binOp .leq T x y T', ty, pos, af, g⟩ (.bool (decide (m ≤ n))) := qv_of fun a hf w _ => by
  simp [execOp, hf.eval hx, hf.eval hy, eqGuard, binOp, Op.intCmp]
theorem qv_gtr (hx : ev L x = some (.int k m)) (hy : ev L y = some (.int k n)) : Qv P Z N L M ⟨d, .binOp .gtr T x y T', ty, pos, af, g⟩ (.bool (decide (n < m))) := qv_of fun a hf w _ => by
  simp [execOp, hf.eval hx, hf.eval hy, eqGuard, binOp, Op.intCmp]
theorem qv_geq (hx : ev L x = some (.int k m)) (hy : ev L y = some (.int k n)) : Qv P Z N L M ⟨d, .binOp .geq T x y T', ty, pos, af, g⟩ (.bool (decide (n ≤ m))) := qv_of fun a hf w _ => by
  simp [execOp, hf.eval hx, hf.eval hy, eqGuard, binOp, Op.intCmp]
theorem qv_eql (hx : ev L x = some (.int k m)) (hy : ev L y = some (.int k n)) : Qv P Z N L M ⟨d, .binOp .eql T x y T', ty, pos, af, g⟩ (.bool (decide (m = n))) := qv_of fun a hf w _ => by
  have e : (m == n) = decide (m = n) := by rw [Bool.eq_iff_iff]; simp
  simp [execOp, hf.eval hx, hf.eval hy, eqGuard, binOp, Op.intCmp, e]
theorem qv_neq (hx : ev L x = some (.int k m)) (hy : ev L y = some (.int k n)) : Qv P Z N L M ⟨d, .binOp .neq T x y T', ty, pos, af, g⟩ (.bool (decide (m ≠ n))) := qv_of fun a hf w _ => by
  have e : (m != n) = decide (m ≠ n) := by rw [Bool.eq_iff_iff]; simp
  simp [execOp, hf.eval hx, hf.eval hy, eqGuard, binOp, Op.intCmp, e]
theorem qv_add (hx : ev L x = some (.int k m)) (hy : ev L y = some (.int k n)) : Qv P Z N L M ⟨d, .binOp .add T x y T', ty, pos, af, g⟩ (.int k (k.wrap (m + n))) := qv_of fun a hf w _ => by
  simp [execOp, hf.eval hx, hf.eval hy, eqGuard, binOp, Op.intArith]
theorem qv_sub (hx : ev L x = some (.int k m)) (hy : ev L y = some (.int k n)) : Qv P Z N L M ⟨d, .binOp .sub T x y T', ty, pos, af, g⟩ (.int k (k.wrap (m - n))) := qv_of fun a hf w _ => by
  simp [execOp, hf.eval hx, hf.eval hy, eqGuard, binOp, Op.intArith]
theorem qv_mul (hx : ev L x = some (.int k m)) (hy : ev L y = some (.int k n)) : Qv P Z N L M ⟨d, .binOp .mul T x y T', ty, pos, af, g⟩ (.int k (k.wrap (m * n))) := qv_of fun a hf w _ => by
  simp [execOp, hf.eval hx, hf.eval hy, eqGuard, binOp, Op.intArith]
theorem qv_quo (hx : ev L x = some (.int k m)) (hy : ev L y = some (.int k n)) (h0 : n ≠ 0) : Qv P Z N L M ⟨d, .binOp .quo T x y T', ty, pos, af, g⟩ (.int k (k.wrap (m.tdiv n))) := qv_of fun a hf w _ => by
  simp [execOp, hf.eval hx, hf.eval hy, eqGuard, binOp, Op.intDiv, h0]
theorem qv_rem (hx : ev L x = some (.int k m)) (hy : ev L y = some (.int k n)) (h0 : n ≠ 0) : Qv P Z N L M ⟨d, .binOp .rem T x y T', ty, pos, af, g⟩ (.int k (m.tmod n)) := qv_of fun a hf w _ => by
  simp [execOp, hf.eval hx, hf.eval hy, eqGuard, binOp, Op.intDiv, h0]

theorem wrap_in {n : Int} (h0 : -9223372036854775808 ≤ n) (h1 : n ≤ 9223372036854775807) : IntKind.i64.wrap n = n := IntWalk.i64_in n (by omega)

/-- sums that fit -/
theorem qv_addI (hx : ev L x = some (.int .i64 m)) (hy : ev L y = some (.int .i64 n)) (h : -9223372036854775808 ≤ m + n ∧ m + n ≤ 9223372036854775807) : Qv P Z N L M ⟨d, .binOp .add T x y T', ty, pos, af, g⟩ (.int .i64 (m + n)) := by
  have := qv_add (P := P) (Z := Z) (N := N) (M := M) (d := d) (ty := ty) (pos := pos) (af := af) (g := g) (T := T) (T' := T') hx hy
  rwa [wrap_in h.1 h.2] at this
theorem qv_subI (hx : ev L x = some (.int .i64 m)) (hy : ev L y = some (.int .i64 n)) (h : -9223372036854775808 ≤ m - n ∧ m - n ≤ 9223372036854775807) : Qv P Z N L M ⟨d, .binOp .sub T x y T', ty, pos, af, g⟩ (.int .i64 (m - n)) := by
  have := qv_sub (P := P) (Z := Z) (N := N) (M := M) (d := d) (ty := ty) (pos := pos) (af := af) (g := g) (T := T) (T' := T') hx hy
  rwa [wrap_in h.1 h.2] at this
theorem qv_mulI (hx : ev L x = some (.int .i64 m)) (hy : ev L y = some (.int .i64 n)) (h : -9223372036854775808 ≤ m * n ∧ m * n ≤ 9223372036854775807) : Qv P Z N L M ⟨d, .binOp .mul T x y T', ty, pos, af, g⟩ (.int .i64 (m * n)) := by
  have := qv_mul (P := P) (Z := Z) (N := N) (M := M) (d := d) (ty := ty) (pos := pos) (af := af) (g := g) (T := T) (T' := T') hx hy
  rwa [wrap_in h.1 h.2] at this
/-- a counter's next number -/
theorem qv_succ {i : Nat} (hx : ev L x = some (.int .i64 (i : Int))) (hy : ev L y = some (.int .i64 1)) (h : i < 9223372036854775807) : Qv P Z N L M ⟨d, .binOp .add T x y T', ty, pos, af, g⟩ (.int .i64 ((i + 1 : Nat) : Int)) := by
  exact qv_addI hx hy (by omega)
/-- remainders of numbers that are not negative -/
theorem qv_remI (hx : ev L x = some (.int k m)) (hy : ev L y = some (.int k n)) (h0 : 0 < n) (hm : 0 ≤ m) : Qv P Z N L M ⟨d, .binOp .rem T x y T', ty, pos, af, g⟩ (.int k (m % n)) := by
  have := qv_rem (P := P) (Z := Z) (N := N) (M := M) (d := d) (ty := ty) (pos := pos) (af := af) (g := g) (T := T) (T' := T') hx hy (by omega)
  rwa [Int.tmod_eq_emod_of_nonneg hm] at this
theorem qv_quoI (hx : ev L x = some (.int .i64 m)) (hy : ev L y = some (.int .i64 n)) (h0 : 0 < n) (hm : 0 ≤ m) (hb : m ≤ 9223372036854775807) : Qv P Z N L M ⟨d, .binOp .quo T x y T', ty, pos, af, g⟩ (.int .i64 (m / n)) := by
  have := qv_quo (P := P) (Z := Z) (N := N) (M := M) (d := d) (ty := ty) (pos := pos) (af := af) (g := g) (T := T) (T' := T') hx hy (by omega)
  rw [Int.tdiv_eq_ediv_of_nonneg hm] at this
  have h1 : 0 ≤ m / n := Int.ediv_nonneg hm (by omega)
  have h2 : m / n ≤ m := Int.ediv_le_self _ hm
  rwa [wrap_in (by omega) (by omega)] at this
theorem qv_min2 {at' : Array TypeId} (hx : ev L x = some (.int k m)) (hy : ev L y = some (.int k n)) : Qv P Z N L M ⟨d, .call { callee := .builtin .min, args := #[x, y], argTypes := at' }, ty, pos, af, g⟩ (.int k (if n < m then n else m)) := qv_of fun a hf w _ => by
  simp [execOp, resolve, invoke, builtin, Builtin.min_, Builtin.min2, hf.eval hx, hf.eval hy]
end ints

theorem run_equalIn_bool {T : TypeId} (hT : P.underlying T = some .bool) (d : Nat) (b c : Bool) (w : World) : (Op.equalIn (d + 1) T (.bool b) (.bool c)).run P w = .ok (b == c) w := by
  simp [Op.equalIn, run_underlying hT]

theorem qv_eqlB {T T' : TypeId} {b c : Bool} (hT : P.underlying T = some .bool) (hx : ev L x = some (.bool b)) (hy : ev L y = some (.bool c)) : Qv P Z N L M ⟨d, .binOp .eql T x y T', ty, pos, af, g⟩ (.bool (b == c)) := qv_of fun a hf w _ => by
  have h1 : (Op.equal T (.bool b) (.bool c)).run P w = .ok (b == c) w := by
    exact run_equalIn_bool hT 9999 b c w
  have h2 : (binOp .eql T (.bool b) (.bool c)).run P w = .ok (.bool (b == c)) w := by
    show ((do pure (.bool (← Op.equal T (.bool b) (.bool c)))) : Sem Value).run P w = _
    simp [h1]
  simp [execOp, hf.eval hx, hf.eval hy, eqGuard, h2]

theorem qv_len {T : TypeId} {sz : Nat} {a : Option Addr} {n c : Nat} (hT : SliceTy P T sz) (hx : ev L x = some (.slice a n c)) : Qv P Z N L M ⟨d, .call { callee := .builtin .len, args := #[x], argTypes := #[T] }, ty, pos, af, g⟩ (.int .i64 (n : Int)) := qv_of fun a' hf w _ => by
  obtain ⟨E, hE, _⟩ := hT
  simp [execOp, resolve, invoke, builtin, Builtin.len_, hf.eval hx, run_underlying hE, goInt]

theorem qv_makeFunc {fn : Fn} {cap : Array Operand} {vs : List Value} (hvs : cap.toList.mapM (ev L) = some vs) : Qv P Z N L M ⟨d, .makeFunc fn #[] cap, ty, pos, af, g⟩ (.func fn #[] vs.toArray) := qv_of fun a hf w _ => by
  have : cap.map a.eval = vs.toArray := by
    apply Array.ext'
    simp only [Array.toList_map]
    generalize cap.toList = l at hvs
    induction l generalizing vs with
    | nil => simp at hvs; subst hvs; rfl
    | cons o l ih =>
      simp only [List.mapM_cons, Option.bind_eq_bind, Option.pure_def, Option.bind_eq_some_iff, Option.some.injEq] at hvs
      obtain ⟨u, hu, us, hus, rfl⟩ := hvs
      simp [hf.eval hu, ih hus]
  simp [execOp, Instr.makeFunc, this]

theorem qv_extract {i : Nat} {vs : Array Value} (hx : ev L x = some (.tuple vs)) (hi : vs[i]? = some v) : Qv P Z N L M ⟨d, .extract x i, ty, pos, af, g⟩ v := qv_of fun a hf w _ => by
  simp [execOp, Instr.extract, hf.eval hx, hi]

/-! addresses -/
theorem qv_fa {S f off b o : Nat} (hF : FOff P S f off) (hx : ev L x = some (.pointer (some ⟨b, o, none⟩))) : Qv P Z N L M ⟨d, .fieldAddr S x f, ty, pos, af, g⟩ (.pointer (some ⟨b, o + off, none⟩)) := qv_of fun a hf w _ => by
  simp [execOp, hf.eval hx, hF b o w]

theorem qv_ia {α : Type} {T sz cap : Nat} {i : Int} {k : IntKind} {enc : α → List Value} {a : Option Addr} {l : List α} {W : World} {lo hi : Nat} (hT : SliceTy P T sz) (hs : SlAt W lo hi sz enc a l)
    (hx : ev L x = some (.slice a l.length cap)) (hy : ev L y = some (.int k i)) (h : 0 ≤ i ∧ i < l.length) : Qv P Z N L M ⟨d, .indexAddr T x y, ty, pos, af, g⟩ (.pointer (some ⟨blk a, offs a + i.toNat * sz, none⟩)) := qv_of fun a' hf w _ => by
  obtain ⟨E, hE, hsz⟩ := hT
  obtain ⟨e, _, _⟩ := hs.nz (fun e => by subst e; simp at h; omega)
  have : (Instr.indexAt T (.slice a l.length cap) (.int k i)).run P w = .ok (.pointer (some ⟨blk a, offs a + i.toNat * sz, none⟩)) w := by
    rw [e]
    simp [Instr.indexAt, asIntOf, run_underlying hE, h, hsz w, add_none, blk, offs]
  simp [execOp, hf.eval hx, hf.eval hy, this]

theorem qv_iaN {α : Type} {T sz cap : Nat} {i : Nat} {k : IntKind} {enc : α → List Value} {a : Option Addr} {l : List α} {W : World} {lo hi : Nat} (hT : SliceTy P T sz) (hs : SlAt W lo hi sz enc a l)
    (hx : ev L x = some (.slice a l.length cap)) (hy : ev L y = some (.int k (i : Int))) (h : i < l.length) : Qv P Z N L M ⟨d, .indexAddr T x y, ty, pos, af, g⟩ (.pointer (some ⟨blk a, offs a + i * sz, none⟩)) := by
  have := qv_ia (P := P) (Z := Z) (N := N) (M := M) (d := d) (ty := ty) (pos := pos) (af := af) (g := g) hT hs hx hy (by omega)
  simpa using this

/-- an element of an array behind a pointer -/
theorem qv_iA {T n sz b o : Nat} {i : Int} {k : IntKind} (hT : ArrTy P T n sz) (hx : ev L x = some (.pointer (some ⟨b, o, none⟩))) (hy : ev L y = some (.int k i)) (h : 0 ≤ i ∧ i < n) :
    Qv P Z N L M ⟨d, .indexAddr T x y, ty, pos, af, g⟩ (.pointer (some ⟨b, o + i.toNat * sz, none⟩)) := qv_of fun a' hf w _ => by
  obtain ⟨E, hE, hsz⟩ := hT
  have : (Instr.indexAt T (.pointer (some ⟨b, o, none⟩)) (.int k i)).run P w = .ok (.pointer (some ⟨b, o + i.toNat * sz, none⟩)) w := by
    simp [Instr.indexAt, asIntOf, run_underlying hE, h, hsz w, add_none, Instr.sureAddr]
  simp [execOp, hf.eval hx, hf.eval hy, this]

/-! loads -/
theorem qv_load {T : TypeId} {p : Addr} (hx : ev L x = some (.pointer (some p))) (h : ∀ w, M.holds w → (loadVar T p).run P w = .ok v w) : Qv P Z N L M ⟨d, .load T x, ty, pos, af, g⟩ v := qv_of fun a hf w hm => by
  simp [execOp, hf.eval hx, Instr.loadAt, Instr.sureAddr, h w hm]

theorem run_loadVar_scalar {T : TypeId} {p : Addr} {w : World} (hT : Scalar P T) (hc : w.cell? p = some v) : (loadVar T p).run P w = .ok v w := by
  simp [loadVar, hT w, hc]

theorem run_loadCellsFrom {w : World} {b o : Nat} (vs : List Value) : ∀ (i : Nat) (acc : Array Value), (∀ j, j < vs.length → w.cell? ⟨b, o + (i + j), none⟩ = vs[j]?) →
    (loadCellsFrom ⟨b, o, none⟩ i vs.length acc).run P w = .ok (acc ++ vs.toArray) w := by
  induction vs with
  | nil => intro i acc _; simp [loadCellsFrom]
  | cons v vs ih =>
    intro i acc h
    have h0 := h 0 (by simp)
    simp only [Nat.add_zero, List.getElem?_cons_zero] at h0
    simp only [List.length_cons, loadCellsFrom, Sem.run_bind, run_load, add_none, h0, Result.andThen_ok]
    rw [ih (i + 1) (acc.push v) (fun j hj => by
      have := h (j + 1) (by simpa using hj)
      rw [show o + (i + 1 + j) = o + (i + (j + 1)) by omega, this]
      simp)]
    simp

theorem run_loadVar_agg {T : TypeId} {w : World} {b o : Nat} {vs : List Value} (hT : Agg P T vs.length) (h : ∀ j, j < vs.length → w.cell? ⟨b, o + j, none⟩ = vs[j]?) :
    (loadVar T ⟨b, o, none⟩).run P w = .ok (.agg vs.toArray) w := by
  simp only [loadVar, Sem.run_bind, (hT w).1, Result.andThen_ok, (hT w).2, if_true, loadCells]
  rw [run_loadCellsFrom vs 0 #[] (fun j hj => by rw [Nat.zero_add]; exact h j hj)]
  simp

/-- out of a box -/
theorem qv_ldB {T : TypeId} {B : World} {bs : List (Nat × Obj)} {ks : List Kp} {ms : List Nat} {rs : List (Option (Nat × Obj))} {i b o : Nat} {cs : Array Value} {T0 : TypeId} {fz : Nat × Nat} (hT : Scalar P T) (hx : ev L x = some (.pointer (some ⟨b, o, none⟩)))
    (hi : bs[i]? = some (b, .cells cs T0 fz)) (ho : cs[o]? = some v) : Qv P Z N L ⟨B, bs, ks, ms, rs⟩ ⟨d, .load T x, ty, pos, af, g⟩ v :=
  qv_load hx fun w hm => run_loadVar_scalar hT (cell_of (hm.boxOf (List.mem_of_getElem? hi)).2 ho)

theorem qv_ldBA {T : TypeId} {B : World} {bs : List (Nat × Obj)} {ks : List Kp} {ms : List Nat} {rs : List (Option (Nat × Obj))} {i b o n : Nat} {cs : Array Value} {T0 : TypeId} {fz : Nat × Nat} {vs : List Value} (hT : Agg P T n) (hx : ev L x = some (.pointer (some ⟨b, o, none⟩)))
    (hi : bs[i]? = some (b, .cells cs T0 fz)) (hn : vs.length = n) (ho : ∀ j, j < n → cs[o + j]? = vs[j]?) : Qv P Z N L ⟨B, bs, ks, ms, rs⟩ ⟨d, .load T x, ty, pos, af, g⟩ (.agg vs.toArray) :=
  qv_load hx fun w hm => run_loadVar_agg (hn ▸ hT) fun j hj => by
    rw [← ho j (hn ▸ hj)]
    have hb := (hm.boxOf (List.mem_of_getElem? hi)).2
    simp [World.cell?, hb]

/-- a box as a whole -/
theorem qv_ldBW {T : TypeId} {B : World} {bs : List (Nat × Obj)} {ks : List Kp} {ms : List Nat} {rs : List (Option (Nat × Obj))} {i b n : Nat} {cs : Array Value} {T0 : TypeId} {fz : Nat × Nat} (hT : Agg P T n) (hx : ev L x = some (.pointer (some ⟨b, 0, none⟩)))
    (hi : bs[i]? = some (b, .cells cs T0 fz)) (hn : cs.size = n) : Qv P Z N L ⟨B, bs, ks, ms, rs⟩ ⟨d, .load T x, ty, pos, af, g⟩ (.agg cs) := by
  have := qv_ldBA (P := P) (Z := Z) (N := N) (B := B) (ks := ks) (ms := ms) (rs := rs) (d := d) (ty := ty) (pos := pos) (af := af) (g := g) (vs := cs.toList) hT hx hi (by simpa using hn) (fun j _ => by simp)
  simpa using this

/-- out of a block that lay before the call -/
theorem qv_ldO {T : TypeId} {b o : Nat} {cs : Array Value} {T0 : TypeId} {fz : Nat × Nat} (hT : Scalar P T) (hx : ev L x = some (.pointer (some ⟨b, o, none⟩)))
    (hi : M.base.heap[b]? = some (.cells cs T0 fz)) (ho : cs[o]? = some v) : Qv P Z N L M ⟨d, .load T x, ty, pos, af, g⟩ v :=
  qv_load hx fun w hm => run_loadVar_scalar hT (cell_of (by rw [hm.old b (get_lt hi)]; exact hi) ho)

theorem qv_ldOW {T : TypeId} {b n : Nat} {cs : Array Value} {T0 : TypeId} {fz : Nat × Nat} (hT : Agg P T n) (hx : ev L x = some (.pointer (some ⟨b, 0, none⟩)))
    (hi : M.base.heap[b]? = some (.cells cs T0 fz)) (hn : cs.size = n) : Qv P Z N L M ⟨d, .load T x, ty, pos, af, g⟩ (.agg cs) := by
  have := qv_load (P := P) (Z := Z) (N := N) (L := L) (M := M) (d := d) (ty := ty) (pos := pos) (af := af) (g := g) (T := T) (v := .agg cs.toList.toArray) hx fun w hm => run_loadVar_agg (by simpa [hn] using hT) fun j hj => by
    have : w.heap[b]? = some (.cells cs T0 fz) := by rw [hm.old b (get_lt hi)]; exact hi
    simp [World.cell?, this]
  simpa using this

section elems
variable {α : Type} {W : World} {lo hi sz : Nat} {enc : α → List Value} {a : Option Addr} {l : List α} {e : α}
/-- a part of an element of a slice -/
theorem qv_ldE {T : TypeId} {o i j : Nat} (hT : Scalar P T) (hs : SlAt W lo hi sz enc a l) (hM : M.has W lo hi) (hx : ev L x = some (.pointer (some ⟨blk a, o, none⟩))) (ho : o = offs a + i * sz + j)
    (he : l[i]? = some e) (hv : (enc e)[j]? = some v) : Qv P Z N L M ⟨d, .load T x, ty, pos, af, g⟩ v :=
  qv_load hx fun w hm => run_loadVar_scalar hT (by
    subst ho
    obtain ⟨_, h1, h2⟩ := hs.nz (fun e => by subst e; simp at he)
    rw [cell_same ((hM w hm).2 _ h1 h2)]
    exact hs.cell i j e v he hv)

/-- an element as a whole -/
theorem qv_ldEW {T : TypeId} {i : Nat} (hT : Agg P T sz) (hs : SlAt W lo hi sz enc a l) (hM : M.has W lo hi) (hx : ev L x = some (.pointer (some ⟨blk a, offs a + i * sz, none⟩)))
    (he : l[i]? = some e) : Qv P Z N L M ⟨d, .load T x, ty, pos, af, g⟩ (.agg (enc e).toArray) :=
  qv_load hx fun w hm => run_loadVar_agg (hs.szs e (List.mem_of_getElem? he) ▸ hT) fun j hj => by
    obtain ⟨_, h1, h2⟩ := hs.nz (fun e => by subst e; simp at he)
    rw [cell_same ((hM w hm).2 _ h1 h2), List.getElem?_eq_getElem hj]
    exact hs.cell i j e _ he (List.getElem?_eq_getElem hj)
end elems

/-! calls -/
def evs (L : List (Nat × Value)) : List Operand → Option (List Value)
  | [] => some []
  | o :: os => match ev L o, evs L os with
    | some v, some vs => some (v :: vs)
    | _, _ => none

theorem evs_map {a : Act} (hf : Fr Z N L a) : ∀ {l : List Operand} {vs : List Value}, evs L l = some vs → l.map a.eval = vs
  | [], vs, h => by simp [evs] at h; subst h; rfl
  | o :: os, vs, h => by
    simp only [evs] at h
    split at h
    · rename_i v us h1 h2
      cases h
      simp [hf.eval h1, evs_map hf h2]
    · cases h

theorem run_call {f : FuncId} {args : Array Operand} {at' : Array TypeId} {vs caps : List Value} {fo : Operand} {ac : Act} (hf : Fr Z N L ac) (hF : IsFn P f) (hfo : ev L fo = some (.func (.func f) #[] caps.toArray)) (hvs : evs L args.toList = some vs) (w : World) :
    (execOp ac.eval ⟨d, .call { callee := .value fo, args := args, argTypes := at' }, ty, pos, af, g⟩).run P w = .ok (.enter f (vs ++ caps).toArray) w := by
  have h1 : args.map ac.eval = vs.toArray := by
    apply Array.ext'
    simpa using evs_map hf hvs
  simp [execOp, resolve, hf.eval hfo, Deferred.ofValue, invoke, h1, hF _ w]

/-- a call that only reads, or makes new blocks; its result is a plain value -/
theorem qv_callV {f : FuncId} {args : Array Operand} {at' : Array TypeId} {vs caps : List Value} {fo : Operand} (hF : IsFn P f) (hfo : ev L fo = some (.func (.func f) #[] caps.toArray)) (hvs : evs L args.toList = some vs)
    (hC : ∀ w, M.holds w → Calls P f (vs ++ caps).toArray w fun e w' => e = .returned v ∧ Below w.heap.size w w') :
    Qv P Z N L M ⟨d, .call { callee := .value fo, args := args, argTypes := at' }, ty, pos, af, g⟩ v := fun ac hf w hm => by
  unfold Oper.quietAt
  rw [run_call hf hF hfo hvs w]
  exact ⟨rfl, hC w hm⟩

theorem qv_call {f : FuncId} {args : Array Operand} {at' : Array TypeId} {vs : List Value} (hF : IsFn P f) (hvs : evs L args.toList = some vs)
    (hC : ∀ w, M.holds w → Calls P f vs.toArray w fun e w' => e = .returned v ∧ Below w.heap.size w w') :
    Qv P Z N L M ⟨d, .call { callee := .value (.func f), args := args, argTypes := at' }, ty, pos, af, g⟩ v :=
  qv_callV (caps := []) hF rfl hvs (by simpa using hC)

end

/-! ### operations that turn memory -/
section
variable {P : Program} {Z : Env} {N : Nat} {L : List (Nat × Value)} {M : Mem} {Q : Exit → Act → World → Prop} {ops : Array Oper} {rest : List Oper} {dd : Tmp} {ty : TypeId} {pos : String} {af : Array Edge} {x y : Operand} {v : Value}

theorem wpList_value {o : Oper} {a : Act} {w w' : World} {u : Value} {ro : Option Nat} (hg : o.guard = none) (hr : (execOp a.eval o).run P w = .ok (.value u) w') (h : wpListIn (FW ro) 0 P ops Q rest (a.put o.dst u) w') : wpListIn (FW ro) 0 P ops Q (o :: rest) a w := by
  unfold wpListIn
  rw [if_pos (by simp [Region.wanted, hg])]
  refine wpIn_of ?_
  rw [semAt_of hr (by simp)]
  exact h
theorem wpList_skipv {o : Oper} {a : Act} {w w' : World} {ro : Option Nat} (hg : o.guard = none) (hr : (execOp a.eval o).run P w = .ok .skip w') (h : wpListIn (FW ro) 0 P ops Q rest (a.put o.dst undef) w') : wpListIn (FW ro) 0 P ops Q (o :: rest) a w := by
  unfold wpListIn
  rw [if_pos (by simp [Region.wanted, hg])]
  refine wpIn_of ?_
  rw [semAt_of hr (by simp)]
  exact h
theorem wpList_enter {o : Oper} {a : Act} {w w' : World} {f : FuncId} {args : Array Value} {ro : Option Nat} (hg : o.guard = none) (hr : (execOp a.eval o).run P w = .ok (.enter f args) w') (h : Calls P f args w' fun e w'' => ∃ u, e = .returned u ∧ wpListIn (FW ro) 0 P ops Q rest (a.put o.dst u) w'') : wpListIn (FW ro) 0 P ops Q (o :: rest) a w := by
  unfold wpListIn
  rw [if_pos (by simp [Region.wanted, hg])]
  refine wpIn_of ?_
  rw [semAt_of hr (by simp)]
  exact ⟨fun hd => by simp [Fence.wide] at hd, calls_in (h.mono fun e w'' ⟨u, he, hk⟩ => by subst he; exact hk)⟩

theorem tl_box {T : TypeId} {B : World} {bs : List (Nat × Obj)} {ks : List Kp} {ms : List Nat} {rs : List (Option (Nat × Obj))} (hx : ev L x = some v) (hd : dd < N) (h : ∀ b, TL P Z N ((dd, .pointer (some ⟨b, 0, none⟩)) :: L) ⟨B, (b, .cells v.cells T (0, 0)) :: bs, ks, ms, rs⟩ ops rest Q) :
    TL P Z N L ⟨B, bs, ks, ms, rs⟩ ops (⟨some dd, .box T x, ty, pos, af, none⟩ :: rest) Q := fun a w hf hm =>
  wpList_value rfl (w' := w.alloc (.cells v.cells T)) (u := .pointer (some ⟨w.heap.size, 0, none⟩)) (by simp [execOp, hf.eval hx, Instr.box, newVar, newRow])
    (h w.heap.size _ _ (hf.put hd _) (hm.alloc _))

theorem tl_alloc {T : TypeId} {B : World} {bs : List (Nat × Obj)} {ks : List Kp} {ms : List Nat} {rs : List (Option (Nat × Obj))} {cs : Array Value} (hz : Zero P T cs) (hd : dd < N) (h : ∀ b, TL P Z N ((dd, .pointer (some ⟨b, 0, none⟩)) :: L) ⟨B, (b, .cells cs T (0, 0)) :: bs, ks, ms, rs⟩ ops rest Q) :
    TL P Z N L ⟨B, bs, ks, ms, rs⟩ ops (⟨some dd, .alloc T, ty, pos, af, none⟩ :: rest) Q := fun a w hf hm => by
  obtain ⟨z, h1, h2⟩ := hz w
  subst h2
  exact wpList_value rfl (w' := w.alloc (.cells z.cells T)) (u := .pointer (some ⟨w.heap.size, 0, none⟩)) (by simp [execOp, Instr.alloc, h1, newVar, newRow])
    (h w.heap.size _ _ (hf.put hd _) (hm.alloc _))

theorem putBlock_same {w : World} {b : Nat} {o : Obj} (h : w.heap[b]? = some o) : putBlock w b o = w := by
  have hb := get_lt h
  have : w.heap.setIfInBounds b o = w.heap := by
    apply Array.ext_getElem?
    intro i
    rw [Array.getElem?_setIfInBounds]
    split
    · rename_i e; subst e; exact h.symm
    · rfl
  unfold putBlock
  rw [this]

theorem run_storeCells {b o : Nat} {T : TypeId} (us : List Value) (hone : ∀ u ∈ us, u.oneCell' = true) : ∀ (i : Nat) (cs : Array Value) (w : World), w.heap[b]? = some (.cells cs T (0, 0)) → o + i + us.length ≤ cs.size →
    (storeCells ⟨b, o, none⟩ us i).run P w = .ok () (putBlock w b (.cells ((us.zipIdx i).foldl (fun c p => c.setIfInBounds (o + p.2) p.1) cs) T (0, 0))) := by
  induction us with
  | nil =>
    intro i cs w h _
    simp [storeCells, putBlock_same h]
  | cons u us ih =>
    intro i cs w h hsz
    simp only [List.length_cons] at hsz
    have hc : w.cell? ⟨b, o + i, none⟩ = some (cs[o + i]'(by omega)) := cell_of h (by simp)
    have hfz : w.frozen? ⟨b, o + i, none⟩ = false := by simp [World.frozen?, h]
    have hb := get_lt h
    simp only [storeCells, Sem.run_bind, add_none, run_store P w _ u .plain (hone u (by simp)), hc, hfz, Bool.false_eq_true, if_false, Result.andThen_ok, setCell_eq h]
    rw [ih (fun u hu => hone u (List.mem_cons_of_mem _ hu)) (i + 1) (cs.setIfInBounds (o + i) u) _ (by simp [putBlock, hb]) (by simp; omega)]
    simp [putBlock, List.zipIdx_cons]

theorem foldl_set_size (o : Nat) : ∀ (l : List (Value × Nat)) (cs : Array Value), (l.foldl (fun c p => c.setIfInBounds (o + p.2) p.1) cs).size = cs.size
  | [], cs => rfl
  | p :: l, cs => by rw [List.foldl_cons, foldl_set_size o l]; simp

theorem foldl_set_get (o : Nat) : ∀ (us : List Value) (i : Nat) (cs : Array Value) (j : Nat), j < cs.size → o + i + us.length ≤ cs.size →
    ((us.zipIdx i).foldl (fun c p => c.setIfInBounds (o + p.2) p.1) cs)[j]? = if o + i ≤ j ∧ j < o + i + us.length then us[j - (o + i)]? else cs[j]?
  | [], i, cs, j, _, _ => by simp; omega
  | u :: us, i, cs, j, hj, hs => by
    simp only [List.length_cons] at hs
    rw [List.zipIdx_cons, List.foldl_cons, foldl_set_get o us (i + 1) _ j (by simpa using hj) (by simp; omega)]
    simp only [List.length_cons]
    by_cases h1 : j = o + i
    · subst h1
      rw [if_neg (by omega), if_pos (by omega)]
      simp only [Nat.sub_self, List.getElem?_cons_zero]
      rw [Array.getElem?_setIfInBounds_self]
      simp [hj]
    · by_cases h2 : o + (i + 1) ≤ j ∧ j < o + (i + 1) + us.length
      · rw [if_pos h2, if_pos (by omega)]
        have : j - (o + i) = (j - (o + (i + 1))) + 1 := by omega
        rw [this]
        simp
      · rw [if_neg h2, if_neg (by omega), Array.getElem?_setIfInBounds_ne (by omega)]

/-- what a whole variable holds behind a store -/
theorem foldl_set_whole (us : List Value) (cs : Array Value) (h : cs.size = us.length) : (us.zipIdx 0).foldl (fun c p => c.setIfInBounds (0 + p.2) p.1) cs = us.toArray := by
  apply Array.ext_getElem?
  intro j
  by_cases hj : j < cs.size
  · rw [foldl_set_get 0 us 0 cs j hj (by omega), if_pos (by omega)]
    simp
  · rw [Array.getElem?_eq_none (by rw [foldl_set_size]; omega), Array.getElem?_eq_none (by simp; omega)]

/-- a store into a box, the whole of it -/
theorem tl_storeW {T : TypeId} {B : World} {bs : List (Nat × Obj)} {ks : List Kp} {ms : List Nat} {rs : List (Option (Nat × Obj))} {i b : Nat} {cs us : Array Value} {T0 : TypeId} (hS : Size P T us.size) (hx : ev L x = some (.pointer (some ⟨b, 0, none⟩))) (hy : ev L y = some v)
    (hi : bs[i]? = some (b, .cells cs T0 (0, 0))) (hu : v.cells = us) (hone : ∀ u ∈ us.toList, u.oneCell' = true) (hn : cs.size = us.size)
    (h : TL P Z N L ⟨B, bs.set i (b, .cells us T0 (0, 0)), ks, ms, rs⟩ ops rest Q) : TL P Z N L ⟨B, bs, ks, ms, rs⟩ ops (⟨none, .store T x y, ty, pos, af, none⟩ :: rest) Q := fun a w hf hm => by
  have hb := (hm.boxOf (List.mem_of_getElem? hi)).2
  refine wpList_skipv rfl (w' := putBlock w b (.cells us T0 (0, 0))) ?_ (h _ _ (hf.put_none _) (hm.put hi _))
  have hS' := hS w
  simp only [execOp, hf.eval hx, hf.eval hy, Instr.storeAt, Instr.sureAddr, storeVar, hu, Sem.run_bind, Sem.run_pure, Result.andThen_ok, hS', ne_eq, not_true_eq_false, if_false]
  rw [run_storeCells us.toList hone 0 cs w hb (by simp [hn])]
  rw [foldl_set_whole us.toList cs (by simpa using hn)]
  simp

/-- a store of one cell into a box -/
theorem tl_store1 {T : TypeId} {B : World} {bs : List (Nat × Obj)} {ks : List Kp} {ms : List Nat} {rs : List (Option (Nat × Obj))} {i b o : Nat} {cs : Array Value} {T0 : TypeId} (hS : Size P T 1) (hx : ev L x = some (.pointer (some ⟨b, o, none⟩))) (hy : ev L y = some v)
    (hi : bs[i]? = some (b, .cells cs T0 (0, 0))) (hu : v.cells = #[v]) (hone : v.oneCell' = true) (hn : o < cs.size)
    (h : TL P Z N L ⟨B, bs.set i (b, .cells (cs.setIfInBounds o v) T0 (0, 0)), ks, ms, rs⟩ ops rest Q) : TL P Z N L ⟨B, bs, ks, ms, rs⟩ ops (⟨none, .store T x y, ty, pos, af, none⟩ :: rest) Q := fun a w hf hm => by
  have hb := (hm.boxOf (List.mem_of_getElem? hi)).2
  refine wpList_skipv rfl (w' := putBlock w b (.cells (cs.setIfInBounds o v) T0 (0, 0))) ?_ (h _ _ (hf.put_none _) (hm.put hi _))
  have hS' := hS w
  simp only [execOp, hf.eval hx, hf.eval hy, Instr.storeAt, Instr.sureAddr, storeVar, hu, Sem.run_bind, Sem.run_pure, Result.andThen_ok, hS', ne_eq, List.size_toArray, List.length_cons, List.length_nil, Nat.zero_add, not_true_eq_false, if_false]
  rw [run_storeCells [v] (by simpa using hone) 0 cs w hb (by simp; omega)]
  simp

/-- a call that hands back something new -/
theorem tl_callR {β : Type} {B : World} {bs : List (Nat × Obj)} {ks : List Kp} {ms : List Nat} {rs : List (Option (Nat × Obj))} {val : β → Value} {R : β → World → World → Prop} {f : FuncId} {args : Array Operand} {at' : Array TypeId} {vs : List Value} (hF : IsFn P f) (hvs : evs L args.toList = some vs) (hd : dd < N)
    (hC : ∀ w, Mem.holds ⟨B, bs, ks, ms, rs⟩ w → Calls P f vs.toArray w fun e w' => ∃ r, e = .returned (val r) ∧ Below w.heap.size w w' ∧ R r w w')
    (h : ∀ r w1 w2, Mem.holds ⟨B, bs, ks, ms, rs⟩ w1 → Below w1.heap.size w1 w2 → R r w1 w2 → TL P Z N ((dd, val r) :: L) ⟨B, bs, Kin w2 w1.heap.size w2.heap.size :: ks, ms, rs⟩ ops rest Q) :
    TL P Z N L ⟨B, bs, ks, ms, rs⟩ ops (⟨some dd, .call { callee := .value (.func f), args := args, argTypes := at' }, ty, pos, af, none⟩ :: rest) Q := fun a w hf hm => by
  refine wpList_enter rfl (run_call (caps := []) hf hF rfl hvs w) ?_
  refine (show Calls P f (vs ++ []).toArray w _ by rw [List.append_nil]; exact hC w hm).mono ?_
  rintro e w' ⟨r, rfl, hb, hr⟩
  exact ⟨_, rfl, h r w w' hm hb hr _ _ (hf.put hd _) (hm.keep hb)⟩

end
end Go.Q
