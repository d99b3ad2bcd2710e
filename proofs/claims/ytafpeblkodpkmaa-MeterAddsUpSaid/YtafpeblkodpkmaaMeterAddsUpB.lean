/- A part of the proof: see the last text. -/
import Derived.WalkKit
import Derived.Deep.Quiet
import Derived.KernelRfl
import Derived.RangeFuncNested
import Derived.RangeFuncCalls
import Derived.OrdersIn
import Derived.TacticsIn
import Derived.Sort.Grow
import Derived.Deep.Draws
import GoSem.Core.Value
import Derived.Maps.AppendAt
import Derived.OwnWalkIn
import Derived.Maps.RangeRun
import Derived.Laws.StructEq
import Derived.Shelf.SlSortCmp.InsertionK
import Derived.Sort.OwnSortedInts
import Derived.OpenShut
import Derived.WideShapes
import Derived.ChangeArms
import Derived.ChangeKeysEq
import Derived.Test.YtafpeblkodpkmaaProg
import Derived.Shelf.SlSortCmp.NoneTotal
import Derived.Shelf.Small.Bits
import Derived.Test.YtafpeblkodpkmaaShelf
import Derived.Test.YtafpeblkodpkmaaMeterAddsUpA
set_option linter.unusedVariables false
set_option linter.unusedSimpArgs false
set_option linter.unusedSectionVars false
namespace Go.D
open Go Go.RowKit
/-- as Go.Below, and the count of draws has not fallen -/
structure Below (B : Nat) (a w : World) : Prop where
  os : w.os = a.os
  tape : w.tape = a.tape
  output : w.output = a.output
  size : a.heap.size ≤ w.heap.size
  block : ∀ b, b < B → w.heap[b]? = a.heap[b]?
  drawn : a.drawn ≤ w.drawn
theorem Below.refl (B : Nat) (w : World) : Below B w w := ⟨rfl, rfl, rfl, Nat.le_refl _, fun _ _ => rfl, Nat.le_refl _⟩
theorem Below.trans {B : Nat} {a b c : World} (h : Below B a b) (h' : Below B b c) : Below B a c := ⟨h'.os.trans h.os, h'.tape.trans h.tape, h'.output.trans h.output, Nat.le_trans h.size h'.size, fun k hk => (h'.block k hk).trans (h.block k hk), Nat.le_trans h.drawn h'.drawn⟩
theorem Below.mono {B B' : Nat} {a w : World} (h : Below B a w) (hB : B' ≤ B) : Below B' a w := ⟨h.os, h.tape, h.output, h.size, fun k hk => h.block k (by omega), h.drawn⟩
theorem Below.drew {B : Nat} {a w : World} (h : Below B a w) : Below B a w.drew := ⟨h.os, h.tape, h.output, h.size, h.block, Nat.le_trans h.drawn (Nat.le_succ _)⟩
theorem Below.alloc {B : Nat} {a w : World} (h : Below B a w) (hB : B ≤ w.heap.size) (o : Obj) : Below B a (w.alloc o) := ⟨h.os, h.tape, h.output, by show a.heap.size ≤ (w.heap.push o).size; simp; have := h.size; omega, fun k hk => by show (w.heap.push o)[k]? = _; rw [Array.getElem?_push, if_neg (by omega)]; exact h.block k hk, h.drawn⟩
theorem Below.grow {w w' : World} (h : Below w.heap.size w w') : ∃ (n : Nat) (es : Array Obj), w' = { w with heap := w.heap ++ es, drawn := w.drawn + n } := by
  refine ⟨w'.drawn - w.drawn, w'.heap.extract w.heap.size w'.heap.size, ?_⟩
  obtain ⟨h1, h2, h3, h4, h5, h6⟩ := h
  obtain ⟨hp, tp, dr, o, out⟩ := w'
  simp only at h1 h2 h3 h4 h5 h6 ⊢
  subst h1 h2 h3
  have e1 : dr = w.drawn + (dr - w.drawn) := by omega
  have e2 : hp = w.heap ++ hp.extract w.heap.size hp.size := by
    apply Array.ext_getElem?
    intro i
    rw [Array.getElem?_append]
    split
    · rename_i hi; exact h5 i hi
    · rename_i hi
      rw [Array.getElem?_extract]
      split
      · congr 1; omega
      · rw [Array.getElem?_eq_none (by omega)]
  rw [← e1, ← e2]
/-- the frame of a function, or of a round of the loop with the record ro; ds: the blocks for the deferred calls of its loops' rounds -/
structure Env where
  ro : Option Nat
  ds : List Nat
def mk (D : Nat) : Deferred := { target := .collected D, args := #[] }
abbrev FW (ro : Option Nat) : Fence := { Fence.wide with round := ro }
/-- what is known of a frame: its size, its deferred calls, and the slots of the list (the first entry of a slot counts) -/
def Fr (Z : Env) (N : Nat) (L : List (Nat × Value)) (a : Act) : Prop :=
  a.tmps.size = N ∧ a.defers = Z.ds.map mk ∧ ∀ t v, L.lookup t = some v → a.tmps[t]? = some v
def ev (L : List (Nat × Value)) : Operand → Option Value
  | .tmp t => L.lookup t
  | .const v => some v
  | .global g => some (.pointer (some ⟨g, 0, none⟩))
  | .func f => some (.func (.func f) #[] #[])
theorem Fr.eval {Z : Env} {N : Nat} {L : List (Nat × Value)} {a : Act} (h : Fr Z N L a) {x : Operand} {v : Value} (hx : ev L x = some v) : a.eval x = v := by
  cases x with
  | tmp t =>
    have := h.2.2 t v hx
    simp [Act.eval, Array.getD_eq_getD_getElem?, this]
  | const c => simpa [ev, Act.eval] using hx
  | global g => simpa [ev, Act.eval] using hx
  | func f => simpa [ev, Act.eval] using hx
theorem Fr.put {Z : Env} {N : Nat} {L : List (Nat × Value)} {a : Act} (h : Fr Z N L a) {d : Nat} (hd : d < N) (v : Value) : Fr Z N ((d, v) :: L) (a.put (some d) v) := by
  refine ⟨by simp [Act.put, h.1], by simp [Act.put, h.2.1], fun t u hl => ?_⟩
  simp only [List.lookup_cons] at hl
  by_cases ht : t = d
  · subst ht
    simp at hl
    subst hl
    simp [Act.put, h.1, hd]
  · have : (t == d) = false := by simpa using ht
    rw [this] at hl
    simp only [Act.put]
    rw [Array.getElem?_setIfInBounds_ne (by omega)]
    exact h.2.2 t u hl
theorem Fr.put_none {Z : Env} {N : Nat} {L : List (Nat × Value)} {a : Act} (h : Fr Z N L a) (v : Value) : Fr Z N L (a.put none v) := by simpa [Act.put] using h
/-- the slots of L0 are among those of L -/
def Sub (L : List (Nat × Value)) : List (Nat × Value) → Prop
  | [] => True
  | (t, v) :: r => L.lookup t = some v ∧ Sub L r
theorem Sub.lookup {L : List (Nat × Value)} : ∀ {L0 : List (Nat × Value)}, Sub L L0 → ∀ t v, L0.lookup t = some v → L.lookup t = some v
  | [], _, t, v, h => by simp at h
  | (t', v') :: r, ⟨h1, h2⟩, t, v, h => by
    simp only [List.lookup_cons] at h
    by_cases ht : t = t'
    · subst ht
      simp at h
      subst h
      exact h1
    · have : (t == t') = false := by simpa using ht
      rw [this] at h
      exact Sub.lookup h2 t v h
theorem Fr.sub {Z : Env} {N : Nat} {L L0 : List (Nat × Value)} {a : Act} (h : Fr Z N L a) (hs : Sub L L0) : Fr Z N L0 a :=
  ⟨h.1, h.2.1, fun t v hl => h.2.2 t v (hs.lookup t v hl)⟩
/-- the blocks lo ≤ b < hi that on speaks of are as in w -/
structure Kp where
  w : World
  lo : Nat
  hi : Nat
  on : Nat → Prop
abbrev Kin (w : World) (lo hi : Nat) : Kp := ⟨w, lo, hi, fun _ => True⟩
structure Mem where
  base : World
  boxes : List (Nat × Obj)
  kept : List Kp
  marks : List Nat
  rows : List (Option (Nat × Obj))
def markBox (D : Nat) : Nat × Obj := (D, .deferred (some []))
def Mem.all (M : Mem) : List (Nat × Obj) := M.boxes ++ (M.rows.filterMap id ++ M.marks.map markBox)
structure Mem.holds (M : Mem) (w : World) : Prop where
  os : w.os = M.base.os
  tape : w.tape = M.base.tape
  output : w.output = M.base.output
  size : M.base.heap.size ≤ w.heap.size
  old : ∀ b, b < M.base.heap.size → w.heap[b]? = M.base.heap[b]?
  box : ∀ p ∈ M.all, M.base.heap.size ≤ p.1 ∧ w.heap[p.1]? = some p.2
  nodup : M.all.Pairwise (fun p q => p.1 ≠ q.1)
  kept : ∀ k ∈ M.kept, k.hi ≤ w.heap.size ∧ ∀ b, k.lo ≤ b → b < k.hi → k.on b → w.heap[b]? = k.w.heap[b]?
  apart : ∀ p ∈ M.all, ∀ k ∈ M.kept, p.1 < k.lo ∨ k.hi ≤ p.1 ∨ ¬ k.on p.1
  drawn : M.base.drawn ≤ w.drawn
def Mem.init (w : World) : Mem := ⟨w, [], [], [], []⟩
theorem Mem.init_holds (w : World) : (Mem.init w).holds w :=
  ⟨rfl, rfl, rfl, Nat.le_refl _, fun _ _ => rfl, fun _ h => by simp [Mem.init, Mem.all] at h, by simp [Mem.init, Mem.all], fun _ h => by simp [Mem.init] at h, fun _ h => by simp [Mem.init, Mem.all] at h, Nat.le_refl _⟩
theorem Mem.holds.below {M : Mem} {w : World} (h : M.holds w) : Below M.base.heap.size M.base w := ⟨h.os, h.tape, h.output, h.size, h.old, h.drawn⟩
theorem get_lt {w : World} {b : Nat} {o : Obj} (h : w.heap[b]? = some o) : b < w.heap.size := by
  rcases Nat.lt_or_ge b w.heap.size with h' | h'
  · exact h'
  · rw [Array.getElem?_eq_none h'] at h; cases h
theorem Mem.mem_all {M : Mem} {p : Nat × Obj} (h : p ∈ M.boxes) : p ∈ M.all := List.mem_append_left _ h
theorem Mem.holds.boxOf {M : Mem} {w : World} (h : M.holds w) {p : Nat × Obj} (hb : p ∈ M.boxes) : M.base.heap.size ≤ p.1 ∧ w.heap[p.1]? = some p.2 := h.box p (Mem.mem_all hb)
theorem Mem.holds.lt {M : Mem} {w : World} (h : M.holds w) {b : Nat} {o : Obj} (hb : (b, o) ∈ M.boxes) : b < w.heap.size := get_lt (h.boxOf hb).2
/-- a step that turns nothing that is there -/
theorem Mem.holds.ext {M : Mem} {w w' : World} (h : M.holds w) (hb : Below w.heap.size w w') : M.holds w' := by
  refine ⟨hb.os.trans h.os, hb.tape.trans h.tape, hb.output.trans h.output, Nat.le_trans h.size hb.size, fun b hlt => ?_, fun p hp => ?_, h.nodup, fun k hk => ?_, h.apart, Nat.le_trans h.drawn hb.drawn⟩
  · rw [hb.block b (Nat.lt_of_lt_of_le hlt h.size), h.old b hlt]
  · have := h.box p hp
    exact ⟨this.1, by rw [hb.block _ (get_lt this.2)]; exact this.2⟩
  · obtain ⟨h1, h2⟩ := h.kept k hk
    exact ⟨Nat.le_trans h1 hb.size, fun b hl hh ho => by rw [hb.block b (by omega)]; exact h2 b hl hh ho⟩
theorem Mem.holds.drew {M : Mem} {w : World} (h : M.holds w) : M.holds w.drew := h.ext ((Below.refl _ w).drew)
theorem below_drew' (w : World) : Below w.heap.size w { w with drawn := w.drawn + 1 } := ⟨rfl, rfl, rfl, Nat.le_refl _, fun _ _ => rfl, Nat.le_succ _⟩
/-- a new block -/
theorem Mem.holds.alloc {M : Mem} {w : World} (h : M.holds w) (o : Obj) : Mem.holds ⟨M.base, (w.heap.size, o) :: M.boxes, M.kept, M.marks, M.rows⟩ (w.alloc o) := by
  have he : M.holds (w.alloc o) := h.ext ((Below.refl _ w).alloc (Nat.le_refl _) o)
  refine ⟨he.os, he.tape, he.output, he.size, he.old, fun p hp => ?_, ?_, he.kept, fun p hp k hk => ?_, he.drawn⟩
  · rcases List.mem_cons.1 (show p ∈ (w.heap.size, o) :: M.all from hp) with rfl | hp
    · exact ⟨h.size, by show (w.heap.push o)[w.heap.size]? = _; simp⟩
    · exact he.box p hp
  · refine List.pairwise_cons.2 ⟨fun p hp => ?_, h.nodup⟩
    have := get_lt (h.box p hp).2
    simp only; omega
  · rcases List.mem_cons.1 (show p ∈ (w.heap.size, o) :: M.all from hp) with rfl | hp
    · exact .inr (.inl (h.kept k hk).1)
    · exact he.apart p hp k hk
/-- a call that hands back something new: its blocks stay as they are -/
theorem Mem.holds.keep {M : Mem} {w w' : World} (h : M.holds w) (hb : Below w.heap.size w w') : Mem.holds ⟨M.base, M.boxes, Kin w' w.heap.size w'.heap.size :: M.kept, M.marks, M.rows⟩ w' := by
  have he := h.ext hb
  refine ⟨he.os, he.tape, he.output, he.size, he.old, he.box, he.nodup, fun k hk => ?_, fun p hp k hk => ?_, he.drawn⟩
  · rcases List.mem_cons.1 hk with rfl | hk
    · exact ⟨Nat.le_refl _, fun _ _ _ _ => rfl⟩
    · exact he.kept k hk
  · rcases List.mem_cons.1 hk with rfl | hk
    · exact .inl (get_lt (h.box p hp).2)
    · exact he.apart p hp k hk
theorem Mem.holds.sub {M M' : Mem} {w : World} (h : M.holds w) (hB : M'.base = M.base) (h1 : M'.all.Sublist M.all) (h2 : M'.kept.Sublist M.kept) : M'.holds w :=
  ⟨hB ▸ h.os, hB ▸ h.tape, hB ▸ h.output, hB ▸ h.size, hB ▸ h.old, fun q hq => hB ▸ h.box q (h1.subset hq), h.nodup.sublist h1, fun k hk => h.kept k (h2.subset hk), fun q hq k hk => h.apart q (h1.subset hq) k (h2.subset hk), hB ▸ h.drawn⟩
/-- only some boxes and regions are remembered -/
theorem Mem.holds.less {B : World} {bs bs' : List (Nat × Obj)} {ks ks' : List Kp} {ms : List Nat} {rs : List (Option (Nat × Obj))} {w : World} (h : Mem.holds ⟨B, bs, ks, ms, rs⟩ w) (h1 : bs'.Sublist bs) (h2 : ks'.Sublist ks) : Mem.holds ⟨B, bs', ks', ms, rs⟩ w :=
  h.sub rfl (List.Sublist.append h1 (List.Sublist.refl _)) h2
theorem heap_setObj_ne {w : World} {b c : Nat} {o : Obj} (h : c ≠ b) : ({ w with heap := w.heap.setIfInBounds b o } : World).heap[c]? = w.heap[c]? := by
  simp [Ne.symm h]
/-- the world with one block written anew -/
def putBlock (w : World) (b : Nat) (o : Obj) : World := { w with heap := w.heap.setIfInBounds b o }
theorem setCell_eq {w : World} {b off : Nat} {cs : Array Value} {T : TypeId} {fz : Nat × Nat} (h : w.heap[b]? = some (.cells cs T fz)) (v : Value) :
    w.setCell ⟨b, off, none⟩ v = putBlock w b (.cells (cs.setIfInBounds off v) T fz) := by
  have hb := get_lt h
  have hg : w.heap[b] = .cells cs T fz := by simpa [Array.getElem?_eq_getElem hb] using h
  simp only [World.setCell, putBlock]
  congr 1
  apply Array.ext_getElem?
  intro i
  rw [Array.getElem?_modify, Array.getElem?_setIfInBounds]
  by_cases hi : b = i
  · subst hi
    rw [if_pos rfl, if_pos rfl, if_pos hb, h]
    rfl
  · rw [if_neg hi, if_neg hi]
theorem Mem.holds.putA {M : Mem} {w : World} (h : M.holds w) {i : Nat} {b : Nat} {o : Obj} (hi : M.all[i]? = some (b, o)) (o' : Obj) {M' : Mem} (hB : M'.base = M.base) (hA : M'.all = M.all.set i (b, o')) (hK : M'.kept = M.kept) :
    M'.holds (putBlock w b o') := by
  have hmem : (b, o) ∈ M.all := List.mem_of_getElem? hi
  have hbox := h.box _ hmem
  have hlt := get_lt hbox.2
  have hii : i < M.all.length := by
    rcases Nat.lt_or_ge i M.all.length with h' | h'
    · exact h'
    · rw [List.getElem?_eq_none h'] at hi; cases hi
  have hgi : M.all[i] = (b, o) := by simpa [List.getElem?_eq_getElem hii] using hi
  have keep : ∀ c, c ≠ b → (putBlock w b o').heap[c]? = w.heap[c]? := fun c hc => heap_setObj_ne hc
  refine ⟨by rw [hB]; exact h.os, by rw [hB]; exact h.tape, by rw [hB]; exact h.output, by rw [hB]; simpa [putBlock] using h.size, fun c hc => ?_, fun p hp => ?_, ?_, fun k hk => ?_, fun p hp k hk => ?_, by rw [hB]; exact h.drawn⟩
  · have h0 : M.base.heap.size ≤ b := hbox.1
    rw [hB] at hc ⊢
    rw [keep c (by omega)]; exact h.old c hc
  · rw [hA] at hp
    rw [hB]
    obtain ⟨j, hj, rfl⟩ := List.mem_iff_getElem.1 hp
    have hjl : j < M.all.length := by simpa using hj
    rw [List.getElem_set]
    split
    · exact ⟨hbox.1, by simp [putBlock, hlt]⟩
    · rename_i hne
      have hb := h.box _ (List.getElem_mem hjl)
      refine ⟨hb.1, ?_⟩
      rw [keep]
      · exact hb.2
      · have hp' := List.pairwise_iff_getElem.1 h.nodup
        rcases Nat.lt_or_ge i j with hij | hij
        · have := hp' i j hii hjl hij
          rw [hgi] at this; exact fun e => this e.symm
        · have := hp' j i hjl hii (by omega)
          rw [hgi] at this; exact this
  · rw [hA]
    have hp' := List.pairwise_iff_getElem.1 h.nodup
    refine List.pairwise_iff_getElem.2 fun j k hj hk hjk => ?_
    have h1 : j < M.all.length := by simpa using hj
    have h2 : k < M.all.length := by simpa using hk
    have := hp' j k h1 h2 hjk
    rw [List.getElem_set, List.getElem_set]
    split <;> split
    · omega
    · rename_i e _; subst e; rw [hgi] at this; exact this
    · rename_i _ e; subst e; rw [hgi] at this; exact this
    · exact this
  · rw [hK] at hk
    obtain ⟨h1, h2⟩ := h.kept k hk
    refine ⟨by simpa [putBlock] using h1, fun c hl hh ho => ?_⟩
    rw [keep c (by
      intro e
      subst e
      rcases h.apart _ hmem k hk with h3 | h3 | h3
      · exact absurd hl (by simp only at h3; omega)
      · exact absurd hh (by simp only at h3; omega)
      · exact h3 ho)]
    exact h2 c hl hh ho
  · rw [hA] at hp
    rw [hK] at hk
    obtain ⟨j, hj, rfl⟩ := List.mem_iff_getElem.1 hp
    have hjl : j < M.all.length := by simpa using hj
    rw [List.getElem_set]
    split
    · have := h.apart _ hmem k hk; simpa using this
    · exact h.apart _ (List.getElem_mem hjl) k hk
theorem Mem.holds.put {B : World} {bs : List (Nat × Obj)} {ks : List Kp} {ms : List Nat} {rs : List (Option (Nat × Obj))} {w : World} (h : Mem.holds ⟨B, bs, ks, ms, rs⟩ w) {i : Nat} {b : Nat} {o : Obj} (hi : bs[i]? = some (b, o)) (o' : Obj) :
    Mem.holds ⟨B, bs.set i (b, o'), ks, ms, rs⟩ (putBlock w b o') := by
  have hii : i < bs.length := by
    rcases Nat.lt_or_ge i bs.length with h' | h'
    · exact h'
    · rw [List.getElem?_eq_none h'] at hi; cases hi
  exact h.putA (i := i) (o := o) (by show (bs ++ _)[i]? = _; rw [List.getElem?_append_left hii]; exact hi) o' rfl (by show bs.set i (b, o') ++ _ = (bs ++ _).set i (b, o'); rw [List.set_append_left _ _ hii]) rfl
end Go.D
namespace Go.D
open Go Go.RowKit
section
variable {P : Program} {Z : Env} {N : Nat} {L L' : List (Nat × Value)} {M M' : Mem} {Q : Exit → Act → World → Prop}
/-- code, from what is known of the frame and of memory -/
def TC (P : Program) (Z : Env) (N : Nat) (L : List (Nat × Value)) (M : Mem) (c : Code) (Q : Exit → Act → World → Prop) : Prop :=
  ∀ a w, Fr Z N L a → M.holds w → c.wpIn (FW Z.ro) 0 P Q a w
/-- an end, from what is known -/
def TP (Z : Env) (N : Nat) (L : List (Nat × Value)) (M : Mem) (e : Exit) (Q : Exit → Act → World → Prop) : Prop :=
  ∀ a w, Fr Z N L a → M.holds w → Q e a w
/-- operations from here on, in the order of the text -/
def TL (P : Program) (Z : Env) (N : Nat) (L : List (Nat × Value)) (M : Mem) (ops : Array Oper) (rest : List Oper) (Q : Exit → Act → World → Prop) : Prop :=
  ∀ a w, Fr Z N L a → M.holds w → wpListIn (FW Z.ro) 0 P ops Q rest a w
/-- quiet operations, one behind the other: each yields one value, and the world has at most grown -/
def QS (P : Program) (ops : Array Oper) (M : Mem) (K : Act → Prop) : List Oper → Act → Prop
  | [], a => K a
  | o :: rest, a => if Region.wanted o (yielded ops a.tmps) then ∃ v, (∀ w, M.holds w → o.quietAt P a (fun w' => Below w.heap.size w w') w v) ∧ QS P ops M K rest (a.put o.dst v)
    else QS P ops M K rest (a.put o.dst undef)
/-- quiet operations from here on -/
def TQ (P : Program) (Z : Env) (N : Nat) (L : List (Nat × Value)) (M : Mem) (ops : Array Oper) (rest : List Oper) (K : Act → Prop) : Prop :=
  ∀ a, Fr Z N L a → QS P ops M K rest a
/-- an operation yields a value, whatever the world -/
def Qv (P : Program) (Z : Env) (N : Nat) (L : List (Nat × Value)) (M : Mem) (o : Oper) (v : Value) : Prop :=
  ∀ a, Fr Z N L a → ∀ w, M.holds w → o.quietAt P a (fun w' => Below w.heap.size w w') w v
theorem tc_seq {x y : Code} (h : TC P Z N L M x (Exit.then (y.wpIn (FW Z.ro) 0 P Q) Q)) : TC P Z N L M (.seq x y) Q := fun a w hf hm => wpIn_seq (h a w hf hm)
theorem tc_skip (h : TP Z N L M .normal Q) : TC P Z N L M .skip Q := fun a w hf hm => wpIn_skip (h a w hf hm)
theorem tc_ret (h : TP Z N L M .ret Q) : TC P Z N L M .ret Q := fun a w hf hm => wpIn_ret (h a w hf hm)
theorem tc_exit {i : Nat} (h : TP Z N L M (.exit i) Q) : TC P Z N L M (.exit i) Q := fun a w hf hm => wpIn_exit (h a w hf hm)
theorem tc_block {i : Nat} {c : Code} (h : TC P Z N L M c (Exit.inBlock i Q)) : TC P Z N L M (.block i c) Q := fun a w hf hm => wpIn_block (h a w hf hm)
theorem tc_true {c : Operand} {x y : Code} (hc : ev L c = some (.bool true)) (h : TC P Z N L M x Q) : TC P Z N L M (.cond c x y) Q :=
  fun a w hf hm => wpIn_cond_true (hf.eval hc) (h a w hf hm)
theorem tc_false {c : Operand} {x y : Code} (hc : ev L c = some (.bool false)) (h : TC P Z N L M y Q) : TC P Z N L M (.cond c x y) Q :=
  fun a w hf hm => wpIn_cond_false (hf.eval hc) (h a w hf hm)
theorem TC.sub {c : Code} (hs : Sub L L') (h : TC P Z N L' M c Q) : TC P Z N L M c Q := fun a w hf hm => h a w (hf.sub hs) hm
theorem TC.less {B : World} {bs bs' : List (Nat × Obj)} {ks ks' : List Kp} {ms : List Nat} {rs : List (Option (Nat × Obj))} {c : Code} (h1 : bs'.Sublist bs) (h2 : ks'.Sublist ks) (h : TC P Z N L ⟨B, bs', ks', ms, rs⟩ c Q) : TC P Z N L ⟨B, bs, ks, ms, rs⟩ c Q :=
  fun a w hf hm => h a w hf (hm.less h1 h2)
theorem TC.mono {c : Code} {Q' : Exit → Act → World → Prop} (h : TC P Z N L M c Q') (hq : ∀ e a w, Q' e a w → Q e a w) : TC P Z N L M c Q := fun a w hf hm => Go.wpIn_mono (h a w hf hm) hq
theorem tp_normal {y : Code} (h : TC P Z N L M y Q) : TP Z N L M .normal (Exit.then (y.wpIn (FW Z.ro) 0 P Q) Q) := h
theorem tp_then_ret {K : Act → World → Prop} (h : TP Z N L M .ret Q) : TP Z N L M .ret (Exit.then K Q) := h
theorem tp_then_exit {K : Act → World → Prop} {i : Nat} (h : TP Z N L M (.exit i) Q) : TP Z N L M (.exit i) (Exit.then K Q) := h
theorem tp_block_normal {i : Nat} (h : TP Z N L M .normal Q) : TP Z N L M .normal (Exit.inBlock i Q) := h
theorem tp_block_ret {i : Nat} (h : TP Z N L M .ret Q) : TP Z N L M .ret (Exit.inBlock i Q) := h
theorem tp_block_exit {i : Nat} (h : TP Z N L M .normal Q) : TP Z N L M (.exit i) (Exit.inBlock i Q) := fun a w hf hm => by
  simpa [Exit.inBlock] using h a w hf hm
theorem tc_loopZ {β : Type} {c : Code} (Zf : β → Env) (S : β → List (Nat × Value)) (Me : β → Mem) (I : β → Prop) (μ : β → Nat) (b₀ : β) (h0 : I b₀) (hro : ∀ b, (Zf b).ro = Z.ro) (hL : ∀ a, Fr Z N L a → Fr (Zf b₀) N (S b₀) a) (hM : ∀ w, M.holds w → (Me b₀).holds w)
    (round : ∀ b, I b → TC P (Zf b) N (S b) (Me b) c (Exit.then (fun a w => ∃ b', I b' ∧ μ b' < μ b ∧ Fr (Zf b') N (S b') a ∧ (Me b').holds w) Q)) : TC P Z N L M (.loop c) Q := by
  intro a w hf hm bf k cs hro' hb hr
  have key : ∀ n, ∀ b : β, μ b = n → I b → ∀ a w, Fr (Zf b) N (S b) a → (Me b).holds w →
      ∃ e a' w', Q e a' w' ∧ ArrivesIn (Machine.fenced P (FW Z.ro)) P (lone (bf.atR a (.code c :: .inLoop c :: k)) cs w) bf k cs e a' w' := by
    intro n
    induction n using Nat.strongRecOn with
    | _ n ih =>
      intro b hbn hI a w hf hm
      have hrd := round b hI a w hf hm
      rw [hro b] at hrd
      obtain ⟨e, a₁, w₁, hq, harr⟩ := hrd bf (.inLoop c :: k) cs hro' hb hr
      cases e with
      | normal =>
        obtain ⟨b', hI', hlt, hf', hm'⟩ := hq
        obtain ⟨e₂, a₂, w₂, hq₂, harr₂⟩ := ih (μ b') (by omega) b' rfl hI' a₁ w₁ hf' hm'
        exact ⟨e₂, a₂, w₂, hq₂, .of_steps (StepsIn.trans harr (.one (fenced_calm hb hr rfl) stepR_inLoop)) harr₂⟩
      | exit id => exact ⟨_, a₁, w₁, hq, .pass (x := .inLoop c) rfl (fun _ _ => .inl (by simp)) harr⟩
      | goto l => exact ⟨_, a₁, w₁, hq, .pass (x := .inLoop c) rfl (fun _ _ => .inl (by simp)) harr⟩
      | ret => exact ⟨_, a₁, w₁, hq, .pass (x := .inLoop c) rfl (fun _ _ => .inl (by simp)) harr⟩
      | panic ch => exact ⟨_, a₁, w₁, hq, .pass (x := .inLoop c) rfl (fun _ _ => .inl (by simp)) harr⟩
      | outgrown => exact ⟨_, a₁, w₁, hq, .pass (x := .inLoop c) rfl (fun _ _ => .inl (by simp)) harr⟩
  obtain ⟨e, a', w', hq, harr⟩ := key _ b₀ rfl h0 a w (hL a hf) (hM w hm)
  exact ⟨e, a', w', hq, .of_steps (.one (fenced_calm hb hr rfl) stepR_loop) harr⟩
/-- what is known at the head of a loop: the frame, the memory, by a ghost -/
theorem tc_loop {β : Type} {c : Code} (S : β → List (Nat × Value)) (Me : β → Mem) (I : β → Prop) (μ : β → Nat) (b₀ : β) (h0 : I b₀) (hL : ∀ a, Fr Z N L a → Fr Z N (S b₀) a) (hM : ∀ w, M.holds w → (Me b₀).holds w)
    (round : ∀ b, I b → TC P Z N (S b) (Me b) c (Exit.then (fun a w => ∃ b', I b' ∧ μ b' < μ b ∧ Fr Z N (S b') a ∧ (Me b').holds w) Q)) : TC P Z N L M (.loop c) Q :=
  tc_loopZ (fun _ => Z) S Me I μ b₀ h0 (fun _ => rfl) hL hM round
def argsL : Nat → List Value → List (Nat × Value)
  | _, [] => []
  | i, v :: vs => (i, v) :: argsL (i + 1) vs
theorem argsL_lookup : ∀ (vs : List Value) (i t : Nat) (v : Value), (argsL i vs).lookup t = some v → i ≤ t ∧ vs[t - i]? = some v
  | [], i, t, v, h => by simp [argsL] at h
  | x :: vs, i, t, v, h => by
    simp only [argsL, List.lookup_cons] at h
    by_cases ht : t = i
    · subst ht
      simp at h
      subst h
      simp
    · have hb : (t == i) = false := by simpa using ht
      rw [hb] at h
      obtain ⟨h1, h2⟩ := argsL_lookup vs (i + 1) t v h
      refine ⟨by omega, ?_⟩
      have : t - i = (t - (i + 1)) + 1 := by omega
      rw [this]
      simpa using h2
theorem fr_args {fn : Func} {vs : List Value} (hN : fn.ntmps = N) (hvs : vs.length ≤ N) : Fr ⟨none, []⟩ N (argsL 0 vs) { tmps := vs.toArray ++ Array.replicate (fn.ntmps - vs.toArray.size) undef, defers := [] } := by
  refine ⟨?_, rfl, ?_⟩
  · simp [hN]; omega
  · intro t v ht
    obtain ⟨_, h2⟩ := argsL_lookup vs 0 t v ht
    have h2' : vs[t]? = some v := by simpa using h2
    have hlt : t < vs.length := by
      rcases Nat.lt_or_ge t vs.length with h' | h'
      · exact h'
      · rw [List.getElem?_eq_none h'] at h2'; cases h2'
    simp only
    rw [Array.getElem?_append_left (by simpa using hlt)]
    simpa using h2'
theorem calls_of_tc {f : FuncId} {fn : Func} {c : Code} {vs : List Value} {w : World} {R : Ending → World → Prop} (hf : P.funcs[f]? = some fn) (hb : fn.body = some c) (hN : fn.ntmps = N) (hvs : vs.length ≤ N)
    (h : TC P ⟨none, []⟩ N (argsL 0 vs) (Mem.init w) c (bodyPost P fn R)) : Calls P f vs.toArray w R :=
  callsIn_wide.1 (callsIn_of_wp (F := Fence.wide) (n := 0) hf hb trivial (h _ _ (fr_args hN hvs) (Mem.init_holds w)))
theorem tp_end1 {ro : Option Nat} {fn : Func} {R : Ending → World → Prop} {t : Tmp} {v : Value} (hr : fn.results = #[.tmp t]) (hl : L.lookup t = some v) (h : ∀ w, M.holds w → R (.returned v) w) :
    TP ⟨ro, []⟩ N L M .ret (bodyPost P fn R) := fun a w hf hm =>
  ⟨hf.2.1, v, by rw [results_tmp hr]; simp [Array.getD_eq_getD_getElem?, hf.2.2 t v hl], h w hm⟩
theorem tp_end2 {ro : Option Nat} {fn : Func} {R : Ending → World → Prop} {t u : Tmp} {v x : Value} (hr : fn.results = #[.tmp t, .tmp u]) (hl : L.lookup t = some v) (hu : L.lookup u = some x) (h : ∀ w, M.holds w → R (.returned (.tuple #[v, x])) w) :
    TP ⟨ro, []⟩ N L M .ret (bodyPost P fn R) := fun a w hf hm =>
  ⟨hf.2.1, _, by rw [results_tmp2 hr]; simp [Array.getD_eq_getD_getElem?, hf.2.2 t v hl, hf.2.2 u x hu], h w hm⟩
theorem tc_region {id : Nat} {l : List Oper} (h : TL P Z N L M l.toArray l Q) : TC P Z N L M (.region id l.toArray false) Q :=
  fun a w hf hm => wpIn_region_lit (h a w hf hm)
theorem tl_nil {ops : Array Oper} (h : TP Z N L M .normal Q) : TL P Z N L M ops [] Q := h
theorem tq_nil {ops : Array Oper} (h : TP Z N L M .normal Q) : TQ P Z N L M ops [] (fun a => ∀ w, M.holds w → Q .normal a w) :=
  fun a hf w hm => h a w hf hm
section ops
variable {ops : Array Oper} {o : Oper} {rest : List Oper} {v : Value} {d : Nat}
theorem wanted_none (hg : o.guard = none) (t : Array Value) : Region.wanted o (yielded ops t) = true := by simp [Region.wanted, hg]
theorem wanted_some {j t : Nat} {want b : Bool} {a : Act} (hg : o.guard = some (j, want)) (hj : (ops[j]?).bind (·.dst) = some t) (hf : Fr Z N L a) (hl : L.lookup t = some (.bool b)) :
    Region.wanted o (yielded ops a.tmps) = (b == want) := by
  have := hf.2.2 t _ hl
  simp [Region.wanted, hg, yielded, hj, this]
def asks (u : Value) (want : Bool) : Bool := match u with | .bool b => b == want | _ => false
theorem wanted_any {j t : Nat} {want : Bool} {u : Value} {a : Act} (hg : o.guard = some (j, want)) (hj : (ops[j]?).bind (·.dst) = some t) (hf : Fr Z N L a) (hl : L.lookup t = some u) (hu : asks u want = false) :
    Region.wanted o (yielded ops a.tmps) = false := by
  have := hf.2.2 t _ hl
  cases u <;> simp_all [Region.wanted, yielded, asks]
theorem semAt_of {ro : Option Nat} {ρ : Operand → Value} {w w' : World} {n : Next} (h : (execOp ρ o).run P w = .ok n w') (hn : ∀ d, n ≠ .defer d) : (o.semAt ro ρ).run P w = .ok n w' := by
  rw [Oper.semAt_eq]
  · exact h
  · intro c hc
    unfold execOp at h
    simp only [hc] at h
    simp only [Sem.run_bind] at h
    cases hr : (resolve ρ c o.type).run P w with
    | ok d w2 =>
      rw [hr] at h
      simp only [Result.andThen_ok, Sem.run_pure] at h
      injection h with h1 h2
      exact hn _ h1.symm
    | halt x w2 => rw [hr] at h; simp [Result.andThen] at h
theorem calls_in {ro : Option Nat} {n : Nat} {f : FuncId} {args : Array Value} {w : World} {R : Ending → World → Prop} (h : Calls P f args w R) : CallsIn (FW ro) n P f args w R :=
  (callsIn_wide (n := n)).2 h
theorem wpIn_of {o : Oper} {a : Act} {w : World} {K : Act → World → Prop} {ro : Option Nat} (h : o.uponIn (FW ro) 0 P a K Q ((o.semAt ro a.eval).run P w)) : o.wpIn (FW ro) 0 P a w K Q := ⟨fun _ _ => trivial, h⟩
theorem wpIn_of_quietAt {a : Act} {w : World} {ro : Option Nat} {K : Act → World → Prop} (hm : M.holds w) (hq : o.quietAt P a (fun w' => Below w.heap.size w w') w v)
    (h : ∀ w', M.holds w' → K (a.put o.dst v) w') : o.wpIn (FW ro) 0 P a w K Q := by
  refine wpIn_of ?_
  unfold Oper.quietAt at hq
  cases hr : (execOp a.eval o).run P w with
  | ok n w' =>
    rw [hr] at hq
    cases n <;> simp only [Oper.quietUpon] at hq
    case value u =>
      obtain ⟨e1, e2⟩ := hq
      rw [semAt_of hr (by simp), e1, e2]
      exact h _ hm
    case skip =>
      obtain ⟨e1, e2⟩ := hq
      rw [semAt_of hr (by simp), e1]
      simp only [Oper.uponIn]
      rw [← e2]
      exact h _ hm
    case enter f args =>
      obtain ⟨e1, hc⟩ := hq
      rw [semAt_of hr (by simp), e1]
      exact ⟨fun hd => by simp [Fence.wide] at hd, calls_in (hc.mono fun e w'' ⟨he, hw''⟩ => by subst he; exact h _ (hm.ext hw''))⟩
  | halt x w' => rw [hr] at hq; simp only [Oper.quietUpon] at hq
theorem wpList_of_quietAt {a : Act} {w : World} {ro : Option Nat} (hm : M.holds w) (hwant : Region.wanted o (yielded ops a.tmps) = true) (hq : o.quietAt P a (fun w' => Below w.heap.size w w') w v)
    (h : ∀ w', M.holds w' → wpListIn (FW ro) 0 P ops Q rest (a.put o.dst v) w') : wpListIn (FW ro) 0 P ops Q (o :: rest) a w := by
  unfold wpListIn
  rw [if_pos hwant]
  exact wpIn_of_quietAt hm hq h
theorem wpList_skip' {a : Act} {w : World} {ro : Option Nat} (hw : Region.wanted o (yielded ops a.tmps) = false) (h : wpListIn (FW ro) 0 P ops Q rest (a.put o.dst undef) w) : wpListIn (FW ro) 0 P ops Q (o :: rest) a w := by
  unfold wpListIn
  rw [if_neg (by simp [hw])]
  exact ⟨fun _ _ => trivial, h⟩
theorem tl_step (hg : o.guard = none) (hd : o.dst = some d) (hN : d < N) (hq : Qv P Z N L M o v) (h : TL P Z N ((d, v) :: L) M ops rest Q) : TL P Z N L M ops (o :: rest) Q :=
  fun a w hf hm => wpList_of_quietAt hm (wanted_none hg _) (hq a hf w hm) (fun w' hm' => h _ w' (by rw [hd]; exact hf.put hN v) hm')
theorem tl_stepg {j t : Nat} {want : Bool} (hg : o.guard = some (j, want)) (hj : (ops[j]?).bind (·.dst) = some t) (hl : L.lookup t = some (.bool want)) (hd : o.dst = some d) (hN : d < N) (hq : Qv P Z N L M o v)
    (h : TL P Z N ((d, v) :: L) M ops rest Q) : TL P Z N L M ops (o :: rest) Q :=
  fun a w hf hm => wpList_of_quietAt hm (by rw [wanted_some hg hj hf hl]; simp) (hq a hf w hm) (fun w' hm' => h _ w' (by rw [hd]; exact hf.put hN v) hm')
theorem tl_skip {j t : Nat} {want : Bool} {u : Value} (hg : o.guard = some (j, want)) (hj : (ops[j]?).bind (·.dst) = some t) (hl : L.lookup t = some u) (hb : asks u want = false) (hd : o.dst = some d) (hN : d < N)
    (h : TL P Z N ((d, undef) :: L) M ops rest Q) : TL P Z N L M ops (o :: rest) Q := fun a w hf hm =>
  wpList_skip' (wanted_any hg hj hf hl hb) (h _ w (by rw [hd]; exact hf.put hN _) hm)
variable {K : Act → Prop}
theorem tq_step (hg : o.guard = none) (hd : o.dst = some d) (hN : d < N) (hq : Qv P Z N L M o v) (h : TQ P Z N ((d, v) :: L) M ops rest K) : TQ P Z N L M ops (o :: rest) K :=
  fun a hf => by
    unfold QS
    rw [if_pos (wanted_none hg _)]
    exact ⟨v, fun w hm => hq a hf w hm, h _ (by rw [hd]; exact hf.put hN v)⟩
theorem tq_stepg {j t : Nat} {want : Bool} (hg : o.guard = some (j, want)) (hj : (ops[j]?).bind (·.dst) = some t) (hl : L.lookup t = some (.bool want)) (hd : o.dst = some d) (hN : d < N) (hq : Qv P Z N L M o v)
    (h : TQ P Z N ((d, v) :: L) M ops rest K) : TQ P Z N L M ops (o :: rest) K :=
  fun a hf => by
    unfold QS
    rw [if_pos (by rw [wanted_some hg hj hf hl]; simp)]
    exact ⟨v, fun w hm => hq a hf w hm, h _ (by rw [hd]; exact hf.put hN v)⟩
theorem tq_skip {j t : Nat} {want : Bool} {u : Value} (hg : o.guard = some (j, want)) (hj : (ops[j]?).bind (·.dst) = some t) (hl : L.lookup t = some u) (hb : asks u want = false) (hd : o.dst = some d) (hN : d < N)
    (h : TQ P Z N ((d, undef) :: L) M ops rest K) : TQ P Z N L M ops (o :: rest) K := fun a hf => by
  unfold QS
  rw [if_neg (by rw [wanted_any hg hj hf hl hb]; simp)]
  exact h _ (by rw [hd]; exact hf.put hN _)
theorem TL.sub (hs : Sub L L') (h : TL P Z N L' M ops rest Q) : TL P Z N L M ops rest Q := fun a w hf hm => h a w (hf.sub hs) hm
theorem TQ.sub (hs : Sub L L') (h : TQ P Z N L' M ops rest K) : TQ P Z N L M ops rest K := fun a hf => h a (hf.sub hs)
end ops
end
end Go.D
namespace Go.D
open Go Go.RowKit
def Scalar (P : Program) (T : TypeId) : Prop := ∀ w, (isAgg T).run P w = .ok false w
def Agg (P : Program) (T : TypeId) (n : Nat) : Prop := ∀ w, (isAgg T).run P w = .ok true w ∧ (sizeOf T).run P w = .ok n w
def Size (P : Program) (T : TypeId) (n : Nat) : Prop := ∀ w, (sizeOf T).run P w = .ok n w
def FOff (P : Program) (S f off : Nat) : Prop := ∀ (b o : Nat) (w : World), (Instr.fieldAt S (.pointer (some ⟨b, o, none⟩)) f).run P w = .ok (.pointer (some ⟨b, o + off, none⟩)) w
def SliceTy (P : Program) (T sz : Nat) : Prop := ∃ E, P.underlying T = some (.slice E) ∧ Size P E sz
def ArrTy (P : Program) (T n sz : Nat) : Prop := ∃ E, P.underlying T = some (.array n E) ∧ Size P E sz
def Zero (P : Program) (T : TypeId) (cs : Array Value) : Prop := ∀ w, ∃ z, (zeroValue T).run P w = .ok z w ∧ z.cells = cs
def IsFn (P : Program) (f : FuncId) : Prop := ∀ args w, (callFunc f args).run P w = .ok (.enter f args) w
theorem isFn_of {P : Program} {f : FuncId} {fn : Func} (hf : P.funcs[f]? = some fn) (hn : (fn.name == "runtime.NumGoroutine") = false) (hb : fn.body.isNone = false) : IsFn P f := by
  intro args w
  simp only [callFunc, Sem.run_bind, run_program, Result.andThen_ok, hf]
  simp [hn, hb]
def Mem.has (M : Mem) (W : World) (lo hi : Nat) : Prop := ∀ w, M.holds w → hi ≤ w.heap.size ∧ ∀ b, lo ≤ b → b < hi → w.heap[b]? = W.heap[b]?
theorem Mem.has_base {B : World} {bs : List (Nat × Obj)} {ks : List Kp} {ms : List Nat} {rs : List (Option (Nat × Obj))} : Mem.has ⟨B, bs, ks, ms, rs⟩ B 0 B.heap.size := fun _ h => ⟨h.size, fun b _ hb => h.old b hb⟩
theorem Mem.has_kept {B : World} {bs : List (Nat × Obj)} {ks : List Kp} {ms : List Nat} {rs : List (Option (Nat × Obj))} {W : World} {lo hi : Nat} (h : Kin W lo hi ∈ ks) : Mem.has ⟨B, bs, ks, ms, rs⟩ W lo hi := fun _ hm => ⟨(hm.kept _ h).1, fun b h1 h2 => (hm.kept _ h).2 b h1 h2 trivial⟩
theorem add_none (b o n : Nat) : (⟨b, o, none⟩ : Addr).add n = ⟨b, o + n, none⟩ := by
  unfold Addr.add
  split
  · rename_i h; subst h; rfl
  · rfl
theorem cell_of {w : World} {b o : Nat} {cs : Array Value} {T : TypeId} {fz : Nat × Nat} {v : Value} (h : w.heap[b]? = some (.cells cs T fz)) (hv : cs[o]? = some v) : w.cell? ⟨b, o, none⟩ = some v := by
  simp [World.cell?, h, hv]
theorem cell_same {w w' : World} {b o : Nat} (h : w'.heap[b]? = w.heap[b]?) : w'.cell? ⟨b, o, none⟩ = w.cell? ⟨b, o, none⟩ := by simp [World.cell?, h]
def blk : Option Addr → Nat | some p => p.block | none => 0
def offs : Option Addr → Nat | some p => p.off | none => 0
structure SlAt {α : Type} (W : World) (lo hi sz : Nat) (enc : α → List Value) (a : Option Addr) (l : List α) : Prop where
  len : l.length ≤ maxLen
  szs : ∀ x ∈ l, (enc x).length = sz
  nz : l ≠ [] → a = some ⟨blk a, offs a, none⟩ ∧ lo ≤ blk a ∧ blk a < hi
  cell : ∀ i j x v, l[i]? = some x → (enc x)[j]? = some v → W.cell? ⟨blk a, offs a + i * sz + j, none⟩ = some v
def SlIn {α : Type} (w : World) (sz : Nat) (enc : α → List Value) (a : Option Addr) (l : List α) : Prop := SlAt w 0 w.heap.size sz enc a l
theorem SlAt.move {α : Type} {W w : World} {lo hi lo' hi' sz : Nat} {enc : α → List Value} {a : Option Addr} {l : List α} (h : SlAt W lo hi sz enc a l) (hk : ∀ b, lo ≤ b → b < hi → w.heap[b]? = W.heap[b]?)
    (h1 : lo' ≤ lo) (h2 : hi ≤ hi') : SlAt w lo' hi' sz enc a l := by
  refine ⟨h.len, h.szs, fun hn => ?_, fun i j x v hx hv => ?_⟩
  · obtain ⟨e, h3, h4⟩ := h.nz hn
    exact ⟨e, by omega, by omega⟩
  · have hn : l ≠ [] := fun e => by subst e; simp at hx
    obtain ⟨_, h3, h4⟩ := h.nz hn
    rw [cell_same (hk _ h3 h4)]
    exact h.cell i j x v hx hv
theorem SlAt.into {α : Type} {M : Mem} {W w : World} {lo hi sz : Nat} {enc : α → List Value} {a : Option Addr} {l : List α} (h : SlAt W lo hi sz enc a l) (hM : M.has W lo hi) (hm : M.holds w) : SlIn w sz enc a l :=
  h.move (hM w hm).2 (Nat.zero_le _) (hM w hm).1
theorem SlIn.ext {α : Type} {w w' : World} {sz : Nat} {enc : α → List Value} {a : Option Addr} {l : List α} (h : SlIn w sz enc a l) (hb : Below w.heap.size w w') : SlIn w' sz enc a l :=
  SlAt.move h (fun b _ hlt => hb.block b hlt) (Nat.le_refl _) hb.size
section
variable {P : Program} {Z : Env} {N : Nat} {L : List (Nat × Value)} {M : Mem} {d : Option Tmp} {ty : TypeId} {pos : String} {af : Array Edge} {g : Option (Nat × Bool)} {x y : Operand} {v : Value}
theorem qv_of {o : Oper} (h : ∀ a, Fr Z N L a → ∀ w, M.holds w → (execOp a.eval o).run P w = .ok (.value v) w) : Qv P Z N L M o v := fun a hf w hm => by
  unfold Oper.quietAt
  rw [h a hf w hm]
  exact ⟨rfl, rfl⟩
theorem qv_move (hx : ev L x = some v) : Qv P Z N L M ⟨d, .move x, ty, pos, af, g⟩ v := qv_of fun a hf w _ => by
  simp [execOp, hf.eval hx]
theorem qv_assign (hx : ev L x = some v) : Qv P Z N L M ⟨d, .assign x, ty, pos, af, g⟩ v := qv_of fun a hf w _ => by
  simp [execOp, hf.eval hx]
theorem qv_pickT {c : Operand} (hc : ev L c = some (.bool true)) (hx : ev L x = some v) : Qv P Z N L M ⟨d, .pick c x y, ty, pos, af, g⟩ v := qv_of fun a hf w _ => by
  simp [execOp, hf.eval hc, hf.eval hx, asBool]
theorem qv_pickF {c : Operand} (hc : ev L c = some (.bool false)) (hy : ev L y = some v) : Qv P Z N L M ⟨d, .pick c x y, ty, pos, af, g⟩ v := qv_of fun a hf w _ => by
  simp [execOp, hf.eval hc, hf.eval hy, asBool]
theorem qv_not {T : TypeId} {b : Bool} (hx : ev L x = some (.bool b)) : Qv P Z N L M ⟨d, .unOp .not T x, ty, pos, af, g⟩ (.bool (!b)) := qv_of fun a hf w _ => by
  simp [execOp, hf.eval hx, Op.unary]
section ints
variable {T T' : TypeId} {k : IntKind} {m n : Int}
theorem qv_lss (hx : ev L x = some (.int k m)) (hy : ev L y = some (.int k n)) : Qv P Z N L M ⟨d, .binOp .lss T x y T', ty, pos, af, g⟩ (.bool (decide (m < n))) := qv_of fun a hf w _ => by
  simp [execOp, hf.eval hx, hf.eval hy, eqGuard, binOp, Op.intCmp]
theorem qv_leq (hx : ev L x = some (.int k m)) (hy : ev L y = some (.int k n)) : Qv P Z N L M ⟨d, .binOp .leq T x y T', ty, pos, af, g⟩ (.bool (decide (m ≤ n))) := qv_of fun a hf w _ => by
  simp [execOp, hf.eval hx, hf.eval hy, eqGuard, binOp, Op.intCmp]
theorem qv_gtr (hx : ev L x = some (.int k m)) (hy : ev L y = some (.int k n)) : Qv P Z N L M ⟨d, .binOp .gtr T x y T', ty, pos, af, g⟩ (.bool (decide (n < m))) := qv_of fun a hf w _ => by
  simp [execOp, hf.eval hx, hf.eval hy, eqGuard, binOp, Op.intCmp]
theorem qv_geq (hx : ev L x = some (.int k m)) (hy : ev L y = some (.int k n)) : Qv P Z N L M ⟨d, .binOp .geq T x y T', ty, pos, af, g⟩ (.bool (decide (n ≤ m))) := qv_of fun a hf w _ => by
  simp [execOp, hf.eval hx, hf.eval hy, eqGuard, binOp, Op.intCmp]
theorem qv_eql (hx : ev L x = some (.int k m)) (hy : ev L y = some (.int k n)) : Qv P Z N L M ⟨d, .binOp .eql T x y T', ty, pos, af, g⟩ (.bool (decide (m = n))) := qv_of fun a hf w _ => by
  have e : (m == n) = decide (m = n) := by rw [Bool.eq_iff_iff]; simp
  simp [execOp, hf.eval hx, hf.eval hy, eqGuard, binOp, Op.intCmp, e]
theorem qv_neq (hx : ev L x = some (.int k m)) (hy : ev L y = some (.int k n)) : Qv P Z N L M ⟨d, .binOp .neq T x y T', ty, pos, af, g⟩ (.bool (decide (m ≠ n))) := qv_of fun a hf w _ => by
  have e : (m != n) = decide (m ≠ n) := by rw [Bool.eq_iff_iff]; simp
  simp [execOp, hf.eval hx, hf.eval hy, eqGuard, binOp, Op.intCmp, e]
theorem qv_add (hx : ev L x = some (.int k m)) (hy : ev L y = some (.int k n)) : Qv P Z N L M ⟨d, .binOp .add T x y T', ty, pos, af, g⟩ (.int k (k.wrap (m + n))) := qv_of fun a hf w _ => by
  simp [execOp, hf.eval hx, hf.eval hy, eqGuard, binOp, Op.intArith]
theorem qv_sub (hx : ev L x = some (.int k m)) (hy : ev L y = some (.int k n)) : Qv P Z N L M ⟨d, .binOp .sub T x y T', ty, pos, af, g⟩ (.int k (k.wrap (m - n))) := qv_of fun a hf w _ => by
  simp [execOp, hf.eval hx, hf.eval hy, eqGuard, binOp, Op.intArith]
theorem qv_mul (hx : ev L x = some (.int k m)) (hy : ev L y = some (.int k n)) : Qv P Z N L M ⟨d, .binOp .mul T x y T', ty, pos, af, g⟩ (.int k (k.wrap (m * n))) := qv_of fun a hf w _ => by
  simp [execOp, hf.eval hx, hf.eval hy, eqGuard, binOp, Op.intArith]
theorem qv_quo (hx : ev L x = some (.int k m)) (hy : ev L y = some (.int k n)) (h0 : n ≠ 0) : Qv P Z N L M ⟨d, .binOp .quo T x y T', ty, pos, af, g⟩ (.int k (k.wrap (m.tdiv n))) := qv_of fun a hf w _ => by
  simp [execOp, hf.eval hx, hf.eval hy, eqGuard, binOp, Op.intDiv, h0]
theorem qv_rem (hx : ev L x = some (.int k m)) (hy : ev L y = some (.int k n)) (h0 : n ≠ 0) : Qv P Z N L M ⟨d, .binOp .rem T x y T', ty, pos, af, g⟩ (.int k (m.tmod n)) := qv_of fun a hf w _ => by
  simp [execOp, hf.eval hx, hf.eval hy, eqGuard, binOp, Op.intDiv, h0]
theorem wrap_in {n : Int} (h0 : -9223372036854775808 ≤ n) (h1 : n ≤ 9223372036854775807) : IntKind.i64.wrap n = n := IntWalk.i64_in n (by omega)
/-- sums that fit -/
theorem qv_addI (hx : ev L x = some (.int .i64 m)) (hy : ev L y = some (.int .i64 n)) (h : -9223372036854775808 ≤ m + n ∧ m + n ≤ 9223372036854775807) : Qv P Z N L M ⟨d, .binOp .add T x y T', ty, pos, af, g⟩ (.int .i64 (m + n)) := by
  have := qv_add (P := P) (Z := Z) (N := N) (M := M) (d := d) (ty := ty) (pos := pos) (af := af) (g := g) (T := T) (T' := T') hx hy
  rwa [wrap_in h.1 h.2] at this
theorem qv_subI (hx : ev L x = some (.int .i64 m)) (hy : ev L y = some (.int .i64 n)) (h : -9223372036854775808 ≤ m - n ∧ m - n ≤ 9223372036854775807) : Qv P Z N L M ⟨d, .binOp .sub T x y T', ty, pos, af, g⟩ (.int .i64 (m - n)) := by
  have := qv_sub (P := P) (Z := Z) (N := N) (M := M) (d := d) (ty := ty) (pos := pos) (af := af) (g := g) (T := T) (T' := T') hx hy
  rwa [wrap_in h.1 h.2] at this
theorem qv_mulI (hx : ev L x = some (.int .i64 m)) (hy : ev L y = some (.int .i64 n)) (h : -9223372036854775808 ≤ m * n ∧ m * n ≤ 9223372036854775807) : Qv P Z N L M ⟨d, .binOp .mul T x y T', ty, pos, af, g⟩ (.int .i64 (m * n)) := by
  have := qv_mul (P := P) (Z := Z) (N := N) (M := M) (d := d) (ty := ty) (pos := pos) (af := af) (g := g) (T := T) (T' := T') hx hy
  rwa [wrap_in h.1 h.2] at this
/-- a counter's next number -/
theorem qv_succ {i : Nat} (hx : ev L x = some (.int .i64 (i : Int))) (hy : ev L y = some (.int .i64 1)) (h : i < 9223372036854775807) : Qv P Z N L M ⟨d, .binOp .add T x y T', ty, pos, af, g⟩ (.int .i64 ((i + 1 : Nat) : Int)) := by
  exact qv_addI hx hy (by omega)
/-- remainders of numbers that are not negative -/
theorem qv_remI (hx : ev L x = some (.int k m)) (hy : ev L y = some (.int k n)) (h0 : 0 < n) (hm : 0 ≤ m) : Qv P Z N L M ⟨d, .binOp .rem T x y T', ty, pos, af, g⟩ (.int k (m % n)) := by
  have := qv_rem (P := P) (Z := Z) (N := N) (M := M) (d := d) (ty := ty) (pos := pos) (af := af) (g := g) (T := T) (T' := T') hx hy (by omega)
  rwa [Int.tmod_eq_emod_of_nonneg hm] at this
theorem qv_quoI (hx : ev L x = some (.int .i64 m)) (hy : ev L y = some (.int .i64 n)) (h0 : 0 < n) (hm : 0 ≤ m) (hb : m ≤ 9223372036854775807) : Qv P Z N L M ⟨d, .binOp .quo T x y T', ty, pos, af, g⟩ (.int .i64 (m / n)) := by
  have := qv_quo (P := P) (Z := Z) (N := N) (M := M) (d := d) (ty := ty) (pos := pos) (af := af) (g := g) (T := T) (T' := T') hx hy (by omega)
  rw [Int.tdiv_eq_ediv_of_nonneg hm] at this
  have h1 : 0 ≤ m / n := Int.ediv_nonneg hm (by omega)
  have h2 : m / n ≤ m := Int.ediv_le_self _ hm
  rwa [wrap_in (by omega) (by omega)] at this
end ints
theorem qv_len {T : TypeId} {sz : Nat} {a : Option Addr} {n c : Nat} (hT : SliceTy P T sz) (hx : ev L x = some (.slice a n c)) : Qv P Z N L M ⟨d, .call { callee := .builtin .len, args := #[x], argTypes := #[T] }, ty, pos, af, g⟩ (.int .i64 (n : Int)) := qv_of fun a' hf w _ => by
  obtain ⟨E, hE, _⟩ := hT
  simp [execOp, resolve, invoke, builtin, Builtin.len_, hf.eval hx, run_underlying hE, goInt]
theorem qv_extract {i : Nat} {vs : Array Value} (hx : ev L x = some (.tuple vs)) (hi : vs[i]? = some v) : Qv P Z N L M ⟨d, .extract x i, ty, pos, af, g⟩ v := qv_of fun a hf w _ => by
  simp [execOp, Instr.extract, hf.eval hx, hi]
theorem qv_fa {S f off b o : Nat} (hF : FOff P S f off) (hx : ev L x = some (.pointer (some ⟨b, o, none⟩))) : Qv P Z N L M ⟨d, .fieldAddr S x f, ty, pos, af, g⟩ (.pointer (some ⟨b, o + off, none⟩)) := qv_of fun a hf w _ => by
  simp [execOp, hf.eval hx, hF b o w]
theorem qv_ia {α : Type} {T sz cap : Nat} {i : Int} {k : IntKind} {enc : α → List Value} {a : Option Addr} {l : List α} {W : World} {lo hi : Nat} (hT : SliceTy P T sz) (hs : SlAt W lo hi sz enc a l)
    (hx : ev L x = some (.slice a l.length cap)) (hy : ev L y = some (.int k i)) (h : 0 ≤ i ∧ i < l.length) : Qv P Z N L M ⟨d, .indexAddr T x y, ty, pos, af, g⟩ (.pointer (some ⟨blk a, offs a + i.toNat * sz, none⟩)) := qv_of fun a' hf w _ => by
  obtain ⟨E, hE, hsz⟩ := hT
  obtain ⟨e, _, _⟩ := hs.nz (fun e => by subst e; simp at h; omega)
  have : (Instr.indexAt T (.slice a l.length cap) (.int k i)).run P w = .ok (.pointer (some ⟨blk a, offs a + i.toNat * sz, none⟩)) w := by
    rw [e]
    simp [Instr.indexAt, asIntOf, run_underlying hE, h, hsz w, add_none, blk, offs]
  simp [execOp, hf.eval hx, hf.eval hy, this]
theorem qv_iaN {α : Type} {T sz cap : Nat} {i : Nat} {k : IntKind} {enc : α → List Value} {a : Option Addr} {l : List α} {W : World} {lo hi : Nat} (hT : SliceTy P T sz) (hs : SlAt W lo hi sz enc a l)
    (hx : ev L x = some (.slice a l.length cap)) (hy : ev L y = some (.int k (i : Int))) (h : i < l.length) : Qv P Z N L M ⟨d, .indexAddr T x y, ty, pos, af, g⟩ (.pointer (some ⟨blk a, offs a + i * sz, none⟩)) := by
  have := qv_ia (P := P) (Z := Z) (N := N) (M := M) (d := d) (ty := ty) (pos := pos) (af := af) (g := g) hT hs hx hy (by omega)
  simpa using this
/-- an element of an array behind a pointer -/
theorem qv_iA {T n sz b o : Nat} {i : Int} {k : IntKind} (hT : ArrTy P T n sz) (hx : ev L x = some (.pointer (some ⟨b, o, none⟩))) (hy : ev L y = some (.int k i)) (h : 0 ≤ i ∧ i < n) :
    Qv P Z N L M ⟨d, .indexAddr T x y, ty, pos, af, g⟩ (.pointer (some ⟨b, o + i.toNat * sz, none⟩)) := qv_of fun a' hf w _ => by
  obtain ⟨E, hE, hsz⟩ := hT
  have : (Instr.indexAt T (.pointer (some ⟨b, o, none⟩)) (.int k i)).run P w = .ok (.pointer (some ⟨b, o + i.toNat * sz, none⟩)) w := by
    simp [Instr.indexAt, asIntOf, run_underlying hE, h, hsz w, add_none, Instr.sureAddr]
  simp [execOp, hf.eval hx, hf.eval hy, this]
theorem qv_load {T : TypeId} {p : Addr} (hx : ev L x = some (.pointer (some p))) (h : ∀ w, M.holds w → (loadVar T p).run P w = .ok v w) : Qv P Z N L M ⟨d, .load T x, ty, pos, af, g⟩ v := qv_of fun a hf w hm => by
  simp [execOp, hf.eval hx, Instr.loadAt, Instr.sureAddr, h w hm]
theorem run_loadVar_scalar {T : TypeId} {p : Addr} {w : World} (hT : Scalar P T) (hc : w.cell? p = some v) : (loadVar T p).run P w = .ok v w := by
  simp [loadVar, hT w, hc]
theorem run_loadCellsFrom {w : World} {b o : Nat} (vs : List Value) : ∀ (i : Nat) (acc : Array Value), (∀ j, j < vs.length → w.cell? ⟨b, o + (i + j), none⟩ = vs[j]?) →
    (loadCellsFrom ⟨b, o, none⟩ i vs.length acc).run P w = .ok (acc ++ vs.toArray) w := by
  induction vs with
  | nil => intro i acc _; simp [loadCellsFrom]
  | cons v vs ih =>
    intro i acc h
    have h0 := h 0 (by simp)
    simp only [Nat.add_zero, List.getElem?_cons_zero] at h0
    simp only [List.length_cons, loadCellsFrom, Sem.run_bind, run_load, add_none, h0, Result.andThen_ok]
    rw [ih (i + 1) (acc.push v) (fun j hj => by
      have := h (j + 1) (by simpa using hj)
      rw [show o + (i + 1 + j) = o + (i + (j + 1)) by omega, this]
      simp)]
    simp
theorem run_loadVar_agg {T : TypeId} {w : World} {b o : Nat} {vs : List Value} (hT : Agg P T vs.length) (h : ∀ j, j < vs.length → w.cell? ⟨b, o + j, none⟩ = vs[j]?) :
    (loadVar T ⟨b, o, none⟩).run P w = .ok (.agg vs.toArray) w := by
  simp only [loadVar, Sem.run_bind, (hT w).1, Result.andThen_ok, (hT w).2, if_true, loadCells]
  rw [run_loadCellsFrom vs 0 #[] (fun j hj => by rw [Nat.zero_add]; exact h j hj)]
  simp
/-- out of a box -/
theorem qv_ldB {T : TypeId} {B : World} {bs : List (Nat × Obj)} {ks : List Kp} {ms : List Nat} {rs : List (Option (Nat × Obj))} {i b o : Nat} {cs : Array Value} {T0 : TypeId} {fz : Nat × Nat} (hT : Scalar P T) (hx : ev L x = some (.pointer (some ⟨b, o, none⟩)))
    (hi : bs[i]? = some (b, .cells cs T0 fz)) (ho : cs[o]? = some v) : Qv P Z N L ⟨B, bs, ks, ms, rs⟩ ⟨d, .load T x, ty, pos, af, g⟩ v :=
  qv_load hx fun w hm => run_loadVar_scalar hT (cell_of (hm.boxOf (List.mem_of_getElem? hi)).2 ho)
theorem qv_ldBA {T : TypeId} {B : World} {bs : List (Nat × Obj)} {ks : List Kp} {ms : List Nat} {rs : List (Option (Nat × Obj))} {i b o n : Nat} {cs : Array Value} {T0 : TypeId} {fz : Nat × Nat} {vs : List Value} (hT : Agg P T n) (hx : ev L x = some (.pointer (some ⟨b, o, none⟩)))
    (hi : bs[i]? = some (b, .cells cs T0 fz)) (hn : vs.length = n) (ho : ∀ j, j < n → cs[o + j]? = vs[j]?) : Qv P Z N L ⟨B, bs, ks, ms, rs⟩ ⟨d, .load T x, ty, pos, af, g⟩ (.agg vs.toArray) :=
  qv_load hx fun w hm => run_loadVar_agg (hn ▸ hT) fun j hj => by
    rw [← ho j (hn ▸ hj)]
    have hb := (hm.boxOf (List.mem_of_getElem? hi)).2
    simp [World.cell?, hb]
/-- a box as a whole -/
theorem qv_ldBW {T : TypeId} {B : World} {bs : List (Nat × Obj)} {ks : List Kp} {ms : List Nat} {rs : List (Option (Nat × Obj))} {i b n : Nat} {cs : Array Value} {T0 : TypeId} {fz : Nat × Nat} (hT : Agg P T n) (hx : ev L x = some (.pointer (some ⟨b, 0, none⟩)))
    (hi : bs[i]? = some (b, .cells cs T0 fz)) (hn : cs.size = n) : Qv P Z N L ⟨B, bs, ks, ms, rs⟩ ⟨d, .load T x, ty, pos, af, g⟩ (.agg cs) := by
  have := qv_ldBA (P := P) (Z := Z) (N := N) (B := B) (ks := ks) (ms := ms) (rs := rs) (d := d) (ty := ty) (pos := pos) (af := af) (g := g) (vs := cs.toList) hT hx hi (by simpa using hn) (fun j _ => by simp)
  simpa using this
/-- out of a block that lay before the call -/
theorem qv_ldO {T : TypeId} {b o : Nat} {cs : Array Value} {T0 : TypeId} {fz : Nat × Nat} (hT : Scalar P T) (hx : ev L x = some (.pointer (some ⟨b, o, none⟩)))
    (hi : M.base.heap[b]? = some (.cells cs T0 fz)) (ho : cs[o]? = some v) : Qv P Z N L M ⟨d, .load T x, ty, pos, af, g⟩ v :=
  qv_load hx fun w hm => run_loadVar_scalar hT (cell_of (by rw [hm.old b (get_lt hi)]; exact hi) ho)
section elems
variable {α : Type} {W : World} {lo hi sz : Nat} {enc : α → List Value} {a : Option Addr} {l : List α} {e : α}
/-- a part of an element of a slice -/
theorem qv_ldE {T : TypeId} {o i j : Nat} (hT : Scalar P T) (hs : SlAt W lo hi sz enc a l) (hM : M.has W lo hi) (hx : ev L x = some (.pointer (some ⟨blk a, o, none⟩))) (ho : o = offs a + i * sz + j)
    (he : l[i]? = some e) (hv : (enc e)[j]? = some v) : Qv P Z N L M ⟨d, .load T x, ty, pos, af, g⟩ v :=
  qv_load hx fun w hm => run_loadVar_scalar hT (by
    subst ho
    obtain ⟨_, h1, h2⟩ := hs.nz (fun e => by subst e; simp at he)
    rw [cell_same ((hM w hm).2 _ h1 h2)]
    exact hs.cell i j e v he hv)
/-- an element as a whole -/
theorem qv_ldEW {T : TypeId} {i : Nat} (hT : Agg P T sz) (hs : SlAt W lo hi sz enc a l) (hM : M.has W lo hi) (hx : ev L x = some (.pointer (some ⟨blk a, offs a + i * sz, none⟩)))
    (he : l[i]? = some e) : Qv P Z N L M ⟨d, .load T x, ty, pos, af, g⟩ (.agg (enc e).toArray) :=
  qv_load hx fun w hm => run_loadVar_agg (hs.szs e (List.mem_of_getElem? he) ▸ hT) fun j hj => by
    obtain ⟨_, h1, h2⟩ := hs.nz (fun e => by subst e; simp at he)
    rw [cell_same ((hM w hm).2 _ h1 h2), List.getElem?_eq_getElem hj]
    exact hs.cell i j e _ he (List.getElem?_eq_getElem hj)
end elems
def evs (L : List (Nat × Value)) : List Operand → Option (List Value)
  | [] => some []
  | o :: os => match ev L o, evs L os with
    | some v, some vs => some (v :: vs)
    | _, _ => none
theorem evs_map {a : Act} (hf : Fr Z N L a) : ∀ {l : List Operand} {vs : List Value}, evs L l = some vs → l.map a.eval = vs
  | [], vs, h => by simp [evs] at h; subst h; rfl
  | o :: os, vs, h => by
    simp only [evs] at h
    split at h
    · rename_i v us h1 h2
      cases h
      simp [hf.eval h1, evs_map hf h2]
    · cases h
theorem run_call {f : FuncId} {args : Array Operand} {at' : Array TypeId} {vs caps : List Value} {fo : Operand} {ac : Act} (hf : Fr Z N L ac) (hF : IsFn P f) (hfo : ev L fo = some (.func (.func f) #[] caps.toArray)) (hvs : evs L args.toList = some vs) (w : World) :
    (execOp ac.eval ⟨d, .call { callee := .value fo, args := args, argTypes := at' }, ty, pos, af, g⟩).run P w = .ok (.enter f (vs ++ caps).toArray) w := by
  have h1 : args.map ac.eval = vs.toArray := by
    apply Array.ext'
    simpa using evs_map hf hvs
  simp [execOp, resolve, hf.eval hfo, Deferred.ofValue, invoke, h1, hF _ w]
/-- a call that only reads, or makes new blocks; its result is a plain value -/
theorem qv_callV {f : FuncId} {args : Array Operand} {at' : Array TypeId} {vs caps : List Value} {fo : Operand} (hF : IsFn P f) (hfo : ev L fo = some (.func (.func f) #[] caps.toArray)) (hvs : evs L args.toList = some vs)
    (hC : ∀ w, M.holds w → Calls P f (vs ++ caps).toArray w fun e w' => e = .returned v ∧ Below w.heap.size w w') :
    Qv P Z N L M ⟨d, .call { callee := .value fo, args := args, argTypes := at' }, ty, pos, af, g⟩ v := fun ac hf w hm => by
  unfold Oper.quietAt
  rw [run_call hf hF hfo hvs w]
  exact ⟨rfl, hC w hm⟩
theorem qv_call {f : FuncId} {args : Array Operand} {at' : Array TypeId} {vs : List Value} (hF : IsFn P f) (hvs : evs L args.toList = some vs)
    (hC : ∀ w, M.holds w → Calls P f vs.toArray w fun e w' => e = .returned v ∧ Below w.heap.size w w') :
    Qv P Z N L M ⟨d, .call { callee := .value (.func f), args := args, argTypes := at' }, ty, pos, af, g⟩ v :=
  qv_callV (caps := []) hF rfl hvs (by simpa using hC)
end
section
variable {P : Program} {Z : Env} {N : Nat} {L : List (Nat × Value)} {M : Mem} {Q : Exit → Act → World → Prop} {ops : Array Oper} {rest : List Oper} {dd : Tmp} {ty : TypeId} {pos : String} {af : Array Edge} {x y : Operand} {v : Value}
theorem wpList_value {o : Oper} {a : Act} {w w' : World} {u : Value} {ro : Option Nat} (hg : o.guard = none) (hr : (execOp a.eval o).run P w = .ok (.value u) w') (h : wpListIn (FW ro) 0 P ops Q rest (a.put o.dst u) w') : wpListIn (FW ro) 0 P ops Q (o :: rest) a w := by
  unfold wpListIn
  rw [if_pos (by simp [Region.wanted, hg])]
  refine wpIn_of ?_
  rw [semAt_of hr (by simp)]
  exact h
theorem wpList_skipv {o : Oper} {a : Act} {w w' : World} {ro : Option Nat} (hg : o.guard = none) (hr : (execOp a.eval o).run P w = .ok .skip w') (h : wpListIn (FW ro) 0 P ops Q rest (a.put o.dst undef) w') : wpListIn (FW ro) 0 P ops Q (o :: rest) a w := by
  unfold wpListIn
  rw [if_pos (by simp [Region.wanted, hg])]
  refine wpIn_of ?_
  rw [semAt_of hr (by simp)]
  exact h
theorem wpList_enter {o : Oper} {a : Act} {w w' : World} {f : FuncId} {args : Array Value} {ro : Option Nat} (hg : o.guard = none) (hr : (execOp a.eval o).run P w = .ok (.enter f args) w') (h : Calls P f args w' fun e w'' => ∃ u, e = .returned u ∧ wpListIn (FW ro) 0 P ops Q rest (a.put o.dst u) w'') : wpListIn (FW ro) 0 P ops Q (o :: rest) a w := by
  unfold wpListIn
  rw [if_pos (by simp [Region.wanted, hg])]
  refine wpIn_of ?_
  rw [semAt_of hr (by simp)]
  exact ⟨fun hd => by simp [Fence.wide] at hd, calls_in (h.mono fun e w'' ⟨u, he, hk⟩ => by subst he; exact hk)⟩
theorem tl_box {T : TypeId} {B : World} {bs : List (Nat × Obj)} {ks : List Kp} {ms : List Nat} {rs : List (Option (Nat × Obj))} (hx : ev L x = some v) (hd : dd < N) (h : ∀ b, TL P Z N ((dd, .pointer (some ⟨b, 0, none⟩)) :: L) ⟨B, (b, .cells v.cells T (0, 0)) :: bs, ks, ms, rs⟩ ops rest Q) :
    TL P Z N L ⟨B, bs, ks, ms, rs⟩ ops (⟨some dd, .box T x, ty, pos, af, none⟩ :: rest) Q := fun a w hf hm =>
  wpList_value rfl (w' := w.alloc (.cells v.cells T)) (u := .pointer (some ⟨w.heap.size, 0, none⟩)) (by simp [execOp, hf.eval hx, Instr.box, newVar, newRow])
    (h w.heap.size _ _ (hf.put hd _) (hm.alloc _))
theorem tl_alloc {T : TypeId} {B : World} {bs : List (Nat × Obj)} {ks : List Kp} {ms : List Nat} {rs : List (Option (Nat × Obj))} {cs : Array Value} (hz : Zero P T cs) (hd : dd < N) (h : ∀ b, TL P Z N ((dd, .pointer (some ⟨b, 0, none⟩)) :: L) ⟨B, (b, .cells cs T (0, 0)) :: bs, ks, ms, rs⟩ ops rest Q) :
    TL P Z N L ⟨B, bs, ks, ms, rs⟩ ops (⟨some dd, .alloc T, ty, pos, af, none⟩ :: rest) Q := fun a w hf hm => by
  obtain ⟨z, h1, h2⟩ := hz w
  subst h2
  exact wpList_value rfl (w' := w.alloc (.cells z.cells T)) (u := .pointer (some ⟨w.heap.size, 0, none⟩)) (by simp [execOp, Instr.alloc, h1, newVar, newRow])
    (h w.heap.size _ _ (hf.put hd _) (hm.alloc _))
theorem putBlock_same {w : World} {b : Nat} {o : Obj} (h : w.heap[b]? = some o) : putBlock w b o = w := by
  have hb := get_lt h
  have : w.heap.setIfInBounds b o = w.heap := by
    apply Array.ext_getElem?
    intro i
    rw [Array.getElem?_setIfInBounds]
    split
    · rename_i e; subst e; exact h.symm
    · rfl
  unfold putBlock
  rw [this]
theorem run_storeCells {b o : Nat} {T : TypeId} (us : List Value) (hone : ∀ u ∈ us, u.oneCell' = true) : ∀ (i : Nat) (cs : Array Value) (w : World), w.heap[b]? = some (.cells cs T (0, 0)) → o + i + us.length ≤ cs.size →
    (storeCells ⟨b, o, none⟩ us i).run P w = .ok () (putBlock w b (.cells ((us.zipIdx i).foldl (fun c p => c.setIfInBounds (o + p.2) p.1) cs) T (0, 0))) := by
  induction us with
  | nil =>
    intro i cs w h _
    simp [storeCells, putBlock_same h]
  | cons u us ih =>
    intro i cs w h hsz
    simp only [List.length_cons] at hsz
    have hc : w.cell? ⟨b, o + i, none⟩ = some (cs[o + i]'(by omega)) := cell_of h (by simp)
    have hfz : w.frozen? ⟨b, o + i, none⟩ = false := by simp [World.frozen?, h]
    have hb := get_lt h
    simp only [storeCells, Sem.run_bind, add_none, run_store P w _ u .plain (hone u (by simp)), hc, hfz, Bool.false_eq_true, if_false, Result.andThen_ok, setCell_eq h]
    rw [ih (fun u hu => hone u (List.mem_cons_of_mem _ hu)) (i + 1) (cs.setIfInBounds (o + i) u) _ (by simp [putBlock, hb]) (by simp; omega)]
    simp [putBlock, List.zipIdx_cons]
theorem foldl_set_size (o : Nat) : ∀ (l : List (Value × Nat)) (cs : Array Value), (l.foldl (fun c p => c.setIfInBounds (o + p.2) p.1) cs).size = cs.size
  | [], cs => rfl
  | p :: l, cs => by rw [List.foldl_cons, foldl_set_size o l]; simp
theorem foldl_set_get (o : Nat) : ∀ (us : List Value) (i : Nat) (cs : Array Value) (j : Nat), j < cs.size → o + i + us.length ≤ cs.size →
    ((us.zipIdx i).foldl (fun c p => c.setIfInBounds (o + p.2) p.1) cs)[j]? = if o + i ≤ j ∧ j < o + i + us.length then us[j - (o + i)]? else cs[j]?
  | [], i, cs, j, _, _ => by simp; omega
  | u :: us, i, cs, j, hj, hs => by
    simp only [List.length_cons] at hs
    rw [List.zipIdx_cons, List.foldl_cons, foldl_set_get o us (i + 1) _ j (by simpa using hj) (by simp; omega)]
    simp only [List.length_cons]
    by_cases h1 : j = o + i
    · subst h1
      rw [if_neg (by omega), if_pos (by omega)]
      simp only [Nat.sub_self, List.getElem?_cons_zero]
      rw [Array.getElem?_setIfInBounds_self]
      simp [hj]
    · by_cases h2 : o + (i + 1) ≤ j ∧ j < o + (i + 1) + us.length
      · rw [if_pos h2, if_pos (by omega)]
        have : j - (o + i) = (j - (o + (i + 1))) + 1 := by omega
        rw [this]
        simp
      · rw [if_neg h2, if_neg (by omega), Array.getElem?_setIfInBounds_ne (by omega)]
/-- what a whole variable holds behind a store -/
theorem foldl_set_whole (us : List Value) (cs : Array Value) (h : cs.size = us.length) : (us.zipIdx 0).foldl (fun c p => c.setIfInBounds (0 + p.2) p.1) cs = us.toArray := by
  apply Array.ext_getElem?
  intro j
  by_cases hj : j < cs.size
  · rw [foldl_set_get 0 us 0 cs j hj (by omega), if_pos (by omega)]
    simp
  · rw [Array.getElem?_eq_none (by rw [foldl_set_size]; omega), Array.getElem?_eq_none (by simp; omega)]
/-- a store into a box, the whole of it -/
theorem tl_storeW {T : TypeId} {B : World} {bs : List (Nat × Obj)} {ks : List Kp} {ms : List Nat} {rs : List (Option (Nat × Obj))} {i b : Nat} {cs us : Array Value} {T0 : TypeId} (hS : Size P T us.size) (hx : ev L x = some (.pointer (some ⟨b, 0, none⟩))) (hy : ev L y = some v)
    (hi : bs[i]? = some (b, .cells cs T0 (0, 0))) (hu : v.cells = us) (hone : ∀ u ∈ us.toList, u.oneCell' = true) (hn : cs.size = us.size)
    (h : TL P Z N L ⟨B, bs.set i (b, .cells us T0 (0, 0)), ks, ms, rs⟩ ops rest Q) : TL P Z N L ⟨B, bs, ks, ms, rs⟩ ops (⟨none, .store T x y, ty, pos, af, none⟩ :: rest) Q := fun a w hf hm => by
  have hb := (hm.boxOf (List.mem_of_getElem? hi)).2
  refine wpList_skipv rfl (w' := putBlock w b (.cells us T0 (0, 0))) ?_ (h _ _ (hf.put_none _) (hm.put hi _))
  have hS' := hS w
  simp only [execOp, hf.eval hx, hf.eval hy, Instr.storeAt, Instr.sureAddr, storeVar, hu, Sem.run_bind, Sem.run_pure, Result.andThen_ok, hS', ne_eq, not_true_eq_false, if_false]
  rw [run_storeCells us.toList hone 0 cs w hb (by simp [hn])]
  rw [foldl_set_whole us.toList cs (by simpa using hn)]
  simp
/-- a store of one cell into a box -/
theorem tl_store1 {T : TypeId} {B : World} {bs : List (Nat × Obj)} {ks : List Kp} {ms : List Nat} {rs : List (Option (Nat × Obj))} {i b o : Nat} {cs : Array Value} {T0 : TypeId} (hS : Size P T 1) (hx : ev L x = some (.pointer (some ⟨b, o, none⟩))) (hy : ev L y = some v)
    (hi : bs[i]? = some (b, .cells cs T0 (0, 0))) (hu : v.cells = #[v]) (hone : v.oneCell' = true) (hn : o < cs.size)
    (h : TL P Z N L ⟨B, bs.set i (b, .cells (cs.setIfInBounds o v) T0 (0, 0)), ks, ms, rs⟩ ops rest Q) : TL P Z N L ⟨B, bs, ks, ms, rs⟩ ops (⟨none, .store T x y, ty, pos, af, none⟩ :: rest) Q := fun a w hf hm => by
  have hb := (hm.boxOf (List.mem_of_getElem? hi)).2
  refine wpList_skipv rfl (w' := putBlock w b (.cells (cs.setIfInBounds o v) T0 (0, 0))) ?_ (h _ _ (hf.put_none _) (hm.put hi _))
  have hS' := hS w
  simp only [execOp, hf.eval hx, hf.eval hy, Instr.storeAt, Instr.sureAddr, storeVar, hu, Sem.run_bind, Sem.run_pure, Result.andThen_ok, hS', ne_eq, List.size_toArray, List.length_cons, List.length_nil, Nat.zero_add, not_true_eq_false, if_false]
  rw [run_storeCells [v] (by simpa using hone) 0 cs w hb (by simp; omega)]
  simp
/-- a call that hands back something new -/
theorem tl_callR {β : Type} {B : World} {bs : List (Nat × Obj)} {ks : List Kp} {ms : List Nat} {rs : List (Option (Nat × Obj))} {val : β → Value} {R : β → World → World → Prop} {f : FuncId} {args : Array Operand} {at' : Array TypeId} {vs : List Value} (hF : IsFn P f) (hvs : evs L args.toList = some vs) (hd : dd < N)
    (hC : ∀ w, Mem.holds ⟨B, bs, ks, ms, rs⟩ w → Calls P f vs.toArray w fun e w' => ∃ r, e = .returned (val r) ∧ Below w.heap.size w w' ∧ R r w w')
    (h : ∀ r w1 w2, Mem.holds ⟨B, bs, ks, ms, rs⟩ w1 → Below w1.heap.size w1 w2 → R r w1 w2 → TL P Z N ((dd, val r) :: L) ⟨B, bs, Kin w2 w1.heap.size w2.heap.size :: ks, ms, rs⟩ ops rest Q) :
    TL P Z N L ⟨B, bs, ks, ms, rs⟩ ops (⟨some dd, .call { callee := .value (.func f), args := args, argTypes := at' }, ty, pos, af, none⟩ :: rest) Q := fun a w hf hm => by
  refine wpList_enter rfl (run_call (caps := []) hf hF rfl hvs w) ?_
  refine (show Calls P f (vs ++ []).toArray w _ by rw [List.append_nil]; exact hC w hm).mono ?_
  rintro e w' ⟨r, rfl, hb, hr⟩
  exact ⟨_, rfl, h r w w' hm hb hr _ _ (hf.put hd _) (hm.keep hb)⟩
end
end Go.D
namespace Go.D
open Go Go.RowKit
section
variable {P : Program} {Z : Env} {N : Nat} {L : List (Nat × Value)} {M : Mem} {Q : Exit → Act → World → Prop} {ops : Array Oper} {rest : List Oper} {o : Oper} {d : Nat} {K : Act → Prop}
theorem tl_bool {b : Bool} (hg : o.guard = none) (hd : o.dst = some d) (hN : d < N) (hq : Qv P Z N L M o (.bool b)) (ht : b = true → TL P Z N ((d, .bool true) :: L) M ops rest Q) (hf : b = false → TL P Z N ((d, .bool false) :: L) M ops rest Q) :
    TL P Z N L M ops (o :: rest) Q := by
  cases b
  · exact tl_step hg hd hN hq (hf rfl)
  · exact tl_step hg hd hN hq (ht rfl)
theorem tl_dec {p : Prop} [Decidable p] (hg : o.guard = none) (hd : o.dst = some d) (hN : d < N) (hq : Qv P Z N L M o (.bool (decide p))) (ht : p → TL P Z N ((d, .bool true) :: L) M ops rest Q) (hf : ¬ p → TL P Z N ((d, .bool false) :: L) M ops rest Q) :
    TL P Z N L M ops (o :: rest) Q := tl_bool hg hd hN hq (fun e => ht (by simpa using e)) (fun e => hf (by simpa using e))
theorem tl_boolg {j t : Nat} {want : Bool} {b : Bool} (hg : o.guard = some (j, want)) (hj : (ops[j]?).bind (·.dst) = some t) (hl : L.lookup t = some (.bool want)) (hd : o.dst = some d) (hN : d < N) (hq : Qv P Z N L M o (.bool b))
    (ht : b = true → TL P Z N ((d, .bool true) :: L) M ops rest Q) (hf : b = false → TL P Z N ((d, .bool false) :: L) M ops rest Q) :
    TL P Z N L M ops (o :: rest) Q := by
  cases b
  · exact tl_stepg hg hj hl hd hN hq (hf rfl)
  · exact tl_stepg hg hj hl hd hN hq (ht rfl)
theorem tl_decg {j t : Nat} {want : Bool} {p : Prop} [Decidable p] (hg : o.guard = some (j, want)) (hj : (ops[j]?).bind (·.dst) = some t) (hl : L.lookup t = some (.bool want)) (hd : o.dst = some d) (hN : d < N) (hq : Qv P Z N L M o (.bool (decide p)))
    (ht : p → TL P Z N ((d, .bool true) :: L) M ops rest Q) (hf : ¬ p → TL P Z N ((d, .bool false) :: L) M ops rest Q) :
    TL P Z N L M ops (o :: rest) Q := tl_boolg hg hj hl hd hN hq (fun e => ht (by simpa using e)) (fun e => hf (by simpa using e))
theorem tq_bool {b : Bool} (hg : o.guard = none) (hd : o.dst = some d) (hN : d < N) (hq : Qv P Z N L M o (.bool b)) (ht : b = true → TQ P Z N ((d, .bool true) :: L) M ops rest K) (hf : b = false → TQ P Z N ((d, .bool false) :: L) M ops rest K) :
    TQ P Z N L M ops (o :: rest) K := by
  cases b
  · exact tq_step hg hd hN hq (hf rfl)
  · exact tq_step hg hd hN hq (ht rfl)
theorem tq_dec {p : Prop} [Decidable p] (hg : o.guard = none) (hd : o.dst = some d) (hN : d < N) (hq : Qv P Z N L M o (.bool (decide p))) (ht : p → TQ P Z N ((d, .bool true) :: L) M ops rest K) (hf : ¬ p → TQ P Z N ((d, .bool false) :: L) M ops rest K) :
    TQ P Z N L M ops (o :: rest) K := tq_bool hg hd hN hq (fun e => ht (by simpa using e)) (fun e => hf (by simpa using e))
theorem tq_boolg {j t : Nat} {want : Bool} {b : Bool} (hg : o.guard = some (j, want)) (hj : (ops[j]?).bind (·.dst) = some t) (hl : L.lookup t = some (.bool want)) (hd : o.dst = some d) (hN : d < N) (hq : Qv P Z N L M o (.bool b))
    (ht : b = true → TQ P Z N ((d, .bool true) :: L) M ops rest K) (hf : b = false → TQ P Z N ((d, .bool false) :: L) M ops rest K) :
    TQ P Z N L M ops (o :: rest) K := by
  cases b
  · exact tq_stepg hg hj hl hd hN hq (hf rfl)
  · exact tq_stepg hg hj hl hd hN hq (ht rfl)
theorem tq_decg {j t : Nat} {want : Bool} {p : Prop} [Decidable p] (hg : o.guard = some (j, want)) (hj : (ops[j]?).bind (·.dst) = some t) (hl : L.lookup t = some (.bool want)) (hd : o.dst = some d) (hN : d < N) (hq : Qv P Z N L M o (.bool (decide p)))
    (ht : p → TQ P Z N ((d, .bool true) :: L) M ops rest K) (hf : ¬ p → TQ P Z N ((d, .bool false) :: L) M ops rest K) :
    TQ P Z N L M ops (o :: rest) K := tq_boolg hg hj hl hd hN hq (fun e => ht (by simpa using e)) (fun e => hf (by simpa using e))
theorem get_ex {α : Type} {l : List α} {i : Int} (h : 0 ≤ i ∧ i < l.length) : ∃ e, l[i.toNat]? = some e := ⟨_, List.getElem?_eq_getElem (by omega)⟩
theorem get_exN {α : Type} {l : List α} {i : Nat} (h : i < l.length) : ∃ e, l[i]? = some e := ⟨_, List.getElem?_eq_getElem h⟩
theorem Fr.vary {V : List (Nat × Value)} {a : Act} (h : Fr Z N L a) (hV : Sub L V) : Fr Z N (V ++ L) a := by
  refine ⟨h.1, h.2.1, fun t v hl => ?_⟩
  rw [List.lookup_append] at hl
  cases hv : V.lookup t with
  | none => rw [hv] at hl; exact h.2.2 t v (by simpa using hl)
  | some u =>
    rw [hv] at hl
    simp at hl
    subst hl
    exact h.2.2 t _ (hV.lookup t _ hv)
theorem lookup_take_drop (L : List (Nat × Value)) (m t : Nat) : L.lookup t = ((L.take m).lookup t).or ((L.drop m).lookup t) := by
  conv => lhs; rw [← List.take_append_drop m L]
  rw [List.lookup_append]
def hasKey (V : List (Nat × Value)) (t : Nat) : Bool := V.any (fun p => p.1 == t)
theorem lookup_none_of_hasKey {V : List (Nat × Value)} {t : Nat} : (V.lookup t = none) → hasKey V t = false := by
  induction V with
  | nil => intro _; rfl
  | cons p V ih =>
    obtain ⟨s, u⟩ := p
    intro h
    simp only [List.lookup_cons] at h
    by_cases e : t = s
    · subst e; simp at h
    · have hb : (t == s) = false := by simpa using e
      rw [hb] at h
      have := ih h
      simp only [hasKey, List.any_cons] at this ⊢
      rw [this]
      simpa using fun e' => e e'.symm
/-- the slots at a round's end: those that vary have their new values, the others their old ones -/
theorem Fr.again {Le V : List (Nat × Value)} {a : Act} (h : Fr Z N Le a) (hV : Sub Le V) (hE : Le.drop (Le.length - L.length) = L)
    (hk : (Le.take (Le.length - L.length)).all (fun p => hasKey V p.1 || (L.lookup p.1).isNone) = true) : Fr Z N (V ++ L) a := by
  refine ⟨h.1, h.2.1, fun t v hl => ?_⟩
  rw [List.lookup_append] at hl
  cases hv : V.lookup t with
  | some u =>
    rw [hv] at hl
    simp at hl
    subst hl
    exact h.2.2 t _ (hV.lookup t _ hv)
  | none =>
    rw [hv] at hl
    simp at hl
    refine h.2.2 t v ?_
    rw [lookup_take_drop Le (Le.length - L.length) t, hE]
    have : (Le.take (Le.length - L.length)).lookup t = none := by
      have hk' := List.all_eq_true.1 hk
      cases hx : (Le.take (Le.length - L.length)).lookup t with
      | none => rfl
      | some u =>
        have hmem : (t, u) ∈ Le.take (Le.length - L.length) := by
          clear hk' hk hE
          generalize Le.take (Le.length - L.length) = T at hx ⊢
          induction T with
          | nil => simp at hx
          | cons p T ih =>
            obtain ⟨s, u'⟩ := p
            simp only [List.lookup_cons] at hx
            by_cases e : t = s
            · subst e; simp at hx; subst hx; simp
            · have hb : (t == s) = false := by simpa using e
              rw [hb] at hx
              exact List.mem_cons_of_mem _ (ih hx)
        have := hk' _ hmem
        rw [lookup_none_of_hasKey hv, hl] at this
        simp at this
    rw [this]
    simpa using hl
/-- a loop by a ghost; V: the slots that vary -/
theorem tc_loopV {β : Type} {c : Code} (V : β → List (Nat × Value)) (Me : β → Mem) (I : β → Prop) (μ : β → Nat) (b₀ : β) (h0 : I b₀) (hL : Sub L (V b₀)) (hM : ∀ w, M.holds w → (Me b₀).holds w)
    (round : ∀ b, I b → TC P Z N (V b ++ L) (Me b) c (Exit.then (fun a w => ∃ b', I b' ∧ μ b' < μ b ∧ Fr Z N (V b' ++ L) a ∧ (Me b').holds w) Q)) : TC P Z N L M (.loop c) Q :=
  tc_loop (fun b => V b ++ L) Me I μ b₀ h0 (fun _ h => h.vary hL) hM round
/-- a loop that leaves the boxes as they are -/
theorem tc_loopS {β : Type} {c : Code} (V : β → List (Nat × Value)) (I : β → Prop) (μ : β → Nat) (b₀ : β) (h0 : I b₀) (hL : Sub L (V b₀))
    (round : ∀ b, I b → TC P Z N (V b ++ L) M c (Exit.then (fun a w => ∃ b', I b' ∧ μ b' < μ b ∧ Fr Z N (V b' ++ L) a ∧ M.holds w) Q)) : TC P Z N L M (.loop c) Q :=
  tc_loopV V (fun _ => M) I μ b₀ h0 hL (fun _ h => h) round
theorem tp_roundS {β : Type} {V : β → List (Nat × Value)} {I : β → Prop} {μ : β → Nat} {b : β} {Le : List (Nat × Value)} {B : World} {bs bs' : List (Nat × Obj)} {ks ks' : List Kp} {ms : List Nat} {rs : List (Option (Nat × Obj))} (b' : β) (hI : I b') (hμ : μ b' < μ b) (hV : Sub Le (V b')) (hE : Le.drop (Le.length - L.length) = L)
    (hk : (Le.take (Le.length - L.length)).all (fun p => hasKey (V b') p.1 || (L.lookup p.1).isNone) = true) (h1 : bs'.drop (bs'.length - bs.length) = bs) (h2 : ks'.drop (ks'.length - ks.length) = ks) :
    TP Z N Le ⟨B, bs', ks', ms, rs⟩ .normal (Exit.then (fun a w => ∃ b', I b' ∧ μ b' < μ b ∧ Fr Z N (V b' ++ L) a ∧ Mem.holds ⟨B, bs, ks, ms, rs⟩ w) Q) :=
  fun _ w hf hm => ⟨b', hI, hμ, hf.again hV hE hk, hm.less (h1 ▸ List.drop_sublist _ _) (h2 ▸ List.drop_sublist _ _)⟩
end
end Go.D
namespace Go.D
open Go Go.RowKit
section
variable {P : Program} {Z : Env} {N : Nat} {L : List (Nat × Value)} {M : Mem} {Q : Exit → Act → World → Prop} {ops : Array Oper} {rest : List Oper} {o : Oper} {d : Nat} {K : Act → Prop}
theorem s0 {v : Value} (hq : Qv P Z N L M o v) (h : TL P Z N ((d, v) :: L) M ops rest Q) (hg : o.guard = none := by rfl) (hd : o.dst = some d := by rfl) (hN : d < N := by decide) : TL P Z N L M ops (o :: rest) Q := tl_step hg hd hN hq h
theorem sd {p : Prop} [Decidable p] (hq : Qv P Z N L M o (.bool (decide p))) (ht : p → TL P Z N ((d, .bool true) :: L) M ops rest Q) (hf : ¬ p → TL P Z N ((d, .bool false) :: L) M ops rest Q) (hg : o.guard = none := by rfl) (hd : o.dst = some d := by rfl) (hN : d < N := by decide) : TL P Z N L M ops (o :: rest) Q := tl_dec hg hd hN hq ht hf
theorem si {α : Type} {T sz cap : Nat} {k : IntKind} {enc : α → List Value} {a : Option Addr} {l : List α} {W : World} {lo hi : Nat} {x y : Operand} {ty : TypeId} {pos : String} {af : Array Edge} {i : Int} (hT : SliceTy P T sz) (hs : SlAt W lo hi sz enc a l) (hx : ev L x = some (.slice a l.length cap)) (hy : ev L y = some (.int k i)) (hb : 0 ≤ i ∧ i < l.length) (h : ∀ e, l[i.toNat]? = some e → TL P Z N ((d, .pointer (some ⟨blk a, offs a + i.toNat * sz, none⟩)) :: L) M ops rest Q) (hN : d < N := by decide) : TL P Z N L M ops (⟨some d, .indexAddr T x y, ty, pos, af, none⟩ :: rest) Q := by
  obtain ⟨e, he⟩ := get_ex hb
  exact tl_step rfl rfl hN (qv_ia hT hs hx hy hb) (h e he)
theorem sn {α : Type} {T sz cap : Nat} {k : IntKind} {enc : α → List Value} {a : Option Addr} {l : List α} {W : World} {lo hi : Nat} {x y : Operand} {ty : TypeId} {pos : String} {af : Array Edge} {i : Nat} (hT : SliceTy P T sz) (hs : SlAt W lo hi sz enc a l) (hx : ev L x = some (.slice a l.length cap)) (hy : ev L y = some (.int k (i : Int))) (hb : i < l.length) (h : ∀ e, l[i]? = some e → TL P Z N ((d, .pointer (some ⟨blk a, offs a + i * sz, none⟩)) :: L) M ops rest Q) (hN : d < N := by decide) : TL P Z N L M ops (⟨some d, .indexAddr T x y, ty, pos, af, none⟩ :: rest) Q := by
  obtain ⟨e, he⟩ := get_exN hb
  exact tl_step rfl rfl hN (qv_iaN hT hs hx hy hb) (h e he)
theorem s0g {j t : Nat} {want : Bool} {v : Value} (hq : Qv P Z N L M o v) (h : TL P Z N ((d, v) :: L) M ops rest Q) (hg : o.guard = some (j, want) := by rfl) (hj : (ops[j]?).bind (·.dst) = some t := by rfl) (hl : L.lookup t = some (.bool want) := by rfl) (hd : o.dst = some d := by rfl) (hN : d < N := by decide) : TL P Z N L M ops (o :: rest) Q := tl_stepg hg hj hl hd hN hq h
theorem sdg {j t : Nat} {want : Bool} {p : Prop} [Decidable p] (hq : Qv P Z N L M o (.bool (decide p))) (ht : p → TL P Z N ((d, .bool true) :: L) M ops rest Q) (hf : ¬ p → TL P Z N ((d, .bool false) :: L) M ops rest Q) (hg : o.guard = some (j, want) := by rfl) (hj : (ops[j]?).bind (·.dst) = some t := by rfl) (hl : L.lookup t = some (.bool want) := by rfl) (hd : o.dst = some d := by rfl) (hN : d < N := by decide) : TL P Z N L M ops (o :: rest) Q := tl_decg hg hj hl hd hN hq ht hf
theorem sk {j t : Nat} {want : Bool} {u : Value} (h : TL P Z N ((d, undef) :: L) M ops rest Q) (hg : o.guard = some (j, want) := by rfl) (hj : (ops[j]?).bind (·.dst) = some t := by rfl) (hl : L.lookup t = some u := by rfl) (hb : asks u want = false := by rfl) (hd : o.dst = some d := by rfl) (hN : d < N := by decide) : TL P Z N L M ops (o :: rest) Q := tl_skip hg hj hl hb hd hN h
theorem q0 {v : Value} (hq : Qv P Z N L M o v) (h : TQ P Z N ((d, v) :: L) M ops rest K) (hg : o.guard = none := by rfl) (hd : o.dst = some d := by rfl) (hN : d < N := by decide) : TQ P Z N L M ops (o :: rest) K := tq_step hg hd hN hq h
theorem qd {p : Prop} [Decidable p] (hq : Qv P Z N L M o (.bool (decide p))) (ht : p → TQ P Z N ((d, .bool true) :: L) M ops rest K) (hf : ¬ p → TQ P Z N ((d, .bool false) :: L) M ops rest K) (hg : o.guard = none := by rfl) (hd : o.dst = some d := by rfl) (hN : d < N := by decide) : TQ P Z N L M ops (o :: rest) K := tq_dec hg hd hN hq ht hf
theorem qi {α : Type} {T sz cap : Nat} {k : IntKind} {enc : α → List Value} {a : Option Addr} {l : List α} {W : World} {lo hi : Nat} {x y : Operand} {ty : TypeId} {pos : String} {af : Array Edge} {i : Int} (hT : SliceTy P T sz) (hs : SlAt W lo hi sz enc a l) (hx : ev L x = some (.slice a l.length cap)) (hy : ev L y = some (.int k i)) (hb : 0 ≤ i ∧ i < l.length) (h : ∀ e, l[i.toNat]? = some e → TQ P Z N ((d, .pointer (some ⟨blk a, offs a + i.toNat * sz, none⟩)) :: L) M ops rest K) (hN : d < N := by decide) : TQ P Z N L M ops (⟨some d, .indexAddr T x y, ty, pos, af, none⟩ :: rest) K := by
  obtain ⟨e, he⟩ := get_ex hb
  exact tq_step rfl rfl hN (qv_ia hT hs hx hy hb) (h e he)
theorem qn {α : Type} {T sz cap : Nat} {k : IntKind} {enc : α → List Value} {a : Option Addr} {l : List α} {W : World} {lo hi : Nat} {x y : Operand} {ty : TypeId} {pos : String} {af : Array Edge} {i : Nat} (hT : SliceTy P T sz) (hs : SlAt W lo hi sz enc a l) (hx : ev L x = some (.slice a l.length cap)) (hy : ev L y = some (.int k (i : Int))) (hb : i < l.length) (h : ∀ e, l[i]? = some e → TQ P Z N ((d, .pointer (some ⟨blk a, offs a + i * sz, none⟩)) :: L) M ops rest K) (hN : d < N := by decide) : TQ P Z N L M ops (⟨some d, .indexAddr T x y, ty, pos, af, none⟩ :: rest) K := by
  obtain ⟨e, he⟩ := get_exN hb
  exact tq_step rfl rfl hN (qv_iaN hT hs hx hy hb) (h e he)
theorem q0g {j t : Nat} {want : Bool} {v : Value} (hq : Qv P Z N L M o v) (h : TQ P Z N ((d, v) :: L) M ops rest K) (hg : o.guard = some (j, want) := by rfl) (hj : (ops[j]?).bind (·.dst) = some t := by rfl) (hl : L.lookup t = some (.bool want) := by rfl) (hd : o.dst = some d := by rfl) (hN : d < N := by decide) : TQ P Z N L M ops (o :: rest) K := tq_stepg hg hj hl hd hN hq h
theorem qdg {j t : Nat} {want : Bool} {p : Prop} [Decidable p] (hq : Qv P Z N L M o (.bool (decide p))) (ht : p → TQ P Z N ((d, .bool true) :: L) M ops rest K) (hf : ¬ p → TQ P Z N ((d, .bool false) :: L) M ops rest K) (hg : o.guard = some (j, want) := by rfl) (hj : (ops[j]?).bind (·.dst) = some t := by rfl) (hl : L.lookup t = some (.bool want) := by rfl) (hd : o.dst = some d := by rfl) (hN : d < N := by decide) : TQ P Z N L M ops (o :: rest) K := tq_decg hg hj hl hd hN hq ht hf
theorem qig {j t : Nat} {want : Bool} {α : Type} {T sz cap : Nat} {k : IntKind} {enc : α → List Value} {a : Option Addr} {l : List α} {W : World} {lo hi : Nat} {x y : Operand} {ty : TypeId} {pos : String} {af : Array Edge} {i : Int} (hT : SliceTy P T sz) (hs : SlAt W lo hi sz enc a l) (hx : ev L x = some (.slice a l.length cap)) (hy : ev L y = some (.int k i)) (hb : 0 ≤ i ∧ i < l.length) (h : ∀ e, l[i.toNat]? = some e → TQ P Z N ((d, .pointer (some ⟨blk a, offs a + i.toNat * sz, none⟩)) :: L) M ops rest K) (hj : (ops[j]?).bind (·.dst) = some t := by rfl) (hl : L.lookup t = some (.bool want) := by rfl) (hN : d < N := by decide) : TQ P Z N L M ops (⟨some d, .indexAddr T x y, ty, pos, af, some (j, want)⟩ :: rest) K := by
  obtain ⟨e, he⟩ := get_ex hb
  exact tq_stepg rfl hj hl rfl hN (qv_ia hT hs hx hy hb) (h e he)
theorem qk {j t : Nat} {want : Bool} {u : Value} (h : TQ P Z N ((d, undef) :: L) M ops rest K) (hg : o.guard = some (j, want) := by rfl) (hj : (ops[j]?).bind (·.dst) = some t := by rfl) (hl : L.lookup t = some u := by rfl) (hb : asks u want = false := by rfl) (hd : o.dst = some d := by rfl) (hN : d < N := by decide) : TQ P Z N L M ops (o :: rest) K := tq_skip hg hj hl hb hd hN h
theorem qv_mk {fn : Fn} {cap : Array Operand} {vs : List Value} {dd : Option Tmp} {ty : TypeId} {pos : String} {af : Array Edge} {g : Option (Nat × Bool)} (hvs : evs L cap.toList = some vs) : Qv P Z N L M ⟨dd, .makeFunc fn #[] cap, ty, pos, af, g⟩ (.func fn #[] vs.toArray) := qv_of fun a hf w _ => by
  have : cap.map a.eval = vs.toArray := by
    apply Array.ext'
    simpa using evs_map hf hvs
  simp [execOp, Instr.makeFunc, this]
/-- a store of an element into a variable of its own -/
theorem tl_storeL {T n : Nat} {x y : Operand} {ty : TypeId} {pos : String} {af : Array Edge} {B : World} {bs : List (Nat × Obj)} {ks : List Kp} {ms : List Nat} {rs : List (Option (Nat × Obj))} {i b : Nat} {cs : Array Value} {us : List Value} {T0 : TypeId} (hS : Size P T n) (hlen : us.length = n) (hone : ∀ u ∈ us, u.oneCell' = true)
    (hx : ev L x = some (.pointer (some ⟨b, 0, none⟩))) (hy : ev L y = some (.agg us.toArray)) (hi : bs[i]? = some (b, .cells cs T0 (0, 0))) (hn : cs.size = n)
    (h : TL P Z N L ⟨B, bs.set i (b, .cells us.toArray T0 (0, 0)), ks, ms, rs⟩ ops rest Q) : TL P Z N L ⟨B, bs, ks, ms, rs⟩ ops (⟨none, .store T x y, ty, pos, af, none⟩ :: rest) Q :=
  tl_storeW (us := us.toArray) (by simpa [hlen] using hS) hx hy hi rfl (by simpa using hone) (by simp [hn, hlen]) h
end
end Go.D
namespace Go.D
open Go Go.RowKit
section
variable {P : Program} {Z : Env} {N : Nat} {L : List (Nat × Value)} {M M0 : Mem} {Q : Exit → Act → World → Prop} {ops : Array Oper}
/-- operation i is carried out: a value, or a call that returns -/
def gOp (P : Program) (ops : Array Oper) (i : Nat) (K : Act → World → Prop) (a : Act) (w : World) : Prop :=
  match ops[i]? with
  | none => False
  | some o =>
    if Region.wanted o (yielded ops a.tmps) then
      match (execOp a.eval o).run P w with
      | .ok (.value u) w' => K (a.put o.dst u) w'
      | .ok .skip w' => K (a.put o.dst undef) w'
      | .ok (.enter f args) w' => Calls P f args w' fun e w'' => ∃ u, e = .returned u ∧ K (a.put o.dst u) w''
      | _ => False
    else K (a.put o.dst undef) w
theorem gOp_mono {i : Nat} {K K' : Act → World → Prop} {a : Act} {w : World} (h : ∀ a w, K a w → K' a w) (hh : gOp P ops i K a w) : gOp P ops i K' a w := by
  unfold gOp at *
  split at hh
  · exact hh
  · split at hh
    · rename_i hw
      rw [if_pos hw]
      split at hh
      · exact h _ _ hh
      · exact h _ _ hh
      · exact hh.mono fun e w'' ⟨u, he, hk⟩ => ⟨u, he, h _ _ hk⟩
      · exact hh.elim
    · rename_i hw
      rw [if_neg hw]
      exact h _ _ hh
theorem wpOp_of_gOp {i : Nat} {K : Act → World → Prop} {a : Act} {w : World} {ro : Option Nat} (h : gOp P ops i K a w) : wpOpIn (FW ro) 0 P ops Q i K a w := by
  unfold gOp at h
  unfold wpOpIn
  cases ho : ops[i]? with
  | none => simp only [ho] at h
  | some o =>
    simp only [ho] at h ⊢
    split at h
    · rename_i hw
      rw [if_pos hw]
      refine wpIn_of ?_
      split at h
      · rename_i hr; rw [semAt_of hr (by simp)]; exact h
      · rename_i hr; rw [semAt_of hr (by simp)]; exact h
      · rename_i hr; rw [semAt_of hr (by simp)]; exact ⟨fun hd => by simp [Fence.wide] at hd, calls_in (h.mono fun e w'' ⟨u, he, hk⟩ => by subst he; exact hk)⟩
      · exact h.elim
    · rename_i hw
      rw [if_neg hw]
      exact ⟨fun _ _ => trivial, h⟩
theorem QS.mono {K K' : Act → Prop} (hK : ∀ a, K a → K' a) : ∀ {l : List Oper} {a : Act}, QS P ops M K l a → QS P ops M K' l a
  | [], _, h => hK _ h
  | o :: l, a, h => by
    unfold QS at h ⊢
    split
    · rename_i hw
      rw [if_pos hw] at h
      obtain ⟨v, h1, h2⟩ := h
      exact ⟨v, h1, QS.mono hK h2⟩
    · rename_i hw
      rw [if_neg hw] at h
      exact QS.mono hK h
def preDone (m : Nat) (listed : Array Bool) : Bool := (List.range m).all fun k => listed.getD k false
/-- from here on, in every order, also in every later world -/
def UP (ro : Option Nat) (P : Program) (ops : Array Oper) (Q : Exit → Act → World → Prop) (D : World → Prop) (m : Nat) : Nat → Array Bool → Act → World → Prop
  | 0, listed, a, w => ∀ w', Below w.heap.size w w' → D w' → preDone m listed = true ∧ wpAnyIn (FW ro) 0 P .any ops Q 0 listed a w'
  | f + 1, listed, a, w => ∀ w', Below w.heap.size w w' → D w' →
    if preDone m listed then wpAnyIn (FW ro) 0 P .any ops Q (f + 1) listed a w'
    else Region.ready .any ops listed ≠ [] ∧ ∀ i ∈ Region.ready .any ops listed, i < m ∧ gOp P ops i (fun a'' w'' => D w'' ∧ UP ro P ops Q D m f (listed.setIfInBounds i true) a'' w'') a w'
theorem UP.later {D : World → Prop} {m f : Nat} {listed : Array Bool} {a : Act} {w w1 : World} (h : UP Z.ro P ops Q D m f listed a w) (hb : Below w.heap.size w w1) : UP Z.ro P ops Q D m f listed a w1 := by
  cases f with
  | zero => exact fun w' hw' hD => h w' (hb.trans (hw'.mono hb.size)) hD
  | succ f => exact fun w' hw' hD => h w' (hb.trans (hw'.mono hb.size)) hD
theorem UP.any {D : World → Prop} {m : Nat} : ∀ {f : Nat} {listed : Array Bool} {a : Act} {w : World}, UP Z.ro P ops Q D m f listed a w → D w → wpAnyIn (FW Z.ro) 0 P .any ops Q f listed a w
  | 0, _, _, w, h, hD => (h w (Below.refl _ _) hD).2
  | f + 1, listed, a, w, h, hD => by
    have h' := h w (Below.refl _ _) hD
    split at h'
    · exact h'
    · exact ⟨fun h0 => absurd h0 h'.1, fun i hi => wpOp_of_gOp (gOp_mono (fun a'' w'' ⟨hd, hu⟩ => UP.any hu hd) (h'.2 i hi).2)⟩
/-- j waits for k, straight or through others -/
def reach (ops : Array Oper) : Nat → Nat → Nat → Bool
  | 0, _, _ => false
  | f + 1, j, k => match ops[j]? with
    | some o => o.after.any (fun e => Region.binds .any e && e.on == k) || o.after.any (fun e => Region.binds .any e && reach ops f e.on k)
    | none => false
/-- what has come up has come up behind what it waits for -/
def Dcl (ops : Array Oper) (listed : Array Bool) : Prop := ∀ k o, listed.getD k false = true → ops[k]? = some o → ∀ e ∈ o.after, Region.binds .any e = true → listed.getD e.on false = true
theorem reach_listed {listed : Array Bool} (hd : Dcl ops listed) {k : Nat} : ∀ (f j : Nat), reach ops f j k = true → (∀ o, ops[j]? = some o → ∀ e ∈ o.after, Region.binds .any e = true → listed.getD e.on false = true) → listed.getD k false = true
  | 0, _, h, _ => by simp [reach] at h
  | f + 1, j, h, hj => by
    unfold reach at h
    split at h
    · rename_i o ho
      rcases Bool.or_eq_true_iff.1 h with h | h
      · obtain ⟨e, he, hb⟩ := Array.any_eq_true'.1 h
        simp only [Bool.and_eq_true, beq_iff_eq] at hb
        have := hj o ho e he hb.1
        rwa [hb.2] at this
      · obtain ⟨e, he, hb⟩ := Array.any_eq_true'.1 h
        simp only [Bool.and_eq_true] at hb
        have hl := hj o ho e he hb.1
        exact reach_listed hd f e.on hb.2 fun o' ho' e' he' hb' => hd e.on o' hl ho' e' he' hb'
    · cases h
def dclB (ops : Array Oper) (listed : Array Bool) : Bool := (List.range ops.size).all fun k => !listed.getD k false || match ops[k]? with | some o => o.after.all fun e => !Region.binds .any e || listed.getD e.on false | none => true
theorem dclB_spec {listed : Array Bool} (h : dclB ops listed = true) : Dcl ops listed := fun k o hk ho e he hb => by
  have h1 := List.all_eq_true.1 h k (by simpa using (Array.getElem?_eq_some_iff.1 ho).1)
  simp only [hk, Bool.not_true, Bool.false_or, ho] at h1
  have h2 := Array.all_eq_true'.1 h1 e he
  simpa [hb] using h2
theorem Dcl.none (n : Nat) : Dcl ops (Array.replicate n false) := fun k o h => by
  rcases Nat.lt_or_ge k n with h' | h' <;> simp_all [Array.getD_eq_getD_getElem?]
theorem Dcl.set {listed : Array Bool} (hd : Dcl ops listed) {j : Nat} (hj : j ∈ Region.ready .any ops listed) : Dcl ops (listed.setIfInBounds j true) := fun k o h ho e he hb => by
  obtain ⟨_, oj, hoj, hall⟩ := mem_ready.1 hj
  by_cases hk : j = k
  · subst hk
    rw [hoj] at ho
    cases ho
    exact getD_set_true (hall e he hb)
  · rw [getD_set_ne false hk] at h
    exact getD_set_true (hd k o h ho e he hb)
/-- the operations from m on wait for all before -/
def tailB (m : Nat) (ops : Array Oper) : Bool := (List.range ops.size).all fun j => j < m || (List.range m).all fun k => reach ops ops.size j k
theorem tail_waits {m : Nat} (hB : tailB m ops = true) {listed : Array Bool} (hd : Dcl ops listed) {j : Nat} (hj : j ∈ Region.ready .any ops listed) (hm : m ≤ j) {k : Nat} (hk : k < m) : listed.getD k false = true := by
  obtain ⟨_, o, ho, hall⟩ := mem_ready.1 hj
  have h1 := List.all_eq_true.1 hB j (by simpa using (Array.getElem?_eq_some_iff.1 ho).1)
  simp only [Bool.or_eq_true, decide_eq_true_eq] at h1
  rcases h1 with h1 | h1
  · omega
  · have h2 := List.all_eq_true.1 h1 k (by simpa using hk)
    exact reach_listed hd _ _ h2 fun o' ho' e he hb => by rw [ho] at ho'; cases ho'; exact hall e he hb
/-- in this frame, in every world of D, operation o yields v, and the world has at most grown -/
def YS (P : Program) (ops : Array Oper) (D : World → Prop) (o : Oper) (v : Value) (a : Act) : Prop :=
  (Region.wanted o (yielded ops a.tmps) = true ∧ ∀ w, D w → o.quietAt P a (fun w' => Below w.heap.size w w') w v) ∨ (Region.wanted o (yielded ops a.tmps) = false ∧ v = undef)
theorem YS.of_same {D : World → Prop} {o : Oper} {v : Value} {a a' : Act} (h : YS P ops D o v a) (he : execOp a'.eval o = execOp a.eval o) (hw : Region.wanted o (yielded ops a'.tmps) = Region.wanted o (yielded ops a.tmps)) : YS P ops D o v a' := by
  unfold YS Oper.quietAt at *
  rw [he, hw]
  exact h
theorem YS.gOp {D : World → Prop} (hDu : ∀ w w', D w → Below w.heap.size w w' → D w') {i : Nat} {o : Oper} {v : Value} {a : Act} {w : World} {K : Act → World → Prop} (hi : ops[i]? = some o) (h : YS P ops D o v a) (hD : D w)
    (hK : ∀ w', Below w.heap.size w w' → D w' → K (a.put o.dst v) w') : Go.D.gOp P ops i K a w := by
  unfold Go.D.gOp
  simp only [hi]
  rcases h with ⟨hw, hq⟩ | ⟨hw, rfl⟩
  · rw [if_pos hw]
    have := hq w hD
    unfold Oper.quietAt at this
    generalize (execOp a.eval o).run P w = r at *
    cases r with
    | ok n w' =>
      cases n <;> simp only [Oper.quietUpon] at this <;> simp only
      case value u => obtain ⟨rfl, rfl⟩ := this; exact hK _ (Below.refl _ _) hD
      case skip => obtain ⟨rfl, rfl⟩ := this; exact hK _ (Below.refl _ _) hD
      case enter f args => obtain ⟨rfl, hc⟩ := this; exact hc.mono fun e w'' ⟨he, hb⟩ => ⟨v, he, hK _ hb (hDu _ _ hD hb)⟩
    | halt x w' => simp only [Oper.quietUpon] at this
  · rw [if_neg (by simp [hw])]
    exact hK _ (Below.refl _ _) hD
theorem gOp_put {D : World → Prop} {j : Nat} {oi oj : Oper} {v : Value} (hj : ops[j]? = some oj) (hap : oi.apart ops oj = true) (hsi : ∀ cs b, oi.op ≠ .select cs b) (hsj : ∀ cs b, oj.op ≠ .select cs b)
    {K : Act → World → Prop} {a : Act} {w : World} (hy : YS P ops D oi v a) (h : gOp P ops j K (a.put oi.dst v) w) :
    gOp P ops j (fun a' w' => YS P ops D oi v a' ∧ K (a'.put oi.dst v) w') a w := by
  obtain ⟨h1, h2, h3⟩ := Oper.apart_spec hap
  have keep : ∀ u, YS P ops D oi v (a.put oj.dst u) := fun u => hy.of_same (execOp_put oi hsi a oj.dst u h3) (wanted_put oi a oj.dst u h3)
  unfold gOp at *
  simp only [hj] at *
  rw [wanted_put oj a oi.dst v h1] at h
  split
  · rename_i hw
    rw [if_pos hw, execOp_put oj hsj a oi.dst v h1] at h
    generalize (execOp a.eval oj).run P w = r at *
    cases r with
    | ok n w' =>
      cases n <;> simp only at h ⊢
      case value u => exact ⟨keep u, by rw [← Act.put_comm a v u h2]; exact h⟩
      case skip => exact ⟨keep _, by rw [← Act.put_comm a v undef h2]; exact h⟩
      case enter f args => exact h.mono fun e w'' ⟨u, he, hk⟩ => ⟨u, he, keep u, by rw [← Act.put_comm a v u h2]; exact hk⟩
    | halt x w' => exact h
  · rename_i hw
    rw [if_neg hw] at h
    exact ⟨keep _, by rw [← Act.put_comm a v undef h2]; exact h⟩
/-- a quiet operation that may come up now may be taken first -/
theorem up_first {D : World → Prop} (hDu : ∀ w w', D w → Below w.heap.size w w' → D w') {m : Nat} (hB : tailB m ops = true) (hsel : ∀ (j : Nat) (o : Oper) cs b, ops[j]? = some o → o.op ≠ .select cs b)
    {i : Nat} {oi : Oper} {v : Value} (hi : ops[i]? = some oi) (him : i < m) :
    ∀ (f : Nat) (listed : Array Bool) (a : Act) (w : World), Dcl ops listed →
      (∀ j oj, ops[j]? = some oj → j ≠ i → listed.getD j true = false → (∀ e ∈ oj.after, Region.binds .any e = true → e.on ≠ i) → oi.apart ops oj = true) →
      i ∈ Region.ready .any ops listed → YS P ops D oi v a → UP Z.ro P ops Q D m f (listed.setIfInBounds i true) (a.put oi.dst v) w → UP Z.ro P ops Q D m (f + 1) listed a w := by
  intro f
  induction f with
  | zero =>
    intro listed a w hdc hfree hr hy H w' hw' hD'
    have hun : listed.getD i false = false := by
      have h0 := (mem_ready.1 hr).1
      rcases Nat.lt_or_ge i listed.size with h' | h' <;> simp_all [Array.getD_eq_getD_getElem?]
    have hnd : preDone m listed = false := by
      cases hp : preDone m listed with
      | false => rfl
      | true => have := List.all_eq_true.1 hp i (by simpa using him); simp [hun] at this
    rw [if_neg (by simp [hnd])]
    refine ⟨fun h => (by rw [h] at hr; cases hr), fun j hj => ?_⟩
    by_cases hji : j = i
    · subst hji
      exact ⟨him, hy.gOp hDu hi hD' fun w'' hb hd => ⟨hd, H.later (hw'.trans (hb.mono hw'.size))⟩⟩
    · have h2 := (H w' hw' hD').2
      have := ready_mono hj hji
      rw [h2.1] at this
      cases this
  | succ f ih =>
    intro listed a w hdc hfree hr hy H w' hw' hD'
    have hun : listed.getD i false = false := by
      have h0 := (mem_ready.1 hr).1
      rcases Nat.lt_or_ge i listed.size with h' | h' <;> simp_all [Array.getD_eq_getD_getElem?]
    have hnd : preDone m listed = false := by
      cases hp : preDone m listed with
      | false => rfl
      | true => have := List.all_eq_true.1 hp i (by simpa using him); simp [hun] at this
    rw [if_neg (by simp [hnd])]
    refine ⟨fun h => (by rw [h] at hr; cases hr), fun j hj => ?_⟩
    by_cases hji : j = i
    · subst hji
      exact ⟨him, hy.gOp hDu hi hD' fun w'' hb hd => ⟨hd, H.later (hw'.trans (hb.mono hw'.size))⟩⟩
    · have hjm : j < m := by
        rcases Nat.lt_or_ge j m with h' | h'
        · exact h'
        · have := tail_waits hB hdc hj h' him; rw [hun] at this; cases this
      refine ⟨hjm, ?_⟩
      have hrj := ready_mono hj hji
      have h2 := H w' hw' hD'
      have hnd2 : preDone m (listed.setIfInBounds i true) = false := by
        cases hp : preDone m (listed.setIfInBounds i true) with
        | false => rfl
        | true =>
          have := List.all_eq_true.1 hp j (by simpa using hjm)
          have hju := (mem_ready.1 hrj).1
          rcases Nat.lt_or_ge j (listed.setIfInBounds i true).size with h' | h' <;> simp_all [Array.getD_eq_getD_getElem?]
      rw [if_neg (by simp [hnd2])] at h2
      obtain ⟨_, hg⟩ := h2.2 j hrj
      obtain ⟨hjun, oj, hoj, hall⟩ := mem_ready.1 hj
      have hnot : ∀ e ∈ oj.after, Region.binds .any e = true → e.on ≠ i := fun e he hb heq => by
        have h1 := hall e he hb
        rw [heq, hun] at h1
        cases h1
      have h3 := gOp_put hoj (hfree j oj hoj hji hjun hnot) (fun cs b => hsel i oi cs b hi) (fun cs b => hsel j oj cs b hoj) hy hg
      have hfree' : ∀ k ok, ops[k]? = some ok → k ≠ i → (listed.setIfInBounds j true).getD k true = false → (∀ e ∈ ok.after, Region.binds .any e = true → e.on ≠ i) → oi.apart ops ok = true := fun k ok hk hki hun' hno => by
        refine hfree k ok hk hki ?_ hno
        by_cases hjk : j = k
        · subst hjk; exact hjun
        · rw [getD_set_ne true hjk] at hun'; exact hun'
      refine gOp_mono (fun a' w2 ⟨hy', hd, hu⟩ => ⟨hd, ih (listed.setIfInBounds j true) a' w2 (hdc.set hj) hfree' (ready_mono hr (Ne.symm hji)) hy' ?_⟩) h3
      rw [Array.setIfInBounds_comm _ _ hji]
      exact hu
def TU (P : Program) (Z : Env) (N : Nat) (L : List (Nat × Value)) (M0 M : Mem) (ops : Array Oper) (m f : Nat) (listed : Array Bool) (Q : Exit → Act → World → Prop) : Prop :=
  ∀ a w, Fr Z N L a → M.holds w → UP Z.ro P ops Q M0.holds m f listed a w
def lexPre (ops : Array Oper) : Nat → Nat → Array Bool → Bool
  | 0, _, _ => true
  | p + 1, k, listed => (Region.ready .any ops listed).contains k && Region.free .any ops listed k && lexPre ops p (k + 1) (listed.setIfInBounds k true)
def lexDone : Nat → Nat → Array Bool → Array Bool
  | 0, _, listed => listed
  | p + 1, k, listed => lexDone p (k + 1) (listed.setIfInBounds k true)
/-- quiet operations in the order of the text, then the rest -/
theorem up_lex {m : Nat} (hB : tailB m ops = true) (hs : Region.noSelect ops = true) (n : Nat) :
    ∀ (l : List Oper) (k : Nat) (listed : Array Bool) (a : Act) (w : World), Dcl ops listed → (∀ j, j < l.length → l[j]? = ops[k + j]?) → k + l.length ≤ m → lexPre ops l.length k listed = true →
      QS P ops M0 (fun a' => UP Z.ro P ops Q M0.holds m n (lexDone l.length k listed) a' w) l a → UP Z.ro P ops Q M0.holds m (n + l.length) listed a w
  | [], _, _, _, _, _, _, _, _, h => h
  | o :: l, k, listed, a, w, hdc, hl, hkm, hp, h => by
    have h0 : ops[k]? = some o := by have := (hl 0 (by simp)).symm; simpa using this
    simp only [List.length_cons] at hkm
    simp only [List.length_cons, lexPre, Bool.and_eq_true] at hp
    obtain ⟨⟨hr, hf⟩, hp'⟩ := hp
    have hl' : ∀ j, j < l.length → l[j]? = ops[k + 1 + j]? := fun j hj => by
      have := hl (j + 1) (by simpa using hj)
      simpa [Nat.add_assoc, Nat.add_comm 1 j] using this
    rw [List.length_cons, ← Nat.add_assoc]
    unfold QS at h
    split at h
    · rename_i hw
      obtain ⟨v, hq, hK⟩ := h
      exact up_first (fun _ _ hd hb => hd.ext hb) hB (Region.noSelect_spec hs) h0 (by omega) _ _ _ _ hdc (Region.free_spec h0 hf) (by simpa using hr) (.inl ⟨hw, hq⟩)
        (up_lex hB hs n l (k + 1) _ _ _ (hdc.set (by simpa using hr)) hl' (by omega) hp' hK)
    · rename_i hw
      exact up_first (fun _ _ hd hb => hd.ext hb) hB (Region.noSelect_spec hs) h0 (by omega) _ _ _ _ hdc (Region.free_spec h0 hf) (by simpa using hr) (.inr ⟨by simpa using hw, rfl⟩)
        (up_lex hB hs n l (k + 1) _ _ _ (hdc.set (by simpa using hr)) hl' (by omega) hp' h)
/-- a region: p quiet operations first, m operations ahead of the tail -/
theorem tc_drawU {id : Nat} {l : List Oper} (m p : Nat) (hm : P.follows .mixedOrders = true) (hB : (tailB m l.toArray && Region.noSelect l.toArray && lexPre l.toArray p 0 (Array.replicate l.length false) && decide (p ≤ m) && decide (p ≤ l.length)) = true)
    (h : TQ P Z N L M l.toArray (l.take p) (fun a => ∀ w, M.holds w → UP Z.ro P l.toArray Q M.holds m (l.length - p) (lexDone p 0 (Array.replicate l.length false)) a w)) : TC P Z N L M (.region id l.toArray true) Q := fun a w hf hM => by
  simp only [Bool.and_eq_true, decide_eq_true_eq] at hB
  obtain ⟨⟨⟨⟨h1, h2⟩, h3⟩, h4⟩, h5⟩ := hB
  refine wpIn_region_any hm ?_
  have hM' : M.holds { w with drawn := w.drawn + 1 } := hM.ext (below_drew' w)
  have hlen : (l.take p).length = p := by simp [h5]
  have := up_lex (P := P) (Q := Q) (M0 := M) h1 h2 (l.length - p) (l.take p) 0 (Array.replicate l.length false) a { w with drawn := w.drawn + 1 } (Dcl.none _) (fun j hj => by
      rw [hlen] at hj
      simp [hj]) (by omega) (by rw [hlen]; exact h3)
    (by rw [hlen]; exact (h a hf).mono fun a' hk => hk _ hM')
  rw [hlen, Nat.sub_add_cancel h5] at this
  simpa using this.any hM'
def drawB (ops : Array Oper) : Bool := tailB ops.size ops && Region.noSelect ops && lexPre ops ops.size 0 (Array.replicate ops.size false) && (Region.ready .any ops (lexDone ops.size 0 (Array.replicate ops.size false))).isEmpty && preDone ops.size (lexDone ops.size 0 (Array.replicate ops.size false))
/-- a region of quiet operations -/
theorem tc_draws {id : Nat} {l : List Oper} (hm : P.follows .mixedOrders = true) (hB : drawB l.toArray = true)
    (h : TQ P Z N L M l.toArray l (fun a => ∀ w, M.holds w → Q .normal a w)) : TC P Z N L M (.region id l.toArray true) Q := by
  simp only [drawB, Bool.and_eq_true, List.isEmpty_iff, List.size_toArray] at hB
  obtain ⟨⟨⟨⟨h1, h2⟩, h3⟩, h4⟩, h5⟩ := hB
  refine tc_drawU l.length l.length hm (by simp [h1, h2, h3]) ?_
  rw [List.take_length, Nat.sub_self]
  exact fun a hf => (h a hf).mono fun a' hk w hm' w' hb hD => ⟨h5, h4, hk w' hD⟩
theorem tq_up {m n : Nat} {listed : Array Bool} (h : TU P Z N L M M ops m n listed Q) : TQ P Z N L M ops [] (fun a => ∀ w, M.holds w → UP Z.ro P ops Q M.holds m n listed a w) :=
  fun a hf w hm => h a w hf hm
/-- operation number i of those that may come up now -/
def TG (P : Program) (Z : Env) (N : Nat) (L : List (Nat × Value)) (M0 M : Mem) (ops : Array Oper) (m f : Nat) (listed : Array Bool) (i : Nat) (Q : Exit → Act → World → Prop) : Prop :=
  ∀ a w, Fr Z N L a → M.holds w → gOp P ops i (fun a'' w'' => M0.holds w'' ∧ UP Z.ro P ops Q M0.holds m f (listed.setIfInBounds i true) a'' w'') a w
theorem tu_all {m f : Nat} {listed : Array Bool} (rs : List Nat) (hr : Region.ready .any ops listed = rs) (hne : rs ≠ []) (hd : preDone m listed = false) (hlt : rs.all (· < m) = true)
    (h : ∀ i ∈ rs, TG P Z N L M0 M ops m f listed i Q) : TU P Z N L M0 M ops m (f + 1) listed Q := fun a w hf hm w' hw' hD => by
  rw [if_neg (by simp [hd]), hr]
  exact ⟨hne, fun i hi => ⟨by simpa using List.all_eq_true.1 hlt i hi, h i hi a w' hf (hm.ext hw')⟩⟩
theorem tu_one {m f : Nat} {listed : Array Bool} (i : Nat) (h : TG P Z N L M0 M ops m f listed i Q) (hr : Region.ready .any ops listed = [i]) (hd : preDone m listed = false) (hlt : ([i] : List Nat).all (· < m) = true) : TU P Z N L M0 M ops m (f + 1) listed Q :=
  tu_all [i] hr (by simp) hd hlt (by simpa using h)
/-- a quiet operation that may come up now, taken first -/
theorem tu_take {m f i : Nat} {listed : Array Bool} {o : Oper} {d : Nat} {v : Value} (hq : Qv P Z N L M0 o v) (h : TU P Z N ((d, v) :: L) M0 M ops m f (listed.setIfInBounds i true) Q)
    (hB : (tailB m ops && Region.noSelect ops && (Region.ready .any ops listed).contains i && Region.free .any ops listed i && decide (i < m)) = true) (hdc : dclB ops listed = true)
    (ho : ops[i]? = some o := by rfl) (hg : o.guard = none := by rfl) (hd : o.dst = some d := by rfl) (hN : d < N := by decide) : TU P Z N L M0 M ops m (f + 1) listed Q := fun a w hf hm => by
  simp only [Bool.and_eq_true, decide_eq_true_eq] at hB
  obtain ⟨⟨⟨⟨h1, h2⟩, h3⟩, h4⟩, h5⟩ := hB
  refine up_first (fun _ _ hd hb => hd.ext hb) h1 (Region.noSelect_spec h2) ho h5 f listed a w (dclB_spec hdc) (Region.free_spec ho h4) (by simpa using h3) (.inl ⟨wanted_none hg _, fun w hw => hq a hf w hw⟩) (h _ _ (by rw [hd]; exact hf.put hN _) hm)
def chainB (ops : Array Oper) : Nat → Nat → Array Bool → Bool
  | 0, _, listed => (Region.ready .any ops listed).isEmpty
  | n + 1, k, listed => (Region.ready .any ops listed) == [k] && chainB ops n (k + 1) (listed.setIfInBounds k true)
theorem wpAny_chain {ro : Option Nat} : ∀ (l : List Oper) (k : Nat) (listed : Array Bool) (a : Act) (w : World), (∀ j, j < l.length → l[j]? = ops[k + j]?) → chainB ops l.length k listed = true → wpListIn (FW ro) 0 P ops Q l a w → wpAnyIn (FW ro) 0 P .any ops Q l.length listed a w
  | [], k, listed, a, w, _, hB, h => ⟨by simpa [chainB] using hB, h⟩
  | o :: l, k, listed, a, w, hl, hB, h => by
    have h0 : ops[k]? = some o := by have := (hl 0 (by simp)).symm; simpa using this
    simp only [List.length_cons, chainB, Bool.and_eq_true, beq_iff_eq] at hB
    have hl' : ∀ j, j < l.length → l[j]? = ops[k + 1 + j]? := fun j hj => by
      have := hl (j + 1) (by simpa using hj)
      simpa [Nat.add_assoc, Nat.add_comm 1 j] using this
    refine ⟨fun h' => (by rw [hB.1] at h'; cases h'), fun i hi => ?_⟩
    rw [hB.1] at hi
    obtain rfl : i = k := by simpa using hi
    unfold wpListIn at h
    unfold wpOpIn
    simp only [h0]
    split
    · rename_i hw
      rw [if_pos hw] at h
      exact Oper.wpIn_mono (fun a w h => wpAny_chain l (i + 1) _ a w hl' hB.2 h) h
    · rename_i hw
      rw [if_neg hw] at h
      exact ⟨h.1, wpAny_chain l (i + 1) _ _ w hl' hB.2 h.2⟩
/-- the tail, in its one order -/
theorem tu_tail {m f : Nat} {listed : Array Bool} {l : List Oper} (hd : preDone m listed = true) (hf : l.length = f) (hl2 : ops.toList.drop m = l) (hB : chainB ops f m listed = true) (h : TL P Z N L M ops l Q) : TU P Z N L M0 M ops m f listed Q := by
  subst hf
  have hidx : ∀ j, j < l.length → l[j]? = ops[m + j]? := fun j hj => by
    rw [← hl2]
    simp
  cases hl' : l.length with
  | zero =>
    intro a w hfr hm w' hw' hD
    refine ⟨hd, ?_⟩
    have := wpAny_chain (P := P) (Q := Q) l m listed a w' hidx hB (h a w' hfr (hm.ext hw'))
    rwa [hl'] at this
  | succ n =>
    intro a w hfr hm w' hw' hD
    rw [if_pos hd]
    have := wpAny_chain (P := P) (Q := Q) l m listed a w' hidx hB (h a w' hfr (hm.ext hw'))
    rwa [hl'] at this
/-- a new block -/
theorem tg_value {m f i : Nat} {listed : Array Bool} {o : Oper} {d : Nat} {val : Nat → Value} {obj : Obj} {B : World} {bs : List (Nat × Obj)} {ks : List Kp} {ms : List Nat} {rs : List (Option (Nat × Obj))} (ho : ops[i]? = some o) (hg : o.guard = none) (hd : o.dst = some d) (hN : d < N)
    (hr : ∀ a w, Fr Z N L a → Mem.holds ⟨B, bs, ks, ms, rs⟩ w → (execOp a.eval o).run P w = .ok (.value (val w.heap.size)) (w.alloc obj)) (hD : ∀ b w, Mem.holds ⟨B, (b, obj) :: bs, ks, ms, rs⟩ w → M0.holds w)
    (h : ∀ b, TU P Z N ((d, val b) :: L) M0 ⟨B, (b, obj) :: bs, ks, ms, rs⟩ ops m f (listed.setIfInBounds i true) Q) : TG P Z N L M0 ⟨B, bs, ks, ms, rs⟩ ops m f listed i Q := fun a w hf hm => by
  unfold gOp
  simp only [ho]
  rw [if_pos (wanted_none hg _), hr a w hf hm]
  have hm' := hm.alloc obj
  exact ⟨hD _ _ hm', h _ _ _ (by rw [hd]; exact hf.put hN _) hm'⟩
theorem tg_alloc {m f i : Nat} {listed : Array Bool} {d T : Nat} {ty : TypeId} {pos : String} {af : Array Edge} {cs : Array Value} {B : World} {bs : List (Nat × Obj)} {ks : List Kp} {ms : List Nat} {rs : List (Option (Nat × Obj))} (hz : Zero P T cs)
    (h : ∀ b, TU P Z N ((d, .pointer (some ⟨b, 0, none⟩)) :: L) M0 ⟨B, (b, .cells cs T (0, 0)) :: bs, ks, ms, rs⟩ ops m f (listed.setIfInBounds i true) Q)
    (hD : ∀ b w, Mem.holds ⟨B, (b, .cells cs T (0, 0)) :: bs, ks, ms, rs⟩ w → M0.holds w) (ho : ops[i]? = some ⟨some d, .alloc T, ty, pos, af, none⟩ := by rfl) (hN : d < N := by decide) : TG P Z N L M0 ⟨B, bs, ks, ms, rs⟩ ops m f listed i Q :=
  tg_value (val := fun b => .pointer (some ⟨b, 0, none⟩)) ho rfl rfl hN (fun a w hf hm => by
    obtain ⟨z, h1, h2⟩ := hz w
    subst h2
    simp [execOp, Instr.alloc, h1, newVar, newRow]) hD h
/-- a quiet operation among those that may come up -/
theorem tg_q {m f i : Nat} {listed : Array Bool} {o : Oper} {d : Nat} {v : Value} (hq : Qv P Z N L M o v) (h : TU P Z N ((d, v) :: L) M0 M ops m f (listed.setIfInBounds i true) Q)
    (hD : ∀ w, M.holds w → M0.holds w) (ho : ops[i]? = some o := by rfl) (hg : o.guard = none := by rfl) (hd : o.dst = some d := by rfl) (hN : d < N := by decide) : TG P Z N L M0 M ops m f listed i Q := fun a w hf hm => by
  have hDu : ∀ w w', M.holds w → Below w.heap.size w w' → M.holds w' := fun _ _ h hb => h.ext hb
  exact YS.gOp hDu ho (.inl ⟨wanted_none hg _, fun w hw => hq a hf w hw⟩) hm fun w' hb hm' => ⟨hD _ hm', h _ _ (by rw [hd]; exact hf.put hN _) hm'⟩
theorem tu_2 {m f : Nat} {listed : Array Bool} (i1 i2 : Nat) (hr : Region.ready .any ops listed = [i1, i2]) (hd : preDone m listed = false) (hlt : ([i1, i2] : List Nat).all (· < m) = true) (hi1 : TG P Z N L M0 M ops m f listed i1 Q) (hi2 : TG P Z N L M0 M ops m f listed i2 Q) : TU P Z N L M0 M ops m (f + 1) listed Q :=
  tu_all [i1, i2] hr (by simp) hd hlt (by simpa using ⟨hi1, hi2⟩)
theorem hD_drop {B : World} {bs bs' : List (Nat × Obj)} {ks ks' : List Kp} {ms : List Nat} {rs : List (Option (Nat × Obj))} (h1 : bs'.drop (bs'.length - bs.length) = bs) (h2 : ks'.drop (ks'.length - ks.length) = ks) (w : World) (h : Mem.holds ⟨B, bs', ks', ms, rs⟩ w) : Mem.holds ⟨B, bs, ks, ms, rs⟩ w :=
  h.less (h1 ▸ List.drop_sublist _ _) (h2 ▸ List.drop_sublist _ _)
def fst (n k : Nat) : Array Bool := lexDone k 0 (Array.replicate n false)
end
end Go.D
namespace Go.D
open Go Go.RowKit
theorem Below.grown {w w' : World} (h : Below w.heap.size w w') : ∃ q os', w' = Sort.grow (w.drewN q) os' := by
  obtain ⟨n, es, rfl⟩ := h.grow
  exact ⟨n, es, rfl⟩
def boxW (b : Nat) (o : Obj) : World := { (default : World) with heap := Array.replicate (b + 1) o }
theorem boxW_get (b : Nat) (o : Obj) : (boxW b o).heap[b]? = some o := by simp [boxW]
theorem Mem.has_box {B : World} {bs : List (Nat × Obj)} {ks : List Kp} {ms : List Nat} {rs : List (Option (Nat × Obj))} {b : Nat} {o : Obj} (h : (b, o) ∈ bs) : Mem.has ⟨B, bs, ks, ms, rs⟩ (boxW b o) b (b + 1) := fun w hm => by
  have hb := (hm.boxOf h).2
  refine ⟨get_lt hb, fun c h1 h2 => ?_⟩
  obtain rfl : c = b := by omega
  rw [hb, boxW_get]
theorem flatMap_get {α : Type} {enc : α → List Value} {sz : Nat} : ∀ {l : List α} {i j : Nat} {x : α}, (∀ y ∈ l, (enc y).length = sz) → l[i]? = some x → j < sz → (l.flatMap enc)[i * sz + j]? = (enc x)[j]?
  | [], i, j, x, _, hx, _ => by simp at hx
  | y :: l, 0, j, x, hk, hx, hj => by
    simp at hx
    subst hx
    rw [List.flatMap_cons, Nat.zero_mul, Nat.zero_add, List.getElem?_append_left (by rw [hk y (by simp)]; exact hj)]
  | y :: l, i + 1, j, x, hk, hx, hj => by
    rw [List.flatMap_cons, List.getElem?_append_right (by rw [hk y (by simp), Nat.succ_mul]; omega), hk y (by simp), Nat.succ_mul]
    have e : i * sz + sz + j - sz = i * sz + j := by omega
    rw [e]
    exact flatMap_get (fun z hz => hk z (List.mem_cons_of_mem _ hz)) (by simpa using hx) hj
theorem SlAt.ofBox {α : Type} {enc : α → List Value} {sz b E : Nat} {l : List α} (hl : l.length ≤ 1000000) (hk : ∀ x ∈ l, (enc x).length = sz) : SlAt (boxW b (.cells (l.flatMap enc).toArray E (0, 0))) b (b + 1) sz enc (some ⟨b, 0, Option.none⟩) l := by
  refine ⟨by simp only [maxLen]; omega, hk, fun _ => ⟨rfl, Nat.le_refl _, Nat.lt_succ_self _⟩, fun i j x v hx hv => ?_⟩
  have hj : j < sz := by have := (List.getElem?_eq_some_iff.1 hv).1; rwa [hk x (List.mem_of_getElem? hx)] at this
  refine cell_of (boxW_get _ _) ?_
  have := flatMap_get hk hx hj
  simpa [offs, hv] using this
section
variable {P : Program} {Z : Env} {N : Nat} {L : List (Nat × Value)} {M : Mem} {d : Option Tmp} {x y : Operand} {T T' ty : TypeId} {pos : String} {af : Array Edge} {g : Option (Nat × Bool)} {v : Value} {k : IntKind} {m : Int}
theorem qv_neSelf (hx : ev L x = some (.int k m)) (hy : ev L y = some (.int k m)) : Qv P Z N L M ⟨d, .binOp .neq T x y T', ty, pos, af, g⟩ (.bool false) := by
  have := qv_neq (P := P) (Z := Z) (N := N) (M := M) (d := d) (ty := ty) (pos := pos) (af := af) (g := g) (T := T) (T' := T') hx hy
  simpa using this
/-- the whole of an array in a variable, as a slice -/
theorem qv_sliceArr {T E n sz b : Nat} (hT : P.underlying T = some (.array n E)) (hS : Size P E sz) (hx : ev L x = some (.pointer (some ⟨b, 0, none⟩))) :
    Qv P Z N L M ⟨d, .slice T x none none none, ty, pos, af, g⟩ (.slice (some ⟨b, 0, none⟩) n n) := qv_of fun a' hf w _ => by
  have hS' := hS w
  have : (Instr.sliceAt T (.pointer (some ⟨b, 0, none⟩)) none none none).run P w = .ok (.slice (some ⟨b, 0, none⟩) n n) w := by
    simp [Instr.sliceAt, run_underlying hT, Instr.sliceBounds, Instr.sureAddr, hS', Addr.add]
  simp [execOp, hf.eval hx, this]
end
def encI (i : Int) : List Value := [.int .i64 i]
def cmpI (x y : Int) : Int := if x < y then -1 else if y < x then 1 else 0
def cmpL : List Int → List Int → Int
  | [], [] => 0
  | [], _ :: _ => -1
  | _ :: _, [] => 1
  | x :: a, y :: b => if cmpI x y ≠ 0 then cmpI x y else cmpL a b
theorem drop_of {α : Type} {l : List α} {k : Nat} {x : α} (h : l[k]? = some x) : l.drop k = x :: l.drop (k + 1) := by
  obtain ⟨hlt, hx⟩ := List.getElem?_eq_some_iff.1 h
  rw [List.drop_eq_getElem_cons hlt, hx]
theorem cmpL_at {a b : List Int} {k : Nat} {x y : Int} (hx : a[k]? = some x) (hy : b[k]? = some y) : cmpL (a.drop k) (b.drop k) = if cmpI x y ≠ 0 then cmpI x y else cmpL (a.drop (k + 1)) (b.drop (k + 1)) := by rw [drop_of hx, drop_of hy, cmpL]
theorem cmpL_long {a b : List Int} {k : Nat} {x : Int} (hx : a[k]? = some x) (hy : b.length ≤ k) : cmpL (a.drop k) (b.drop k) = 1 := by rw [drop_of hx, List.drop_eq_nil_of_le hy, cmpL]
theorem cmpL_short {a b : List Int} {k : Nat} (hx : a.length ≤ k) (h : a.length < b.length) (hk : k ≤ a.length) : cmpL (a.drop k) (b.drop k) = -1 := by
  rw [List.drop_eq_nil_of_le hx]
  have : b[k]? = some b[k] := List.getElem?_eq_getElem (by omega)
  rw [drop_of this, cmpL]
theorem cmpL_same {a b : List Int} {k : Nat} (hx : a.length ≤ k) (h : b.length ≤ k) : cmpL (a.drop k) (b.drop k) = 0 := by rw [List.drop_eq_nil_of_le hx, List.drop_eq_nil_of_le h, cmpL]
end Go.D
namespace Go.Q
open Go
def encK (k : K3) : List Value := [.int .i64 k.1, .int .i64 k.2.1, .int .i64 k.2.2]
def cmp3 (x y : K3) : Int := Go.D.cmpL [x.1, x.2.1, x.2.2] [y.1, y.2.1, y.2.2]
theorem cmp3_lt (x y : K3) : cmp3 x y < 0 ↔ before3 x y := by
  obtain ⟨a, b, c⟩ := x
  obtain ⟨d, e, f⟩ := y
  simp only [cmp3, Go.D.cmpL, Go.D.cmpI, before3]
  repeat' split
  all_goals omega
structure Sorted3 (l l' : List K3) : Prop where
  perm : l'.Perm l
  ord : l'.Pairwise (fun x y => ¬ before3 y x)
theorem sorted3_nil {l : List K3} (h : l = []) : Sorted3 l [] := by subst h; exact ⟨.refl _, .nil⟩
theorem Sorted3.strict {l l' : List K3} (h : Sorted3 l l') (hn : l.Nodup) : l'.Pairwise before3 := by
  have h2 : l'.Nodup := h.perm.nodup_iff.2 hn
  refine (h.ord.and h2).imp fun {a b} hab => ?_
  exact Classical.byContradiction fun hc => hab.2 (before3_tri hc hab.1)
end Go.Q
namespace Go.Q
open Go
def prevR (r : List Rest) : Nat → Option Rest
  | 0 => none
  | k + 1 => r[k]?
theorem prevR_at {r : List Rest} {k : Nat} {e : Rest} (hk : 0 < (k : Int)) (h : r[((k : Int) - 1).toNat]? = some e) : prevR r k = some e := by
  cases k with
  | zero => simp at hk
  | succ k => simpa [prevR] using h
theorem restsBad_stop {t : List Tariff} {r : List Rest} {k : Nat} {x : Rest} (hx : r[k]? = some x) (h : restBad t (prevR r k) x) : restsBad t (prevR r k) (r.drop k) = true := by rw [drop_of hx, restsBad, if_pos h]
theorem restsBad_step {t : List Tariff} {r : List Rest} {k : Nat} {x : Rest} (hx : r[k]? = some x) (h : ¬ restBad t (prevR r k) x) : restsBad t (prevR r k) (r.drop k) = restsBad t (prevR r (k + 1)) (r.drop (k + 1)) := by
  rw [drop_of hx, restsBad, if_neg h]
  show _ = restsBad t r[k]? _
  rw [hx]
theorem restsBad_end {t : List Tariff} {r : List Rest} {k : Nat} {p : Option Rest} (h : r.length ≤ k) : restsBad t p (r.drop k) = false := by rw [List.drop_eq_nil_of_le h, restsBad]
def RestOk (t : List Tariff) (x : Rest) : Prop := partyIs t x.kind x.house x.customer ∧ 1 ≤ x.milli ∧ x.milli ≤ 999
theorem rests_fine0 {t : List Tariff} : ∀ {r : List Rest} {p : Option Rest}, restsBad t p r = false → RestsOrd r ∧ (∀ x ∈ r, RestOk t x) ∧ ∀ q, p = some q → ∀ x ∈ r, before3 (keyR q) (keyR x)
  | [], _, _ => ⟨.nil, by simp, by simp⟩
  | x :: r, p, h => by
    rw [restsBad] at h
    split at h
    · cases h
    · rename_i hb
      obtain ⟨h1, h2, h3⟩ := rests_fine0 h
      have hx : RestOk t x := by unfold restBad at hb; exact ⟨Classical.byContradiction fun hc => hb (.inl hc), by omega, by omega⟩
      refine ⟨List.pairwise_cons.2 ⟨fun y hy => h3 x rfl y hy, h1⟩, fun y hy => ?_, fun q hq y hy => ?_⟩
      · rcases List.mem_cons.1 hy with rfl | hy
        · exact hx
        · exact h2 y hy
      · have hqx : before3 (keyR q) (keyR x) := Classical.byContradiction fun hc => hb (.inr (.inr (.inr ⟨q, hq, hc⟩)))
        rcases List.mem_cons.1 hy with rfl | hy
        · exact hqx
        · exact before3_trans hqx (h3 x rfl y hy)
theorem rests_fine {t : List Tariff} {r : List Rest} (h : restsBad t none r = false) : RestsOrd r ∧ ∀ x ∈ r, RestOk t x := ⟨(rests_fine0 h).1, (rests_fine0 h).2.1⟩
theorem chargeErrs_stop {t : List Tariff} {n : Net} {l : List Use} {k : Nat} {u : Use} (hu : l[k]? = some u) (h : ¬ (charge t n u).2 = 0) : chargeErrs t n (l.drop k) = (charge t n u).2 := by rw [drop_of hu, chargeErrs, if_neg h]
theorem chargeErrs_step {t : List Tariff} {n : Net} {l : List Use} {k : Nat} {u : Use} (hu : l[k]? = some u) (h : (charge t n u).2 = 0) : chargeErrs t n (l.drop k) = chargeErrs t n (l.drop (k + 1)) := by rw [drop_of hu, chargeErrs, if_pos h]
theorem chargeErrs_end {t : List Tariff} {n : Net} {l : List Use} {k : Nat} (h : l.length ≤ k) : chargeErrs t n (l.drop k) = 0 := by rw [List.drop_eq_nil_of_le h, chargeErrs]
def Vals (B : Int) (m : List (K3 × Int)) : Prop := ∀ p ∈ m, 0 ≤ p.2 ∧ p.2 ≤ B
theorem vals_put {B : Int} {m : List (K3 × Int)} {k : K3} {v : Int} (h : Vals B m) (hv : 0 ≤ v ∧ v ≤ B) : Vals B (putM m k v) := by
  intro p hp
  unfold putM setAt at hp
  obtain ⟨q, hq, rfl⟩ := List.mem_map.1 hp
  split
  · exact hv
  · unfold ensure at hq
    split at hq
    · exact h q hq
    · rcases List.mem_append.1 hq with hq | hq
      · exact h q hq
      · simp at hq; subst hq; exact hv
theorem vals_look {B : Int} {m : List (K3 × Int)} (h : Vals B m) (hB : 0 ≤ B) (k : K3) : 0 ≤ look m k 0 ∧ look m k 0 ≤ B := by
  unfold look
  cases hf : m.find? (fun p => decide (p.1 = k)) with
  | none => exact ⟨Int.le_refl _, hB⟩
  | some p => exact h p (List.mem_of_find?_eq_some hf)
theorem restM_vals {t : List Tariff} {r : List Rest} (h : ∀ x ∈ r, RestOk t x) : Vals 999 (restM r) := by
  have : ∀ (r : List Rest) (m : List (K3 × Int)), (∀ x ∈ r, RestOk t x) → Vals 999 m → Vals 999 (r.foldl (fun m r => putM m (keyR r) r.milli) m) := by
    intro r
    induction r with
    | nil => intro m _ h; exact h
    | cons x r ih =>
      intro m hr hm
      have := hr x (by simp)
      exact ih _ (fun y hy => hr y (List.mem_cons_of_mem _ hy)) (vals_put hm ⟨by have := this.2.1; omega, this.2.2⟩)
  exact this r [] h (fun p hp => by simp at hp)
theorem useM_vals {t : List Tariff} {n : Net} : ∀ {l : List Use} {m : List (K3 × Int)} {B : Int}, 0 ≤ B → Vals B m → Vals (B + 16777216000000000 * l.length) (useM t n m l)
  | [], m, B, _, h => by simpa [useM] using h
  | u :: l, m, B, hB, h => by
    have e : useM t n m (u :: l) = useM t n (putM m (keyU u) (look m (keyU u) 0 + (charge t n u).1)) l := rfl
    rw [e]
    have h1 := vals_look h hB (keyU u)
    have h2 := charge_bound t n u
    have h3 : Vals (B + 16777216000000000) (putM m (keyU u) (look m (keyU u) 0 + (charge t n u).1)) := vals_put (fun p hp => by have := h p hp; omega) (by omega)
    have h4 := useM_vals (t := t) (n := n) (l := l) (by omega) h3
    rw [show B + 16777216000000000 + 16777216000000000 * (l.length : Int) = B + 16777216000000000 * ((u :: l).length : Int) by simp only [List.length_cons]; omega] at h4
    exact h4
theorem sums_vals {t : List Tariff} {n : Net} {r : List Rest} {l : List Use} (h : ∀ x ∈ r, RestOk t x) (hl : l.length ≤ 200) : Vals 3355443200000000999 (useM t n (restM r) l) := fun p hp => by
  have h1 := useM_vals (t := t) (n := n) (l := l) (B := 999) (by omega) (restM_vals h) p hp
  omega
theorem sums_take {t : List Tariff} {n : Net} {r : List Rest} {l : List Use} (h : ∀ x ∈ r, RestOk t x) (hl : l.length ≤ 200) (j : Nat) (k : K3) : 0 ≤ look (useM t n (restM r) (l.take j)) k 0 ∧ look (useM t n (restM r) (l.take j)) k 0 ≤ 3355443200000000999 :=
  vals_look (sums_vals h (by have := List.length_take_le' j l; omega)) (by omega) k
theorem MapIs.nodup {κ ω : Type} [DecidableEq κ] {ek : κ → Value} {en : ω → Value} {m : List (κ × ω)} {o : Obj} (h : MapIs ek en m o) : (m.map Prod.fst).Nodup := by
  obtain ⟨_, _, _, h⟩ := h
  exact h.nodup
section
variable {t : List Tariff} {n : Net} {r : List Rest} {l : List Use} {tick : Int}
theorem period_check (h : ¬ meterCheck t l = 0) : period r t n l tick = ([], [], meterCheck t l) := by rw [period, if_pos h]
theorem period_tick (h : meterCheck t l = 0) (h2 : ¬ inTo tick 1000000) : period r t n l tick = ([], [], 3) := by rw [period, if_neg (by omega), if_pos h2]
theorem period_rest (h : meterCheck t l = 0) (h2 : inTo tick 1000000) (h3 : restsBad t none r = true) : period r t n l tick = ([], [], 1) := by rw [period, if_neg (by omega), if_neg (fun hn => hn h2), if_pos h3]
theorem period_charge (h : meterCheck t l = 0) (h2 : inTo tick 1000000) (h3 : restsBad t none r = false) (h4 : ¬ chargeErrs t n l = 0) : period r t n l tick = ([], [], chargeErrs t n l) := by
  rw [period, if_neg (by omega), if_neg (fun hn => hn h2), if_neg (by rw [h3]; decide), if_pos h4]
theorem use_parties (h : meterCheck t l = 0) : ∀ u ∈ l, partyIs t u.kind u.house u.customer := fun u hu => ((meterCheck_zero h).use u hu).1
theorem mm_keys (h : meterCheck t l = 0) (h3 : restsBad t none r = false) : ∀ p ∈ useM t n (restM r) l, p.1 ∈ grid t := sums_keys (fun x hx => ((rests_fine h3).2 x hx).1) (use_parties h)
theorem period_limit {o : Obj} {A B rest : List (K3 × Int)} {p : K3 × Int} (h : meterCheck t l = 0) (h2 : inTo tick 1000000) (h3 : restsBad t none r = false) (h4 : chargeErrs t n l = 0) (hm : MapIs encA3 (Value.int .i64) (useM t n (restM r) l) o)
    (h5 : (A ++ B).Perm (useM t n (restM r) l)) (h6 : B.Perm (p :: rest)) (h7 : 1099511627776 < p.2 / 1000) : period r t n l tick = ([], [], 2) := by
  have hp : p ∈ useM t n (restM r) l := h5.mem_iff.1 (List.mem_append_right _ (h6.mem_iff.2 (by simp)))
  rw [period, if_neg (by omega), if_neg (fun hn => hn h2), if_neg (by rw [h3]; decide), if_neg (by omega), if_pos ((over_limit hm.nodup (sums_look t n l (rests_fine h3).1) (mm_keys h h3)).1 ⟨p, hp, h7⟩)]
theorem period_ok {o : Obj} {A : List (K3 × Int)} {ks : List K3} (h : meterCheck t l = 0) (h2 : inTo tick 1000000) (h3 : restsBad t none r = false) (h4 : chargeErrs t n l = 0) (hm : MapIs encA3 (Value.int .i64) (useM t n (restM r) l) o)
    (h5 : (A ++ []).Perm (useM t n (restM r) l)) (h6 : ∀ p ∈ A, ¬ 1099511627776 < p.2 / 1000) (h7 : Sorted3 (A.map Prod.fst) ks) :
    period r t n l tick = (postsOf tick (fun k => look (useM t n (restM r) l) k 0) ks, leftsOf (fun k => look (useM t n (restM r) l) k 0) ks, 0) := by
  rw [List.append_nil] at h5
  have hl := sums_look t n l (rests_fine h3).1
  have hk := mm_keys (n := n) h h3
  have hperm : ks.Perm ((useM t n (restM r) l).map Prod.fst) := h7.perm.trans (h5.map Prod.fst)
  have ho : ks.Pairwise before3 := h7.strict ((h5.map Prod.fst).nodup_iff.2 hm.nodup)
  have hno : ¬ ∃ k ∈ grid t, 1099511627776 < totalOf r t n l k / 1000 := fun hx => by
    obtain ⟨p, hp, h8⟩ := (over_limit hm.nodup hl hk).2 hx
    exact h6 p (h5.mem_iff.2 hp) h8
  rw [period, if_neg (by omega), if_neg (fun hn => hn h2), if_neg (by rw [h3]; decide), if_neg (by omega), if_neg hno]
  have e1 := over_map hl hk ho hperm (f := fun k s => if 0 < s / 1000 then some (postOf tick k s) else none) (fun k => rfl)
  have e2 := over_map hl hk ho hperm (f := fun k s => if 0 < s % 1000 then some (⟨k.1, k.2.1, k.2.2, s % 1000⟩ : Rest) else none) (fun k => rfl)
  unfold postsOf leftsOf
  rw [e1, e2]
end
theorem postsOf_step {tick : Int} {f : K3 → Int} {ks : List K3} {k : Nat} {x : K3} (hx : ks[k]? = some x) : postsOf tick f (ks.take (k + 1)) = postsOf tick f (ks.take k) ++ if 0 < f x / 1000 then [postOf tick x (f x)] else [] := by
  rw [take_of hx, postsOf, List.filterMap_append]
  unfold postsOf
  congr 1
  by_cases h : 0 < f x / 1000 <;> simp [h]
theorem leftsOf_step {f : K3 → Int} {ks : List K3} {k : Nat} {x : K3} (hx : ks[k]? = some x) : leftsOf f (ks.take (k + 1)) = leftsOf f (ks.take k) ++ if 0 < f x % 1000 then [(⟨x.1, x.2.1, x.2.2, f x % 1000⟩ : Rest)] else [] := by
  rw [take_of hx, leftsOf, List.filterMap_append]
  unfold leftsOf
  congr 1
  by_cases h : 0 < f x % 1000 <;> simp [h]
theorem perm_len {α β : Type} {A B M : List (α × β)} (h : (A ++ B).Perm M) : A.length ≤ M.length := by have := h.length_eq; simp only [List.length_append] at this; omega
theorem nodup_sub_len {α : Type} [DecidableEq α] : ∀ {a b : List α}, a.Nodup → (∀ x ∈ a, x ∈ b) → a.length ≤ b.length
  | [], b, _, _ => by simp
  | x :: a, b, hn, h => by
    obtain ⟨h1, h2⟩ := List.nodup_cons.1 hn
    have hx := h x (by simp)
    have := nodup_sub_len (a := a) (b := b.erase x) h2 (fun y hy => (List.mem_erase_of_ne (fun e => h1 (by subst e; exact hy))).2 (h y (List.mem_cons_of_mem _ hy)))
    rw [List.length_erase_of_mem hx] at this
    have : 0 < b.length := List.length_pos_of_mem hx
    simp only [List.length_cons]; omega
theorem sum_same (c : Nat) : ∀ n : Nat, ((List.range n).map fun _ => c).sum = n * c
  | 0 => by simp
  | n + 1 => by rw [List.range_succ, List.map_append, List.sum_append, sum_same c n, Nat.succ_mul]; simp
theorem grid_len (t : List Tariff) : (grid t).length = 28 * (t.length * 5) := by
  simp only [grid, List.length_flatMap, List.length_map, List.length_range]
  rw [sum_same, sum_same]
theorem mm_len {t : List Tariff} {n : Net} {r : List Rest} {l : List Use} {o : Obj} (h : meterCheck t l = 0) (h3 : restsBad t none r = false) (hm : MapIs encA3 (Value.int .i64) (useM t n (restM r) l) o) : (useM t n (restM r) l).length ≤ 1680 := by
  have h1 := nodup_sub_len hm.nodup (b := grid t) (fun k hk => by
    obtain ⟨p, hp, rfl⟩ := List.mem_map.1 hk
    exact mm_keys h h3 p hp)
  rw [grid_len, List.length_map] at h1
  have := (meterCheck_zero h).tl
  omega
theorem postsOf_len (tick : Int) (f : K3 → Int) (ks : List K3) : (postsOf tick f ks).length ≤ ks.length := List.length_filterMap_le _ _
theorem leftsOf_len (f : K3 → Int) (ks : List K3) : (leftsOf f ks).length ≤ ks.length := List.length_filterMap_le _ _
section
variable {tick : Int} {f : K3 → Int} {ks : List K3} {k : Nat} {x : K3}
theorem postsOf_no (hx : ks[k]? = some x) (h : ¬ 0 < f x / 1000) : postsOf tick f (ks.take (k + 1)) = postsOf tick f (ks.take k) := by rw [postsOf_step hx, if_neg h, List.append_nil]
theorem postsOf_fine (hx : ks[k]? = some x) (h : 0 < f x / 1000) (hw : x.2.2 = 5) : postsOf tick f (ks.take (k + 1)) = postsOf tick f (ks.take k) ++ [(⟨12 + x.1, x.2.1, f x / 1000, tick, x.2.2, 0⟩ : Posting)] := by rw [postsOf_step hx, if_pos h, postOf, if_pos hw]
theorem postsOf_use (hx : ks[k]? = some x) (h : 0 < f x / 1000) (hw : ¬ x.2.2 = 5) : postsOf tick f (ks.take (k + 1)) = postsOf tick f (ks.take k) ++ [(⟨x.2.1, 12 + x.1, f x / 1000, tick, x.2.2, 0⟩ : Posting)] := by rw [postsOf_step hx, if_pos h, postOf, if_neg hw]
theorem leftsOf_no (hx : ks[k]? = some x) (h : ¬ 0 < f x % 1000) : leftsOf f (ks.take (k + 1)) = leftsOf f (ks.take k) := by rw [leftsOf_step hx, if_neg h, List.append_nil]
theorem leftsOf_yes (hx : ks[k]? = some x) (h : 0 < f x % 1000) : leftsOf f (ks.take (k + 1)) = leftsOf f (ks.take k) ++ [(⟨x.1, x.2.1, x.2.2, f x % 1000⟩ : Rest)] := by rw [leftsOf_step hx, if_pos h]
end
theorem prevR_zero {r : List Rest} {k : Nat} {Q : Rest → Prop} (h : ¬ 0 < (k : Int)) : ∀ q, prevR r k = some q → Q q := fun q hq => by
  obtain rfl : k = 0 := by omega
  cases hq
theorem prevR_all {r : List Rest} {k : Nat} {e : Rest} {Q : Rest → Prop} (hk : 0 < (k : Int)) (he : r[((k : Int) - 1).toNat]? = some e) (h : Q e) : ∀ q, prevR r k = some q → Q q := fun q hq => by
  rw [prevR_at hk he] at hq; cases hq; exact h
theorem rest_not_bad {t : List Tariff} {r : List Rest} {k : Nat} {x : Rest} (h1 : partyIs t x.kind x.house x.customer) (h2 : ¬ x.milli < 1) (h3 : ¬ 999 < x.milli) (h4 : ∀ q, prevR r k = some q → before3 (keyR q) (keyR x)) : ¬ restBad t (prevR r k) x := by
  rintro (h | h | h | ⟨q, hq, h⟩)
  · exact h h1
  · exact h2 h
  · exact h3 h
  · exact h (h4 q hq)
theorem cmp3_ge {x y : K3} (h : 0 ≤ cmp3 x y) : ¬ before3 x y := fun hb => by have := (cmp3_lt x y).2 hb; omega
theorem cmp3_not {x y : K3} (h : ¬ 0 ≤ cmp3 x y) : before3 x y := (cmp3_lt x y).1 (by omega)
theorem sorted_grid {t : List Tariff} {n : Net} {r : List Rest} {l : List Use} {A : List (K3 × Int)} {ks : List K3} {k : K3} (h : meterCheck t l = 0) (h3 : restsBad t none r = false) (h5 : (A ++ []).Perm (useM t n (restM r) l)) (h7 : Sorted3 (A.map Prod.fst) ks) (hk : k ∈ ks) : 0 ≤ k.1 ∧ k.1 < 28 ∧ 0 ≤ k.2.1 ∧ k.2.1 < t.length ∧ 1 ≤ k.2.2 ∧ k.2.2 ≤ 5 := by
  rw [List.append_nil] at h5
  obtain ⟨p, hp, rfl⟩ := List.mem_map.1 (h7.perm.mem_iff.1 hk)
  exact grid_mem.1 (mm_keys h h3 p (h5.mem_iff.1 hp))
end Go.Q
namespace Go.Q
open Go
section
variable {t : List Tariff} {n : Net} {r : List Rest} {l : List Use} {c h k j : Nat}
end
section
variable {t : List Tariff} {n : Net} {r : List Rest} {l : List Use} {tick : Int} {f : K3 → Int} {c h k : Nat}
def Fine (f : K3 → Int) (ks : List K3) : Prop := ∀ x ∈ ks, ¬ 1099511627776 < f x / 1000
theorem Fine.snoc {ks : List K3} {x : K3} (h : Fine f ks) (hx : ¬ 1099511627776 < f x / 1000) : Fine f (ks ++ [x]) := fun y hy => by
  rcases List.mem_append.1 hy with hy | hy
  · exact h y hy
  · simp at hy; subst hy; exact hx
theorem period_limR (h1 : meterCheck t l = 0) (h2 : inTo tick 1000000) (h3 : restsBad t none r = false) (h4 : chargeErrs t n l = 0) {x : K3} (hx : x ∈ grid t) (hl : 1099511627776 < totalOf r t n l x / 1000) : period r t n l tick = ([], [], 2) := by
  rw [period, if_neg (by omega), if_neg (fun hn => hn h2), if_neg (by rw [h3]; decide), if_neg (by omega), if_pos ⟨x, hx, hl⟩]
theorem period_okR (h1 : meterCheck t l = 0) (h2 : inTo tick 1000000) (h3 : restsBad t none r = false) (h4 : chargeErrs t n l = 0) (hl : Fine (totalOf r t n l) (grid t)) : period r t n l tick = (postsOf tick (totalOf r t n l) (grid t), leftsOf (totalOf r t n l) (grid t), 0) := by
  rw [period, if_neg (by omega), if_neg (fun hn => hn h2), if_neg (by rw [h3]; decide), if_neg (by omega), if_neg (fun ⟨x, hx, h⟩ => hl x hx h)]
end
end Go.Q
namespace Go.Q
open Go Go.RowKit
def flatP (a b c p : Int) (k : Nat) : Link := ⟨a, b, List.replicate k c ++ List.replicate (24 - k) 0, List.replicate k p ++ List.replicate (24 - k) 0⟩
def sanN : Net := ⟨3, [flatP 0 1 100 2 24, flatP 1 2 100 2 24, flatP 0 2 10 1 24]⟩
def sanL : List Send := [⟨0, 5, 100⟩, ⟨2, 5, 10⟩, ⟨1, 6, 100⟩, ⟨2, 6, 10⟩]
theorem sanOk : NetOk sanN := by
  intro x hx
  simp only [sanN, List.mem_cons, List.not_mem_nil, or_false] at hx
  rcases hx with rfl | rfl | rfl <;> exact ⟨rfl, rfl⟩
end Go.Q
namespace Go.Q
open Go
def noS : Hd := ⟨[], none, 0⟩
def sanT : List Tariff := [⟨2, 30, 500⟩, ⟨1, 10, 100⟩]
def sanK : Use := ⟨1, 0, 4, 100, 5, 10, 0, noS⟩
def sanRd : Use := ⟨3, 1, 4, 0, 0, 0, 7, noS⟩
def sanMv (a : Option Addr) : Use := ⟨2, 0, 0, 0, 0, 0, 0, ⟨sanL, a, 4⟩⟩
def sanFi : Use := ⟨5, 1, 0, 0, 0, 0, 3, noS⟩
def sanMo : Use := ⟨3, 1, 4, 0, 0, 0, 100, noS⟩
def sanRe : Rest := ⟨4, 1, 3, 70⟩
theorem san_c1 : charge sanT sanN sanK = (1000, 0) := by decide
theorem san_c2 : charge sanT sanN sanRd = (70, 0) := by decide
theorem san_c3 (a : Option Addr) : charge sanT sanN (sanMv a) = (420000, 0) := by rfl
theorem san_c4 : charge sanT sanN sanFi = (3000, 0) := by decide
theorem san_ck (a : Option Addr) : meterCheck sanT [sanK, sanRd, sanMv a, sanFi] = 0 := by rfl
set_option maxRecDepth 100000 in
theorem san_p1 : period [] sanT sanN [sanK, sanRd] 9 = ([⟨0, 16, 1, 9, 1, 0⟩], [sanRe], 0) := by decide +kernel
set_option maxRecDepth 100000 in
theorem san_p2 : period [sanRe] sanT sanN [sanMo] 10 = ([⟨1, 16, 1, 10, 3, 0⟩], [sanRe], 0) := by decide +kernel
set_option maxRecDepth 100000 in
theorem san_p3 : period [] sanT sanN [sanFi] 10 = ([⟨12, 1, 3, 10, 5, 0⟩], [], 0) := by decide +kernel
end Go.Q
namespace Go.Q
open Go
def uA (u : Use) (x0 : Int) : Use := ⟨u.kind, u.house, u.customer, u.bytes, u.since, u.since + x0 % (u.till - u.since + 1), u.count, u.sends⟩
def uB (u : Use) (x0 : Int) : Use := ⟨u.kind, u.house, u.customer, u.bytes, u.since + x0 % (u.till - u.since + 1), u.till, u.count, u.sends⟩
def uX (u : Use) (x1 : Int) : Use := ⟨u.kind, u.house, u.customer, x1 % (u.bytes + 1), u.since, u.till, u.count, u.sends⟩
def uY (u : Use) (x1 : Int) : Use := ⟨u.kind, u.house, u.customer, u.bytes - x1 % (u.bytes + 1), u.since, u.till, u.count, u.sends⟩
def parts (u : Use) (x0 x1 : Int) : List Use := [uA u x0, uB u x0, uX u x1, uY u x1]
end Go.Q
namespace Go.Q
open Go
section
variable {α : Type} (key : α → K3) (val : α → Int)
def sumsM (m : List (K3 × Int)) (l : List α) : List (K3 × Int) := l.foldl (fun m x => putM m (key x) (look m (key x) 0 + val x)) m
theorem sumsM_look : ∀ (l : List α) (m : List (K3 × Int)) (k : K3), look (sumsM key val m l) k 0 = look m k 0 + isum (fun x => if key x = k then val x else 0) l
  | [], m, k => by simp [sumsM, isum]
  | x :: l, m, k => by
    have ih := sumsM_look l (putM m (key x) (look m (key x) 0 + val x)) k
    simp only [sumsM, List.foldl_cons] at ih ⊢
    rw [ih, look_putM, isum]
    by_cases h : k = key x
    · subst h; simp; omega
    · have : ¬ key x = k := fun e => h e.symm
      simp [h, this]
theorem sumsM_take {m : List (K3 × Int)} {l : List α} {k : Nat} {x : α} (h : l[k]? = some x) : sumsM key val m (l.take (k + 1)) = putM (sumsM key val m (l.take k)) (key x) (look (sumsM key val m (l.take k)) (key x) 0 + val x) := by
  rw [take_of h, sumsM, List.foldl_append]; rfl
end
theorem isum_nn {α : Type} {f : α → Int} {l : List α} (h : ∀ x ∈ l, 0 ≤ f x) : 0 ≤ isum f l := by
  induction l with
  | nil => simp [isum]
  | cons x l ih => have h1 := h x (by simp); have h2 := ih fun y hy => h y (List.mem_cons_of_mem _ hy); simp only [isum]; omega
theorem isum_take_le {α : Type} {f : α → Int} {l : List α} (h : ∀ x ∈ l, 0 ≤ f x) (k : Nat) : isum f (l.take k) ≤ isum f l := by
  have e : l = l.take k ++ l.drop k := (List.take_append_drop k l).symm
  have h2 := isum_nn (f := f) (l := l.drop k) fun x hx => h x (List.mem_of_mem_drop hx)
  have h3 : isum f l = isum f (l.take k) + isum f (l.drop k) := by rw [← isum_append, ← e]
  omega
def encB8 (i : Int) : List Value := [.int .u8 i]
/-- a slice that a loop carries, with its region -/
structure SlG where
  W : World
  lo : Nat
  hi : Nat
  a : Option Addr
  c : Nat
theorem wf_u8 {y : Int} (h : (Lit.int .u8 y).wf = true) : 0 ≤ y ∧ y ≤ 255 := by
  simp [Lit.wf, IntKind.min, IntKind.max, IntKind.signed, IntKind.bits] at h; omega
def mineOf (per : List Int) (k : Nat) : Int := match per[k]? with | some x => x % 5 | none => 0
theorem mineOf_at {per : List Int} {k : Nat} {x : Int} (h : per[k]? = some x) : mineOf per k = x % 5 := by rw [mineOf, h]
theorem mineOf_none {per : List Int} {k : Nat} (h : per.length ≤ k) : mineOf per k = 0 := by rw [mineOf, List.getElem?_eq_none h]
def nowTo (per : List Int) (l : List Use) (p k : Nat) : List Use := ((l.take k).zipIdx.filter fun q => decide (mineOf per q.2 = (p : Int))).map Prod.fst
theorem nowTo_step {per : List Int} {l : List Use} {p k : Nat} {x : Use} (h : l[k]? = some x) : nowTo per l p (k + 1) = nowTo per l p k ++ if mineOf per k = (p : Int) then [x] else [] := by
  have hk : k < l.length := by
    rcases Nat.lt_or_ge k l.length with h' | h'
    · exact h'
    · rw [List.getElem?_eq_none h'] at h; cases h
  unfold nowTo
  rw [take_of h, List.zipIdx_append, List.filter_append, List.map_append, List.length_take, Nat.min_eq_left (by omega)]
  by_cases hm : mineOf per k = (p : Int) <;> simp [hm]
theorem nowTo_yes {per : List Int} {l : List Use} {p k : Nat} {x : Use} (h : l[k]? = some x) (hm : mineOf per k = (p : Int)) : nowTo per l p (k + 1) = nowTo per l p k ++ [x] := by rw [nowTo_step h, if_pos hm]
theorem nowTo_no {per : List Int} {l : List Use} {p k : Nat} {x : Use} (h : l[k]? = some x) (hm : ¬ mineOf per k = (p : Int)) : nowTo per l p (k + 1) = nowTo per l p k := by rw [nowTo_step h, if_neg hm, List.append_nil]
theorem nowTo_len (per : List Int) (l : List Use) (p k : Nat) : (nowTo per l p k).length ≤ l.length := by
  unfold nowTo
  rw [List.length_map]
  refine Nat.le_trans (List.length_filter_le _ _) ?_
  simp; omega
def nowOf (per : List Int) (l : List Use) (p : Nat) : List Use := nowTo per l p l.length
theorem nowTo_mem {per : List Int} {l : List Use} {p k : Nat} {x : Use} (h : x ∈ nowTo per l p k) : x ∈ l := by
  obtain ⟨q, hq, rfl⟩ := List.mem_map.1 h
  exact List.mem_of_mem_take (List.fst_mem_of_mem_zipIdx (List.mem_filter.1 hq).1)
theorem nowTo_end {per : List Int} {l : List Use} {p k : Nat} (h : l.length ≤ k) : nowTo per l p k = nowOf per l p := by
  unfold nowOf nowTo
  rw [List.take_of_length_le h, List.take_of_length_le (Nat.le_refl _)]
/-- over five periods -/
def sum5 (f : Nat → Int) : Int := f 0 + f 1 + f 2 + f 3 + f 4
theorem five_parts {per : List Int} (hper : ∀ x ∈ per, 0 ≤ x) (f : Use → Int) (l : List Use) : ∀ k, k ≤ l.length → sum5 (fun p => isum f (nowTo per l p k)) = isum f (l.take k) := by
  intro k
  induction k with
  | zero => intro _; simp [sum5, nowTo, isum]
  | succ k ih =>
    intro hk
    obtain ⟨x, hx⟩ : ∃ x, l[k]? = some x := ⟨_, List.getElem?_eq_getElem (by omega)⟩
    have ih := ih (by omega)
    rw [isum_take hx, ← ih]
    have hm : 0 ≤ mineOf per k ∧ mineOf per k < 5 := by
      rcases hp : per[k]? with _ | y
      · rw [mineOf, hp]; decide
      · have := hper y (List.mem_of_getElem? hp); rw [mineOf_at hp]; omega
    have hs : ∀ p : Nat, isum f (nowTo per l p (k + 1)) = isum f (nowTo per l p k) + if mineOf per k = (p : Int) then f x else 0 := fun p => by
      rw [nowTo_step hx, isum_append]
      split <;> simp [isum]
    unfold sum5
    simp only [hs]
    have : mineOf per k = 0 ∨ mineOf per k = 1 ∨ mineOf per k = 2 ∨ mineOf per k = 3 ∨ mineOf per k = 4 := by omega
    rcases this with h | h | h | h | h <;> simp [h] <;> omega
structure PeriodOk (r : List Rest) (t : List Tariff) (n : Net) (l : List Use) (tick : Int) : Prop where
  check : meterCheck t l = 0
  tk : inTo tick 1000000
  rests : restsBad t none r = false
  charges : chargeErrs t n l = 0
  small : ∀ k ∈ grid t, ¬ 1099511627776 < totalOf r t n l k / 1000
theorem period_err {r : List Rest} {t : List Tariff} {n : Net} {l : List Use} {tick : Int} (h1 : meterCheck t l = 0) (h2 : inTo tick 1000000) (h3 : restsBad t none r = false) (h4 : chargeErrs t n l = 0) : (period r t n l tick).2.2 = 0 ∨ (period r t n l tick).2.2 = 2 := by
  by_cases h : ∃ k ∈ grid t, 1099511627776 < totalOf r t n l k / 1000
  · obtain ⟨k, hk, hl⟩ := h
    rw [period_limR h1 h2 h3 h4 hk hl]; exact .inr rfl
  · rw [period_okR h1 h2 h3 h4 fun k hk hl => h ⟨k, hk, hl⟩]; exact .inl rfl
theorem period_zero {r : List Rest} {t : List Tariff} {n : Net} {l : List Use} {tick : Int} (h : (period r t n l tick).2.2 = 0) : PeriodOk r t n l tick ∧ period r t n l tick = (postsOf tick (totalOf r t n l) (grid t), leftsOf (totalOf r t n l) (grid t), 0) := by
  by_cases h1 : meterCheck t l = 0
  · by_cases h2 : inTo tick 1000000
    · cases h3 : restsBad t none r
      · by_cases h4 : chargeErrs t n l = 0
        · by_cases h5 : ∃ k ∈ grid t, 1099511627776 < totalOf r t n l k / 1000
          · obtain ⟨k, hk, hl⟩ := h5
            rw [period_limR h1 h2 h3 h4 hk hl] at h; cases h
          · have h5' : ∀ k ∈ grid t, ¬ 1099511627776 < totalOf r t n l k / 1000 := fun k hk hl => h5 ⟨k, hk, hl⟩
            exact ⟨⟨h1, h2, h3, h4, h5'⟩, period_okR h1 h2 h3 h4 h5'⟩
        · rw [period_charge h1 h2 h3 h4] at h; exact absurd h h4
      · rw [period_rest h1 h2 h3] at h; cases h
    · rw [period_tick h1 h2] at h; cases h
  · rw [period_check h1] at h; exact absurd h h1
theorem total_nn {r : List Rest} {t : List Tariff} {n : Net} {l : List Use} (h : restsBad t none r = false) (k : K3) : 0 ≤ totalOf r t n l k := by
  have h1 := isum_nn (f := fun x : Rest => if keyR x = k then x.milli else 0) (l := r) fun x hx => by have := ((rests_fine h).2 x hx).2; split <;> omega
  have h2 := isum_nn (f := fun u : Use => if keyU u = k then (charge t n u).1 else 0) (l := l) fun u _ => by have := charge_bound t n u; split <;> omega
  unfold totalOf; omega
theorem total_out {r : List Rest} {t : List Tariff} {n : Net} {l : List Use} (h1 : meterCheck t l = 0) (h3 : restsBad t none r = false) {k : K3} (hk : k ∉ grid t) : totalOf r t n l k = 0 := by
  unfold totalOf
  rw [isum_zero, isum_zero]
  · rfl
  · intro u hu
    rw [if_neg]
    intro e
    have := use_parties h1 u hu
    exact hk (grid_mem.2 (by rw [← e]; unfold partyIs at this; unfold keyU; simp only; omega))
  · intro x hx
    rw [if_neg]
    intro e
    have := ((rests_fine h3).2 x hx).1
    exact hk (grid_mem.2 (by rw [← e]; unfold partyIs at this; unfold keyR; simp only; omega))
def keyP (p : Posting) : K3 := if p.why = 5 then (p.debit - 12, p.credit, p.why) else (p.credit - 12, p.debit, p.why)
theorem keyP_postOf (tick : Int) (k : K3) (s : Int) : keyP (postOf tick k s) = k := by
  obtain ⟨a, b, c⟩ := k
  unfold keyP postOf
  by_cases h : c = 5
  · subst h; simp; omega
  · simp [h]; omega
theorem isum_posts {tick : Int} {f : K3 → Int} (hf : ∀ k, 0 ≤ f k) (k : K3) : ∀ {ks : List K3}, ks.Nodup → isum (fun x => if keyP x = k then 1000 * x.amount else 0) (postsOf tick f ks) = if k ∈ ks then 1000 * (f k / 1000) else 0
  | [], _ => by simp [postsOf, isum]
  | a :: ks, h => by
    rw [List.nodup_cons] at h
    have ih := isum_posts (tick := tick) hf k h.2
    have hp : postsOf tick f (a :: ks) = (if 0 < f a / 1000 then [postOf tick a (f a)] else []) ++ postsOf tick f ks := by
      unfold postsOf
      rw [List.filterMap_cons]
      split <;> rename_i e <;> split at e <;> simp_all
    rw [hp, isum_append, ih]
    have ham : (postOf tick a (f a)).amount = f a / 1000 := by unfold postOf; split <;> rfl
    have h0 := hf a
    by_cases ha : k = a
    · subst ha
      rw [if_neg h.1, if_pos (show k ∈ k :: ks from List.mem_cons_self)]
      by_cases hz : 0 < f k / 1000
      · rw [if_pos hz]; simp [isum, keyP_postOf, ham]
      · rw [if_neg hz]; simp [isum]; omega
    · have hne : ¬ a = k := fun e => ha e.symm
      have : isum (fun x => if keyP x = k then 1000 * x.amount else 0) (if 0 < f a / 1000 then [postOf tick a (f a)] else []) = 0 := by
        split <;> simp [isum, keyP_postOf, hne]
      rw [this]
      simp [ha]
theorem isum_lefts {f : K3 → Int} (hf : ∀ k, 0 ≤ f k) (k : K3) : ∀ {ks : List K3}, ks.Nodup → isum (fun x : Rest => if keyR x = k then x.milli else 0) (leftsOf f ks) = if k ∈ ks then f k % 1000 else 0
  | [], _ => by simp [leftsOf, isum]
  | a :: ks, h => by
    rw [List.nodup_cons] at h
    have ih := isum_lefts hf k h.2
    have hp : leftsOf f (a :: ks) = (if 0 < f a % 1000 then [(⟨a.1, a.2.1, a.2.2, f a % 1000⟩ : Rest)] else []) ++ leftsOf f ks := by
      unfold leftsOf
      rw [List.filterMap_cons]
      split <;> rename_i e <;> split at e <;> simp_all
    rw [hp, isum_append, ih]
    have h0 := hf a
    have hkr : keyR ⟨a.1, a.2.1, a.2.2, f a % 1000⟩ = a := rfl
    by_cases ha : k = a
    · subst ha
      rw [if_neg h.1, if_pos (show k ∈ k :: ks from List.mem_cons_self)]
      by_cases hz : 0 < f k % 1000
      · rw [if_pos hz]; simp [isum, hkr]
      · rw [if_neg hz]; simp [isum]; omega
    · have hne : ¬ a = k := fun e => ha e.symm
      have : isum (fun x : Rest => if keyR x = k then x.milli else 0) (if 0 < f a % 1000 then [(⟨a.1, a.2.1, a.2.2, f a % 1000⟩ : Rest)] else []) = 0 := by
        split <;> simp [isum, hkr, hne]
      rw [this]
      simp [ha]
theorem grid_nodup (t : List Tariff) : (grid t).Nodup := by
  unfold List.Nodup
  exact (grid_ord t).imp fun {a b} h e => by subst e; exact before3_irr _ h
theorem leftsOf_mem {f : K3 → Int} {ks : List K3} {x : Rest} (h : x ∈ leftsOf f ks) : keyR x ∈ ks ∧ x.milli = f (keyR x) % 1000 ∧ 0 < x.milli := by
  obtain ⟨k, hk, he⟩ := List.mem_filterMap.1 h
  split at he
  · cases he; exact ⟨hk, rfl, by simpa using ‹0 < f k % 1000›⟩
  · cases he
theorem postsOf_mem {tick : Int} {f : K3 → Int} {ks : List K3} {x : Posting} (h : x ∈ postsOf tick f ks) : ∃ k ∈ ks, x = postOf tick k (f k) ∧ 0 < f k / 1000 := by
  obtain ⟨k, hk, he⟩ := List.mem_filterMap.1 h
  split at he
  · cases he; exact ⟨k, hk, rfl, ‹_›⟩
  · cases he
theorem restsBad_ok {t : List Tariff} : ∀ {r : List Rest} {p : Option Rest}, (r.Pairwise fun a b => before3 (keyR a) (keyR b)) → (∀ x ∈ r, RestOk t x) → (∀ q, p = some q → ∀ x ∈ r, before3 (keyR q) (keyR x)) → restsBad t p r = false
  | [], _, _, _, _ => rfl
  | x :: r, p, ho, hr, hp => by
    rw [List.pairwise_cons] at ho
    have h1 := hr x (by simp)
    rw [restsBad, if_neg]
    · exact restsBad_ok ho.2 (fun y hy => hr y (List.mem_cons_of_mem _ hy)) fun q hq y hy => by cases hq; exact ho.1 y hy
    · rintro (h | h | h | ⟨q, hq, h⟩)
      · exact h h1.1
      · have := h1.2; omega
      · have := h1.2; omega
      · exact h (hp q hq x (by simp))
theorem lefts_good {t : List Tariff} {f : K3 → Int} (hf : ∀ k, 0 ≤ f k) : restsBad t none (leftsOf f (grid t)) = false := by
  refine restsBad_ok ?_ (fun x hx => ?_) (fun q hq => by cases hq)
  · unfold leftsOf
    refine List.Pairwise.filterMap _ ?_ (grid_ord t)
    intro a a' h b hb b' hb'
    split at hb <;> cases hb
    split at hb' <;> cases hb'
    exact h
  · obtain ⟨h1, h2, h3⟩ := leftsOf_mem hx
    have := grid_mem.1 h1
    refine ⟨?_, by omega, by have := hf (keyR x); omega⟩
    unfold keyR at this; unfold partyIs; simp only at this; omega
section
variable (per : List Int) (t : List Tariff) (n : Net) (l : List Use)
def restsP : Nat → List Rest
  | 0 => []
  | p + 1 => (period (restsP p) t n (nowOf per l p) (10 * (p : Int))).2.1
def perP (p : Nat) : List Posting × List Rest × Int := period (restsP per t n l p) t n (nowOf per l p) (10 * (p : Int))
def gotM : Nat → List (K3 × Int)
  | 0 => []
  | p + 1 => sumsM keyP (fun x => 1000 * x.amount) (gotM p) (perP per t n l p).1
def gotE : List (K3 × Int) := sumsM keyR (fun r => r.milli) (gotM per t n l 5) (restsP per t n l 5)
def wantM (k : Nat) : List (K3 × Int) := sumsM keyU (fun u => (charge t n u).1) [] (l.take k)
def usesP (p : Nat) (key : K3) : Int := isum (fun u => if keyU u = key then (charge t n u).1 else 0) (nowOf per l p)
def wantOf (key : K3) : Int := isum (fun u => if keyU u = key then (charge t n u).1 else 0) l
def restOfK (p : Nat) (key : K3) : Int := isum (fun x => if keyR x = key then x.milli else 0) (restsP per t n l p)
end
section
variable {per : List Int} {t : List Tariff} {n : Net} {l : List Use}
theorem nowOf_check (h : meterCheck t l = 0) (p : Nat) : meterCheck t (nowOf per l p) = 0 := by
  have hm := meterCheck_zero h
  have h12 : ¬ 12 < t.length := by have := hm.tl; omega
  have h0 : tarErrs t = 0 := by
    unfold meterCheck at h
    rw [if_neg h12] at h
    exact Classical.byContradiction fun hn => by rw [if_pos hn] at h; exact hn h
  have hu : ∀ l' : List Use, (∀ u ∈ l', u ∈ l) → useErrs t l' = 0 := by
    intro l'
    induction l' with
    | nil => intro _; rfl
    | cons u r ih =>
      intro hs
      have h1 := hm.use u (hs u (by simp))
      have : useErr t u = 0 := useErr_ok h1.1 h1.2
      rw [useErrs, if_pos this]
      exact ih fun v hv => hs v (List.mem_cons_of_mem _ hv)
  unfold meterCheck
  rw [if_neg h12, if_neg (by omega), if_neg (by have := nowTo_len per l p l.length; have := hm.ll; unfold nowOf; omega)]
  exact hu _ fun u hu => nowTo_mem hu
theorem chargeErrs_of {l' : List Use} (h : ∀ u ∈ l', (charge t n u).2 = 0) : chargeErrs t n l' = 0 := by
  induction l' with
  | nil => rfl
  | cons u r ih => rw [chargeErrs, if_pos (h u (by simp))]; exact ih fun v hv => h v (List.mem_cons_of_mem _ hv)
/-- what the walk has seen of the uses -/
structure Chargeable (t : List Tariff) (n : Net) (l : List Use) : Prop where
  check : meterCheck t l = 0
  all : ∀ u ∈ l, (charge t n u).2 = 0
  few : l.length ≤ 20
/-- the periods before p have no error -/
def OkTo (per : List Int) (t : List Tariff) (n : Net) (l : List Use) (p : Nat) : Prop := ∀ q, q < p → (perP per t n l q).2.2 = 0
theorem restsP_good (p : Nat) (ho : OkTo per t n l p) : restsBad t none (restsP per t n l p) = false := by
  cases p with
  | zero => rfl
  | succ p =>
    have h := ho p (by omega)
    obtain ⟨h1, h2⟩ := period_zero h
    show restsBad t none (period _ _ _ _ _).2.1 = false
    rw [h2]
    exact lefts_good fun k => total_nn h1.rests k
theorem perP_err (hc : Chargeable t n l) {p : Nat} (hp : p < 5) (ho : OkTo per t n l p) : (perP per t n l p).2.2 = 0 ∨ (perP per t n l p).2.2 = 2 :=
  period_err (nowOf_check hc.check p) ⟨by omega, by omega⟩ (restsP_good p ho) (chargeErrs_of fun u hu => hc.all u (nowTo_mem hu))
theorem okTo_succ {p : Nat} (ho : OkTo per t n l p) (h : (perP per t n l p).2.2 = 0) : OkTo per t n l (p + 1) := fun q hq => by
  rcases Nat.lt_or_ge q p with h' | h'
  · exact ho q h'
  · obtain rfl : q = p := by omega
    exact h
theorem conserveP (p : Nat) (ho : OkTo per t n l p) (key : K3) : look (gotM per t n l p) key 0 + restOfK per t n l p key = isum (fun q => usesP per t n l q key) (List.range p) := by
  induction p with
  | zero => simp [gotM, restOfK, restsP, isum, look]
  | succ p ih =>
    have ih := ih fun q hq => ho q (by omega)
    have h := ho p (by omega)
    obtain ⟨h1, h2⟩ := period_zero (show (period _ _ _ _ _).2.2 = 0 from h)
    have hnn : ∀ k, 0 ≤ totalOf (restsP per t n l p) t n (nowOf per l p) k := fun k => total_nn h1.rests k
    rw [List.range_succ, isum_append, gotM, sumsM_look, restOfK, restsP, perP, h2, isum_posts hnn key (grid_nodup t), isum_lefts hnn key (grid_nodup t)]
    simp only [isum]
    have htot : totalOf (restsP per t n l p) t n (nowOf per l p) key = restOfK per t n l p key + usesP per t n l p key := rfl
    by_cases hg : key ∈ grid t
    · rw [if_pos hg, if_pos hg]; omega
    · rw [if_neg hg, if_neg hg]
      have := total_out (r := restsP per t n l p) (n := n) h1.check h1.rests hg
      omega
theorem uses_five (hper : ∀ x ∈ per, 0 ≤ x) (key : K3) : isum (fun q => usesP per t n l q key) (List.range 5) = wantOf t n l key := by
  have := five_parts hper (fun u => if keyU u = key then (charge t n u).1 else 0) l l.length (Nat.le_refl _)
  rw [List.take_of_length_le (Nat.le_refl _)] at this
  show _ = isum _ _
  rw [← this]
  simp only [List.range, List.range.loop, isum, sum5, usesP, nowOf]
  omega
theorem want_look (k : Nat) (key : K3) : look (wantM t n l k) key 0 = isum (fun u => if keyU u = key then (charge t n u).1 else 0) (l.take k) := by
  rw [wantM, sumsM_look]; simp [look]
theorem want_bd (hl : l.length ≤ 20) (k : Nat) (key : K3) : 0 ≤ look (wantM t n l k) key 0 ∧ look (wantM t n l k) key 0 ≤ 335544320000000000 := by
  rw [want_look]
  have h := isum_bound (f := fun u : Use => if keyU u = key then (charge t n u).1 else 0) (lo := 0) (hi := 16777216000000000) (l := l.take k) fun u _ => by have := charge_bound t n u; split <;> omega
  have : (l.take k).length ≤ 20 := by rw [List.length_take]; omega
  omega
theorem wantOf_eq (key : K3) : look (wantM t n l l.length) key 0 = wantOf t n l key := by rw [want_look, List.take_of_length_le (Nat.le_refl _)]; rfl
theorem usesP_nn (p : Nat) (key : K3) : 0 ≤ usesP per t n l p key := isum_nn fun u _ => by have := charge_bound t n u; split <;> omega
theorem got_bd (hper : ∀ x ∈ per, 0 ≤ x) (hc : Chargeable t n l) {p : Nat} (hp : p ≤ 5) (ho : OkTo per t n l p) (key : K3) : 0 ≤ look (gotM per t n l p) key 0 ∧ 0 ≤ restOfK per t n l p key ∧ look (gotM per t n l p) key 0 + restOfK per t n l p key ≤ 335544320000000000 := by
  have hcons := conserveP p ho key
  have hle : isum (fun q => usesP per t n l q key) (List.range p) ≤ isum (fun q => usesP per t n l q key) (List.range 5) := by
    have e : List.range p = (List.range 5).take p := by rw [List.take_range, Nat.min_eq_left hp]
    rw [e]
    exact isum_take_le (fun q _ => usesP_nn q key) p
  rw [uses_five hper] at hle
  have hw := want_bd (t := t) (n := n) hc.few l.length key
  rw [wantOf_eq] at hw
  have h1 : 0 ≤ restOfK per t n l p key := isum_nn fun x hx => by have := ((rests_fine (restsP_good p ho)).2 x hx).2; split <;> omega
  have h2 : 0 ≤ look (gotM per t n l p) key 0 := by
    clear hcons hle hw h1
    induction p with
    | zero => simp [gotM, look]
    | succ p ih =>
      have ih := ih (by omega) fun q hq => ho q (by omega)
      obtain ⟨a, b⟩ := period_zero (show (period _ _ _ _ _).2.2 = 0 from ho p (by omega))
      rw [gotM, sumsM_look, perP, b, isum_posts (fun k => total_nn a.rests k) key (grid_nodup t)]
      have := total_nn (n := n) (l := nowOf per l p) a.rests key
      split <;> omega
  exact ⟨h2, h1, by omega⟩
theorem restsP_len (p : Nat) (ho : OkTo per t n l p) (ht : t.length ≤ 12) : (restsP per t n l p).length ≤ 1680 := by
  cases p with
  | zero => simp [restsP]
  | succ p =>
    have h := ho p (by omega)
    obtain ⟨h1, h2⟩ := period_zero h
    show (period _ _ _ _ _).2.1.length ≤ _
    rw [h2]
    have := leftsOf_len (totalOf (restsP per t n l p) t n (nowOf per l p)) (grid t)
    rw [grid_len] at this
    simp only
    omega
/-- what is known of a posting of a period -/
theorem perP_post {p : Nat} (h : (perP per t n l p).2.2 = 0) (ht : t.length ≤ 12) {x : Posting} (hx : x ∈ (perP per t n l p).1) : x.tick = 10 * (p : Int) ∧ 1 ≤ x.amount ∧ x.amount ≤ 1099511627776 ∧ 0 ≤ x.debit ∧ x.debit < 40 ∧ 0 ≤ x.credit ∧ x.credit < 40 := by
  obtain ⟨h1, h2⟩ := period_zero (show (period _ _ _ _ _).2.2 = 0 from h)
  rw [perP, h2] at hx
  obtain ⟨k, hk, rfl, h3⟩ := postsOf_mem hx
  have h4 := h1.small k hk
  have h5 := grid_mem.1 hk
  unfold postOf
  by_cases h6 : k.2.2 = 5
  · rw [if_pos h6]; refine ⟨rfl, ?_, ?_, ?_, ?_, ?_, ?_⟩ <;> dsimp only <;> omega
  · rw [if_neg h6]; refine ⟨rfl, ?_, ?_, ?_, ?_, ?_, ?_⟩ <;> dsimp only <;> omega
theorem perP_len {p : Nat} (h : (perP per t n l p).2.2 = 0) (ht : t.length ≤ 12) : (perP per t n l p).1.length ≤ 1680 := by
  obtain ⟨h1, h2⟩ := period_zero (show (period _ _ _ _ _).2.2 = 0 from h)
  rw [perP, h2]
  have := postsOf_len (10 * (p : Int)) (totalOf (restsP per t n l p) t n (nowOf per l p)) (grid t)
  rw [grid_len] at this
  simp only
  omega
/-- got, among the postings of a period -/
theorem gotj_bd (hper : ∀ x ∈ per, 0 ≤ x) (hc : Chargeable t n l) {p : Nat} (hp : p < 5) (ho : OkTo per t n l (p + 1)) (ht : t.length ≤ 12) (j : Nat) (key : K3) : 0 ≤ look (sumsM keyP (fun x => 1000 * x.amount) (gotM per t n l p) ((perP per t n l p).1.take j)) key 0 ∧ look (sumsM keyP (fun x => 1000 * x.amount) (gotM per t n l p) ((perP per t n l p).1.take j)) key 0 ≤ 335544320000000000 := by
  have h0 := got_bd hper hc (p := p) (by omega) (fun q hq => ho q (by omega)) key
  have h1 := got_bd hper hc (p := p + 1) (by omega) ho key
  rw [gotM, sumsM_look] at h1
  rw [sumsM_look]
  have hnn : ∀ x ∈ (perP per t n l p).1, 0 ≤ (if keyP x = key then 1000 * x.amount else 0) := fun x hx => by have := perP_post (ho p (by omega)) ht hx; split <;> omega
  have h2 := isum_take_le hnn j
  have h3 := isum_nn (f := fun x : Posting => if keyP x = key then 1000 * x.amount else 0) (l := (perP per t n l p).1.take j) fun x hx => hnn x (List.mem_of_mem_take hx)
  omega
theorem gote_bd (hper : ∀ x ∈ per, 0 ≤ x) (hc : Chargeable t n l) (ho : OkTo per t n l 5) (j : Nat) (key : K3) : 0 ≤ look (sumsM keyR (fun r => r.milli) (gotM per t n l 5) ((restsP per t n l 5).take j)) key 0 ∧ look (sumsM keyR (fun r => r.milli) (gotM per t n l 5) ((restsP per t n l 5).take j)) key 0 ≤ 335544320000000000 := by
  have h0 := got_bd hper hc (p := 5) (by omega) ho key
  rw [sumsM_look]
  have hnn : ∀ x ∈ restsP per t n l 5, 0 ≤ (if keyR x = key then x.milli else 0) := fun x hx => by have := ((rests_fine (restsP_good 5 ho)).2 x hx).2; split <;> omega
  have h2 := isum_take_le hnn j
  have h3 := isum_nn (f := fun x : Rest => if keyR x = key then x.milli else 0) (l := (restsP per t n l 5).take j) fun x hx => hnn x (List.mem_of_mem_take hx)
  unfold restOfK at h0
  omega
theorem gote_bd5 (hper : ∀ x ∈ per, 0 ≤ x) (hc : Chargeable t n l) {p : Nat} (hp : p = 5) (ho : OkTo per t n l p) (j : Nat) (key : K3) : 0 ≤ look (sumsM keyR (fun r => r.milli) (gotM per t n l p) ((restsP per t n l p).take j)) key 0 ∧ look (sumsM keyR (fun r => r.milli) (gotM per t n l p) ((restsP per t n l p).take j)) key 0 ≤ 335544320000000000 := by
  subst hp; exact gote_bd hper hc ho j key
theorem gotE_end {p j : Nat} (hp : p = 5) (hj : (restsP per t n l p).length ≤ j) : sumsM keyR (fun r => r.milli) (gotM per t n l p) ((restsP per t n l p).take j) = gotE per t n l := by
  subst hp; rw [List.take_of_length_le hj]; rfl
theorem got_end {p j : Nat} (hj : (perP per t n l p).1.length ≤ j) : sumsM keyP (fun x => 1000 * x.amount) (gotM per t n l p) ((perP per t n l p).1.take j) = gotM per t n l (p + 1) := by
  rw [List.take_of_length_le hj]; rfl
theorem rest_fine {p : Nat} (ho : OkTo per t n l p) {x : Rest} (hx : x ∈ restsP per t n l p) : 1 ≤ x.milli ∧ x.milli ≤ 999 := ((rests_fine (restsP_good p ho)).2 x hx).2
theorem chargeable_of {k : Nat} (h1 : meterCheck t l = 0) (h2 : ∀ (i : Nat) u, i < k → l[i]? = some u → (charge t n u).2 = 0) (hk : l.length ≤ k) (h3 : l.length ≤ 20) : Chargeable t n l := by
  refine ⟨h1, fun u hu => ?_, h3⟩
  obtain ⟨i, hi⟩ := List.getElem?_of_mem hu
  have : i < l.length := by
    rcases Nat.lt_or_ge i l.length with h' | h'
    · exact h'
    · rw [List.getElem?_eq_none h'] at hi; cases hi
  exact h2 i u (by omega) hi
theorem got_want (hper : ∀ x ∈ per, 0 ≤ x) (ho : OkTo per t n l 5) (key : K3) : look (gotE per t n l) key 0 = look (wantM t n l l.length) key 0 := by
  rw [gotE, sumsM_look, wantOf_eq, ← uses_five hper, ← conserveP 5 ho key]; rfl
theorem want_entry {o : Obj} (hper : ∀ x ∈ per, 0 ≤ x) (ho : OkTo per t n l 5) (hm : MapIs encA3 (Value.int .i64) (wantM t n l l.length) o) {A B C : List (K3 × Int)} {p : K3 × Int} (h1 : (A ++ B).Perm (wantM t n l l.length)) (h2 : B.Perm (p :: C)) : look (gotE per t n l) p.1 0 = p.2 := by
  have hp : p ∈ wantM t n l l.length := h1.mem_iff.1 (List.mem_append_right _ (h2.mem_iff.2 (by simp)))
  obtain ⟨i, hi⟩ := List.getElem?_of_mem hp
  rw [got_want hper ho]
  exact look_at hm.nodup hi
theorem got_entry {o : Obj} (hper : ∀ x ∈ per, 0 ≤ x) (ho : OkTo per t n l 5) (hm : MapIs encA3 (Value.int .i64) (gotE per t n l) o) {A B C : List (K3 × Int)} {p : K3 × Int} (h1 : (A ++ B).Perm (gotE per t n l)) (h2 : B.Perm (p :: C)) : look (wantM t n l l.length) p.1 0 = p.2 := by
  have hp : p ∈ gotE per t n l := h1.mem_iff.1 (List.mem_append_right _ (h2.mem_iff.2 (by simp)))
  obtain ⟨i, hi⟩ := List.getElem?_of_mem hp
  rw [← got_want hper ho]
  exact look_at hm.nodup hi
end
end Go.Q
namespace Go.D
open Go Go.Proofs Go.RowKit
theorem mixed : Try.prog.follows .mixedOrders = true := by kernel_rfl
theorem fn_130 : IsFn Try.prog 130 := isFn_of Try.func130 (by kernel_rfl) rfl
theorem st_71 : SliceTy Try.prog 71 1 := ⟨3, by kernel_rfl, fun w => by kernel_rfl⟩
theorem sc_3 : Scalar Try.prog 3 := fun w => by kernel_rfl
theorem fn_102 : IsFn Try.prog 102 := isFn_of Try.func102 (by kernel_rfl) rfl
theorem sz_3 : Size Try.prog 3 1 := fun w => by kernel_rfl
theorem fn_65 : IsFn Try.prog 65 := isFn_of Try.func65 (by kernel_rfl) rfl
set_option maxRecDepth 100000 in
theorem isNaN_calls (w : World) (x : Int)  :
    Calls Try.prog 130 #[.int .i64 x] w (fun e w' => e = .returned (.bool false) ∧ Below w.heap.size w w') := by
  refine calls_of_tc (N := 6) (vs := [.int .i64 x]) Try.func130 rfl rfl (Nat.le_of_ble_eq_true rfl) ?_
  refine tc_seq ?_
  refine tc_region ?_
  refine s0 (qv_assign rfl) ?_
  refine tl_nil (tp_normal ?_)
  refine tc_seq ?_
  refine tc_region ?_
  refine s0 (qv_move rfl) ?_
  refine s0 (qv_move rfl) ?_
  refine s0 (qv_neSelf rfl rfl) ?_
  refine s0 (qv_assign rfl) ?_
  refine tl_nil (tp_normal ?_)
  refine tc_ret (tp_end1 rfl rfl ?_)
  intro w' hm
  exact ⟨rfl, hm.below⟩
set_option maxRecDepth 100000 in
theorem cmpI_calls (w : World) (x y : Int)  :
    Calls Try.prog 102 #[.int .i64 x, .int .i64 y] w (fun e w' => e = .returned (.int .i64 (cmpI x y)) ∧ Below w.heap.size w w') := by
  refine calls_of_tc (N := 20) (vs := [.int .i64 x, .int .i64 y]) Try.func102 rfl rfl (Nat.le_of_ble_eq_true rfl) ?_
  refine tc_seq ?_
  refine tc_region ?_
  refine s0 (qv_assign rfl) ?_
  refine tl_nil (tp_normal ?_)
  refine tc_seq ?_
  refine tc_region ?_
  refine s0 (qv_move rfl) ?_
  refine s0 (qv_call fn_130 rfl (fun w hm => isNaN_calls w x)) ?_
  refine s0 (qv_assign rfl) ?_
  refine tl_nil (tp_normal ?_)
  refine tc_seq ?_
  refine tc_region ?_
  refine s0 (qv_move rfl) ?_
  refine s0 (qv_call fn_130 rfl (fun w hm => isNaN_calls w y)) ?_
  refine s0 (qv_assign rfl) ?_
  refine tl_nil (tp_normal ?_)
  refine tc_seq ?_
  refine tc_seq ?_
  refine tc_region ?_
  refine s0 (qv_move rfl) ?_
  refine tl_nil (tp_normal ?_)
  refine tc_false rfl ?_
  refine tc_skip (tp_normal ?_)
  refine tc_seq ?_
  refine tc_seq ?_
  refine tc_region ?_
  refine s0 (qv_move rfl) ?_
  refine tl_nil (tp_normal ?_)
  refine tc_false rfl ?_
  refine tc_skip (tp_normal ?_)
  refine tc_seq ?_
  refine tc_seq ?_
  refine tc_region ?_
  refine s0 (qv_move rfl) ?_
  refine s0 (qv_move rfl) ?_
  refine sd (qv_lss rfl rfl) (fun c16 => ?_) (fun c16 => ?_)
  ·
    refine tl_nil (tp_normal ?_)
    refine tc_true rfl ?_
    refine tc_seq ?_
    refine tc_region ?_
    refine s0 (qv_assign rfl) ?_
    refine tl_nil (tp_normal ?_)
    refine tc_ret (tp_then_ret (tp_end1 rfl rfl ?_))
    intro w' hm
    exact ⟨by rw [cmpI, if_pos c16], hm.below⟩
  ·
    refine tl_nil (tp_normal ?_)
    refine tc_false rfl ?_
    refine tc_skip (tp_normal ?_)
    refine tc_seq ?_
    refine tc_seq ?_
    refine tc_region ?_
    refine s0 (qv_move rfl) ?_
    refine s0 (qv_move rfl) ?_
    refine sd (qv_gtr rfl rfl) (fun c19 => ?_) (fun c19 => ?_)
    ·
      refine tl_nil (tp_normal ?_)
      refine tc_true rfl ?_
      refine tc_seq ?_
      refine tc_region ?_
      refine s0 (qv_assign rfl) ?_
      refine tl_nil (tp_normal ?_)
      refine tc_ret (tp_then_ret (tp_end1 rfl rfl ?_))
      intro w' hm
      exact ⟨by rw [cmpI, if_neg c16, if_pos c19], hm.below⟩
    ·
      refine tl_nil (tp_normal ?_)
      refine tc_false rfl ?_
      refine tc_skip (tp_normal ?_)
      refine tc_seq ?_
      refine tc_region ?_
      refine s0 (qv_assign rfl) ?_
      refine tl_nil (tp_normal ?_)
      refine tc_ret (tp_end1 rfl rfl ?_)
      intro w' hm
      exact ⟨by rw [cmpI, if_neg c16, if_neg c19], hm.below⟩
set_option maxRecDepth 100000 in
theorem cmpL_calls (w : World) (a : List Int) (aa : Option Addr) (ac : Nat) (b : List Int) (ba : Option Addr) (bc : Nat) (ha : SlIn w 1 encI aa a) (hb : SlIn w 1 encI ba b) :
    Calls Try.prog 65 #[.slice aa a.length ac, .slice ba b.length bc] w (fun e w' => e = .returned (.int .i64 (cmpL a b)) ∧ Below w.heap.size w w') := by
  have hlen := ha.len
  have hlen2 := hb.len
  simp only [maxLen] at hlen hlen2
  refine calls_of_tc (N := 36) (vs := [.slice aa a.length ac, .slice ba b.length bc]) Try.func65 rfl rfl (Nat.le_of_ble_eq_true rfl) ?_
  refine tc_seq ?_
  refine tc_region ?_
  refine s0 (qv_assign rfl) ?_
  refine tl_nil (tp_normal ?_)
  refine tc_seq ?_
  refine tc_seq ?_
  refine tc_region ?_
  refine s0 (qv_move rfl) ?_
  refine s0 (qv_len st_71 rfl) ?_
  refine s0 (qv_move rfl) ?_
  refine tl_nil (tp_normal ?_)
  refine tc_block (tc_loopS (fun (k : Nat) => [(11, .int .i64 (k : Int))]) (fun (k : Nat) => k ≤ a.length ∧ cmpL a b = cmpL (a.drop k) (b.drop k)) (fun (k : Nat) => a.length - k) (0) ⟨Nat.zero_le _, rfl⟩ ⟨rfl, trivial⟩ ?_)
  rintro k hI
  refine tc_seq ?_
  refine tc_region ?_
  refine sd (qv_lss rfl rfl) (fun c12 => ?_) (fun c12 => ?_)
  ·
    refine tl_nil (tp_normal ?_)
    refine tc_seq ?_
    refine tc_true rfl ?_
    refine tc_skip (tp_normal ?_)
    refine tc_seq ?_
    refine tc_block ?_
    refine tc_seq ?_
    refine tc_region ?_
    refine s0 (qv_move rfl) ?_
    refine sn st_71 ha rfl rfl (by omega) (fun e14 he14 => ?_)
    refine s0 (qv_ldE (j := 0) sc_3 ha Mem.has_base rfl rfl he14 rfl) ?_
    refine s0 (qv_assign rfl) ?_
    refine s0 (qv_assign rfl) ?_
    refine tl_nil (tp_normal ?_)
    refine tc_seq ?_
    refine tc_seq ?_
    refine tc_region ?_
    refine s0 (qv_move rfl) ?_
    refine s0 (qv_move rfl) ?_
    refine s0 (qv_len st_71 rfl) ?_
    refine sd (qv_geq rfl rfl) (fun c19 => ?_) (fun c19 => ?_)
    ·
      refine tl_nil (tp_normal ?_)
      refine tc_true rfl ?_
      refine tc_seq ?_
      refine tc_region ?_
      refine s0 (qv_assign rfl) ?_
      refine tl_nil (tp_normal ?_)
      refine tc_ret (tp_then_ret (tp_block_ret (tp_then_ret (tp_then_ret (tp_block_ret (tp_then_ret (tp_end1 rfl rfl ?_)))))))
      intro w' hm
      exact ⟨by rw [hI.2, cmpL_long he14 (by omega)], hm.below⟩
    ·
      refine tl_nil (tp_normal ?_)
      refine tc_false rfl ?_
      refine tc_skip (tp_normal ?_)
      refine tc_seq ?_
      refine tc_region ?_
      refine s0 (qv_move rfl) ?_
      refine s0 (qv_move rfl) ?_
      refine sn st_71 hb rfl rfl (by omega) (fun e22 he22 => ?_)
      refine s0 (qv_ldE (j := 0) sc_3 hb Mem.has_base rfl rfl he22 rfl) ?_
      refine s0 (qv_assign rfl) ?_
      refine tl_nil (tp_normal ?_)
      refine tc_seq ?_
      refine tc_region ?_
      refine s0 (qv_move rfl) ?_
      refine s0 (qv_move rfl) ?_
      refine s0 (qv_call fn_102 rfl (fun w hm => cmpI_calls w e14 e22)) ?_
      refine s0 (qv_assign rfl) ?_
      refine tl_nil (tp_normal ?_)
      refine tc_seq ?_
      refine tc_region ?_
      refine s0 (qv_move rfl) ?_
      refine sd (qv_neq rfl rfl) (fun c28 => ?_) (fun c28 => ?_)
      ·
        refine tl_nil (tp_normal ?_)
        refine tc_true rfl ?_
        refine tc_seq ?_
        refine tc_region ?_
        refine s0 (qv_move rfl) ?_
        refine s0 (qv_assign rfl) ?_
        refine tl_nil (tp_normal ?_)
        refine tc_ret (tp_block_ret (tp_then_ret (tp_then_ret (tp_block_ret (tp_then_ret (tp_end1 rfl rfl ?_))))))
        intro w' hm
        exact ⟨by rw [hI.2, cmpL_at he14 he22, if_pos c28], hm.below⟩
      ·
        refine tl_nil (tp_normal ?_)
        refine tc_false rfl ?_
        refine tc_skip (tp_block_normal (tp_normal ?_))
        refine tc_region ?_
        refine s0 (qv_succ rfl rfl (by omega)) ?_
        refine s0 (qv_move rfl) ?_
        exact tl_nil (tp_roundS (k + 1) ⟨by omega, by rw [hI.2, cmpL_at he14 he22, if_neg (by omega)]⟩ (by omega) ⟨rfl, trivial⟩ rfl rfl rfl rfl)
  ·
    refine tl_nil (tp_normal ?_)
    refine tc_seq ?_
    refine tc_false rfl ?_
    refine tc_exit (tp_then_exit (tp_then_exit (tp_block_exit (tp_normal ?_))))
    refine tc_seq ?_
    refine tc_seq ?_
    refine tc_region ?_
    refine s0 (qv_move rfl) ?_
    refine s0 (qv_len st_71 rfl) ?_
    refine s0 (qv_move rfl) ?_
    refine s0 (qv_len st_71 rfl) ?_
    refine sd (qv_lss rfl rfl) (fun c35 => ?_) (fun c35 => ?_)
    ·
      refine tl_nil (tp_normal ?_)
      refine tc_true rfl ?_
      refine tc_seq ?_
      refine tc_region ?_
      refine s0 (qv_assign rfl) ?_
      refine tl_nil (tp_normal ?_)
      refine tc_ret (tp_then_ret (tp_end1 rfl rfl ?_))
      intro w' hm
      exact ⟨by rw [hI.2, cmpL_short (by omega) (by omega) hI.1], hm.below⟩
    ·
      refine tl_nil (tp_normal ?_)
      refine tc_false rfl ?_
      refine tc_skip (tp_normal ?_)
      refine tc_seq ?_
      refine tc_region ?_
      refine s0 (qv_assign rfl) ?_
      refine tl_nil (tp_normal ?_)
      refine tc_ret (tp_end1 rfl rfl ?_)
      intro w' hm
      exact ⟨by rw [hI.2, cmpL_same (by omega) (by omega)], hm.below⟩
set_option maxRecDepth 100000 in
theorem order_calls (w : World) (a1 a2 a3 b1 b2 b3 : Int)  :
    Calls Try.prog 56 #[.agg #[.int .i64 a1, .int .i64 a2, .int .i64 a3], .agg #[.int .i64 b1, .int .i64 b2, .int .i64 b3]] w (fun e w' => e = .returned (.int .i64 (cmpL [a1, a2, a3] [b1, b2, b3])) ∧ Below w.heap.size w w') := by
  refine calls_of_tc (N := 8) (vs := [.agg #[.int .i64 a1, .int .i64 a2, .int .i64 a3], .agg #[.int .i64 b1, .int .i64 b2, .int .i64 b3]]) Try.func56 rfl rfl (Nat.le_of_ble_eq_true rfl) ?_
  refine tc_seq ?_
  refine tc_region ?_
  refine tl_box rfl (by decide) (fun b2_0 => ?_)
  refine tl_box rfl (by decide) (fun b3_1 => ?_)
  refine s0 (qv_assign rfl) ?_
  refine tl_nil (tp_normal ?_)
  refine tc_seq ?_
  refine tc_draws mixed (by kernel_rfl) ?_
  have hs5 := SlAt.ofBox (enc := encI) (sz := 1) (b := b2_0) (E := 133) (l := [a1, a2, a3]) (Nat.le_of_ble_eq_true rfl) (fun _ _ => rfl)
  refine q0 (qv_sliceArr Try.underlying133 sz_3 rfl) ?_
  have hs6 := SlAt.ofBox (enc := encI) (sz := 1) (b := b3_1) (E := 133) (l := [b1, b2, b3]) (Nat.le_of_ble_eq_true rfl) (fun _ _ => rfl)
  refine q0 (qv_sliceArr Try.underlying133 sz_3 rfl) ?_
  refine q0 (qv_call fn_65 rfl (fun w hm => cmpL_calls w [a1, a2, a3] (some ⟨b2_0, 0, none⟩) 3 [b1, b2, b3] (some ⟨b3_1, 0, none⟩) 3 (hs5.into (Mem.has_box (by repeat (first | exact List.Mem.head _ | refine List.Mem.tail _ ?_))) hm) (hs6.into (Mem.has_box (by repeat (first | exact List.Mem.head _ | refine List.Mem.tail _ ?_))) hm))) ?_
  refine q0 (qv_assign rfl) ?_
  refine tq_nil (tp_normal ?_)
  refine tc_ret (tp_end1 rfl rfl ?_)
  intro w' hm
  exact ⟨rfl, hm.below⟩
end Go.D
namespace Go.Q
open Go Go.Proofs Go.RowKit
theorem aggI (w : World) : (isAgg 3).run Try.prog w = .ok false w := by kernel_rfl
theorem key_133 : KeyTy Try.prog 133 encA3 := keyArr3 Try.underlying133 (Option.some_get (by kernel_rfl : (Try.prog.info? 3).isSome = true)).symm (by kernel_rfl) Try.underlying3 aggI
end Go.Q
namespace Go.Proofs
open Go.Shelf Go.RowKit Go.Lib Go.Sort Go.Q
theorem lt3 (x y : K3) : ltOf cmp3 x y = decide (before3 x y) := by
  unfold ltOf
  rw [decide_eq_decide]
  exact cmp3_lt x y
theorem swo3 : SWO (ltOf cmp3) where
  irrefl x := by rw [lt3]; exact decide_eq_false (before3_irr x)
  trans x y z h1 h2 := by rw [lt3] at *; simp only [decide_eq_true_eq] at *; exact before3_trans h1 h2
  ntrans x y z h1 h2 := by rw [lt3] at *; simp only [decide_eq_false_iff_not] at *; unfold before3 at *; omega
theorem cmpLays3 (blk off size : Nat) (w : World) : CmpLays Try.prog 56 #[] encK 3 cmp3 blk off size w := fun _ _ _ _ x y => (Go.D.order_calls _ x.1 x.2.1 x.2.2 y.1 y.2.1 y.2.2).mono fun e w' ⟨he, hb⟩ => ⟨he, hb.grown⟩
theorem sort3_none (p : Option Addr) (cap : Nat) (fv : Value) (w : World) : Calls Try.prog 58 #[.slice p 0 cap, fv] w fun e w' => e = .returned (.tuple #[]) ∧ w' = w := AnyF.slices_SortFunc_none Try.sortA3 p cap fv w
theorem sort3_some {l : List K3} (hsz : l.length < 1000000000) (blk cap : Nat) (w : World) (hH : HoldsK encK 3 w blk 0 l.toArray) (hb : blk < w.heap.size) :
    Calls Try.prog 58 #[.slice (some ⟨blk, 0, none⟩) l.length cap, .func (.func 56) #[] #[]] w fun e w' => e = .returned (.tuple #[]) ∧ ∃ (l' : List K3) (n : Nat) (os : Array Obj), l'.length = l.length ∧ Sorted3 l l' ∧ w' = sortWorldK encK 3 w blk 0 n l'.toArray os := by
  have h := AnyQ.slices_SortFunc Try.sortA3 3 (fun w => by kernel_rfl) (fun w => by kernel_rfl) encK (fun _ => rfl) (fun x v hv => by simp [encK] at hv; rcases hv with rfl | rfl | rfl <;> rfl) cmp3 swo3 56 #[] blk 0 cap l.toArray w (enters_of Try.func56 (by kernel_rfl) rfl) (cmpLays3 blk 0 _ w) hH hb (by simp; omega)
  have e : l.toArray.size = l.length := by simp
  rw [e] at h
  refine h.mono fun e w' ⟨he, d', n, os, h1, h2, h3⟩ => ⟨he, d'.toList, n, os, ?_, ⟨?_, ?_⟩, ?_⟩
  · have := h1.1; simpa using this
  · have h4 := h1.2.2
    have e1 : d'.extract 0 l.length = d' := by have := h1.1; rw [show l.length = d'.size by simpa using this.symm]; simp
    rw [e1] at h4
    simpa using h4
  · refine List.pairwise_iff_getElem.2 fun i j hi hj hij => ?_
    have hs : d'.size = l.length := by have := h1.1; simpa using this
    have h4 := h2 i j (Nat.zero_le _) hij (by rw [← hs]; simpa using hj)
    rw [lt3, getElem!_pos d' i (by simpa using hi), getElem!_pos d' j (by simpa using hj)] at h4
    simpa using h4
  · rw [h3]
end Go.Proofs
namespace Go.Q
open Go Go.Proofs Go.RowKit
theorem mixed : Try.prog.follows .mixedOrders = true := by kernel_rfl
theorem one_119 (x : Send) : ∀ u ∈ encSend x, u.oneCell' = true := by
  intro u hu
  simp [encSend] at hu
  rcases hu with rfl | rfl | rfl <;> rfl
theorem one_117 (x : Link) : ∀ u ∈ encLink x, u.oneCell' = true := by
  intro u hu
  simp [encLink] at hu
  rcases hu with rfl | rfl | ⟨_, _, rfl⟩ | ⟨_, _, rfl⟩ <;> rfl
theorem sc_3 : Scalar Try.prog 3 := fun w => by kernel_rfl
theorem fo_26_0 : FOff Try.prog 26 0 0 := fun b o w => by kernel_rfl
theorem fo_26_1 : FOff Try.prog 26 1 1 := fun b o w => by kernel_rfl
theorem sc_24 : Scalar Try.prog 24 := fun w => by kernel_rfl
theorem st_24 : SliceTy Try.prog 24 50 := ⟨117, by kernel_rfl, fun w => by kernel_rfl⟩
theorem ag_117 : Agg Try.prog 117 50 := fun w => ⟨by kernel_rfl, by kernel_rfl⟩
theorem ze_117 : Zero Try.prog 117 #[.int .i64 0, .int .i64 0, .int .i64 0, .int .i64 0, .int .i64 0, .int .i64 0, .int .i64 0, .int .i64 0, .int .i64 0, .int .i64 0, .int .i64 0, .int .i64 0, .int .i64 0, .int .i64 0, .int .i64 0, .int .i64 0, .int .i64 0, .int .i64 0, .int .i64 0, .int .i64 0, .int .i64 0, .int .i64 0, .int .i64 0, .int .i64 0, .int .i64 0, .int .i64 0, .int .i64 0, .int .i64 0, .int .i64 0, .int .i64 0, .int .i64 0, .int .i64 0, .int .i64 0, .int .i64 0, .int .i64 0, .int .i64 0, .int .i64 0, .int .i64 0, .int .i64 0, .int .i64 0, .int .i64 0, .int .i64 0, .int .i64 0, .int .i64 0, .int .i64 0, .int .i64 0, .int .i64 0, .int .i64 0, .int .i64 0, .int .i64 0] := fun w => ⟨.agg #[.int .i64 0, .int .i64 0, .int .i64 0, .int .i64 0, .int .i64 0, .int .i64 0, .int .i64 0, .int .i64 0, .int .i64 0, .int .i64 0, .int .i64 0, .int .i64 0, .int .i64 0, .int .i64 0, .int .i64 0, .int .i64 0, .int .i64 0, .int .i64 0, .int .i64 0, .int .i64 0, .int .i64 0, .int .i64 0, .int .i64 0, .int .i64 0, .int .i64 0, .int .i64 0, .int .i64 0, .int .i64 0, .int .i64 0, .int .i64 0, .int .i64 0, .int .i64 0, .int .i64 0, .int .i64 0, .int .i64 0, .int .i64 0, .int .i64 0, .int .i64 0, .int .i64 0, .int .i64 0, .int .i64 0, .int .i64 0, .int .i64 0, .int .i64 0, .int .i64 0, .int .i64 0, .int .i64 0, .int .i64 0, .int .i64 0, .int .i64 0], by kernel_rfl, rfl⟩
theorem sz_117 : Size Try.prog 117 50 := fun w => by kernel_rfl
theorem fo_117_0 : FOff Try.prog 117 0 0 := fun b o w => by kernel_rfl
theorem fn_121 : IsFn Try.prog 121 := isFn_of Try.func121 (by kernel_rfl) rfl
theorem fo_117_1 : FOff Try.prog 117 1 1 := fun b o w => by kernel_rfl
theorem fo_117_2 : FOff Try.prog 117 2 2 := fun b o w => by kernel_rfl
theorem at_114 : ArrTy Try.prog 114 24 1 := ⟨3, by kernel_rfl, fun w => by kernel_rfl⟩
theorem fo_117_3 : FOff Try.prog 117 3 26 := fun b o w => by kernel_rfl
theorem ag_26 : Agg Try.prog 26 2 := fun w => ⟨by kernel_rfl, by kernel_rfl⟩
theorem fn_100 : IsFn Try.prog 100 := isFn_of Try.func100 (by kernel_rfl) rfl
theorem st_32 : SliceTy Try.prog 32 3 := ⟨119, by kernel_rfl, fun w => by kernel_rfl⟩
theorem ag_119 : Agg Try.prog 119 3 := fun w => ⟨by kernel_rfl, by kernel_rfl⟩
theorem ze_119 : Zero Try.prog 119 #[.int .i64 0, .int .i64 0, .int .i64 0] := fun w => ⟨.agg #[.int .i64 0, .int .i64 0, .int .i64 0], by kernel_rfl, rfl⟩
theorem sz_119 : Size Try.prog 119 3 := fun w => by kernel_rfl
theorem fo_119_0 : FOff Try.prog 119 0 0 := fun b o w => by kernel_rfl
theorem fo_119_1 : FOff Try.prog 119 1 1 := fun b o w => by kernel_rfl
theorem fo_119_2 : FOff Try.prog 119 2 2 := fun b o w => by kernel_rfl
theorem fn_60 : IsFn Try.prog 60 := isFn_of Try.func60 (by kernel_rfl) rfl
theorem fn_61 : IsFn Try.prog 61 := isFn_of Try.func61 (by kernel_rfl) rfl
set_option maxRecDepth 100000 in
theorem house1 (w : World) (n : Net) (na : Option Addr) (nc : Nat) (b : Nat) (h : Int) (hb : w.heap[b]? = some (.cells (netA n na nc) 26 (0, 0))) :
    Calls Try.prog 121 #[.int .i64 h, .pointer (some ⟨b, 0, none⟩)] w (fun e w' => e = .returned (.bool (decide (isHouse n h))) ∧ Below w.heap.size w w') := by
  refine calls_of_tc (N := 12) (vs := [.int .i64 h, .pointer (some ⟨b, 0, none⟩)]) Try.func121 rfl rfl (Nat.le_of_ble_eq_true rfl) ?_
  refine tc_seq ?_
  refine tc_region ?_
  refine s0 (qv_assign rfl) ?_
  refine tl_nil (tp_normal ?_)
  refine tc_seq ?_
  refine tc_region ?_
  refine s0 (qv_move rfl) ?_
  refine sd (qv_geq rfl rfl) (fun c5 => ?_) (fun c5 => ?_)
  ·
    refine s0 (qv_move rfl) ?_
    refine s0g (qv_move rfl) ?_
    refine s0g (qv_fa fo_26_0 rfl) ?_
    refine s0g (qv_ldO sc_3 rfl hb rfl) ?_
    refine s0g (qv_lss rfl rfl) ?_
    refine s0 (qv_pickT rfl rfl) ?_
    refine s0 (qv_assign rfl) ?_
    refine tl_nil (tp_normal ?_)
    refine tc_ret (tp_end1 rfl rfl ?_)
    intro w' hm
    exact ⟨by simp [isHouse, *], hm.below⟩
  ·
    refine s0 (qv_move rfl) ?_
    refine sk ?_
    refine sk ?_
    refine sk ?_
    refine sk ?_
    refine s0 (qv_pickF rfl rfl) ?_
    refine s0 (qv_assign rfl) ?_
    refine tl_nil (tp_normal ?_)
    refine tc_ret (tp_end1 rfl rfl ?_)
    intro w' hm
    exact ⟨by simp [isHouse, *], hm.below⟩
set_option maxRecDepth 100000 in
theorem netCheck_calls (w : World) (n : Net) (na : Option Addr) (nc : Nat) (hn : SlIn w 50 encLink na n.links) (hk : NetOk n) :
    Calls Try.prog 100 #[.agg (netA n na nc)] w (fun e w' => e = .returned (.int .i64 (netCheck n)) ∧ Below w.heap.size w w') := by
  have hlenn := hn.len
  simp only [maxLen] at hlenn
  refine calls_of_tc (N := 79) (vs := [.agg (netA n na nc)]) Try.func100 rfl rfl (Nat.le_of_ble_eq_true rfl) ?_
  refine tc_seq ?_
  refine tc_region ?_
  refine tl_box rfl (by decide) (fun b1_0 => ?_)
  refine s0 (qv_assign rfl) ?_
  refine tl_nil (tp_normal ?_)
  refine tc_seq ?_
  refine tc_seq ?_
  refine tc_region ?_
  refine s0 (qv_fa fo_26_0 rfl) ?_
  refine s0 (qv_ldB (i := 0) sc_3 rfl rfl rfl) ?_
  refine sd (qv_lss rfl rfl) (fun c9 => ?_) (fun c9 => ?_)
  ·
    refine s0 (qv_move rfl) ?_
    refine sk ?_
    refine sk ?_
    refine sk ?_
    refine s0 (qv_pickT rfl rfl) ?_
    refine s0 (qv_move rfl) ?_
    refine sk ?_
    refine sk ?_
    refine sk ?_
    refine sk ?_
    refine s0 (qv_pickT rfl rfl) ?_
    refine tl_nil (tp_normal ?_)
    refine tc_true rfl ?_
    refine tc_seq ?_
    refine tc_region ?_
    refine s0 (qv_assign rfl) ?_
    refine tl_nil (tp_normal ?_)
    refine tc_ret (tp_then_ret (tp_end1 rfl rfl ?_))
    intro w' hm
    exact ⟨by rw [netCheck_limit (by omega)], hm.below⟩
  ·
    refine s0 (qv_move rfl) ?_
    refine s0g (qv_fa fo_26_0 rfl) ?_
    refine s0g (qv_ldB (i := 0) sc_3 rfl rfl rfl) ?_
    refine sdg (qv_gtr rfl rfl) (fun c13 => ?_) (fun c13 => ?_)
    ·
      refine s0 (qv_pickF rfl rfl) ?_
      refine s0 (qv_move rfl) ?_
      refine sk ?_
      refine sk ?_
      refine sk ?_
      refine sk ?_
      refine s0 (qv_pickT rfl rfl) ?_
      refine tl_nil (tp_normal ?_)
      refine tc_true rfl ?_
      refine tc_seq ?_
      refine tc_region ?_
      refine s0 (qv_assign rfl) ?_
      refine tl_nil (tp_normal ?_)
      refine tc_ret (tp_then_ret (tp_end1 rfl rfl ?_))
      intro w' hm
      exact ⟨by rw [netCheck_limit (by omega)], hm.below⟩
    ·
      refine s0 (qv_pickF rfl rfl) ?_
      refine s0 (qv_move rfl) ?_
      refine s0g (qv_fa fo_26_1 rfl) ?_
      refine s0g (qv_ldB (i := 0) sc_24 rfl rfl rfl) ?_
      refine s0g (qv_len st_24 rfl) ?_
      refine sdg (qv_gtr rfl rfl) (fun c19 => ?_) (fun c19 => ?_)
      ·
        refine s0 (qv_pickF rfl rfl) ?_
        refine tl_nil (tp_normal ?_)
        refine tc_true rfl ?_
        refine tc_seq ?_
        refine tc_region ?_
        refine s0 (qv_assign rfl) ?_
        refine tl_nil (tp_normal ?_)
        refine tc_ret (tp_then_ret (tp_end1 rfl rfl ?_))
        intro w' hm
        exact ⟨by rw [netCheck_limit (by omega)], hm.below⟩
      ·
        refine s0 (qv_pickF rfl rfl) ?_
        refine tl_nil (tp_normal ?_)
        refine tc_false rfl ?_
        refine tc_skip (tp_normal ?_)
        refine tc_seq ?_
        refine tc_region ?_
        refine s0 (qv_mk rfl) ?_
        refine s0 (qv_assign rfl) ?_
        refine tl_nil (tp_normal ?_)
        refine tc_seq ?_
        refine tc_seq ?_
        refine tc_region ?_
        refine s0 (qv_fa fo_26_1 rfl) ?_
        refine s0 (qv_ldB (i := 0) sc_24 rfl rfl rfl) ?_
        refine s0 (qv_len st_24 rfl) ?_
        refine s0 (qv_move rfl) ?_
        refine tl_nil (tp_normal ?_)
        refine tc_block (tc_loopS (fun (k : Nat) => [(25, .int .i64 (k : Int))]) (fun (k : Nat) => k ≤ n.links.length ∧ netCheck n = checkLinks n (n.links.drop k)) (fun (k : Nat) => n.links.length - k) (0) ⟨Nat.zero_le _, by rw [netCheck_links c9 c13 c19, List.drop_zero]⟩ ⟨rfl, trivial⟩ ?_)
        rintro k hI
        refine tc_seq ?_
        refine tc_region ?_
        refine sd (qv_lss rfl rfl) (fun c26 => ?_) (fun c26 => ?_)
        ·
          refine tl_nil (tp_normal ?_)
          refine tc_seq ?_
          refine tc_true rfl ?_
          refine tc_skip (tp_normal ?_)
          refine tc_seq ?_
          refine tc_block ?_
          refine tc_seq ?_
          refine tc_region ?_
          refine sn st_24 hn rfl rfl (by omega) (fun e27 he27 => ?_)
          refine s0 (qv_ldEW ag_117 hn Mem.has_base rfl he27) ?_
          refine tl_alloc ze_117 (by decide) (fun b5_1 => ?_)
          refine tl_storeL (i := 0) sz_117 (hn.szs _ (List.mem_of_getElem? he27)) (one_117 _) rfl rfl rfl rfl ?_
          refine tl_nil (tp_normal ?_)
          refine tc_seq ?_
          refine tc_seq ?_
          refine tc_region ?_
          refine s0 (qv_move rfl) ?_
          refine s0 (qv_fa fo_117_0 rfl) ?_
          refine s0 (qv_ldB (i := 0) sc_3 rfl rfl rfl) ?_
          refine sd (qv_callV fn_121 rfl rfl (fun w hm => house1 w n na nc b1_0 e27.src (hm.box _ (List.mem_of_getElem? (i := 1) rfl)).2)) (fun c32 => ?_) (fun c32 => ?_)
          ·
            refine s0 (qv_not rfl) ?_
            refine s0 (qv_move rfl) ?_
            refine s0g (qv_move rfl) ?_
            refine s0g (qv_fa fo_117_1 rfl) ?_
            refine s0g (qv_ldB (i := 0) sc_3 rfl rfl rfl) ?_
            refine sdg (qv_callV fn_121 rfl rfl (fun w hm => house1 w n na nc b1_0 e27.dst (hm.box _ (List.mem_of_getElem? (i := 1) rfl)).2)) (fun c38 => ?_) (fun c38 => ?_)
            ·
              refine s0g (qv_not rfl) ?_
              refine s0 (qv_pickF rfl rfl) ?_
              refine s0 (qv_move rfl) ?_
              refine s0g (qv_fa fo_117_0 rfl) ?_
              refine s0g (qv_ldB (i := 0) sc_3 rfl rfl rfl) ?_
              refine s0g (qv_fa fo_117_1 rfl) ?_
              refine s0g (qv_ldB (i := 0) sc_3 rfl rfl rfl) ?_
              refine sdg (qv_eql rfl rfl) (fun c46 => ?_) (fun c46 => ?_)
              ·
                refine s0 (qv_pickF rfl rfl) ?_
                refine tl_nil (tp_normal ?_)
                refine tc_true rfl ?_
                refine tc_seq ?_
                refine tc_region ?_
                refine s0 (qv_assign rfl) ?_
                refine tl_nil (tp_normal ?_)
                refine tc_ret (tp_then_ret (tp_block_ret (tp_then_ret (tp_then_ret (tp_block_ret (tp_then_ret (tp_end1 rfl rfl ?_)))))))
                intro w' hm
                exact ⟨by rw [hI.2, checkLinks_at he27, checkLink_arg (by simp_all)]; rfl, hm.below⟩
              ·
                refine s0 (qv_pickF rfl rfl) ?_
                refine tl_nil (tp_normal ?_)
                refine tc_false rfl ?_
                refine tc_skip (tp_normal ?_)
                refine tc_seq ?_
                refine tc_region ?_
                refine s0 (qv_move rfl) ?_
                refine tl_nil (tp_normal ?_)
                refine tc_block (tc_loopS (fun (j : Nat) => [(48, .int .i64 (j : Int))]) (fun (j : Nat) => j ≤ 24 ∧ netCheck n = if hoursFrom e27 (24 - j) j = 0 then checkLinks n (n.links.drop (k + 1)) else hoursFrom e27 (24 - j) j) (fun (j : Nat) => 24 - j) (0) ⟨by omega, by rw [hI.2, checkLinks_at he27, checkLink_hours c32 c38 c46]⟩ ⟨rfl, trivial⟩ ?_)
                rintro j hI
                refine tc_seq ?_
                refine tc_region ?_
                refine sd (qv_lss rfl rfl) (fun c49 => ?_) (fun c49 => ?_)
                ·
                  refine tl_nil (tp_normal ?_)
                  refine tc_seq ?_
                  refine tc_true rfl ?_
                  refine tc_skip (tp_normal ?_)
                  refine tc_seq ?_
                  refine tc_block ?_
                  refine tc_seq ?_
                  refine tc_region ?_
                  refine s0 (qv_move rfl) ?_
                  refine s0 (qv_assign rfl) ?_
                  refine tl_nil (tp_normal ?_)
                  refine tc_seq ?_
                  refine tc_region ?_
                  refine s0 (qv_move rfl) ?_
                  refine s0 (qv_fa fo_117_2 rfl) ?_
                  refine s0 (qv_iA at_114 rfl rfl (by omega)) ?_
                  refine s0 (qv_ldB (i := 0) sc_3 rfl rfl (box_cap (hk _ (List.mem_of_getElem? he27)) (by omega))) ?_
                  refine sd (qv_lss rfl rfl) (fun c55 => ?_) (fun c55 => ?_)
                  ·
                    refine s0 (qv_move rfl) ?_
                    refine sk ?_
                    refine sk ?_
                    refine sk ?_
                    refine sk ?_
                    refine sk ?_
                    refine s0 (qv_pickT rfl rfl) ?_
                    refine s0 (qv_move rfl) ?_
                    refine sk ?_
                    refine sk ?_
                    refine sk ?_
                    refine sk ?_
                    refine sk ?_
                    refine s0 (qv_pickT rfl rfl) ?_
                    refine s0 (qv_move rfl) ?_
                    refine sk ?_
                    refine sk ?_
                    refine sk ?_
                    refine sk ?_
                    refine sk ?_
                    refine s0 (qv_pickT rfl rfl) ?_
                    refine tl_nil (tp_normal ?_)
                    refine tc_true rfl ?_
                    refine tc_seq ?_
                    refine tc_region ?_
                    refine s0 (qv_assign rfl) ?_
                    refine tl_nil (tp_normal ?_)
                    refine tc_ret (tp_block_ret (tp_then_ret (tp_then_ret (tp_block_ret (tp_block_ret (tp_then_ret (tp_then_ret (tp_block_ret (tp_then_ret (tp_end1 rfl rfl ?_))))))))))
                    intro w' hm
                    exact ⟨by rw [hI.2, hoursFrom_bad (by omega) (by simp only [hourBad]; omega)]; rfl, hm.below⟩
                  ·
                    refine s0 (qv_move rfl) ?_
                    refine s0g (qv_move rfl) ?_
                    refine s0g (qv_fa fo_117_2 rfl) ?_
                    refine s0g (qv_iA at_114 rfl rfl (by omega)) ?_
                    refine s0g (qv_ldB (i := 0) sc_3 rfl rfl (box_cap (hk _ (List.mem_of_getElem? he27)) (by omega))) ?_
                    refine sdg (qv_gtr rfl rfl) (fun c61 => ?_) (fun c61 => ?_)
                    ·
                      refine s0 (qv_pickF rfl rfl) ?_
                      refine s0 (qv_move rfl) ?_
                      refine sk ?_
                      refine sk ?_
                      refine sk ?_
                      refine sk ?_
                      refine sk ?_
                      refine s0 (qv_pickT rfl rfl) ?_
                      refine s0 (qv_move rfl) ?_
                      refine sk ?_
                      refine sk ?_
                      refine sk ?_
                      refine sk ?_
                      refine sk ?_
                      refine s0 (qv_pickT rfl rfl) ?_
                      refine tl_nil (tp_normal ?_)
                      refine tc_true rfl ?_
                      refine tc_seq ?_
                      refine tc_region ?_
                      refine s0 (qv_assign rfl) ?_
                      refine tl_nil (tp_normal ?_)
                      refine tc_ret (tp_block_ret (tp_then_ret (tp_then_ret (tp_block_ret (tp_block_ret (tp_then_ret (tp_then_ret (tp_block_ret (tp_then_ret (tp_end1 rfl rfl ?_))))))))))
                      intro w' hm
                      exact ⟨by rw [hI.2, hoursFrom_bad (by omega) (by simp only [hourBad]; omega)]; rfl, hm.below⟩
                    ·
                      refine s0 (qv_pickF rfl rfl) ?_
                      refine s0 (qv_move rfl) ?_
                      refine s0g (qv_move rfl) ?_
                      refine s0g (qv_fa fo_117_3 rfl) ?_
                      refine s0g (qv_iA at_114 rfl rfl (by omega)) ?_
                      refine s0g (qv_ldB (i := 0) sc_3 rfl rfl (box_price (hk _ (List.mem_of_getElem? he27)) (by omega))) ?_
                      refine sdg (qv_lss rfl rfl) (fun c68 => ?_) (fun c68 => ?_)
                      ·
                        refine s0 (qv_pickF rfl rfl) ?_
                        refine s0 (qv_move rfl) ?_
                        refine sk ?_
                        refine sk ?_
                        refine sk ?_
                        refine sk ?_
                        refine sk ?_
                        refine s0 (qv_pickT rfl rfl) ?_
                        refine tl_nil (tp_normal ?_)
                        refine tc_true rfl ?_
                        refine tc_seq ?_
                        refine tc_region ?_
                        refine s0 (qv_assign rfl) ?_
                        refine tl_nil (tp_normal ?_)
                        refine tc_ret (tp_block_ret (tp_then_ret (tp_then_ret (tp_block_ret (tp_block_ret (tp_then_ret (tp_then_ret (tp_block_ret (tp_then_ret (tp_end1 rfl rfl ?_))))))))))
                        intro w' hm
                        exact ⟨by rw [hI.2, hoursFrom_bad (by omega) (by simp only [hourBad]; omega)]; rfl, hm.below⟩
                      ·
                        refine s0 (qv_pickF rfl rfl) ?_
                        refine s0 (qv_move rfl) ?_
                        refine s0g (qv_move rfl) ?_
                        refine s0g (qv_fa fo_117_3 rfl) ?_
                        refine s0g (qv_iA at_114 rfl rfl (by omega)) ?_
                        refine s0g (qv_ldB (i := 0) sc_3 rfl rfl (box_price (hk _ (List.mem_of_getElem? he27)) (by omega))) ?_
                        refine sdg (qv_gtr rfl rfl) (fun c75 => ?_) (fun c75 => ?_)
                        ·
                          refine s0 (qv_pickF rfl rfl) ?_
                          refine tl_nil (tp_normal ?_)
                          refine tc_true rfl ?_
                          refine tc_seq ?_
                          refine tc_region ?_
                          refine s0 (qv_assign rfl) ?_
                          refine tl_nil (tp_normal ?_)
                          refine tc_ret (tp_block_ret (tp_then_ret (tp_then_ret (tp_block_ret (tp_block_ret (tp_then_ret (tp_then_ret (tp_block_ret (tp_then_ret (tp_end1 rfl rfl ?_))))))))))
                          intro w' hm
                          exact ⟨by rw [hI.2, hoursFrom_bad (by omega) (by simp only [hourBad]; omega)]; rfl, hm.below⟩
                        ·
                          refine s0 (qv_pickF rfl rfl) ?_
                          refine tl_nil (tp_normal ?_)
                          refine tc_false rfl ?_
                          refine tc_skip (tp_block_normal (tp_normal ?_))
                          refine tc_region ?_
                          refine s0 (qv_succ rfl rfl (by omega)) ?_
                          refine s0 (qv_move rfl) ?_
                          exact tl_nil (tp_roundS (j + 1) ⟨by omega, by rw [← hoursFrom_ok (by omega) (by simp only [hourBad]; omega)]; exact hI.2⟩ (by omega) ⟨rfl, trivial⟩ rfl rfl rfl rfl)
                ·
                  refine tl_nil (tp_normal ?_)
                  refine tc_seq ?_
                  refine tc_false rfl ?_
                  refine tc_exit (tp_then_exit (tp_then_exit (tp_block_exit (tp_block_normal (tp_normal ?_)))))
                  refine tc_region ?_
                  refine s0 (qv_succ rfl rfl (by omega)) ?_
                  refine s0 (qv_move rfl) ?_
                  exact tl_nil (tp_roundS (k + 1) ⟨by omega, by rw [hI.2, show 24 - j = 0 by omega]; rfl⟩ (by omega) ⟨rfl, trivial⟩ rfl rfl rfl rfl)
            ·
              refine s0g (qv_not rfl) ?_
              refine s0 (qv_pickF rfl rfl) ?_
              refine s0 (qv_move rfl) ?_
              refine sk ?_
              refine sk ?_
              refine sk ?_
              refine sk ?_
              refine sk ?_
              refine s0 (qv_pickT rfl rfl) ?_
              refine tl_nil (tp_normal ?_)
              refine tc_true rfl ?_
              refine tc_seq ?_
              refine tc_region ?_
              refine s0 (qv_assign rfl) ?_
              refine tl_nil (tp_normal ?_)
              refine tc_ret (tp_then_ret (tp_block_ret (tp_then_ret (tp_then_ret (tp_block_ret (tp_then_ret (tp_end1 rfl rfl ?_)))))))
              intro w' hm
              exact ⟨by rw [hI.2, checkLinks_at he27, checkLink_arg (by simp_all)]; rfl, hm.below⟩
          ·
            refine s0 (qv_not rfl) ?_
            refine s0 (qv_move rfl) ?_
            refine sk ?_
            refine sk ?_
            refine sk ?_
            refine sk ?_
            refine sk ?_
            refine s0 (qv_pickT rfl rfl) ?_
            refine s0 (qv_move rfl) ?_
            refine sk ?_
            refine sk ?_
            refine sk ?_
            refine sk ?_
            refine sk ?_
            refine s0 (qv_pickT rfl rfl) ?_
            refine tl_nil (tp_normal ?_)
            refine tc_true rfl ?_
            refine tc_seq ?_
            refine tc_region ?_
            refine s0 (qv_assign rfl) ?_
            refine tl_nil (tp_normal ?_)
            refine tc_ret (tp_then_ret (tp_block_ret (tp_then_ret (tp_then_ret (tp_block_ret (tp_then_ret (tp_end1 rfl rfl ?_)))))))
            intro w' hm
            exact ⟨by rw [hI.2, checkLinks_at he27, checkLink_arg (by simp_all)]; rfl, hm.below⟩
        ·
          refine tl_nil (tp_normal ?_)
          refine tc_seq ?_
          refine tc_false rfl ?_
          refine tc_exit (tp_then_exit (tp_then_exit (tp_block_exit (tp_normal ?_))))
          refine tc_seq ?_
          refine tc_region ?_
          refine s0 (qv_assign rfl) ?_
          refine tl_nil (tp_normal ?_)
          refine tc_ret (tp_end1 rfl rfl ?_)
          intro w' hm
          exact ⟨by rw [hI.2, List.drop_eq_nil_of_le (by omega)]; rfl, hm.below⟩
set_option maxRecDepth 100000 in
theorem right_calls (w : World) (n : Net) (na : Option Addr) (nc : Nat) (l : List Send) (la : Option Addr) (lc : Nat) (hn : SlIn w 50 encLink na n.links) (hk : NetOk n) (hl : SlIn w 3 encSend la l) :
    Calls Try.prog 60 #[.agg (netA n na nc), .slice la l.length lc] w (fun e w' => e = .returned (.int .i64 (right n l)) ∧ Below w.heap.size w w') := by
  have hlen := hl.len
  simp only [maxLen] at hlen
  have hlenn := hn.len
  simp only [maxLen] at hlenn
  refine calls_of_tc (N := 91) (vs := [.agg (netA n na nc), .slice la l.length lc]) Try.func60 rfl rfl (Nat.le_of_ble_eq_true rfl) ?_
  refine tc_seq ?_
  refine tc_region ?_
  refine tl_box rfl (by decide) (fun b2_0 => ?_)
  refine s0 (qv_assign rfl) ?_
  refine tl_nil (tp_normal ?_)
  refine tc_seq ?_
  refine tc_seq ?_
  refine tc_region ?_
  refine s0 (qv_ldBW (i := 0) ag_26 rfl rfl rfl) ?_
  refine s0 (qv_call fn_100 rfl (fun w hm => netCheck_calls w n na nc (hn.into Mem.has_base hm) hk)) ?_
  refine s0 (qv_assign rfl) ?_
  refine tl_nil (tp_normal ?_)
  refine tc_seq ?_
  refine tc_region ?_
  refine s0 (qv_move rfl) ?_
  refine sd (qv_neq rfl rfl) (fun c11 => ?_) (fun c11 => ?_)
  ·
    refine tl_nil (tp_normal ?_)
    refine tc_true rfl ?_
    refine tc_seq ?_
    refine tc_region ?_
    refine s0 (qv_move rfl) ?_
    refine s0 (qv_assign rfl) ?_
    refine tl_nil (tp_normal ?_)
    refine tc_ret (tp_then_ret (tp_end1 rfl rfl ?_))
    intro w' hm
    exact ⟨by rw [right_check c11], hm.below⟩
  ·
    refine tl_nil (tp_normal ?_)
    refine tc_false rfl ?_
    refine tc_skip (tp_normal ?_)
    refine tc_seq ?_
    refine tc_seq ?_
    refine tc_region ?_
    refine s0 (qv_move rfl) ?_
    refine s0 (qv_len st_32 rfl) ?_
    refine sd (qv_gtr rfl rfl) (fun c15 => ?_) (fun c15 => ?_)
    ·
      refine tl_nil (tp_normal ?_)
      refine tc_true rfl ?_
      refine tc_seq ?_
      refine tc_region ?_
      refine s0 (qv_assign rfl) ?_
      refine tl_nil (tp_normal ?_)
      refine tc_ret (tp_then_ret (tp_end1 rfl rfl ?_))
      intro w' hm
      exact ⟨by rw [right_limit c11 (by omega)], hm.below⟩
    ·
      refine tl_nil (tp_normal ?_)
      refine tc_false rfl ?_
      refine tc_skip (tp_normal ?_)
      refine tc_seq ?_
      refine tc_seq ?_
      refine tc_region ?_
      refine s0 (qv_move rfl) ?_
      refine s0 (qv_len st_32 rfl) ?_
      refine s0 (qv_move rfl) ?_
      refine tl_nil (tp_normal ?_)
      refine tc_block (tc_loopS (fun (k : Nat) => [(18, .int .i64 (k : Int))]) (fun (k : Nat) => k ≤ l.length ∧ right n l = rightFrom n (prevAt l k) (l.drop k)) (fun (k : Nat) => l.length - k) (0) ⟨Nat.zero_le _, by rw [right_from c11 (by omega)]; rfl⟩ ⟨rfl, trivial⟩ ?_)
      rintro k hI
      refine tc_seq ?_
      refine tc_region ?_
      refine sd (qv_lss rfl rfl) (fun c19 => ?_) (fun c19 => ?_)
      ·
        refine tl_nil (tp_normal ?_)
        refine tc_seq ?_
        refine tc_true rfl ?_
        refine tc_skip (tp_normal ?_)
        refine tc_seq ?_
        refine tc_block ?_
        refine tc_seq ?_
        refine tc_region ?_
        refine s0 (qv_move rfl) ?_
        refine sn st_32 hl rfl rfl (by omega) (fun e21 he21 => ?_)
        refine s0 (qv_ldEW ag_119 hl Mem.has_base rfl he21) ?_
        refine tl_alloc ze_119 (by decide) (fun b7_1 => ?_)
        refine s0 (qv_assign rfl) ?_
        refine tl_storeL (i := 0) sz_119 (hl.szs _ (List.mem_of_getElem? he21)) (one_119 _) rfl rfl rfl rfl ?_
        refine tl_nil (tp_normal ?_)
        refine tc_block ?_
        refine tc_seq ?_
        refine tc_region ?_
        refine s0 (qv_fa fo_119_0 rfl) ?_
        refine s0 (qv_ldB (i := 0) sc_3 rfl rfl rfl) ?_
        refine sd (qv_lss rfl rfl) (fun c26 => ?_) (fun c26 => ?_)
        ·
          refine s0 (qv_move rfl) ?_
          refine sk ?_
          refine sk ?_
          refine sk ?_
          refine sk ?_
          refine sk ?_
          refine sk ?_
          refine s0 (qv_pickT rfl rfl) ?_
          refine s0 (qv_assign rfl) ?_
          refine tl_nil (tp_normal ?_)
          refine tc_true rfl ?_
          refine tc_seq ?_
          refine tc_region ?_
          refine s0 (qv_assign rfl) ?_
          refine tl_nil (tp_normal ?_)
          refine tc_ret (tp_block_ret (tp_block_ret (tp_then_ret (tp_then_ret (tp_block_ret (tp_then_ret (tp_end1 rfl rfl ?_)))))))
          intro w' hm
          exact ⟨by rw [hI.2, right_stop he21 (sendErr_link (by omega)) (by decide)], hm.below⟩
        ·
          refine s0 (qv_move rfl) ?_
          refine s0g (qv_fa fo_119_0 rfl) ?_
          refine s0g (qv_ldB (i := 0) sc_3 rfl rfl rfl) ?_
          refine s0g (qv_fa fo_26_1 rfl) ?_
          refine s0g (qv_ldB (i := 1) sc_24 rfl rfl rfl) ?_
          refine s0g (qv_len st_24 rfl) ?_
          refine sdg (qv_geq rfl rfl) (fun c33 => ?_) (fun c33 => ?_)
          ·
            refine s0 (qv_pickF rfl rfl) ?_
            refine s0 (qv_assign rfl) ?_
            refine tl_nil (tp_normal ?_)
            refine tc_true rfl ?_
            refine tc_seq ?_
            refine tc_region ?_
            refine s0 (qv_assign rfl) ?_
            refine tl_nil (tp_normal ?_)
            refine tc_ret (tp_block_ret (tp_block_ret (tp_then_ret (tp_then_ret (tp_block_ret (tp_then_ret (tp_end1 rfl rfl ?_)))))))
            intro w' hm
            exact ⟨by rw [hI.2, right_stop he21 (sendErr_link (by omega)) (by decide)], hm.below⟩
          ·
            refine s0 (qv_pickF rfl rfl) ?_
            refine s0 (qv_assign rfl) ?_
            refine tl_nil (tp_normal ?_)
            refine tc_false rfl ?_
            refine tc_seq ?_
            refine tc_region ?_
            refine s0 (qv_fa fo_119_1 rfl) ?_
            refine s0 (qv_ldB (i := 0) sc_3 rfl rfl rfl) ?_
            refine sd (qv_lss rfl rfl) (fun c38 => ?_) (fun c38 => ?_)
            ·
              refine s0 (qv_move rfl) ?_
              refine sk ?_
              refine sk ?_
              refine sk ?_
              refine s0 (qv_pickT rfl rfl) ?_
              refine s0 (qv_move rfl) ?_
              refine sk ?_
              refine sk ?_
              refine sk ?_
              refine s0 (qv_pickT rfl rfl) ?_
              refine s0 (qv_move rfl) ?_
              refine sk ?_
              refine sk ?_
              refine sk ?_
              refine s0 (qv_pickT rfl rfl) ?_
              refine s0 (qv_assign rfl) ?_
              refine tl_nil (tp_normal ?_)
              refine tc_true rfl ?_
              refine tc_seq ?_
              refine tc_region ?_
              refine s0 (qv_assign rfl) ?_
              refine tl_nil (tp_normal ?_)
              refine tc_ret (tp_block_ret (tp_block_ret (tp_then_ret (tp_then_ret (tp_block_ret (tp_then_ret (tp_end1 rfl rfl ?_)))))))
              intro w' hm
              exact ⟨by rw [hI.2, right_stop he21 (sendErr_range c26 c33 (by omega)) (by decide)], hm.below⟩
            ·
              refine s0 (qv_move rfl) ?_
              refine s0g (qv_fa fo_119_1 rfl) ?_
              refine s0g (qv_ldB (i := 0) sc_3 rfl rfl rfl) ?_
              refine sdg (qv_geq rfl rfl) (fun c42 => ?_) (fun c42 => ?_)
              ·
                refine s0 (qv_pickF rfl rfl) ?_
                refine s0 (qv_move rfl) ?_
                refine sk ?_
                refine sk ?_
                refine sk ?_
                refine s0 (qv_pickT rfl rfl) ?_
                refine s0 (qv_move rfl) ?_
                refine sk ?_
                refine sk ?_
                refine sk ?_
                refine s0 (qv_pickT rfl rfl) ?_
                refine s0 (qv_assign rfl) ?_
                refine tl_nil (tp_normal ?_)
                refine tc_true rfl ?_
                refine tc_seq ?_
                refine tc_region ?_
                refine s0 (qv_assign rfl) ?_
                refine tl_nil (tp_normal ?_)
                refine tc_ret (tp_block_ret (tp_block_ret (tp_then_ret (tp_then_ret (tp_block_ret (tp_then_ret (tp_end1 rfl rfl ?_)))))))
                intro w' hm
                exact ⟨by rw [hI.2, right_stop he21 (sendErr_range c26 c33 (by omega)) (by decide)], hm.below⟩
              ·
                refine s0 (qv_pickF rfl rfl) ?_
                refine s0 (qv_move rfl) ?_
                refine s0g (qv_fa fo_119_2 rfl) ?_
                refine s0g (qv_ldB (i := 0) sc_3 rfl rfl rfl) ?_
                refine sdg (qv_lss rfl rfl) (fun c47 => ?_) (fun c47 => ?_)
                ·
                  refine s0 (qv_pickF rfl rfl) ?_
                  refine s0 (qv_move rfl) ?_
                  refine sk ?_
                  refine sk ?_
                  refine sk ?_
                  refine s0 (qv_pickT rfl rfl) ?_
                  refine s0 (qv_assign rfl) ?_
                  refine tl_nil (tp_normal ?_)
                  refine tc_true rfl ?_
                  refine tc_seq ?_
                  refine tc_region ?_
                  refine s0 (qv_assign rfl) ?_
                  refine tl_nil (tp_normal ?_)
                  refine tc_ret (tp_block_ret (tp_block_ret (tp_then_ret (tp_then_ret (tp_block_ret (tp_then_ret (tp_end1 rfl rfl ?_)))))))
                  intro w' hm
                  exact ⟨by rw [hI.2, right_stop he21 (sendErr_range c26 c33 (by omega)) (by decide)], hm.below⟩
                ·
                  refine s0 (qv_pickF rfl rfl) ?_
                  refine s0 (qv_move rfl) ?_
                  refine s0g (qv_fa fo_119_2 rfl) ?_
                  refine s0g (qv_ldB (i := 0) sc_3 rfl rfl rfl) ?_
                  refine sdg (qv_gtr rfl rfl) (fun c52 => ?_) (fun c52 => ?_)
                  ·
                    refine s0 (qv_pickF rfl rfl) ?_
                    refine s0 (qv_assign rfl) ?_
                    refine tl_nil (tp_normal ?_)
                    refine tc_true rfl ?_
                    refine tc_seq ?_
                    refine tc_region ?_
                    refine s0 (qv_assign rfl) ?_
                    refine tl_nil (tp_normal ?_)
                    refine tc_ret (tp_block_ret (tp_block_ret (tp_then_ret (tp_then_ret (tp_block_ret (tp_then_ret (tp_end1 rfl rfl ?_)))))))
                    intro w' hm
                    exact ⟨by rw [hI.2, right_stop he21 (sendErr_range c26 c33 (by omega)) (by decide)], hm.below⟩
                  ·
                    refine s0 (qv_pickF rfl rfl) ?_
                    refine s0 (qv_assign rfl) ?_
                    refine tl_nil (tp_normal ?_)
                    refine tc_false rfl ?_
                    refine tc_seq ?_
                    refine tc_draws mixed (by kernel_rfl) ?_
                    refine q0 (qv_move rfl) ?_
                    refine qd (qv_gtr rfl rfl) (fun c56 => ?_) (fun c56 => ?_)
                    ·
                      refine q0 (qv_move rfl) ?_
                      refine q0g (qv_fa fo_119_1 rfl) ?_
                      refine q0g (qv_ldB (i := 0) sc_3 rfl rfl rfl) ?_
                      refine q0g (qv_move rfl) ?_
                      refine q0g (qv_move rfl) ?_
                      refine q0g (qv_subI rfl rfl (by omega)) ?_
                      refine qig st_32 hl rfl rfl (by omega) (fun e63 he63 => ?_)
                      refine q0g (qv_fa fo_119_1 rfl) ?_
                      refine q0g (qv_ldE (j := 1) sc_3 hl Mem.has_base rfl rfl he63 rfl) ?_
                      refine qdg (qv_lss rfl rfl) (fun c66 => ?_) (fun c66 => ?_)
                      ·
                        refine q0g (qv_move rfl) ?_
                        refine qk ?_
                        refine qk ?_
                        refine qk ?_
                        refine qk ?_
                        refine qk ?_
                        refine qk ?_
                        refine qk ?_
                        refine qk ?_
                        refine qk ?_
                        refine qk ?_
                        refine qk ?_
                        refine qk ?_
                        refine qk ?_
                        refine qk ?_
                        refine qk ?_
                        refine qk ?_
                        refine qk ?_
                        refine qk ?_
                        refine qk ?_
                        refine qk ?_
                        refine q0g (qv_pickT rfl rfl) ?_
                        refine q0 (qv_pickT rfl rfl) ?_
                        refine q0 (qv_assign rfl) ?_
                        refine tq_nil (tp_normal ?_)
                        refine tc_true rfl ?_
                        refine tc_seq ?_
                        refine tc_region ?_
                        refine s0 (qv_assign rfl) ?_
                        refine tl_nil (tp_normal ?_)
                        refine tc_ret (tp_block_ret (tp_block_ret (tp_then_ret (tp_then_ret (tp_block_ret (tp_then_ret (tp_end1 rfl rfl ?_)))))))
                        intro w' hm
                        exact ⟨by rw [hI.2, right_disorder he21 c26 c33 c38 c42 c47 c52 c56 he63 (by omega)], hm.below⟩
                      ·
                        refine q0g (qv_move rfl) ?_
                        refine q0g (qv_fa fo_119_1 rfl) ?_
                        refine q0g (qv_ldB (i := 0) sc_3 rfl rfl rfl) ?_
                        refine q0g (qv_move rfl) ?_
                        refine q0g (qv_move rfl) ?_
                        refine q0g (qv_subI rfl rfl (by omega)) ?_
                        refine qig st_32 hl rfl rfl (by omega) (fun e73 he73 => ?_)
                        obtain rfl : e63 = e73 := Option.some.inj (he63.symm.trans he73)
                        refine q0g (qv_fa fo_119_1 rfl) ?_
                        refine q0g (qv_ldE (j := 1) sc_3 hl Mem.has_base rfl rfl he63 rfl) ?_
                        refine qdg (qv_eql rfl rfl) (fun c76 => ?_) (fun c76 => ?_)
                        ·
                          refine q0g (qv_move rfl) ?_
                          refine q0g (qv_fa fo_119_0 rfl) ?_
                          refine q0g (qv_ldB (i := 0) sc_3 rfl rfl rfl) ?_
                          refine q0g (qv_move rfl) ?_
                          refine q0g (qv_move rfl) ?_
                          refine q0g (qv_subI rfl rfl (by omega)) ?_
                          refine qig st_32 hl rfl rfl (by omega) (fun e83 he83 => ?_)
                          obtain rfl : e63 = e83 := Option.some.inj (he63.symm.trans he83)
                          refine q0g (qv_fa fo_119_0 rfl) ?_
                          refine q0g (qv_ldE (j := 0) sc_3 hl Mem.has_base rfl rfl he63 rfl) ?_
                          refine qdg (qv_leq rfl rfl) (fun c86 => ?_) (fun c86 => ?_)
                          ·
                            refine q0g (qv_pickT rfl rfl) ?_
                            refine q0g (qv_pickF rfl rfl) ?_
                            refine q0 (qv_pickT rfl rfl) ?_
                            refine q0 (qv_assign rfl) ?_
                            refine tq_nil (tp_normal ?_)
                            refine tc_true rfl ?_
                            refine tc_seq ?_
                            refine tc_region ?_
                            refine s0 (qv_assign rfl) ?_
                            refine tl_nil (tp_normal ?_)
                            refine tc_ret (tp_block_ret (tp_block_ret (tp_then_ret (tp_then_ret (tp_block_ret (tp_then_ret (tp_end1 rfl rfl ?_)))))))
                            intro w' hm
                            exact ⟨by rw [hI.2, right_disorder he21 c26 c33 c38 c42 c47 c52 c56 he63 (by omega)], hm.below⟩
                          ·
                            refine q0g (qv_pickT rfl rfl) ?_
                            refine q0g (qv_pickF rfl rfl) ?_
                            refine q0 (qv_pickT rfl rfl) ?_
                            refine q0 (qv_assign rfl) ?_
                            refine tq_nil (tp_normal ?_)
                            refine tc_false rfl ?_
                            refine tc_skip (tp_block_normal (tp_block_normal (tp_normal ?_)))
                            refine tc_region ?_
                            refine s0 (qv_succ rfl rfl (by omega)) ?_
                            refine s0 (qv_move rfl) ?_
                            exact tl_nil (tp_roundS (k + 1) ⟨by omega, by rw [hI.2]; exact right_next he21 c26 c33 c38 c42 c47 c52 (by first | exact fun h => absurd h c56 | (intro _ p hp; rw [he63] at hp; cases hp; omega))⟩ (by omega) ⟨rfl, trivial⟩ rfl rfl rfl rfl)
                        ·
                          refine q0g (qv_move rfl) ?_
                          refine qk ?_
                          refine qk ?_
                          refine qk ?_
                          refine qk ?_
                          refine qk ?_
                          refine qk ?_
                          refine qk ?_
                          refine qk ?_
                          refine qk ?_
                          refine q0g (qv_pickF rfl rfl) ?_
                          refine q0g (qv_pickF rfl rfl) ?_
                          refine q0 (qv_pickT rfl rfl) ?_
                          refine q0 (qv_assign rfl) ?_
                          refine tq_nil (tp_normal ?_)
                          refine tc_false rfl ?_
                          refine tc_skip (tp_block_normal (tp_block_normal (tp_normal ?_)))
                          refine tc_region ?_
                          refine s0 (qv_succ rfl rfl (by omega)) ?_
                          refine s0 (qv_move rfl) ?_
                          exact tl_nil (tp_roundS (k + 1) ⟨by omega, by rw [hI.2]; exact right_next he21 c26 c33 c38 c42 c47 c52 (by first | exact fun h => absurd h c56 | (intro _ p hp; rw [he63] at hp; cases hp; omega))⟩ (by omega) ⟨rfl, trivial⟩ rfl rfl rfl rfl)
                    ·
                      refine q0 (qv_move rfl) ?_
                      refine qk ?_
                      refine qk ?_
                      refine qk ?_
                      refine qk ?_
                      refine qk ?_
                      refine qk ?_
                      refine qk ?_
                      refine qk ?_
                      refine qk ?_
                      refine qk ?_
                      refine qk ?_
                      refine qk ?_
                      refine qk ?_
                      refine qk ?_
                      refine qk ?_
                      refine qk ?_
                      refine qk ?_
                      refine qk ?_
                      refine qk ?_
                      refine qk ?_
                      refine qk ?_
                      refine qk ?_
                      refine qk ?_
                      refine qk ?_
                      refine qk ?_
                      refine qk ?_
                      refine qk ?_
                      refine qk ?_
                      refine qk ?_
                      refine qk ?_
                      refine qk ?_
                      refine q0 (qv_pickF rfl rfl) ?_
                      refine q0 (qv_assign rfl) ?_
                      refine tq_nil (tp_normal ?_)
                      refine tc_false rfl ?_
                      refine tc_skip (tp_block_normal (tp_block_normal (tp_normal ?_)))
                      refine tc_region ?_
                      refine s0 (qv_succ rfl rfl (by omega)) ?_
                      refine s0 (qv_move rfl) ?_
                      exact tl_nil (tp_roundS (k + 1) ⟨by omega, by rw [hI.2]; exact right_next he21 c26 c33 c38 c42 c47 c52 (by first | exact fun h => absurd h c56 | (intro _ p hp; rw [he63] at hp; cases hp; omega))⟩ (by omega) ⟨rfl, trivial⟩ rfl rfl rfl rfl)
      ·
        refine tl_nil (tp_normal ?_)
        refine tc_seq ?_
        refine tc_false rfl ?_
        refine tc_exit (tp_then_exit (tp_then_exit (tp_block_exit (tp_normal ?_))))
        refine tc_seq ?_
        refine tc_region ?_
        refine s0 (qv_assign rfl) ?_
        refine tl_nil (tp_normal ?_)
        refine tc_ret (tp_end1 rfl rfl ?_)
        intro w' hm
        exact ⟨by rw [hI.2, List.drop_eq_nil_of_le (by omega)]; rfl, hm.below⟩
set_option maxRecDepth 100000 in
theorem cap_calls (w : World) (n : Net) (na : Option Addr) (nc : Nat) (link tick : Int) (hn : SlIn w 50 encLink na n.links) (hk : NetOk n) (h0 : 0 ≤ link) (h1 : link < n.links.length) (h2 : 0 ≤ tick) :
    Calls Try.prog 61 #[.agg (netA n na nc), .int .i64 link, .int .i64 tick] w (fun e w' => e = .returned (.int .i64 (capOf n link tick)) ∧ Below w.heap.size w w') := by
  refine calls_of_tc (N := 16) (vs := [.agg (netA n na nc), .int .i64 link, .int .i64 tick]) Try.func61 rfl rfl (Nat.le_of_ble_eq_true rfl) ?_
  refine tc_seq ?_
  refine tc_region ?_
  refine tl_box rfl (by decide) (fun b3_0 => ?_)
  refine s0 (qv_assign rfl) ?_
  refine tl_nil (tp_normal ?_)
  refine tc_seq ?_
  refine tc_region ?_
  refine s0 (qv_fa fo_26_1 rfl) ?_
  refine s0 (qv_ldB (i := 0) sc_24 rfl rfl rfl) ?_
  refine s0 (qv_move rfl) ?_
  refine s0 (qv_move rfl) ?_
  refine s0 (qv_remI rfl rfl (by decide) (by omega)) ?_
  refine si st_24 hn rfl rfl (by omega) (fun e12 he12 => ?_)
  refine s0 (qv_fa fo_117_2 rfl) ?_
  refine s0 (qv_iA at_114 rfl rfl (by omega)) ?_
  refine s0 (qv_ldE (i := link.toNat) (j := 2 + (tick % 24).toNat * 1) sc_3 hn Mem.has_base rfl (by omega) he12 (enc_cap (hk _ (List.mem_of_getElem? he12)) (by omega) (by omega))) ?_
  refine s0 (qv_assign rfl) ?_
  refine tl_nil (tp_normal ?_)
  refine tc_ret (tp_end1 rfl rfl ?_)
  intro w' hm
  exact ⟨by rw [capOf_eq he12], hm.below⟩
set_option maxRecDepth 100000 in
theorem fits_calls (w : World) (n : Net) (na : Option Addr) (nc : Nat) (l : List Send) (la : Option Addr) (lc : Nat) (hn : SlIn w 50 encLink na n.links) (hk : NetOk n) (hl : SlIn w 3 encSend la l) :
    Calls Try.prog 25 #[.agg (netA n na nc), .slice la l.length lc] w (fun e w' => e = .returned (.int .i64 (fits n l)) ∧ Below w.heap.size w w') := by
  have hlen := hl.len
  simp only [maxLen] at hlen
  have hlenn := hn.len
  simp only [maxLen] at hlenn
  refine calls_of_tc (N := 30) (vs := [.agg (netA n na nc), .slice la l.length lc]) Try.func25 rfl rfl (Nat.le_of_ble_eq_true rfl) ?_
  refine tc_seq ?_
  refine tc_region ?_
  refine tl_box rfl (by decide) (fun b2_0 => ?_)
  refine s0 (qv_assign rfl) ?_
  refine tl_nil (tp_normal ?_)
  refine tc_seq ?_
  refine tc_seq ?_
  refine tc_region ?_
  refine s0 (qv_ldBW (i := 0) ag_26 rfl rfl rfl) ?_
  refine s0 (qv_move rfl) ?_
  refine s0 (qv_call fn_60 rfl (fun w hm => right_calls w n na nc l la lc (hn.into Mem.has_base hm) hk (hl.into Mem.has_base hm))) ?_
  refine s0 (qv_assign rfl) ?_
  refine tl_nil (tp_normal ?_)
  refine tc_seq ?_
  refine tc_region ?_
  refine s0 (qv_move rfl) ?_
  refine sd (qv_neq rfl rfl) (fun c12 => ?_) (fun c12 => ?_)
  ·
    refine tl_nil (tp_normal ?_)
    refine tc_true rfl ?_
    refine tc_seq ?_
    refine tc_region ?_
    refine s0 (qv_move rfl) ?_
    refine s0 (qv_assign rfl) ?_
    refine tl_nil (tp_normal ?_)
    refine tc_ret (tp_then_ret (tp_end1 rfl rfl ?_))
    intro w' hm
    exact ⟨by rw [fits, if_pos c12], hm.below⟩
  ·
    refine tl_nil (tp_normal ?_)
    refine tc_false rfl ?_
    refine tc_skip (tp_normal ?_)
    refine tc_seq ?_
    refine tc_seq ?_
    refine tc_region ?_
    refine s0 (qv_move rfl) ?_
    refine s0 (qv_len st_32 rfl) ?_
    refine s0 (qv_move rfl) ?_
    refine tl_nil (tp_normal ?_)
    refine tc_block (tc_loopS (fun (k : Nat) => [(16, .int .i64 (k : Int))]) (fun (k : Nat) => k ≤ l.length ∧ fits n l = fitsFrom n (l.drop k)) (fun (k : Nat) => l.length - k) (0) ⟨Nat.zero_le _, by rw [fits, if_neg c12]; rfl⟩ ⟨rfl, trivial⟩ ?_)
    rintro k hI
    refine tc_seq ?_
    refine tc_region ?_
    refine sd (qv_lss rfl rfl) (fun c17 => ?_) (fun c17 => ?_)
    ·
      refine tl_nil (tp_normal ?_)
      refine tc_seq ?_
      refine tc_true rfl ?_
      refine tc_skip (tp_normal ?_)
      refine tc_seq ?_
      refine tc_block ?_
      refine tc_seq ?_
      refine tc_region ?_
      refine sn st_32 hl rfl rfl (by omega) (fun e18 he18 => ?_)
      refine s0 (qv_ldEW ag_119 hl Mem.has_base rfl he18) ?_
      refine tl_alloc ze_119 (by decide) (fun b7_1 => ?_)
      refine tl_storeL (i := 0) sz_119 (hl.szs _ (List.mem_of_getElem? he18)) (one_119 _) rfl rfl rfl rfl ?_
      refine tl_nil (tp_normal ?_)
      refine tc_seq ?_
      refine tc_draws mixed (by kernel_rfl) ?_
      have hs := (right_zero (l := l) (n := n) (by omega)).send e18 (List.mem_of_getElem? he18)
      obtain ⟨hs0, hs1, hs2, hs3, hs4, hs5⟩ := hs
      refine q0 (qv_fa fo_119_2 rfl) ?_
      refine q0 (qv_ldB (i := 0) sc_3 rfl rfl rfl) ?_
      refine q0 (qv_ldBW (i := 1) ag_26 rfl rfl rfl) ?_
      refine q0 (qv_fa fo_119_0 rfl) ?_
      refine q0 (qv_ldB (i := 0) sc_3 rfl rfl rfl) ?_
      refine q0 (qv_fa fo_119_1 rfl) ?_
      refine q0 (qv_ldB (i := 0) sc_3 rfl rfl rfl) ?_
      refine q0 (qv_call fn_61 rfl (fun w hm => cap_calls w n na nc e18.link e18.tick (hn.into Mem.has_base hm) hk (by omega) (by omega) (by omega))) ?_
      refine qd (qv_gtr rfl rfl) (fun c28 => ?_) (fun c28 => ?_)
      ·
        refine tq_nil (tp_normal ?_)
        refine tc_true rfl ?_
        refine tc_seq ?_
        refine tc_region ?_
        refine s0 (qv_assign rfl) ?_
        refine tl_nil (tp_normal ?_)
        refine tc_ret (tp_block_ret (tp_then_ret (tp_then_ret (tp_block_ret (tp_then_ret (tp_end1 rfl rfl ?_))))))
        intro w' hm
        exact ⟨by rw [hI.2, fitsFrom_at he18, if_pos c28], hm.below⟩
      ·
        refine tq_nil (tp_normal ?_)
        refine tc_false rfl ?_
        refine tc_skip (tp_block_normal (tp_normal ?_))
        refine tc_region ?_
        refine s0 (qv_succ rfl rfl (by omega)) ?_
        refine s0 (qv_move rfl) ?_
        exact tl_nil (tp_roundS (k + 1) ⟨by omega, by rw [hI.2, fitsFrom_at he18, if_neg c28]⟩ (by omega) ⟨rfl, trivial⟩ rfl rfl rfl rfl)
    ·
      refine tl_nil (tp_normal ?_)
      refine tc_seq ?_
      refine tc_false rfl ?_
      refine tc_exit (tp_then_exit (tp_then_exit (tp_block_exit (tp_normal ?_))))
      refine tc_seq ?_
      refine tc_region ?_
      refine s0 (qv_assign rfl) ?_
      refine tl_nil (tp_normal ?_)
      refine tc_ret (tp_end1 rfl rfl ?_)
      intro w' hm
      exact ⟨by rw [hI.2, List.drop_eq_nil_of_le (by omega)]; rfl, hm.below⟩
set_option maxRecDepth 100000 in
theorem cost_calls (w : World) (n : Net) (na : Option Addr) (nc : Nat) (l : List Send) (la : Option Addr) (lc : Nat) (hn : SlIn w 50 encLink na n.links) (hk : NetOk n) (hl : SlIn w 3 encSend la l) :
    Calls Try.prog 24 #[.agg (netA n na nc), .slice la l.length lc] w (fun e w' => e = .returned (.tuple #[.int .i64 (cost n l).1, .int .i64 (cost n l).2]) ∧ Below w.heap.size w w') := by
  have hlen := hl.len
  simp only [maxLen] at hlen
  have hlenn := hn.len
  simp only [maxLen] at hlenn
  refine calls_of_tc (N := 40) (vs := [.agg (netA n na nc), .slice la l.length lc]) Try.func24 rfl rfl (Nat.le_of_ble_eq_true rfl) ?_
  refine tc_seq ?_
  refine tc_region ?_
  refine tl_box rfl (by decide) (fun b2_0 => ?_)
  refine s0 (qv_assign rfl) ?_
  refine s0 (qv_assign rfl) ?_
  refine tl_nil (tp_normal ?_)
  refine tc_seq ?_
  refine tc_seq ?_
  refine tc_region ?_
  refine s0 (qv_ldBW (i := 0) ag_26 rfl rfl rfl) ?_
  refine s0 (qv_move rfl) ?_
  refine s0 (qv_call fn_60 rfl (fun w hm => right_calls w n na nc l la lc (hn.into Mem.has_base hm) hk (hl.into Mem.has_base hm))) ?_
  refine s0 (qv_assign rfl) ?_
  refine tl_nil (tp_normal ?_)
  refine tc_seq ?_
  refine tc_region ?_
  refine s0 (qv_move rfl) ?_
  refine sd (qv_neq rfl rfl) (fun c14 => ?_) (fun c14 => ?_)
  ·
    refine tl_nil (tp_normal ?_)
    refine tc_true rfl ?_
    refine tc_seq ?_
    refine tc_region ?_
    refine s0 (qv_move rfl) ?_
    refine s0 (qv_assign rfl) ?_
    refine s0 (qv_assign rfl) ?_
    refine tl_nil (tp_normal ?_)
    refine tc_ret (tp_then_ret (tp_end2 rfl rfl rfl ?_))
    intro w' hm
    exact ⟨by rw [cost, if_pos c14], hm.below⟩
  ·
    refine tl_nil (tp_normal ?_)
    refine tc_false rfl ?_
    refine tc_skip (tp_normal ?_)
    refine tc_seq ?_
    refine tc_region ?_
    refine s0 (qv_assign rfl) ?_
    refine tl_nil (tp_normal ?_)
    refine tc_seq ?_
    refine tc_seq ?_
    refine tc_region ?_
    refine s0 (qv_move rfl) ?_
    refine s0 (qv_len st_32 rfl) ?_
    refine s0 (qv_move rfl) ?_
    refine tl_nil (tp_normal ?_)
    refine tc_block (tc_loopS (fun (k : Nat) => [(18, .int .i64 (k : Int)), (7, .int .i64 (costSum n (l.take k)))]) (fun (k : Nat) => k ≤ l.length) (fun (k : Nat) => l.length - k) (0) (Nat.zero_le _) ⟨rfl, rfl, trivial⟩ ?_)
    rintro k hI
    refine tc_seq ?_
    refine tc_region ?_
    refine sd (qv_lss rfl rfl) (fun c19 => ?_) (fun c19 => ?_)
    ·
      refine tl_nil (tp_normal ?_)
      refine tc_seq ?_
      refine tc_true rfl ?_
      refine tc_skip (tp_normal ?_)
      refine tc_seq ?_
      refine tc_block ?_
      refine tc_seq ?_
      refine tc_region ?_
      refine sn st_32 hl rfl rfl (by omega) (fun e20 he20 => ?_)
      refine s0 (qv_ldEW ag_119 hl Mem.has_base rfl he20) ?_
      refine tl_alloc ze_119 (by decide) (fun b9_1 => ?_)
      refine tl_storeL (i := 0) sz_119 (hl.szs _ (List.mem_of_getElem? he20)) (one_119 _) rfl rfl rfl rfl ?_
      refine tl_nil (tp_normal ?_)
      have hgood := right_zero (l := l) (n := n) (by omega)
      have hcs := send_cost hgood.net (hgood.send e20 (List.mem_of_getElem? he20))
      have hsum := costSum_bound hgood k
      have hs := (right_zero (l := l) (n := n) (by omega)).send e20 (List.mem_of_getElem? he20)
      obtain ⟨hs0, hs1, hs2, hs3, hs4, hs5⟩ := hs
      refine tc_draws mixed (by kernel_rfl) ?_
      refine q0 (qv_move rfl) ?_
      refine q0 (qv_fa fo_119_2 rfl) ?_
      refine q0 (qv_ldB (i := 0) sc_3 rfl rfl rfl) ?_
      refine q0 (qv_fa fo_26_1 rfl) ?_
      refine q0 (qv_ldB (i := 1) sc_24 rfl rfl rfl) ?_
      refine q0 (qv_fa fo_119_0 rfl) ?_
      refine q0 (qv_ldB (i := 0) sc_3 rfl rfl rfl) ?_
      refine q0 (qv_fa fo_119_1 rfl) ?_
      refine q0 (qv_ldB (i := 0) sc_3 rfl rfl rfl) ?_
      refine q0 (qv_remI rfl rfl (by decide) (by omega)) ?_
      refine qi st_24 hn rfl rfl (by omega) (fun e32 he32 => ?_)
      refine q0 (qv_fa fo_117_3 rfl) ?_
      refine q0 (qv_iA at_114 rfl rfl (by omega)) ?_
      refine q0 (qv_ldE (i := e20.link.toNat) (j := 26 + (e20.tick % 24).toNat * 1) sc_3 hn Mem.has_base rfl (by omega) he32 (enc_price (hk _ (List.mem_of_getElem? he32)) (by omega) (by omega))) ?_
      refine q0 (qv_mulI rfl rfl (by rw [priceOf_eq he32] at hcs; omega)) ?_
      refine q0 (qv_addI rfl rfl (by rw [priceOf_eq he32] at hcs; omega)) ?_
      refine q0 (qv_assign rfl) ?_
      refine tq_nil (tp_block_normal (tp_normal ?_))
      refine tc_region ?_
      refine s0 (qv_succ rfl rfl (by omega)) ?_
      refine s0 (qv_move rfl) ?_
      exact tl_nil (tp_roundS (k + 1) (by omega) (by omega) ⟨rfl, by rw [costSum_take he20, priceOf_eq he32]; rfl, trivial⟩ rfl rfl rfl rfl)
    ·
      refine tl_nil (tp_normal ?_)
      refine tc_seq ?_
      refine tc_false rfl ?_
      refine tc_exit (tp_then_exit (tp_then_exit (tp_block_exit (tp_normal ?_))))
      refine tc_seq ?_
      refine tc_region ?_
      refine s0 (qv_move rfl) ?_
      refine s0 (qv_assign rfl) ?_
      refine s0 (qv_assign rfl) ?_
      refine tl_nil (tp_normal ?_)
      refine tc_ret (tp_end2 rfl rfl rfl ?_)
      intro w' hm
      exact ⟨by rw [cost, if_neg c14, SlSend_len k c19], hm.below⟩
end Go.Q
