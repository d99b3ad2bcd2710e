/- A part of the proof: see the last text. -/
import Derived.WalkKit
import Derived.Deep.Quiet
import Derived.KernelRfl
import Derived.RangeFuncNested
import Derived.RangeFuncCalls
import Derived.OrdersIn
import Derived.TacticsIn
import Derived.Maps.AppendAt
import Derived.OwnWalkIn
import Derived.Maps.RangeRun
import Derived.Laws.StructEq
import Derived.Shelf.SlSortCmp.InsertionK
import Derived.Sort.OwnSortedInts
import Derived.OpenShut
import Derived.WideShapes
import Derived.ChangeArms
import Derived.ChangeKeysEq
import GoSem.Core.Value
set_option linter.unusedVariables false
set_option linter.unusedSimpArgs false
set_option linter.unusedSectionVars false
namespace Go.Q
open Go Go.RowKit
/-- the frame of a function, or of a round of the loop with the record ro; ds: the blocks for the deferred calls of its loops' rounds -/
structure Env where
  ro : Option Nat
  ds : List Nat
def mk (D : Nat) : Deferred := { target := .collected D, args := #[] }
abbrev FW (ro : Option Nat) : Fence := { Fence.wide with round := ro }
/-- what is known of a frame: its size, its deferred calls, and the slots of the list (the first entry of a slot counts) -/
def Fr (Z : Env) (N : Nat) (L : List (Nat × Value)) (a : Act) : Prop :=
  a.tmps.size = N ∧ a.defers = Z.ds.map mk ∧ ∀ t v, L.lookup t = some v → a.tmps[t]? = some v
def ev (L : List (Nat × Value)) : Operand → Option Value
  | .tmp t => L.lookup t
  | .const v => some v
  | .global g => some (.pointer (some ⟨g, 0, none⟩))
  | .func f => some (.func (.func f) #[] #[])
theorem Fr.eval {Z : Env} {N : Nat} {L : List (Nat × Value)} {a : Act} (h : Fr Z N L a) {x : Operand} {v : Value} (hx : ev L x = some v) : a.eval x = v := by
  cases x with
  | tmp t =>
    have := h.2.2 t v hx
    simp [Act.eval, Array.getD_eq_getD_getElem?, this]
  | const c => simpa [ev, Act.eval] using hx
  | global g => simpa [ev, Act.eval] using hx
  | func f => simpa [ev, Act.eval] using hx
theorem Fr.put {Z : Env} {N : Nat} {L : List (Nat × Value)} {a : Act} (h : Fr Z N L a) {d : Nat} (hd : d < N) (v : Value) : Fr Z N ((d, v) :: L) (a.put (some d) v) := by
  refine ⟨by simp [Act.put, h.1], by simp [Act.put, h.2.1], fun t u hl => ?_⟩
  simp only [List.lookup_cons] at hl
  by_cases ht : t = d
  · subst ht
    simp at hl
    subst hl
    simp [Act.put, h.1, hd]
  · have : (t == d) = false := by simpa using ht
    rw [this] at hl
    simp only [Act.put]
    rw [Array.getElem?_setIfInBounds_ne (by omega)]
    exact h.2.2 t u hl
theorem Fr.put_none {Z : Env} {N : Nat} {L : List (Nat × Value)} {a : Act} (h : Fr Z N L a) (v : Value) : Fr Z N L (a.put none v) := by simpa [Act.put] using h
/-- the slots of L0 are among those of L -/
def Sub (L : List (Nat × Value)) : List (Nat × Value) → Prop
  | [] => True
  | (t, v) :: r => L.lookup t = some v ∧ Sub L r
theorem Sub.lookup {L : List (Nat × Value)} : ∀ {L0 : List (Nat × Value)}, Sub L L0 → ∀ t v, L0.lookup t = some v → L.lookup t = some v
  | [], _, t, v, h => by simp at h
  | (t', v') :: r, ⟨h1, h2⟩, t, v, h => by
    simp only [List.lookup_cons] at h
    by_cases ht : t = t'
    · subst ht
      simp at h
      subst h
      exact h1
    · have : (t == t') = false := by simpa using ht
      rw [this] at h
      exact Sub.lookup h2 t v h
theorem Fr.sub {Z : Env} {N : Nat} {L L0 : List (Nat × Value)} {a : Act} (h : Fr Z N L a) (hs : Sub L L0) : Fr Z N L0 a :=
  ⟨h.1, h.2.1, fun t v hl => h.2.2 t v (hs.lookup t v hl)⟩
/-- the blocks lo ≤ b < hi that on speaks of are as in w -/
structure Kp where
  w : World
  lo : Nat
  hi : Nat
  on : Nat → Prop
abbrev Kin (w : World) (lo hi : Nat) : Kp := ⟨w, lo, hi, fun _ => True⟩
structure Mem where
  base : World
  boxes : List (Nat × Obj)
  kept : List Kp
  marks : List Nat
  rows : List (Option (Nat × Obj))
def markBox (D : Nat) : Nat × Obj := (D, .deferred (some []))
def rbOf (rs : List (Option (Nat × Obj))) : List Nat := (rs.filterMap id).map Prod.fst
def Mem.rb (M : Mem) : List Nat := rbOf M.rows
def Mem.all (M : Mem) : List (Nat × Obj) := M.boxes ++ (M.rows.filterMap id ++ M.marks.map markBox)
structure Mem.holds (M : Mem) (w : World) : Prop where
  os : w.os = M.base.os
  tape : w.tape = M.base.tape
  output : w.output = M.base.output
  size : M.base.heap.size ≤ w.heap.size
  old : ∀ b, b < M.base.heap.size → w.heap[b]? = M.base.heap[b]?
  box : ∀ p ∈ M.all, M.base.heap.size ≤ p.1 ∧ w.heap[p.1]? = some p.2
  nodup : M.all.Pairwise (fun p q => p.1 ≠ q.1)
  kept : ∀ k ∈ M.kept, k.hi ≤ w.heap.size ∧ ∀ b, k.lo ≤ b → b < k.hi → k.on b → w.heap[b]? = k.w.heap[b]?
  apart : ∀ p ∈ M.all, ∀ k ∈ M.kept, p.1 < k.lo ∨ k.hi ≤ p.1 ∨ ¬ k.on p.1
def Mem.init (w : World) : Mem := ⟨w, [], [], [], []⟩
theorem Mem.init_holds (w : World) : (Mem.init w).holds w :=
  ⟨rfl, rfl, rfl, Nat.le_refl _, fun _ _ => rfl, fun _ h => by simp [Mem.init, Mem.all] at h, by simp [Mem.init, Mem.all], fun _ h => by simp [Mem.init] at h, fun _ h => by simp [Mem.init, Mem.all] at h⟩
theorem Mem.holds.below {M : Mem} {w : World} (h : M.holds w) : Below M.base.heap.size M.base w := ⟨h.os, h.tape, h.output, h.size, h.old⟩
theorem get_lt {w : World} {b : Nat} {o : Obj} (h : w.heap[b]? = some o) : b < w.heap.size := by
  rcases Nat.lt_or_ge b w.heap.size with h' | h'
  · exact h'
  · rw [Array.getElem?_eq_none h'] at h; cases h
theorem Mem.mem_all {M : Mem} {p : Nat × Obj} (h : p ∈ M.boxes) : p ∈ M.all := List.mem_append_left _ h
theorem Mem.holds.boxOf {M : Mem} {w : World} (h : M.holds w) {p : Nat × Obj} (hb : p ∈ M.boxes) : M.base.heap.size ≤ p.1 ∧ w.heap[p.1]? = some p.2 := h.box p (Mem.mem_all hb)
theorem Mem.holds.lt {M : Mem} {w : World} (h : M.holds w) {b : Nat} {o : Obj} (hb : (b, o) ∈ M.boxes) : b < w.heap.size := get_lt (h.boxOf hb).2
/-- a step that turns nothing that is there -/
theorem Mem.holds.ext {M : Mem} {w w' : World} (h : M.holds w) (hb : Below w.heap.size w w') : M.holds w' := by
  refine ⟨hb.os.trans h.os, hb.tape.trans h.tape, hb.output.trans h.output, Nat.le_trans h.size hb.size, fun b hlt => ?_, fun p hp => ?_, h.nodup, fun k hk => ?_, h.apart⟩
  · rw [hb.block b (Nat.lt_of_lt_of_le hlt h.size), h.old b hlt]
  · have := h.box p hp
    exact ⟨this.1, by rw [hb.block _ (get_lt this.2)]; exact this.2⟩
  · obtain ⟨h1, h2⟩ := h.kept k hk
    exact ⟨Nat.le_trans h1 hb.size, fun b hl hh ho => by rw [hb.block b (by omega)]; exact h2 b hl hh ho⟩
theorem Mem.holds.drew {M : Mem} {w : World} (h : M.holds w) : M.holds w.drew := h.ext ((Below.refl _ w).drew)
theorem below_drew' (w : World) : Below w.heap.size w { w with drawn := w.drawn + 1 } := ⟨rfl, rfl, rfl, Nat.le_refl _, fun _ _ => rfl⟩
/-- a new block -/
theorem Mem.holds.alloc {M : Mem} {w : World} (h : M.holds w) (o : Obj) : Mem.holds ⟨M.base, (w.heap.size, o) :: M.boxes, M.kept, M.marks, M.rows⟩ (w.alloc o) := by
  have he : M.holds (w.alloc o) := h.ext ((Below.refl _ w).alloc (Nat.le_refl _) o)
  refine ⟨he.os, he.tape, he.output, he.size, he.old, fun p hp => ?_, ?_, he.kept, fun p hp k hk => ?_⟩
  · rcases List.mem_cons.1 (show p ∈ (w.heap.size, o) :: M.all from hp) with rfl | hp
    · exact ⟨h.size, by show (w.heap.push o)[w.heap.size]? = _; simp⟩
    · exact he.box p hp
  · refine List.pairwise_cons.2 ⟨fun p hp => ?_, h.nodup⟩
    have := get_lt (h.box p hp).2
    simp only; omega
  · rcases List.mem_cons.1 (show p ∈ (w.heap.size, o) :: M.all from hp) with rfl | hp
    · exact .inr (.inl (h.kept k hk).1)
    · exact he.apart p hp k hk
/-- a call that hands back something new: its blocks stay as they are -/
theorem Mem.holds.keep {M : Mem} {w w' : World} (h : M.holds w) (hb : Below w.heap.size w w') : Mem.holds ⟨M.base, M.boxes, Kin w' w.heap.size w'.heap.size :: M.kept, M.marks, M.rows⟩ w' := by
  have he := h.ext hb
  refine ⟨he.os, he.tape, he.output, he.size, he.old, he.box, he.nodup, fun k hk => ?_, fun p hp k hk => ?_⟩
  · rcases List.mem_cons.1 hk with rfl | hk
    · exact ⟨Nat.le_refl _, fun _ _ _ _ => rfl⟩
    · exact he.kept k hk
  · rcases List.mem_cons.1 hk with rfl | hk
    · exact .inl (get_lt (h.box p hp).2)
    · exact he.apart p hp k hk
theorem Mem.holds.sub {M M' : Mem} {w : World} (h : M.holds w) (hB : M'.base = M.base) (h1 : M'.all.Sublist M.all) (h2 : M'.kept.Sublist M.kept) : M'.holds w :=
  ⟨hB ▸ h.os, hB ▸ h.tape, hB ▸ h.output, hB ▸ h.size, hB ▸ h.old, fun q hq => hB ▸ h.box q (h1.subset hq), h.nodup.sublist h1, fun k hk => h.kept k (h2.subset hk), fun q hq k hk => h.apart q (h1.subset hq) k (h2.subset hk)⟩
/-- only some boxes and regions are remembered -/
theorem Mem.holds.less {B : World} {bs bs' : List (Nat × Obj)} {ks ks' : List Kp} {ms : List Nat} {rs : List (Option (Nat × Obj))} {w : World} (h : Mem.holds ⟨B, bs, ks, ms, rs⟩ w) (h1 : bs'.Sublist bs) (h2 : ks'.Sublist ks) : Mem.holds ⟨B, bs', ks', ms, rs⟩ w :=
  h.sub rfl (List.Sublist.append h1 (List.Sublist.refl _)) h2
theorem heap_setObj_ne {w : World} {b c : Nat} {o : Obj} (h : c ≠ b) : ({ w with heap := w.heap.setIfInBounds b o } : World).heap[c]? = w.heap[c]? := by
  simp [Ne.symm h]
/-- the world with one block written anew -/
def putBlock (w : World) (b : Nat) (o : Obj) : World := { w with heap := w.heap.setIfInBounds b o }
theorem setCell_eq {w : World} {b off : Nat} {cs : Array Value} {T : TypeId} {fz : Nat × Nat} (h : w.heap[b]? = some (.cells cs T fz)) (v : Value) :
    w.setCell ⟨b, off, none⟩ v = putBlock w b (.cells (cs.setIfInBounds off v) T fz) := by
  have hb := get_lt h
  have hg : w.heap[b] = .cells cs T fz := by simpa [Array.getElem?_eq_getElem hb] using h
  simp only [World.setCell, putBlock]
  congr 1
  apply Array.ext_getElem?
  intro i
  rw [Array.getElem?_modify, Array.getElem?_setIfInBounds]
  by_cases hi : b = i
  · subst hi
    rw [if_pos rfl, if_pos rfl, if_pos hb, h]
    rfl
  · rw [if_neg hi, if_neg hi]
theorem Mem.holds.putA {M : Mem} {w : World} (h : M.holds w) {i : Nat} {b : Nat} {o : Obj} (hi : M.all[i]? = some (b, o)) (o' : Obj) {M' : Mem} (hB : M'.base = M.base) (hA : M'.all = M.all.set i (b, o')) (hK : M'.kept = M.kept) :
    M'.holds (putBlock w b o') := by
  have hmem : (b, o) ∈ M.all := List.mem_of_getElem? hi
  have hbox := h.box _ hmem
  have hlt := get_lt hbox.2
  have hii : i < M.all.length := by
    rcases Nat.lt_or_ge i M.all.length with h' | h'
    · exact h'
    · rw [List.getElem?_eq_none h'] at hi; cases hi
  have hgi : M.all[i] = (b, o) := by simpa [List.getElem?_eq_getElem hii] using hi
  have keep : ∀ c, c ≠ b → (putBlock w b o').heap[c]? = w.heap[c]? := fun c hc => heap_setObj_ne hc
  refine ⟨by rw [hB]; exact h.os, by rw [hB]; exact h.tape, by rw [hB]; exact h.output, by rw [hB]; simpa [putBlock] using h.size, fun c hc => ?_, fun p hp => ?_, ?_, fun k hk => ?_, fun p hp k hk => ?_⟩
  · have h0 : M.base.heap.size ≤ b := hbox.1
    rw [hB] at hc ⊢
    rw [keep c (by omega)]; exact h.old c hc
  · rw [hA] at hp
    rw [hB]
    obtain ⟨j, hj, rfl⟩ := List.mem_iff_getElem.1 hp
    have hjl : j < M.all.length := by simpa using hj
    rw [List.getElem_set]
    split
    · exact ⟨hbox.1, by simp [putBlock, hlt]⟩
    · rename_i hne
      have hb := h.box _ (List.getElem_mem hjl)
      refine ⟨hb.1, ?_⟩
      rw [keep]
      · exact hb.2
      · have hp' := List.pairwise_iff_getElem.1 h.nodup
        rcases Nat.lt_or_ge i j with hij | hij
        · have := hp' i j hii hjl hij
          rw [hgi] at this; exact fun e => this e.symm
        · have := hp' j i hjl hii (by omega)
          rw [hgi] at this; exact this
  · rw [hA]
    have hp' := List.pairwise_iff_getElem.1 h.nodup
    refine List.pairwise_iff_getElem.2 fun j k hj hk hjk => ?_
    have h1 : j < M.all.length := by simpa using hj
    have h2 : k < M.all.length := by simpa using hk
    have := hp' j k h1 h2 hjk
    rw [List.getElem_set, List.getElem_set]
    split <;> split
    · omega
    · rename_i e _; subst e; rw [hgi] at this; exact this
    · rename_i _ e; subst e; rw [hgi] at this; exact this
    · exact this
  · rw [hK] at hk
    obtain ⟨h1, h2⟩ := h.kept k hk
    refine ⟨by simpa [putBlock] using h1, fun c hl hh ho => ?_⟩
    rw [keep c (by
      intro e
      subst e
      rcases h.apart _ hmem k hk with h3 | h3 | h3
      · exact absurd hl (by simp only at h3; omega)
      · exact absurd hh (by simp only at h3; omega)
      · exact h3 ho)]
    exact h2 c hl hh ho
  · rw [hA] at hp
    rw [hK] at hk
    obtain ⟨j, hj, rfl⟩ := List.mem_iff_getElem.1 hp
    have hjl : j < M.all.length := by simpa using hj
    rw [List.getElem_set]
    split
    · have := h.apart _ hmem k hk; simpa using this
    · exact h.apart _ (List.getElem_mem hjl) k hk
theorem Mem.holds.put {B : World} {bs : List (Nat × Obj)} {ks : List Kp} {ms : List Nat} {rs : List (Option (Nat × Obj))} {w : World} (h : Mem.holds ⟨B, bs, ks, ms, rs⟩ w) {i : Nat} {b : Nat} {o : Obj} (hi : bs[i]? = some (b, o)) (o' : Obj) :
    Mem.holds ⟨B, bs.set i (b, o'), ks, ms, rs⟩ (putBlock w b o') := by
  have hii : i < bs.length := by
    rcases Nat.lt_or_ge i bs.length with h' | h'
    · exact h'
    · rw [List.getElem?_eq_none h'] at hi; cases hi
  exact h.putA (i := i) (o := o) (by show (bs ++ _)[i]? = _; rw [List.getElem?_append_left hii]; exact hi) o' rfl (by show bs.set i (b, o') ++ _ = (bs ++ _).set i (b, o'); rw [List.set_append_left _ _ hii]) rfl
/-- the block for the rounds' deferred calls is shut: it is not spoken of any more -/
theorem Mem.holds.shut {B : World} {bs : List (Nat × Obj)} {ks : List Kp} {ms : List Nat} {rs : List (Option (Nat × Obj))} {D : Nat} {w : World} (h : Mem.holds ⟨B, bs, ks, D :: ms, rs⟩ w) (o' : Obj) : Mem.holds ⟨B, bs, ks, ms, rs⟩ (putBlock w D o') := by
  have hi : (Mem.mk B bs ks (D :: ms) rs).all[bs.length + (rs.filterMap id).length]? = some (markBox D) := by
    show (bs ++ (rs.filterMap id ++ (D :: ms).map markBox))[bs.length + (rs.filterMap id).length]? = _
    simp
  have h1 : Mem.holds ⟨B, bs ++ (rs.filterMap id ++ [(D, o')]), ks, ms, []⟩ (putBlock w D o') := h.putA (i := bs.length + (rs.filterMap id).length) (b := D) (o := .deferred (some [])) hi o' rfl (by
    show (bs ++ (rs.filterMap id ++ [(D, o')])) ++ ([] ++ ms.map markBox) = (bs ++ (rs.filterMap id ++ (D :: ms).map markBox)).set (bs.length + (rs.filterMap id).length) (D, o')
    simp [List.set_append_right]) rfl
  refine h1.sub rfl ?_ (List.Sublist.refl _)
  show (bs ++ (rs.filterMap id ++ ms.map markBox)).Sublist ((bs ++ (rs.filterMap id ++ [(D, o')])) ++ ([] ++ ms.map markBox))
  simp only [List.append_assoc, List.nil_append, List.cons_append]
  exact List.Sublist.append (List.Sublist.refl _) (List.Sublist.append (List.Sublist.refl _) (List.sublist_cons_self _ _))
end Go.Q
namespace Go.Q
open Go Go.RowKit
section
variable {P : Program} {Z : Env} {N : Nat} {L L' : List (Nat × Value)} {M M' : Mem} {Q : Exit → Act → World → Prop}
/-- code, from what is known of the frame and of memory -/
def TC (P : Program) (Z : Env) (N : Nat) (L : List (Nat × Value)) (M : Mem) (c : Code) (Q : Exit → Act → World → Prop) : Prop :=
  ∀ a w, Fr Z N L a → M.holds w → c.wpIn (FW Z.ro) 0 P Q a w
/-- an end, from what is known -/
def TP (Z : Env) (N : Nat) (L : List (Nat × Value)) (M : Mem) (e : Exit) (Q : Exit → Act → World → Prop) : Prop :=
  ∀ a w, Fr Z N L a → M.holds w → Q e a w
/-- operations from here on, in the order of the text -/
def TL (P : Program) (Z : Env) (N : Nat) (L : List (Nat × Value)) (M : Mem) (ops : Array Oper) (rest : List Oper) (Q : Exit → Act → World → Prop) : Prop :=
  ∀ a w, Fr Z N L a → M.holds w → wpListIn (FW Z.ro) 0 P ops Q rest a w
/-- quiet operations, one behind the other: each yields one value, and the world has at most grown -/
def QS (P : Program) (ops : Array Oper) (M : Mem) (K : Act → Prop) : List Oper → Act → Prop
  | [], a => K a
  | o :: rest, a => if Region.wanted o (yielded ops a.tmps) then ∃ v, (∀ w, M.holds w → o.quietAt P a (fun w' => Below w.heap.size w w') w v) ∧ QS P ops M K rest (a.put o.dst v)
    else QS P ops M K rest (a.put o.dst undef)
/-- quiet operations from here on -/
def TQ (P : Program) (Z : Env) (N : Nat) (L : List (Nat × Value)) (M : Mem) (ops : Array Oper) (rest : List Oper) (K : Act → Prop) : Prop :=
  ∀ a, Fr Z N L a → QS P ops M K rest a
/-- an operation yields a value, whatever the world -/
def Qv (P : Program) (Z : Env) (N : Nat) (L : List (Nat × Value)) (M : Mem) (o : Oper) (v : Value) : Prop :=
  ∀ a, Fr Z N L a → ∀ w, M.holds w → o.quietAt P a (fun w' => Below w.heap.size w w') w v
theorem tc_seq {x y : Code} (h : TC P Z N L M x (Exit.then (y.wpIn (FW Z.ro) 0 P Q) Q)) : TC P Z N L M (.seq x y) Q := fun a w hf hm => wpIn_seq (h a w hf hm)
theorem tc_skip (h : TP Z N L M .normal Q) : TC P Z N L M .skip Q := fun a w hf hm => wpIn_skip (h a w hf hm)
theorem tc_ret (h : TP Z N L M .ret Q) : TC P Z N L M .ret Q := fun a w hf hm => wpIn_ret (h a w hf hm)
theorem tc_exit {i : Nat} (h : TP Z N L M (.exit i) Q) : TC P Z N L M (.exit i) Q := fun a w hf hm => wpIn_exit (h a w hf hm)
theorem tc_block {i : Nat} {c : Code} (h : TC P Z N L M c (Exit.inBlock i Q)) : TC P Z N L M (.block i c) Q := fun a w hf hm => wpIn_block (h a w hf hm)
theorem tc_true {c : Operand} {x y : Code} (hc : ev L c = some (.bool true)) (h : TC P Z N L M x Q) : TC P Z N L M (.cond c x y) Q :=
  fun a w hf hm => wpIn_cond_true (hf.eval hc) (h a w hf hm)
theorem tc_false {c : Operand} {x y : Code} (hc : ev L c = some (.bool false)) (h : TC P Z N L M y Q) : TC P Z N L M (.cond c x y) Q :=
  fun a w hf hm => wpIn_cond_false (hf.eval hc) (h a w hf hm)
theorem TC.sub {c : Code} (hs : Sub L L') (h : TC P Z N L' M c Q) : TC P Z N L M c Q := fun a w hf hm => h a w (hf.sub hs) hm
theorem TC.less {B : World} {bs bs' : List (Nat × Obj)} {ks ks' : List Kp} {ms : List Nat} {rs : List (Option (Nat × Obj))} {c : Code} (h1 : bs'.Sublist bs) (h2 : ks'.Sublist ks) (h : TC P Z N L ⟨B, bs', ks', ms, rs⟩ c Q) : TC P Z N L ⟨B, bs, ks, ms, rs⟩ c Q :=
  fun a w hf hm => h a w hf (hm.less h1 h2)
theorem TC.mem {c : Code} (hm : ∀ w, M.holds w → M'.holds w) (h : TC P Z N L M' c Q) : TC P Z N L M c Q := fun a w hf h' => h a w hf (hm w h')
theorem TC.mono {c : Code} {Q' : Exit → Act → World → Prop} (h : TC P Z N L M c Q') (hq : ∀ e a w, Q' e a w → Q e a w) : TC P Z N L M c Q := fun a w hf hm => Go.wpIn_mono (h a w hf hm) hq
theorem tp_normal {y : Code} (h : TC P Z N L M y Q) : TP Z N L M .normal (Exit.then (y.wpIn (FW Z.ro) 0 P Q) Q) := h
theorem tp_then_ret {K : Act → World → Prop} (h : TP Z N L M .ret Q) : TP Z N L M .ret (Exit.then K Q) := h
theorem tp_then_exit {K : Act → World → Prop} {i : Nat} (h : TP Z N L M (.exit i) Q) : TP Z N L M (.exit i) (Exit.then K Q) := h
theorem tp_block_normal {i : Nat} (h : TP Z N L M .normal Q) : TP Z N L M .normal (Exit.inBlock i Q) := h
theorem tp_block_ret {i : Nat} (h : TP Z N L M .ret Q) : TP Z N L M .ret (Exit.inBlock i Q) := h
theorem tp_block_exit {i : Nat} (h : TP Z N L M .normal Q) : TP Z N L M (.exit i) (Exit.inBlock i Q) := fun a w hf hm => by
  simpa [Exit.inBlock] using h a w hf hm
theorem tc_loopZ {β : Type} {c : Code} (Zf : β → Env) (S : β → List (Nat × Value)) (Me : β → Mem) (I : β → Prop) (μ : β → Nat) (b₀ : β) (h0 : I b₀) (hro : ∀ b, (Zf b).ro = Z.ro) (hL : ∀ a, Fr Z N L a → Fr (Zf b₀) N (S b₀) a) (hM : ∀ w, M.holds w → (Me b₀).holds w)
    (round : ∀ b, I b → TC P (Zf b) N (S b) (Me b) c (Exit.then (fun a w => ∃ b', I b' ∧ μ b' < μ b ∧ Fr (Zf b') N (S b') a ∧ (Me b').holds w) Q)) : TC P Z N L M (.loop c) Q := by
  intro a w hf hm bf k cs hro' hb hr
  have key : ∀ n, ∀ b : β, μ b = n → I b → ∀ a w, Fr (Zf b) N (S b) a → (Me b).holds w →
      ∃ e a' w', Q e a' w' ∧ ArrivesIn (Machine.fenced P (FW Z.ro)) P (lone (bf.atR a (.code c :: .inLoop c :: k)) cs w) bf k cs e a' w' := by
    intro n
    induction n using Nat.strongRecOn with
    | _ n ih =>
      intro b hbn hI a w hf hm
      have hrd := round b hI a w hf hm
      rw [hro b] at hrd
      obtain ⟨e, a₁, w₁, hq, harr⟩ := hrd bf (.inLoop c :: k) cs hro' hb hr
      cases e with
      | normal =>
        obtain ⟨b', hI', hlt, hf', hm'⟩ := hq
        obtain ⟨e₂, a₂, w₂, hq₂, harr₂⟩ := ih (μ b') (by omega) b' rfl hI' a₁ w₁ hf' hm'
        exact ⟨e₂, a₂, w₂, hq₂, .of_steps (StepsIn.trans harr (.one (fenced_calm hb hr rfl) stepR_inLoop)) harr₂⟩
      | exit id => exact ⟨_, a₁, w₁, hq, .pass (x := .inLoop c) rfl (fun _ _ => .inl (by simp)) harr⟩
      | goto l => exact ⟨_, a₁, w₁, hq, .pass (x := .inLoop c) rfl (fun _ _ => .inl (by simp)) harr⟩
      | ret => exact ⟨_, a₁, w₁, hq, .pass (x := .inLoop c) rfl (fun _ _ => .inl (by simp)) harr⟩
      | panic ch => exact ⟨_, a₁, w₁, hq, .pass (x := .inLoop c) rfl (fun _ _ => .inl (by simp)) harr⟩
      | outgrown => exact ⟨_, a₁, w₁, hq, .pass (x := .inLoop c) rfl (fun _ _ => .inl (by simp)) harr⟩
  obtain ⟨e, a', w', hq, harr⟩ := key _ b₀ rfl h0 a w (hL a hf) (hM w hm)
  exact ⟨e, a', w', hq, .of_steps (.one (fenced_calm hb hr rfl) stepR_loop) harr⟩
/-- what is known at the head of a loop: the frame, the memory, by a ghost -/
theorem tc_loop {β : Type} {c : Code} (S : β → List (Nat × Value)) (Me : β → Mem) (I : β → Prop) (μ : β → Nat) (b₀ : β) (h0 : I b₀) (hL : ∀ a, Fr Z N L a → Fr Z N (S b₀) a) (hM : ∀ w, M.holds w → (Me b₀).holds w)
    (round : ∀ b, I b → TC P Z N (S b) (Me b) c (Exit.then (fun a w => ∃ b', I b' ∧ μ b' < μ b ∧ Fr Z N (S b') a ∧ (Me b').holds w) Q)) : TC P Z N L M (.loop c) Q :=
  tc_loopZ (fun _ => Z) S Me I μ b₀ h0 (fun _ => rfl) hL hM round
def argsL : Nat → List Value → List (Nat × Value)
  | _, [] => []
  | i, v :: vs => (i, v) :: argsL (i + 1) vs
theorem argsL_lookup : ∀ (vs : List Value) (i t : Nat) (v : Value), (argsL i vs).lookup t = some v → i ≤ t ∧ vs[t - i]? = some v
  | [], i, t, v, h => by simp [argsL] at h
  | x :: vs, i, t, v, h => by
    simp only [argsL, List.lookup_cons] at h
    by_cases ht : t = i
    · subst ht
      simp at h
      subst h
      simp
    · have hb : (t == i) = false := by simpa using ht
      rw [hb] at h
      obtain ⟨h1, h2⟩ := argsL_lookup vs (i + 1) t v h
      refine ⟨by omega, ?_⟩
      have : t - i = (t - (i + 1)) + 1 := by omega
      rw [this]
      simpa using h2
theorem fr_args {fn : Func} {vs : List Value} (hN : fn.ntmps = N) (hvs : vs.length ≤ N) : Fr ⟨none, []⟩ N (argsL 0 vs) { tmps := vs.toArray ++ Array.replicate (fn.ntmps - vs.toArray.size) undef, defers := [] } := by
  refine ⟨?_, rfl, ?_⟩
  · simp [hN]; omega
  · intro t v ht
    obtain ⟨_, h2⟩ := argsL_lookup vs 0 t v ht
    have h2' : vs[t]? = some v := by simpa using h2
    have hlt : t < vs.length := by
      rcases Nat.lt_or_ge t vs.length with h' | h'
      · exact h'
      · rw [List.getElem?_eq_none h'] at h2'; cases h2'
    simp only
    rw [Array.getElem?_append_left (by simpa using hlt)]
    simpa using h2'
theorem calls_of_tc {f : FuncId} {fn : Func} {c : Code} {vs : List Value} {w : World} {R : Ending → World → Prop} (hf : P.funcs[f]? = some fn) (hb : fn.body = some c) (hN : fn.ntmps = N) (hvs : vs.length ≤ N)
    (h : TC P ⟨none, []⟩ N (argsL 0 vs) (Mem.init w) c (bodyPost P fn R)) : Calls P f vs.toArray w R :=
  callsIn_wide.1 (callsIn_of_wp (F := Fence.wide) (n := 0) hf hb trivial (h _ _ (fr_args hN hvs) (Mem.init_holds w)))
/-- a function that ranges over a function -/
def bodyPostW (P : Program) (fn : Func) (R : Ending → World → Prop) : Exit → Act → World → Prop := bodyPostM (FW none) 0 P fn R
theorem calls_of_tcM {f : FuncId} {fn : Func} {c : Code} {vs : List Value} {w : World} {R : Ending → World → Prop} (hf : P.funcs[f]? = some fn) (hb : fn.body = some c) (hN : fn.ntmps = N) (hvs : vs.length ≤ N)
    (h : TC P ⟨none, []⟩ N (argsL 0 vs) (Mem.init w) c (bodyPostW P fn R)) : Calls P f vs.toArray w R :=
  callsIn_wide.1 (callsIn_of_wp_marks (F := Fence.wide) (n := 0) hf hb trivial (h _ _ (fr_args hN hvs) (Mem.init_holds w)))
theorem tp_end1 {ro : Option Nat} {fn : Func} {R : Ending → World → Prop} {t : Tmp} {v : Value} (hr : fn.results = #[.tmp t]) (hl : L.lookup t = some v) (h : ∀ w, M.holds w → R (.returned v) w) :
    TP ⟨ro, []⟩ N L M .ret (bodyPost P fn R) := fun a w hf hm =>
  ⟨hf.2.1, v, by rw [results_tmp hr]; simp [Array.getD_eq_getD_getElem?, hf.2.2 t v hl], h w hm⟩
theorem tp_end2 {ro : Option Nat} {fn : Func} {R : Ending → World → Prop} {t u : Tmp} {v x : Value} (hr : fn.results = #[.tmp t, .tmp u]) (hl : L.lookup t = some v) (hu : L.lookup u = some x) (h : ∀ w, M.holds w → R (.returned (.tuple #[v, x])) w) :
    TP ⟨ro, []⟩ N L M .ret (bodyPost P fn R) := fun a w hf hm =>
  ⟨hf.2.1, _, by rw [results_tmp2 hr]; simp [Array.getD_eq_getD_getElem?, hf.2.2 t v hl, hf.2.2 u x hu], h w hm⟩
theorem tp_end0 {ro : Option Nat} {fn : Func} {R : Ending → World → Prop} (hr : fn.results = #[]) (h : ∀ w, M.holds w → R (.returned (.tuple #[])) w) :
    TP ⟨ro, []⟩ N L M .ret (bodyPost P fn R) := fun a w hf hm => ⟨hf.2.1, _, by rw [results_none hr], h w hm⟩
theorem tp_end0n {ro : Option Nat} {fn : Func} {R : Ending → World → Prop} (hr : fn.results = #[]) (h : ∀ w, M.holds w → R (.returned (.tuple #[])) w) :
    TP ⟨ro, []⟩ N L M .normal (bodyPost P fn R) := fun a w hf hm => ⟨hf.2.1, _, by rw [results_none hr], h w hm⟩
theorem tc_region {id : Nat} {l : List Oper} (h : TL P Z N L M l.toArray l Q) : TC P Z N L M (.region id l.toArray false) Q :=
  fun a w hf hm => wpIn_region_lit (h a w hf hm)
theorem tl_nil {ops : Array Oper} (h : TP Z N L M .normal Q) : TL P Z N L M ops [] Q := h
theorem tq_nil {ops : Array Oper} (h : TP Z N L M .normal Q) : TQ P Z N L M ops [] (fun a => ∀ w, M.holds w → Q .normal a w) :=
  fun a hf w hm => h a w hf hm
section ops
variable {ops : Array Oper} {o : Oper} {rest : List Oper} {v : Value} {d : Nat}
theorem wanted_none (hg : o.guard = none) (t : Array Value) : Region.wanted o (yielded ops t) = true := by simp [Region.wanted, hg]
theorem wanted_some {j t : Nat} {want b : Bool} {a : Act} (hg : o.guard = some (j, want)) (hj : (ops[j]?).bind (·.dst) = some t) (hf : Fr Z N L a) (hl : L.lookup t = some (.bool b)) :
    Region.wanted o (yielded ops a.tmps) = (b == want) := by
  have := hf.2.2 t _ hl
  simp [Region.wanted, hg, yielded, hj, this]
def asks (u : Value) (want : Bool) : Bool := match u with | .bool b => b == want | _ => false
theorem wanted_any {j t : Nat} {want : Bool} {u : Value} {a : Act} (hg : o.guard = some (j, want)) (hj : (ops[j]?).bind (·.dst) = some t) (hf : Fr Z N L a) (hl : L.lookup t = some u) (hu : asks u want = false) :
    Region.wanted o (yielded ops a.tmps) = false := by
  have := hf.2.2 t _ hl
  cases u <;> simp_all [Region.wanted, yielded, asks]
theorem semAt_of {ro : Option Nat} {ρ : Operand → Value} {w w' : World} {n : Next} (h : (execOp ρ o).run P w = .ok n w') (hn : ∀ d, n ≠ .defer d) : (o.semAt ro ρ).run P w = .ok n w' := by
  rw [Oper.semAt_eq]
  · exact h
  · intro c hc
    unfold execOp at h
    simp only [hc] at h
    simp only [Sem.run_bind] at h
    cases hr : (resolve ρ c o.type).run P w with
    | ok d w2 =>
      rw [hr] at h
      simp only [Result.andThen_ok, Sem.run_pure] at h
      injection h with h1 h2
      exact hn _ h1.symm
    | halt x w2 => rw [hr] at h; simp [Result.andThen] at h
theorem calls_in {ro : Option Nat} {n : Nat} {f : FuncId} {args : Array Value} {w : World} {R : Ending → World → Prop} (h : Calls P f args w R) : CallsIn (FW ro) n P f args w R :=
  (callsIn_wide (n := n)).2 h
theorem wpIn_of {o : Oper} {a : Act} {w : World} {K : Act → World → Prop} {ro : Option Nat} (h : o.uponIn (FW ro) 0 P a K Q ((o.semAt ro a.eval).run P w)) : o.wpIn (FW ro) 0 P a w K Q := ⟨fun _ _ => trivial, h⟩
theorem wpIn_of_quietAt {a : Act} {w : World} {ro : Option Nat} {K : Act → World → Prop} (hm : M.holds w) (hq : o.quietAt P a (fun w' => Below w.heap.size w w') w v)
    (h : ∀ w', M.holds w' → K (a.put o.dst v) w') : o.wpIn (FW ro) 0 P a w K Q := by
  refine wpIn_of ?_
  unfold Oper.quietAt at hq
  cases hr : (execOp a.eval o).run P w with
  | ok n w' =>
    rw [hr] at hq
    cases n <;> simp only [Oper.quietUpon] at hq
    case value u =>
      obtain ⟨e1, e2⟩ := hq
      rw [semAt_of hr (by simp), e1, e2]
      exact h _ hm
    case skip =>
      obtain ⟨e1, e2⟩ := hq
      rw [semAt_of hr (by simp), e1]
      simp only [Oper.uponIn]
      rw [← e2]
      exact h _ hm
    case enter f args =>
      obtain ⟨e1, hc⟩ := hq
      rw [semAt_of hr (by simp), e1]
      exact ⟨fun hd => by simp [Fence.wide] at hd, calls_in (hc.mono fun e w'' ⟨he, hw''⟩ => by subst he; exact h _ (hm.ext hw''))⟩
  | halt x w' => rw [hr] at hq; simp only [Oper.quietUpon] at hq
theorem wpList_of_quietAt {a : Act} {w : World} {ro : Option Nat} (hm : M.holds w) (hwant : Region.wanted o (yielded ops a.tmps) = true) (hq : o.quietAt P a (fun w' => Below w.heap.size w w') w v)
    (h : ∀ w', M.holds w' → wpListIn (FW ro) 0 P ops Q rest (a.put o.dst v) w') : wpListIn (FW ro) 0 P ops Q (o :: rest) a w := by
  unfold wpListIn
  rw [if_pos hwant]
  exact wpIn_of_quietAt hm hq h
theorem wpList_skip' {a : Act} {w : World} {ro : Option Nat} (hw : Region.wanted o (yielded ops a.tmps) = false) (h : wpListIn (FW ro) 0 P ops Q rest (a.put o.dst undef) w) : wpListIn (FW ro) 0 P ops Q (o :: rest) a w := by
  unfold wpListIn
  rw [if_neg (by simp [hw])]
  exact ⟨fun _ _ => trivial, h⟩
theorem tl_step (hg : o.guard = none) (hd : o.dst = some d) (hN : d < N) (hq : Qv P Z N L M o v) (h : TL P Z N ((d, v) :: L) M ops rest Q) : TL P Z N L M ops (o :: rest) Q :=
  fun a w hf hm => wpList_of_quietAt hm (wanted_none hg _) (hq a hf w hm) (fun w' hm' => h _ w' (by rw [hd]; exact hf.put hN v) hm')
theorem tl_stepg {j t : Nat} {want : Bool} (hg : o.guard = some (j, want)) (hj : (ops[j]?).bind (·.dst) = some t) (hl : L.lookup t = some (.bool want)) (hd : o.dst = some d) (hN : d < N) (hq : Qv P Z N L M o v)
    (h : TL P Z N ((d, v) :: L) M ops rest Q) : TL P Z N L M ops (o :: rest) Q :=
  fun a w hf hm => wpList_of_quietAt hm (by rw [wanted_some hg hj hf hl]; simp) (hq a hf w hm) (fun w' hm' => h _ w' (by rw [hd]; exact hf.put hN v) hm')
theorem tl_skip {j t : Nat} {want : Bool} {u : Value} (hg : o.guard = some (j, want)) (hj : (ops[j]?).bind (·.dst) = some t) (hl : L.lookup t = some u) (hb : asks u want = false) (hd : o.dst = some d) (hN : d < N)
    (h : TL P Z N ((d, undef) :: L) M ops rest Q) : TL P Z N L M ops (o :: rest) Q := fun a w hf hm =>
  wpList_skip' (wanted_any hg hj hf hl hb) (h _ w (by rw [hd]; exact hf.put hN _) hm)
variable {K : Act → Prop}
theorem tq_step (hg : o.guard = none) (hd : o.dst = some d) (hN : d < N) (hq : Qv P Z N L M o v) (h : TQ P Z N ((d, v) :: L) M ops rest K) : TQ P Z N L M ops (o :: rest) K :=
  fun a hf => by
    unfold QS
    rw [if_pos (wanted_none hg _)]
    exact ⟨v, fun w hm => hq a hf w hm, h _ (by rw [hd]; exact hf.put hN v)⟩
theorem tq_stepg {j t : Nat} {want : Bool} (hg : o.guard = some (j, want)) (hj : (ops[j]?).bind (·.dst) = some t) (hl : L.lookup t = some (.bool want)) (hd : o.dst = some d) (hN : d < N) (hq : Qv P Z N L M o v)
    (h : TQ P Z N ((d, v) :: L) M ops rest K) : TQ P Z N L M ops (o :: rest) K :=
  fun a hf => by
    unfold QS
    rw [if_pos (by rw [wanted_some hg hj hf hl]; simp)]
    exact ⟨v, fun w hm => hq a hf w hm, h _ (by rw [hd]; exact hf.put hN v)⟩
theorem tq_skip {j t : Nat} {want : Bool} {u : Value} (hg : o.guard = some (j, want)) (hj : (ops[j]?).bind (·.dst) = some t) (hl : L.lookup t = some u) (hb : asks u want = false) (hd : o.dst = some d) (hN : d < N)
    (h : TQ P Z N ((d, undef) :: L) M ops rest K) : TQ P Z N L M ops (o :: rest) K := fun a hf => by
  unfold QS
  rw [if_neg (by rw [wanted_any hg hj hf hl hb]; simp)]
  exact h _ (by rw [hd]; exact hf.put hN _)
theorem TL.sub (hs : Sub L L') (h : TL P Z N L' M ops rest Q) : TL P Z N L M ops rest Q := fun a w hf hm => h a w (hf.sub hs) hm
theorem TQ.sub (hs : Sub L L') (h : TQ P Z N L' M ops rest K) : TQ P Z N L M ops rest K := fun a hf => h a (hf.sub hs)
end ops
end
end Go.Q
namespace Go.Q
open Go Go.RowKit
def Scalar (P : Program) (T : TypeId) : Prop := ∀ w, (isAgg T).run P w = .ok false w
def Agg (P : Program) (T : TypeId) (n : Nat) : Prop := ∀ w, (isAgg T).run P w = .ok true w ∧ (sizeOf T).run P w = .ok n w
def Size (P : Program) (T : TypeId) (n : Nat) : Prop := ∀ w, (sizeOf T).run P w = .ok n w
def FOff (P : Program) (S f off : Nat) : Prop := ∀ (b o : Nat) (w : World), (Instr.fieldAt S (.pointer (some ⟨b, o, none⟩)) f).run P w = .ok (.pointer (some ⟨b, o + off, none⟩)) w
def SliceTy (P : Program) (T sz : Nat) : Prop := ∃ E, P.underlying T = some (.slice E) ∧ Size P E sz
def ArrTy (P : Program) (T n sz : Nat) : Prop := ∃ E, P.underlying T = some (.array n E) ∧ Size P E sz
def Zero (P : Program) (T : TypeId) (cs : Array Value) : Prop := ∀ w, ∃ z, (zeroValue T).run P w = .ok z w ∧ z.cells = cs
def IsFn (P : Program) (f : FuncId) : Prop := ∀ args w, (callFunc f args).run P w = .ok (.enter f args) w
theorem isFn_of {P : Program} {f : FuncId} {fn : Func} (hf : P.funcs[f]? = some fn) (hn : (fn.name == "runtime.NumGoroutine") = false) (hb : fn.body.isNone = false) : IsFn P f := by
  intro args w
  simp only [callFunc, Sem.run_bind, run_program, Result.andThen_ok, hf]
  simp [hn, hb]
def Mem.has (M : Mem) (W : World) (lo hi : Nat) : Prop := ∀ w, M.holds w → hi ≤ w.heap.size ∧ ∀ b, lo ≤ b → b < hi → w.heap[b]? = W.heap[b]?
theorem Mem.has_base {B : World} {bs : List (Nat × Obj)} {ks : List Kp} {ms : List Nat} {rs : List (Option (Nat × Obj))} : Mem.has ⟨B, bs, ks, ms, rs⟩ B 0 B.heap.size := fun _ h => ⟨h.size, fun b _ hb => h.old b hb⟩
theorem Mem.has_kept {B : World} {bs : List (Nat × Obj)} {ks : List Kp} {ms : List Nat} {rs : List (Option (Nat × Obj))} {W : World} {lo hi : Nat} (h : Kin W lo hi ∈ ks) : Mem.has ⟨B, bs, ks, ms, rs⟩ W lo hi := fun _ hm => ⟨(hm.kept _ h).1, fun b h1 h2 => (hm.kept _ h).2 b h1 h2 trivial⟩
theorem add_none (b o n : Nat) : (⟨b, o, none⟩ : Addr).add n = ⟨b, o + n, none⟩ := by
  unfold Addr.add
  split
  · rename_i h; subst h; rfl
  · rfl
theorem cell_of {w : World} {b o : Nat} {cs : Array Value} {T : TypeId} {fz : Nat × Nat} {v : Value} (h : w.heap[b]? = some (.cells cs T fz)) (hv : cs[o]? = some v) : w.cell? ⟨b, o, none⟩ = some v := by
  simp [World.cell?, h, hv]
theorem cell_same {w w' : World} {b o : Nat} (h : w'.heap[b]? = w.heap[b]?) : w'.cell? ⟨b, o, none⟩ = w.cell? ⟨b, o, none⟩ := by simp [World.cell?, h]
def blk : Option Addr → Nat | some p => p.block | none => 0
def offs : Option Addr → Nat | some p => p.off | none => 0
structure SlAt {α : Type} (W : World) (lo hi sz : Nat) (enc : α → List Value) (a : Option Addr) (l : List α) : Prop where
  len : l.length ≤ maxLen
  szs : ∀ x ∈ l, (enc x).length = sz
  nz : l ≠ [] → a = some ⟨blk a, offs a, none⟩ ∧ lo ≤ blk a ∧ blk a < hi
  cell : ∀ i j x v, l[i]? = some x → (enc x)[j]? = some v → W.cell? ⟨blk a, offs a + i * sz + j, none⟩ = some v
def SlIn {α : Type} (w : World) (sz : Nat) (enc : α → List Value) (a : Option Addr) (l : List α) : Prop := SlAt w 0 w.heap.size sz enc a l
theorem SlAt.move {α : Type} {W w : World} {lo hi lo' hi' sz : Nat} {enc : α → List Value} {a : Option Addr} {l : List α} (h : SlAt W lo hi sz enc a l) (hk : ∀ b, lo ≤ b → b < hi → w.heap[b]? = W.heap[b]?)
    (h1 : lo' ≤ lo) (h2 : hi ≤ hi') : SlAt w lo' hi' sz enc a l := by
  refine ⟨h.len, h.szs, fun hn => ?_, fun i j x v hx hv => ?_⟩
  · obtain ⟨e, h3, h4⟩ := h.nz hn
    exact ⟨e, by omega, by omega⟩
  · have hn : l ≠ [] := fun e => by subst e; simp at hx
    obtain ⟨_, h3, h4⟩ := h.nz hn
    rw [cell_same (hk _ h3 h4)]
    exact h.cell i j x v hx hv
theorem SlAt.into {α : Type} {M : Mem} {W w : World} {lo hi sz : Nat} {enc : α → List Value} {a : Option Addr} {l : List α} (h : SlAt W lo hi sz enc a l) (hM : M.has W lo hi) (hm : M.holds w) : SlIn w sz enc a l :=
  h.move (hM w hm).2 (Nat.zero_le _) (hM w hm).1
theorem SlIn.ext {α : Type} {w w' : World} {sz : Nat} {enc : α → List Value} {a : Option Addr} {l : List α} (h : SlIn w sz enc a l) (hb : Below w.heap.size w w') : SlIn w' sz enc a l :=
  SlAt.move h (fun b _ hlt => hb.block b hlt) (Nat.le_refl _) hb.size
section
variable {P : Program} {Z : Env} {N : Nat} {L : List (Nat × Value)} {M : Mem} {d : Option Tmp} {ty : TypeId} {pos : String} {af : Array Edge} {g : Option (Nat × Bool)} {x y : Operand} {v : Value}
theorem qv_of {o : Oper} (h : ∀ a, Fr Z N L a → ∀ w, M.holds w → (execOp a.eval o).run P w = .ok (.value v) w) : Qv P Z N L M o v := fun a hf w hm => by
  unfold Oper.quietAt
  rw [h a hf w hm]
  exact ⟨rfl, rfl⟩
theorem qv_move (hx : ev L x = some v) : Qv P Z N L M ⟨d, .move x, ty, pos, af, g⟩ v := qv_of fun a hf w _ => by
  simp [execOp, hf.eval hx]
theorem qv_assign (hx : ev L x = some v) : Qv P Z N L M ⟨d, .assign x, ty, pos, af, g⟩ v := qv_of fun a hf w _ => by
  simp [execOp, hf.eval hx]
theorem qv_pickT {c : Operand} (hc : ev L c = some (.bool true)) (hx : ev L x = some v) : Qv P Z N L M ⟨d, .pick c x y, ty, pos, af, g⟩ v := qv_of fun a hf w _ => by
  simp [execOp, hf.eval hc, hf.eval hx, asBool]
theorem qv_pickF {c : Operand} (hc : ev L c = some (.bool false)) (hy : ev L y = some v) : Qv P Z N L M ⟨d, .pick c x y, ty, pos, af, g⟩ v := qv_of fun a hf w _ => by
  simp [execOp, hf.eval hc, hf.eval hy, asBool]
theorem qv_not {T : TypeId} {b : Bool} (hx : ev L x = some (.bool b)) : Qv P Z N L M ⟨d, .unOp .not T x, ty, pos, af, g⟩ (.bool (!b)) := qv_of fun a hf w _ => by
  simp [execOp, hf.eval hx, Op.unary]
theorem qv_neg {T : TypeId} {k : IntKind} {n : Int} (hx : ev L x = some (.int k n)) : Qv P Z N L M ⟨d, .unOp .neg T x, ty, pos, af, g⟩ (.int k (k.wrap (0 - n))) := qv_of fun a hf w _ => by
  simp [execOp, hf.eval hx, Op.unary, Op.intArith]
section ints
variable {T T' : TypeId} {k : IntKind} {m n : Int}
theorem qv_lss (hx : ev L x = some (.int k m)) (hy : ev L y = some (.int k n)) : Qv P Z N L M ⟨d, .binOp .lss T x y T', ty, pos, af, g⟩ (.bool (decide (m < n))) := qv_of fun a hf w _ => by
  simp [execOp, hf.eval hx, hf.eval hy, eqGuard, binOp, Op.intCmp]
theorem qv_leq (hx : ev L x = some (.int k m)) (hy : ev L y = some (.int k n)) : Qv P Z N L M ⟨d, .binOp .leq T x y T', ty, pos, af, g⟩ (.bool (decide (m ≤ n))) := qv_of fun a hf w _ => by
  simp [execOp, hf.eval hx, hf.eval hy, eqGuard, binOp, Op.intCmp]
theorem qv_gtr (hx : ev L x = some (.int k m)) (hy : ev L y = some (.int k n)) : Qv P Z N L M ⟨d, .binOp .gtr T x y T', ty, pos, af, g⟩ (.bool (decide (n < m))) := qv_of fun a hf w _ => by
  simp [execOp, hf.eval hx, hf.eval hy, eqGuard, binOp, Op.intCmp]
theorem qv_geq (hx : ev L x = some (.int k m)) (hy : ev L y = some (.int k n)) : Qv P Z N L M ⟨d, .binOp .geq T x y T', ty, pos, af, g⟩ (.bool (decide (n ≤ m))) := qv_of fun a hf w _ => by
  simp [execOp, hf.eval hx, hf.eval hy, eqGuard, binOp, Op.intCmp]
theorem qv_eql (hx : ev L x = some (.int k m)) (hy : ev L y = some (.int k n)) : Qv P Z N L M ⟨d, .binOp .eql T x y T', ty, pos, af, g⟩ (.bool (decide (m = n))) := qv_of fun a hf w _ => by
  have e : (m == n) = decide (m = n) := by rw [Bool.eq_iff_iff]; simp
  simp [execOp, hf.eval hx, hf.eval hy, eqGuard, binOp, Op.intCmp, e]
theorem qv_neq (hx : ev L x = some (.int k m)) (hy : ev L y = some (.int k n)) : Qv P Z N L M ⟨d, .binOp .neq T x y T', ty, pos, af, g⟩ (.bool (decide (m ≠ n))) := qv_of fun a hf w _ => by
  have e : (m != n) = decide (m ≠ n) := by rw [Bool.eq_iff_iff]; simp
  simp [execOp, hf.eval hx, hf.eval hy, eqGuard, binOp, Op.intCmp, e]
theorem qv_add (hx : ev L x = some (.int k m)) (hy : ev L y = some (.int k n)) : Qv P Z N L M ⟨d, .binOp .add T x y T', ty, pos, af, g⟩ (.int k (k.wrap (m + n))) := qv_of fun a hf w _ => by
  simp [execOp, hf.eval hx, hf.eval hy, eqGuard, binOp, Op.intArith]
theorem qv_sub (hx : ev L x = some (.int k m)) (hy : ev L y = some (.int k n)) : Qv P Z N L M ⟨d, .binOp .sub T x y T', ty, pos, af, g⟩ (.int k (k.wrap (m - n))) := qv_of fun a hf w _ => by
  simp [execOp, hf.eval hx, hf.eval hy, eqGuard, binOp, Op.intArith]
theorem qv_mul (hx : ev L x = some (.int k m)) (hy : ev L y = some (.int k n)) : Qv P Z N L M ⟨d, .binOp .mul T x y T', ty, pos, af, g⟩ (.int k (k.wrap (m * n))) := qv_of fun a hf w _ => by
  simp [execOp, hf.eval hx, hf.eval hy, eqGuard, binOp, Op.intArith]
theorem qv_quo (hx : ev L x = some (.int k m)) (hy : ev L y = some (.int k n)) (h0 : n ≠ 0) : Qv P Z N L M ⟨d, .binOp .quo T x y T', ty, pos, af, g⟩ (.int k (k.wrap (m.tdiv n))) := qv_of fun a hf w _ => by
  simp [execOp, hf.eval hx, hf.eval hy, eqGuard, binOp, Op.intDiv, h0]
theorem qv_rem (hx : ev L x = some (.int k m)) (hy : ev L y = some (.int k n)) (h0 : n ≠ 0) : Qv P Z N L M ⟨d, .binOp .rem T x y T', ty, pos, af, g⟩ (.int k (m.tmod n)) := qv_of fun a hf w _ => by
  simp [execOp, hf.eval hx, hf.eval hy, eqGuard, binOp, Op.intDiv, h0]
theorem wrap_in {n : Int} (h0 : -9223372036854775808 ≤ n) (h1 : n ≤ 9223372036854775807) : IntKind.i64.wrap n = n := IntWalk.i64_in n (by omega)
/-- sums that fit -/
theorem qv_addI (hx : ev L x = some (.int .i64 m)) (hy : ev L y = some (.int .i64 n)) (h : -9223372036854775808 ≤ m + n ∧ m + n ≤ 9223372036854775807) : Qv P Z N L M ⟨d, .binOp .add T x y T', ty, pos, af, g⟩ (.int .i64 (m + n)) := by
  have := qv_add (P := P) (Z := Z) (N := N) (M := M) (d := d) (ty := ty) (pos := pos) (af := af) (g := g) (T := T) (T' := T') hx hy
  rwa [wrap_in h.1 h.2] at this
theorem qv_subI (hx : ev L x = some (.int .i64 m)) (hy : ev L y = some (.int .i64 n)) (h : -9223372036854775808 ≤ m - n ∧ m - n ≤ 9223372036854775807) : Qv P Z N L M ⟨d, .binOp .sub T x y T', ty, pos, af, g⟩ (.int .i64 (m - n)) := by
  have := qv_sub (P := P) (Z := Z) (N := N) (M := M) (d := d) (ty := ty) (pos := pos) (af := af) (g := g) (T := T) (T' := T') hx hy
  rwa [wrap_in h.1 h.2] at this
theorem qv_mulI (hx : ev L x = some (.int .i64 m)) (hy : ev L y = some (.int .i64 n)) (h : -9223372036854775808 ≤ m * n ∧ m * n ≤ 9223372036854775807) : Qv P Z N L M ⟨d, .binOp .mul T x y T', ty, pos, af, g⟩ (.int .i64 (m * n)) := by
  have := qv_mul (P := P) (Z := Z) (N := N) (M := M) (d := d) (ty := ty) (pos := pos) (af := af) (g := g) (T := T) (T' := T') hx hy
  rwa [wrap_in h.1 h.2] at this
/-- a counter's next number -/
theorem qv_succ {i : Nat} (hx : ev L x = some (.int .i64 (i : Int))) (hy : ev L y = some (.int .i64 1)) (h : i < 9223372036854775807) : Qv P Z N L M ⟨d, .binOp .add T x y T', ty, pos, af, g⟩ (.int .i64 ((i + 1 : Nat) : Int)) := by
  exact qv_addI hx hy (by omega)
/-- remainders of numbers that are not negative -/
theorem qv_remI (hx : ev L x = some (.int k m)) (hy : ev L y = some (.int k n)) (h0 : 0 < n) (hm : 0 ≤ m) : Qv P Z N L M ⟨d, .binOp .rem T x y T', ty, pos, af, g⟩ (.int k (m % n)) := by
  have := qv_rem (P := P) (Z := Z) (N := N) (M := M) (d := d) (ty := ty) (pos := pos) (af := af) (g := g) (T := T) (T' := T') hx hy (by omega)
  rwa [Int.tmod_eq_emod_of_nonneg hm] at this
theorem qv_quoI (hx : ev L x = some (.int .i64 m)) (hy : ev L y = some (.int .i64 n)) (h0 : 0 < n) (hm : 0 ≤ m) (hb : m ≤ 9223372036854775807) : Qv P Z N L M ⟨d, .binOp .quo T x y T', ty, pos, af, g⟩ (.int .i64 (m / n)) := by
  have := qv_quo (P := P) (Z := Z) (N := N) (M := M) (d := d) (ty := ty) (pos := pos) (af := af) (g := g) (T := T) (T' := T') hx hy (by omega)
  rw [Int.tdiv_eq_ediv_of_nonneg hm] at this
  have h1 : 0 ≤ m / n := Int.ediv_nonneg hm (by omega)
  have h2 : m / n ≤ m := Int.ediv_le_self _ hm
  rwa [wrap_in (by omega) (by omega)] at this
theorem qv_min2 {at' : Array TypeId} (hx : ev L x = some (.int k m)) (hy : ev L y = some (.int k n)) : Qv P Z N L M ⟨d, .call { callee := .builtin .min, args := #[x, y], argTypes := at' }, ty, pos, af, g⟩ (.int k (if n < m then n else m)) := qv_of fun a hf w _ => by
  simp [execOp, resolve, invoke, builtin, Builtin.min_, Builtin.min2, hf.eval hx, hf.eval hy]
end ints
theorem qv_len {T : TypeId} {sz : Nat} {a : Option Addr} {n c : Nat} (hT : SliceTy P T sz) (hx : ev L x = some (.slice a n c)) : Qv P Z N L M ⟨d, .call { callee := .builtin .len, args := #[x], argTypes := #[T] }, ty, pos, af, g⟩ (.int .i64 (n : Int)) := qv_of fun a' hf w _ => by
  obtain ⟨E, hE, _⟩ := hT
  simp [execOp, resolve, invoke, builtin, Builtin.len_, hf.eval hx, run_underlying hE, goInt]
theorem qv_extract {i : Nat} {vs : Array Value} (hx : ev L x = some (.tuple vs)) (hi : vs[i]? = some v) : Qv P Z N L M ⟨d, .extract x i, ty, pos, af, g⟩ v := qv_of fun a hf w _ => by
  simp [execOp, Instr.extract, hf.eval hx, hi]
theorem qv_fa {S f off b o : Nat} (hF : FOff P S f off) (hx : ev L x = some (.pointer (some ⟨b, o, none⟩))) : Qv P Z N L M ⟨d, .fieldAddr S x f, ty, pos, af, g⟩ (.pointer (some ⟨b, o + off, none⟩)) := qv_of fun a hf w _ => by
  simp [execOp, hf.eval hx, hF b o w]
theorem qv_ia {α : Type} {T sz cap : Nat} {i : Int} {k : IntKind} {enc : α → List Value} {a : Option Addr} {l : List α} {W : World} {lo hi : Nat} (hT : SliceTy P T sz) (hs : SlAt W lo hi sz enc a l)
    (hx : ev L x = some (.slice a l.length cap)) (hy : ev L y = some (.int k i)) (h : 0 ≤ i ∧ i < l.length) : Qv P Z N L M ⟨d, .indexAddr T x y, ty, pos, af, g⟩ (.pointer (some ⟨blk a, offs a + i.toNat * sz, none⟩)) := qv_of fun a' hf w _ => by
  obtain ⟨E, hE, hsz⟩ := hT
  obtain ⟨e, _, _⟩ := hs.nz (fun e => by subst e; simp at h; omega)
  have : (Instr.indexAt T (.slice a l.length cap) (.int k i)).run P w = .ok (.pointer (some ⟨blk a, offs a + i.toNat * sz, none⟩)) w := by
    rw [e]
    simp [Instr.indexAt, asIntOf, run_underlying hE, h, hsz w, add_none, blk, offs]
  simp [execOp, hf.eval hx, hf.eval hy, this]
theorem qv_iaN {α : Type} {T sz cap : Nat} {i : Nat} {k : IntKind} {enc : α → List Value} {a : Option Addr} {l : List α} {W : World} {lo hi : Nat} (hT : SliceTy P T sz) (hs : SlAt W lo hi sz enc a l)
    (hx : ev L x = some (.slice a l.length cap)) (hy : ev L y = some (.int k (i : Int))) (h : i < l.length) : Qv P Z N L M ⟨d, .indexAddr T x y, ty, pos, af, g⟩ (.pointer (some ⟨blk a, offs a + i * sz, none⟩)) := by
  have := qv_ia (P := P) (Z := Z) (N := N) (M := M) (d := d) (ty := ty) (pos := pos) (af := af) (g := g) hT hs hx hy (by omega)
  simpa using this
/-- an element of an array behind a pointer -/
theorem qv_iA {T n sz b o : Nat} {i : Int} {k : IntKind} (hT : ArrTy P T n sz) (hx : ev L x = some (.pointer (some ⟨b, o, none⟩))) (hy : ev L y = some (.int k i)) (h : 0 ≤ i ∧ i < n) :
    Qv P Z N L M ⟨d, .indexAddr T x y, ty, pos, af, g⟩ (.pointer (some ⟨b, o + i.toNat * sz, none⟩)) := qv_of fun a' hf w _ => by
  obtain ⟨E, hE, hsz⟩ := hT
  have : (Instr.indexAt T (.pointer (some ⟨b, o, none⟩)) (.int k i)).run P w = .ok (.pointer (some ⟨b, o + i.toNat * sz, none⟩)) w := by
    simp [Instr.indexAt, asIntOf, run_underlying hE, h, hsz w, add_none, Instr.sureAddr]
  simp [execOp, hf.eval hx, hf.eval hy, this]
theorem qv_load {T : TypeId} {p : Addr} (hx : ev L x = some (.pointer (some p))) (h : ∀ w, M.holds w → (loadVar T p).run P w = .ok v w) : Qv P Z N L M ⟨d, .load T x, ty, pos, af, g⟩ v := qv_of fun a hf w hm => by
  simp [execOp, hf.eval hx, Instr.loadAt, Instr.sureAddr, h w hm]
theorem run_loadVar_scalar {T : TypeId} {p : Addr} {w : World} (hT : Scalar P T) (hc : w.cell? p = some v) : (loadVar T p).run P w = .ok v w := by
  simp [loadVar, hT w, hc]
theorem run_loadCellsFrom {w : World} {b o : Nat} (vs : List Value) : ∀ (i : Nat) (acc : Array Value), (∀ j, j < vs.length → w.cell? ⟨b, o + (i + j), none⟩ = vs[j]?) →
    (loadCellsFrom ⟨b, o, none⟩ i vs.length acc).run P w = .ok (acc ++ vs.toArray) w := by
  induction vs with
  | nil => intro i acc _; simp [loadCellsFrom]
  | cons v vs ih =>
    intro i acc h
    have h0 := h 0 (by simp)
    simp only [Nat.add_zero, List.getElem?_cons_zero] at h0
    simp only [List.length_cons, loadCellsFrom, Sem.run_bind, run_load, add_none, h0, Result.andThen_ok]
    rw [ih (i + 1) (acc.push v) (fun j hj => by
      have := h (j + 1) (by simpa using hj)
      rw [show o + (i + 1 + j) = o + (i + (j + 1)) by omega, this]
      simp)]
    simp
theorem run_loadVar_agg {T : TypeId} {w : World} {b o : Nat} {vs : List Value} (hT : Agg P T vs.length) (h : ∀ j, j < vs.length → w.cell? ⟨b, o + j, none⟩ = vs[j]?) :
    (loadVar T ⟨b, o, none⟩).run P w = .ok (.agg vs.toArray) w := by
  simp only [loadVar, Sem.run_bind, (hT w).1, Result.andThen_ok, (hT w).2, if_true, loadCells]
  rw [run_loadCellsFrom vs 0 #[] (fun j hj => by rw [Nat.zero_add]; exact h j hj)]
  simp
/-- out of a box -/
theorem qv_ldB {T : TypeId} {B : World} {bs : List (Nat × Obj)} {ks : List Kp} {ms : List Nat} {rs : List (Option (Nat × Obj))} {i b o : Nat} {cs : Array Value} {T0 : TypeId} {fz : Nat × Nat} (hT : Scalar P T) (hx : ev L x = some (.pointer (some ⟨b, o, none⟩)))
    (hi : bs[i]? = some (b, .cells cs T0 fz)) (ho : cs[o]? = some v) : Qv P Z N L ⟨B, bs, ks, ms, rs⟩ ⟨d, .load T x, ty, pos, af, g⟩ v :=
  qv_load hx fun w hm => run_loadVar_scalar hT (cell_of (hm.boxOf (List.mem_of_getElem? hi)).2 ho)
theorem qv_ldBA {T : TypeId} {B : World} {bs : List (Nat × Obj)} {ks : List Kp} {ms : List Nat} {rs : List (Option (Nat × Obj))} {i b o n : Nat} {cs : Array Value} {T0 : TypeId} {fz : Nat × Nat} {vs : List Value} (hT : Agg P T n) (hx : ev L x = some (.pointer (some ⟨b, o, none⟩)))
    (hi : bs[i]? = some (b, .cells cs T0 fz)) (hn : vs.length = n) (ho : ∀ j, j < n → cs[o + j]? = vs[j]?) : Qv P Z N L ⟨B, bs, ks, ms, rs⟩ ⟨d, .load T x, ty, pos, af, g⟩ (.agg vs.toArray) :=
  qv_load hx fun w hm => run_loadVar_agg (hn ▸ hT) fun j hj => by
    rw [← ho j (hn ▸ hj)]
    have hb := (hm.boxOf (List.mem_of_getElem? hi)).2
    simp [World.cell?, hb]
/-- a box as a whole -/
theorem qv_ldBW {T : TypeId} {B : World} {bs : List (Nat × Obj)} {ks : List Kp} {ms : List Nat} {rs : List (Option (Nat × Obj))} {i b n : Nat} {cs : Array Value} {T0 : TypeId} {fz : Nat × Nat} (hT : Agg P T n) (hx : ev L x = some (.pointer (some ⟨b, 0, none⟩)))
    (hi : bs[i]? = some (b, .cells cs T0 fz)) (hn : cs.size = n) : Qv P Z N L ⟨B, bs, ks, ms, rs⟩ ⟨d, .load T x, ty, pos, af, g⟩ (.agg cs) := by
  have := qv_ldBA (P := P) (Z := Z) (N := N) (B := B) (ks := ks) (ms := ms) (rs := rs) (d := d) (ty := ty) (pos := pos) (af := af) (g := g) (vs := cs.toList) hT hx hi (by simpa using hn) (fun j _ => by simp)
  simpa using this
/-- out of a block that lay before the call -/
theorem qv_ldO {T : TypeId} {b o : Nat} {cs : Array Value} {T0 : TypeId} {fz : Nat × Nat} (hT : Scalar P T) (hx : ev L x = some (.pointer (some ⟨b, o, none⟩)))
    (hi : M.base.heap[b]? = some (.cells cs T0 fz)) (ho : cs[o]? = some v) : Qv P Z N L M ⟨d, .load T x, ty, pos, af, g⟩ v :=
  qv_load hx fun w hm => run_loadVar_scalar hT (cell_of (by rw [hm.old b (get_lt hi)]; exact hi) ho)
section elems
variable {α : Type} {W : World} {lo hi sz : Nat} {enc : α → List Value} {a : Option Addr} {l : List α} {e : α}
/-- a part of an element of a slice -/
theorem qv_ldE {T : TypeId} {o i j : Nat} (hT : Scalar P T) (hs : SlAt W lo hi sz enc a l) (hM : M.has W lo hi) (hx : ev L x = some (.pointer (some ⟨blk a, o, none⟩))) (ho : o = offs a + i * sz + j)
    (he : l[i]? = some e) (hv : (enc e)[j]? = some v) : Qv P Z N L M ⟨d, .load T x, ty, pos, af, g⟩ v :=
  qv_load hx fun w hm => run_loadVar_scalar hT (by
    subst ho
    obtain ⟨_, h1, h2⟩ := hs.nz (fun e => by subst e; simp at he)
    rw [cell_same ((hM w hm).2 _ h1 h2)]
    exact hs.cell i j e v he hv)
/-- an element as a whole -/
theorem qv_ldEW {T : TypeId} {i : Nat} (hT : Agg P T sz) (hs : SlAt W lo hi sz enc a l) (hM : M.has W lo hi) (hx : ev L x = some (.pointer (some ⟨blk a, offs a + i * sz, none⟩)))
    (he : l[i]? = some e) : Qv P Z N L M ⟨d, .load T x, ty, pos, af, g⟩ (.agg (enc e).toArray) :=
  qv_load hx fun w hm => run_loadVar_agg (hs.szs e (List.mem_of_getElem? he) ▸ hT) fun j hj => by
    obtain ⟨_, h1, h2⟩ := hs.nz (fun e => by subst e; simp at he)
    rw [cell_same ((hM w hm).2 _ h1 h2), List.getElem?_eq_getElem hj]
    exact hs.cell i j e _ he (List.getElem?_eq_getElem hj)
end elems
def evs (L : List (Nat × Value)) : List Operand → Option (List Value)
  | [] => some []
  | o :: os => match ev L o, evs L os with
    | some v, some vs => some (v :: vs)
    | _, _ => none
theorem evs_map {a : Act} (hf : Fr Z N L a) : ∀ {l : List Operand} {vs : List Value}, evs L l = some vs → l.map a.eval = vs
  | [], vs, h => by simp [evs] at h; subst h; rfl
  | o :: os, vs, h => by
    simp only [evs] at h
    split at h
    · rename_i v us h1 h2
      cases h
      simp [hf.eval h1, evs_map hf h2]
    · cases h
theorem run_call {f : FuncId} {args : Array Operand} {at' : Array TypeId} {vs caps : List Value} {fo : Operand} {ac : Act} (hf : Fr Z N L ac) (hF : IsFn P f) (hfo : ev L fo = some (.func (.func f) #[] caps.toArray)) (hvs : evs L args.toList = some vs) (w : World) :
    (execOp ac.eval ⟨d, .call { callee := .value fo, args := args, argTypes := at' }, ty, pos, af, g⟩).run P w = .ok (.enter f (vs ++ caps).toArray) w := by
  have h1 : args.map ac.eval = vs.toArray := by
    apply Array.ext'
    simpa using evs_map hf hvs
  simp [execOp, resolve, hf.eval hfo, Deferred.ofValue, invoke, h1, hF _ w]
/-- a call that only reads, or makes new blocks; its result is a plain value -/
theorem qv_callV {f : FuncId} {args : Array Operand} {at' : Array TypeId} {vs caps : List Value} {fo : Operand} (hF : IsFn P f) (hfo : ev L fo = some (.func (.func f) #[] caps.toArray)) (hvs : evs L args.toList = some vs)
    (hC : ∀ w, M.holds w → Calls P f (vs ++ caps).toArray w fun e w' => e = .returned v ∧ Below w.heap.size w w') :
    Qv P Z N L M ⟨d, .call { callee := .value fo, args := args, argTypes := at' }, ty, pos, af, g⟩ v := fun ac hf w hm => by
  unfold Oper.quietAt
  rw [run_call hf hF hfo hvs w]
  exact ⟨rfl, hC w hm⟩
theorem qv_call {f : FuncId} {args : Array Operand} {at' : Array TypeId} {vs : List Value} (hF : IsFn P f) (hvs : evs L args.toList = some vs)
    (hC : ∀ w, M.holds w → Calls P f vs.toArray w fun e w' => e = .returned v ∧ Below w.heap.size w w') :
    Qv P Z N L M ⟨d, .call { callee := .value (.func f), args := args, argTypes := at' }, ty, pos, af, g⟩ v :=
  qv_callV (caps := []) hF rfl hvs (by simpa using hC)
end
section
variable {P : Program} {Z : Env} {N : Nat} {L : List (Nat × Value)} {M : Mem} {Q : Exit → Act → World → Prop} {ops : Array Oper} {rest : List Oper} {dd : Tmp} {ty : TypeId} {pos : String} {af : Array Edge} {x y : Operand} {v : Value}
theorem wpList_value {o : Oper} {a : Act} {w w' : World} {u : Value} {ro : Option Nat} (hg : o.guard = none) (hr : (execOp a.eval o).run P w = .ok (.value u) w') (h : wpListIn (FW ro) 0 P ops Q rest (a.put o.dst u) w') : wpListIn (FW ro) 0 P ops Q (o :: rest) a w := by
  unfold wpListIn
  rw [if_pos (by simp [Region.wanted, hg])]
  refine wpIn_of ?_
  rw [semAt_of hr (by simp)]
  exact h
theorem wpList_skipv {o : Oper} {a : Act} {w w' : World} {ro : Option Nat} (hg : o.guard = none) (hr : (execOp a.eval o).run P w = .ok .skip w') (h : wpListIn (FW ro) 0 P ops Q rest (a.put o.dst undef) w') : wpListIn (FW ro) 0 P ops Q (o :: rest) a w := by
  unfold wpListIn
  rw [if_pos (by simp [Region.wanted, hg])]
  refine wpIn_of ?_
  rw [semAt_of hr (by simp)]
  exact h
theorem wpList_enter {o : Oper} {a : Act} {w w' : World} {f : FuncId} {args : Array Value} {ro : Option Nat} (hg : o.guard = none) (hr : (execOp a.eval o).run P w = .ok (.enter f args) w') (h : Calls P f args w' fun e w'' => ∃ u, e = .returned u ∧ wpListIn (FW ro) 0 P ops Q rest (a.put o.dst u) w'') : wpListIn (FW ro) 0 P ops Q (o :: rest) a w := by
  unfold wpListIn
  rw [if_pos (by simp [Region.wanted, hg])]
  refine wpIn_of ?_
  rw [semAt_of hr (by simp)]
  exact ⟨fun hd => by simp [Fence.wide] at hd, calls_in (h.mono fun e w'' ⟨u, he, hk⟩ => by subst he; exact hk)⟩
theorem tl_box {T : TypeId} {B : World} {bs : List (Nat × Obj)} {ks : List Kp} {ms : List Nat} {rs : List (Option (Nat × Obj))} (hx : ev L x = some v) (hd : dd < N) (h : ∀ b, TL P Z N ((dd, .pointer (some ⟨b, 0, none⟩)) :: L) ⟨B, (b, .cells v.cells T (0, 0)) :: bs, ks, ms, rs⟩ ops rest Q) :
    TL P Z N L ⟨B, bs, ks, ms, rs⟩ ops (⟨some dd, .box T x, ty, pos, af, none⟩ :: rest) Q := fun a w hf hm =>
  wpList_value rfl (w' := w.alloc (.cells v.cells T)) (u := .pointer (some ⟨w.heap.size, 0, none⟩)) (by simp [execOp, hf.eval hx, Instr.box, newVar, newRow])
    (h w.heap.size _ _ (hf.put hd _) (hm.alloc _))
theorem tl_alloc {T : TypeId} {B : World} {bs : List (Nat × Obj)} {ks : List Kp} {ms : List Nat} {rs : List (Option (Nat × Obj))} {cs : Array Value} (hz : Zero P T cs) (hd : dd < N) (h : ∀ b, TL P Z N ((dd, .pointer (some ⟨b, 0, none⟩)) :: L) ⟨B, (b, .cells cs T (0, 0)) :: bs, ks, ms, rs⟩ ops rest Q) :
    TL P Z N L ⟨B, bs, ks, ms, rs⟩ ops (⟨some dd, .alloc T, ty, pos, af, none⟩ :: rest) Q := fun a w hf hm => by
  obtain ⟨z, h1, h2⟩ := hz w
  subst h2
  exact wpList_value rfl (w' := w.alloc (.cells z.cells T)) (u := .pointer (some ⟨w.heap.size, 0, none⟩)) (by simp [execOp, Instr.alloc, h1, newVar, newRow])
    (h w.heap.size _ _ (hf.put hd _) (hm.alloc _))
theorem putBlock_same {w : World} {b : Nat} {o : Obj} (h : w.heap[b]? = some o) : putBlock w b o = w := by
  have hb := get_lt h
  have : w.heap.setIfInBounds b o = w.heap := by
    apply Array.ext_getElem?
    intro i
    rw [Array.getElem?_setIfInBounds]
    split
    · rename_i e; subst e; exact h.symm
    · rfl
  unfold putBlock
  rw [this]
theorem run_storeCells {b o : Nat} {T : TypeId} (us : List Value) (hone : ∀ u ∈ us, u.oneCell' = true) : ∀ (i : Nat) (cs : Array Value) (w : World), w.heap[b]? = some (.cells cs T (0, 0)) → o + i + us.length ≤ cs.size →
    (storeCells ⟨b, o, none⟩ us i).run P w = .ok () (putBlock w b (.cells ((us.zipIdx i).foldl (fun c p => c.setIfInBounds (o + p.2) p.1) cs) T (0, 0))) := by
  induction us with
  | nil =>
    intro i cs w h _
    simp [storeCells, putBlock_same h]
  | cons u us ih =>
    intro i cs w h hsz
    simp only [List.length_cons] at hsz
    have hc : w.cell? ⟨b, o + i, none⟩ = some (cs[o + i]'(by omega)) := cell_of h (by simp)
    have hfz : w.frozen? ⟨b, o + i, none⟩ = false := by simp [World.frozen?, h]
    have hb := get_lt h
    simp only [storeCells, Sem.run_bind, add_none, run_store P w _ u .plain (hone u (by simp)), hc, hfz, Bool.false_eq_true, if_false, Result.andThen_ok, setCell_eq h]
    rw [ih (fun u hu => hone u (List.mem_cons_of_mem _ hu)) (i + 1) (cs.setIfInBounds (o + i) u) _ (by simp [putBlock, hb]) (by simp; omega)]
    simp [putBlock, List.zipIdx_cons]
theorem foldl_set_size (o : Nat) : ∀ (l : List (Value × Nat)) (cs : Array Value), (l.foldl (fun c p => c.setIfInBounds (o + p.2) p.1) cs).size = cs.size
  | [], cs => rfl
  | p :: l, cs => by rw [List.foldl_cons, foldl_set_size o l]; simp
theorem foldl_set_get (o : Nat) : ∀ (us : List Value) (i : Nat) (cs : Array Value) (j : Nat), j < cs.size → o + i + us.length ≤ cs.size →
    ((us.zipIdx i).foldl (fun c p => c.setIfInBounds (o + p.2) p.1) cs)[j]? = if o + i ≤ j ∧ j < o + i + us.length then us[j - (o + i)]? else cs[j]?
  | [], i, cs, j, _, _ => by simp; omega
  | u :: us, i, cs, j, hj, hs => by
    simp only [List.length_cons] at hs
    rw [List.zipIdx_cons, List.foldl_cons, foldl_set_get o us (i + 1) _ j (by simpa using hj) (by simp; omega)]
    simp only [List.length_cons]
    by_cases h1 : j = o + i
    · subst h1
      rw [if_neg (by omega), if_pos (by omega)]
      simp only [Nat.sub_self, List.getElem?_cons_zero]
      rw [Array.getElem?_setIfInBounds_self]
      simp [hj]
    · by_cases h2 : o + (i + 1) ≤ j ∧ j < o + (i + 1) + us.length
      · rw [if_pos h2, if_pos (by omega)]
        have : j - (o + i) = (j - (o + (i + 1))) + 1 := by omega
        rw [this]
        simp
      · rw [if_neg h2, if_neg (by omega), Array.getElem?_setIfInBounds_ne (by omega)]
/-- what a whole variable holds behind a store -/
theorem foldl_set_whole (us : List Value) (cs : Array Value) (h : cs.size = us.length) : (us.zipIdx 0).foldl (fun c p => c.setIfInBounds (0 + p.2) p.1) cs = us.toArray := by
  apply Array.ext_getElem?
  intro j
  by_cases hj : j < cs.size
  · rw [foldl_set_get 0 us 0 cs j hj (by omega), if_pos (by omega)]
    simp
  · rw [Array.getElem?_eq_none (by rw [foldl_set_size]; omega), Array.getElem?_eq_none (by simp; omega)]
/-- a store into a box, the whole of it -/
theorem tl_storeW {T : TypeId} {B : World} {bs : List (Nat × Obj)} {ks : List Kp} {ms : List Nat} {rs : List (Option (Nat × Obj))} {i b : Nat} {cs us : Array Value} {T0 : TypeId} (hS : Size P T us.size) (hx : ev L x = some (.pointer (some ⟨b, 0, none⟩))) (hy : ev L y = some v)
    (hi : bs[i]? = some (b, .cells cs T0 (0, 0))) (hu : v.cells = us) (hone : ∀ u ∈ us.toList, u.oneCell' = true) (hn : cs.size = us.size)
    (h : TL P Z N L ⟨B, bs.set i (b, .cells us T0 (0, 0)), ks, ms, rs⟩ ops rest Q) : TL P Z N L ⟨B, bs, ks, ms, rs⟩ ops (⟨none, .store T x y, ty, pos, af, none⟩ :: rest) Q := fun a w hf hm => by
  have hb := (hm.boxOf (List.mem_of_getElem? hi)).2
  refine wpList_skipv rfl (w' := putBlock w b (.cells us T0 (0, 0))) ?_ (h _ _ (hf.put_none _) (hm.put hi _))
  have hS' := hS w
  simp only [execOp, hf.eval hx, hf.eval hy, Instr.storeAt, Instr.sureAddr, storeVar, hu, Sem.run_bind, Sem.run_pure, Result.andThen_ok, hS', ne_eq, not_true_eq_false, if_false]
  rw [run_storeCells us.toList hone 0 cs w hb (by simp [hn])]
  rw [foldl_set_whole us.toList cs (by simpa using hn)]
  simp
/-- a store of one cell into a box -/
theorem tl_store1 {T : TypeId} {B : World} {bs : List (Nat × Obj)} {ks : List Kp} {ms : List Nat} {rs : List (Option (Nat × Obj))} {i b o : Nat} {cs : Array Value} {T0 : TypeId} (hS : Size P T 1) (hx : ev L x = some (.pointer (some ⟨b, o, none⟩))) (hy : ev L y = some v)
    (hi : bs[i]? = some (b, .cells cs T0 (0, 0))) (hu : v.cells = #[v]) (hone : v.oneCell' = true) (hn : o < cs.size)
    (h : TL P Z N L ⟨B, bs.set i (b, .cells (cs.setIfInBounds o v) T0 (0, 0)), ks, ms, rs⟩ ops rest Q) : TL P Z N L ⟨B, bs, ks, ms, rs⟩ ops (⟨none, .store T x y, ty, pos, af, none⟩ :: rest) Q := fun a w hf hm => by
  have hb := (hm.boxOf (List.mem_of_getElem? hi)).2
  refine wpList_skipv rfl (w' := putBlock w b (.cells (cs.setIfInBounds o v) T0 (0, 0))) ?_ (h _ _ (hf.put_none _) (hm.put hi _))
  have hS' := hS w
  simp only [execOp, hf.eval hx, hf.eval hy, Instr.storeAt, Instr.sureAddr, storeVar, hu, Sem.run_bind, Sem.run_pure, Result.andThen_ok, hS', ne_eq, List.size_toArray, List.length_cons, List.length_nil, Nat.zero_add, not_true_eq_false, if_false]
  rw [run_storeCells [v] (by simpa using hone) 0 cs w hb (by simp; omega)]
  simp
/-- a call that hands back something new -/
theorem tl_callR {β : Type} {B : World} {bs : List (Nat × Obj)} {ks : List Kp} {ms : List Nat} {rs : List (Option (Nat × Obj))} {val : β → Value} {R : β → World → World → Prop} {f : FuncId} {args : Array Operand} {at' : Array TypeId} {vs : List Value} (hF : IsFn P f) (hvs : evs L args.toList = some vs) (hd : dd < N)
    (hC : ∀ w, Mem.holds ⟨B, bs, ks, ms, rs⟩ w → Calls P f vs.toArray w fun e w' => ∃ r, e = .returned (val r) ∧ Below w.heap.size w w' ∧ R r w w')
    (h : ∀ r w1 w2, Mem.holds ⟨B, bs, ks, ms, rs⟩ w1 → Below w1.heap.size w1 w2 → R r w1 w2 → TL P Z N ((dd, val r) :: L) ⟨B, bs, Kin w2 w1.heap.size w2.heap.size :: ks, ms, rs⟩ ops rest Q) :
    TL P Z N L ⟨B, bs, ks, ms, rs⟩ ops (⟨some dd, .call { callee := .value (.func f), args := args, argTypes := at' }, ty, pos, af, none⟩ :: rest) Q := fun a w hf hm => by
  refine wpList_enter rfl (run_call (caps := []) hf hF rfl hvs w) ?_
  refine (show Calls P f (vs ++ []).toArray w _ by rw [List.append_nil]; exact hC w hm).mono ?_
  rintro e w' ⟨r, rfl, hb, hr⟩
  exact ⟨_, rfl, h r w w' hm hb hr _ _ (hf.put hd _) (hm.keep hb)⟩
end
end Go.Q
namespace Go.Q
open Go Go.RowKit
section
variable {P : Program} {Z : Env} {N : Nat} {L : List (Nat × Value)} {M : Mem} {Q : Exit → Act → World → Prop} {ops : Array Oper} {rest : List Oper} {o : Oper} {d : Nat} {K : Act → Prop}
theorem tl_bool {b : Bool} (hg : o.guard = none) (hd : o.dst = some d) (hN : d < N) (hq : Qv P Z N L M o (.bool b)) (ht : b = true → TL P Z N ((d, .bool true) :: L) M ops rest Q) (hf : b = false → TL P Z N ((d, .bool false) :: L) M ops rest Q) :
    TL P Z N L M ops (o :: rest) Q := by
  cases b
  · exact tl_step hg hd hN hq (hf rfl)
  · exact tl_step hg hd hN hq (ht rfl)
theorem tl_dec {p : Prop} [Decidable p] (hg : o.guard = none) (hd : o.dst = some d) (hN : d < N) (hq : Qv P Z N L M o (.bool (decide p))) (ht : p → TL P Z N ((d, .bool true) :: L) M ops rest Q) (hf : ¬ p → TL P Z N ((d, .bool false) :: L) M ops rest Q) :
    TL P Z N L M ops (o :: rest) Q := tl_bool hg hd hN hq (fun e => ht (by simpa using e)) (fun e => hf (by simpa using e))
theorem tl_boolg {j t : Nat} {want : Bool} {b : Bool} (hg : o.guard = some (j, want)) (hj : (ops[j]?).bind (·.dst) = some t) (hl : L.lookup t = some (.bool want)) (hd : o.dst = some d) (hN : d < N) (hq : Qv P Z N L M o (.bool b))
    (ht : b = true → TL P Z N ((d, .bool true) :: L) M ops rest Q) (hf : b = false → TL P Z N ((d, .bool false) :: L) M ops rest Q) :
    TL P Z N L M ops (o :: rest) Q := by
  cases b
  · exact tl_stepg hg hj hl hd hN hq (hf rfl)
  · exact tl_stepg hg hj hl hd hN hq (ht rfl)
theorem tl_decg {j t : Nat} {want : Bool} {p : Prop} [Decidable p] (hg : o.guard = some (j, want)) (hj : (ops[j]?).bind (·.dst) = some t) (hl : L.lookup t = some (.bool want)) (hd : o.dst = some d) (hN : d < N) (hq : Qv P Z N L M o (.bool (decide p)))
    (ht : p → TL P Z N ((d, .bool true) :: L) M ops rest Q) (hf : ¬ p → TL P Z N ((d, .bool false) :: L) M ops rest Q) :
    TL P Z N L M ops (o :: rest) Q := tl_boolg hg hj hl hd hN hq (fun e => ht (by simpa using e)) (fun e => hf (by simpa using e))
theorem tq_bool {b : Bool} (hg : o.guard = none) (hd : o.dst = some d) (hN : d < N) (hq : Qv P Z N L M o (.bool b)) (ht : b = true → TQ P Z N ((d, .bool true) :: L) M ops rest K) (hf : b = false → TQ P Z N ((d, .bool false) :: L) M ops rest K) :
    TQ P Z N L M ops (o :: rest) K := by
  cases b
  · exact tq_step hg hd hN hq (hf rfl)
  · exact tq_step hg hd hN hq (ht rfl)
theorem tq_dec {p : Prop} [Decidable p] (hg : o.guard = none) (hd : o.dst = some d) (hN : d < N) (hq : Qv P Z N L M o (.bool (decide p))) (ht : p → TQ P Z N ((d, .bool true) :: L) M ops rest K) (hf : ¬ p → TQ P Z N ((d, .bool false) :: L) M ops rest K) :
    TQ P Z N L M ops (o :: rest) K := tq_bool hg hd hN hq (fun e => ht (by simpa using e)) (fun e => hf (by simpa using e))
theorem tq_boolg {j t : Nat} {want : Bool} {b : Bool} (hg : o.guard = some (j, want)) (hj : (ops[j]?).bind (·.dst) = some t) (hl : L.lookup t = some (.bool want)) (hd : o.dst = some d) (hN : d < N) (hq : Qv P Z N L M o (.bool b))
    (ht : b = true → TQ P Z N ((d, .bool true) :: L) M ops rest K) (hf : b = false → TQ P Z N ((d, .bool false) :: L) M ops rest K) :
    TQ P Z N L M ops (o :: rest) K := by
  cases b
  · exact tq_stepg hg hj hl hd hN hq (hf rfl)
  · exact tq_stepg hg hj hl hd hN hq (ht rfl)
theorem tq_decg {j t : Nat} {want : Bool} {p : Prop} [Decidable p] (hg : o.guard = some (j, want)) (hj : (ops[j]?).bind (·.dst) = some t) (hl : L.lookup t = some (.bool want)) (hd : o.dst = some d) (hN : d < N) (hq : Qv P Z N L M o (.bool (decide p)))
    (ht : p → TQ P Z N ((d, .bool true) :: L) M ops rest K) (hf : ¬ p → TQ P Z N ((d, .bool false) :: L) M ops rest K) :
    TQ P Z N L M ops (o :: rest) K := tq_boolg hg hj hl hd hN hq (fun e => ht (by simpa using e)) (fun e => hf (by simpa using e))
theorem get_ex {α : Type} {l : List α} {i : Int} (h : 0 ≤ i ∧ i < l.length) : ∃ e, l[i.toNat]? = some e := ⟨_, List.getElem?_eq_getElem (by omega)⟩
theorem get_exN {α : Type} {l : List α} {i : Nat} (h : i < l.length) : ∃ e, l[i]? = some e := ⟨_, List.getElem?_eq_getElem h⟩
theorem Fr.vary {V : List (Nat × Value)} {a : Act} (h : Fr Z N L a) (hV : Sub L V) : Fr Z N (V ++ L) a := by
  refine ⟨h.1, h.2.1, fun t v hl => ?_⟩
  rw [List.lookup_append] at hl
  cases hv : V.lookup t with
  | none => rw [hv] at hl; exact h.2.2 t v (by simpa using hl)
  | some u =>
    rw [hv] at hl
    simp at hl
    subst hl
    exact h.2.2 t _ (hV.lookup t _ hv)
theorem lookup_take_drop (L : List (Nat × Value)) (m t : Nat) : L.lookup t = ((L.take m).lookup t).or ((L.drop m).lookup t) := by
  conv => lhs; rw [← List.take_append_drop m L]
  rw [List.lookup_append]
def hasKey (V : List (Nat × Value)) (t : Nat) : Bool := V.any (fun p => p.1 == t)
theorem lookup_none_of_hasKey {V : List (Nat × Value)} {t : Nat} : (V.lookup t = none) → hasKey V t = false := by
  induction V with
  | nil => intro _; rfl
  | cons p V ih =>
    obtain ⟨s, u⟩ := p
    intro h
    simp only [List.lookup_cons] at h
    by_cases e : t = s
    · subst e; simp at h
    · have hb : (t == s) = false := by simpa using e
      rw [hb] at h
      have := ih h
      simp only [hasKey, List.any_cons] at this ⊢
      rw [this]
      simpa using fun e' => e e'.symm
/-- the slots at a round's end: those that vary have their new values, the others their old ones -/
theorem Fr.again {Le V : List (Nat × Value)} {a : Act} (h : Fr Z N Le a) (hV : Sub Le V) (hE : Le.drop (Le.length - L.length) = L)
    (hk : (Le.take (Le.length - L.length)).all (fun p => hasKey V p.1 || (L.lookup p.1).isNone) = true) : Fr Z N (V ++ L) a := by
  refine ⟨h.1, h.2.1, fun t v hl => ?_⟩
  rw [List.lookup_append] at hl
  cases hv : V.lookup t with
  | some u =>
    rw [hv] at hl
    simp at hl
    subst hl
    exact h.2.2 t _ (hV.lookup t _ hv)
  | none =>
    rw [hv] at hl
    simp at hl
    refine h.2.2 t v ?_
    rw [lookup_take_drop Le (Le.length - L.length) t, hE]
    have : (Le.take (Le.length - L.length)).lookup t = none := by
      have hk' := List.all_eq_true.1 hk
      cases hx : (Le.take (Le.length - L.length)).lookup t with
      | none => rfl
      | some u =>
        have hmem : (t, u) ∈ Le.take (Le.length - L.length) := by
          clear hk' hk hE
          generalize Le.take (Le.length - L.length) = T at hx ⊢
          induction T with
          | nil => simp at hx
          | cons p T ih =>
            obtain ⟨s, u'⟩ := p
            simp only [List.lookup_cons] at hx
            by_cases e : t = s
            · subst e; simp at hx; subst hx; simp
            · have hb : (t == s) = false := by simpa using e
              rw [hb] at hx
              exact List.mem_cons_of_mem _ (ih hx)
        have := hk' _ hmem
        rw [lookup_none_of_hasKey hv, hl] at this
        simp at this
    rw [this]
    simpa using hl
/-- a loop by a ghost; V: the slots that vary -/
theorem tc_loopV {β : Type} {c : Code} (V : β → List (Nat × Value)) (Me : β → Mem) (I : β → Prop) (μ : β → Nat) (b₀ : β) (h0 : I b₀) (hL : Sub L (V b₀)) (hM : ∀ w, M.holds w → (Me b₀).holds w)
    (round : ∀ b, I b → TC P Z N (V b ++ L) (Me b) c (Exit.then (fun a w => ∃ b', I b' ∧ μ b' < μ b ∧ Fr Z N (V b' ++ L) a ∧ (Me b').holds w) Q)) : TC P Z N L M (.loop c) Q :=
  tc_loop (fun b => V b ++ L) Me I μ b₀ h0 (fun _ h => h.vary hL) hM round
/-- a loop that leaves the boxes as they are -/
theorem tc_loopS {β : Type} {c : Code} (V : β → List (Nat × Value)) (I : β → Prop) (μ : β → Nat) (b₀ : β) (h0 : I b₀) (hL : Sub L (V b₀))
    (round : ∀ b, I b → TC P Z N (V b ++ L) M c (Exit.then (fun a w => ∃ b', I b' ∧ μ b' < μ b ∧ Fr Z N (V b' ++ L) a ∧ M.holds w) Q)) : TC P Z N L M (.loop c) Q :=
  tc_loopV V (fun _ => M) I μ b₀ h0 hL (fun _ h => h) round
theorem tp_roundS {β : Type} {V : β → List (Nat × Value)} {I : β → Prop} {μ : β → Nat} {b : β} {Le : List (Nat × Value)} {B : World} {bs bs' : List (Nat × Obj)} {ks ks' : List Kp} {ms : List Nat} {rs : List (Option (Nat × Obj))} (b' : β) (hI : I b') (hμ : μ b' < μ b) (hV : Sub Le (V b')) (hE : Le.drop (Le.length - L.length) = L)
    (hk : (Le.take (Le.length - L.length)).all (fun p => hasKey (V b') p.1 || (L.lookup p.1).isNone) = true) (h1 : bs'.drop (bs'.length - bs.length) = bs) (h2 : ks'.drop (ks'.length - ks.length) = ks) :
    TP Z N Le ⟨B, bs', ks', ms, rs⟩ .normal (Exit.then (fun a w => ∃ b', I b' ∧ μ b' < μ b ∧ Fr Z N (V b' ++ L) a ∧ Mem.holds ⟨B, bs, ks, ms, rs⟩ w) Q) :=
  fun _ w hf hm => ⟨b', hI, hμ, hf.again hV hE hk, hm.less (h1 ▸ List.drop_sublist _ _) (h2 ▸ List.drop_sublist _ _)⟩
end
end Go.Q
namespace Go.Q
open Go Go.RowKit
section
variable {P : Program} {Z : Env} {N : Nat} {L : List (Nat × Value)} {M : Mem} {Q : Exit → Act → World → Prop} {ops : Array Oper} {rest : List Oper} {o : Oper} {d : Nat} {K : Act → Prop}
theorem s0 {v : Value} (hq : Qv P Z N L M o v) (h : TL P Z N ((d, v) :: L) M ops rest Q) (hg : o.guard = none := by rfl) (hd : o.dst = some d := by rfl) (hN : d < N := by decide) : TL P Z N L M ops (o :: rest) Q := tl_step hg hd hN hq h
theorem sb {b : Bool} (hq : Qv P Z N L M o (.bool b)) (ht : b = true → TL P Z N ((d, .bool true) :: L) M ops rest Q) (hf : b = false → TL P Z N ((d, .bool false) :: L) M ops rest Q) (hg : o.guard = none := by rfl) (hd : o.dst = some d := by rfl) (hN : d < N := by decide) : TL P Z N L M ops (o :: rest) Q := tl_bool hg hd hN hq ht hf
theorem sd {p : Prop} [Decidable p] (hq : Qv P Z N L M o (.bool (decide p))) (ht : p → TL P Z N ((d, .bool true) :: L) M ops rest Q) (hf : ¬ p → TL P Z N ((d, .bool false) :: L) M ops rest Q) (hg : o.guard = none := by rfl) (hd : o.dst = some d := by rfl) (hN : d < N := by decide) : TL P Z N L M ops (o :: rest) Q := tl_dec hg hd hN hq ht hf
theorem si {α : Type} {T sz cap : Nat} {k : IntKind} {enc : α → List Value} {a : Option Addr} {l : List α} {W : World} {lo hi : Nat} {x y : Operand} {ty : TypeId} {pos : String} {af : Array Edge} {i : Int} (hT : SliceTy P T sz) (hs : SlAt W lo hi sz enc a l) (hx : ev L x = some (.slice a l.length cap)) (hy : ev L y = some (.int k i)) (hb : 0 ≤ i ∧ i < l.length) (h : ∀ e, l[i.toNat]? = some e → TL P Z N ((d, .pointer (some ⟨blk a, offs a + i.toNat * sz, none⟩)) :: L) M ops rest Q) (hN : d < N := by decide) : TL P Z N L M ops (⟨some d, .indexAddr T x y, ty, pos, af, none⟩ :: rest) Q := by
  obtain ⟨e, he⟩ := get_ex hb
  exact tl_step rfl rfl hN (qv_ia hT hs hx hy hb) (h e he)
theorem sn {α : Type} {T sz cap : Nat} {k : IntKind} {enc : α → List Value} {a : Option Addr} {l : List α} {W : World} {lo hi : Nat} {x y : Operand} {ty : TypeId} {pos : String} {af : Array Edge} {i : Nat} (hT : SliceTy P T sz) (hs : SlAt W lo hi sz enc a l) (hx : ev L x = some (.slice a l.length cap)) (hy : ev L y = some (.int k (i : Int))) (hb : i < l.length) (h : ∀ e, l[i]? = some e → TL P Z N ((d, .pointer (some ⟨blk a, offs a + i * sz, none⟩)) :: L) M ops rest Q) (hN : d < N := by decide) : TL P Z N L M ops (⟨some d, .indexAddr T x y, ty, pos, af, none⟩ :: rest) Q := by
  obtain ⟨e, he⟩ := get_exN hb
  exact tl_step rfl rfl hN (qv_iaN hT hs hx hy hb) (h e he)
theorem s0g {j t : Nat} {want : Bool} {v : Value} (hq : Qv P Z N L M o v) (h : TL P Z N ((d, v) :: L) M ops rest Q) (hg : o.guard = some (j, want) := by rfl) (hj : (ops[j]?).bind (·.dst) = some t := by rfl) (hl : L.lookup t = some (.bool want) := by rfl) (hd : o.dst = some d := by rfl) (hN : d < N := by decide) : TL P Z N L M ops (o :: rest) Q := tl_stepg hg hj hl hd hN hq h
theorem sdg {j t : Nat} {want : Bool} {p : Prop} [Decidable p] (hq : Qv P Z N L M o (.bool (decide p))) (ht : p → TL P Z N ((d, .bool true) :: L) M ops rest Q) (hf : ¬ p → TL P Z N ((d, .bool false) :: L) M ops rest Q) (hg : o.guard = some (j, want) := by rfl) (hj : (ops[j]?).bind (·.dst) = some t := by rfl) (hl : L.lookup t = some (.bool want) := by rfl) (hd : o.dst = some d := by rfl) (hN : d < N := by decide) : TL P Z N L M ops (o :: rest) Q := tl_decg hg hj hl hd hN hq ht hf
theorem sk {j t : Nat} {want : Bool} {u : Value} (h : TL P Z N ((d, undef) :: L) M ops rest Q) (hg : o.guard = some (j, want) := by rfl) (hj : (ops[j]?).bind (·.dst) = some t := by rfl) (hl : L.lookup t = some u := by rfl) (hb : asks u want = false := by rfl) (hd : o.dst = some d := by rfl) (hN : d < N := by decide) : TL P Z N L M ops (o :: rest) Q := tl_skip hg hj hl hb hd hN h
theorem q0 {v : Value} (hq : Qv P Z N L M o v) (h : TQ P Z N ((d, v) :: L) M ops rest K) (hg : o.guard = none := by rfl) (hd : o.dst = some d := by rfl) (hN : d < N := by decide) : TQ P Z N L M ops (o :: rest) K := tq_step hg hd hN hq h
theorem qd {p : Prop} [Decidable p] (hq : Qv P Z N L M o (.bool (decide p))) (ht : p → TQ P Z N ((d, .bool true) :: L) M ops rest K) (hf : ¬ p → TQ P Z N ((d, .bool false) :: L) M ops rest K) (hg : o.guard = none := by rfl) (hd : o.dst = some d := by rfl) (hN : d < N := by decide) : TQ P Z N L M ops (o :: rest) K := tq_dec hg hd hN hq ht hf
theorem qi {α : Type} {T sz cap : Nat} {k : IntKind} {enc : α → List Value} {a : Option Addr} {l : List α} {W : World} {lo hi : Nat} {x y : Operand} {ty : TypeId} {pos : String} {af : Array Edge} {i : Int} (hT : SliceTy P T sz) (hs : SlAt W lo hi sz enc a l) (hx : ev L x = some (.slice a l.length cap)) (hy : ev L y = some (.int k i)) (hb : 0 ≤ i ∧ i < l.length) (h : ∀ e, l[i.toNat]? = some e → TQ P Z N ((d, .pointer (some ⟨blk a, offs a + i.toNat * sz, none⟩)) :: L) M ops rest K) (hN : d < N := by decide) : TQ P Z N L M ops (⟨some d, .indexAddr T x y, ty, pos, af, none⟩ :: rest) K := by
  obtain ⟨e, he⟩ := get_ex hb
  exact tq_step rfl rfl hN (qv_ia hT hs hx hy hb) (h e he)
theorem qn {α : Type} {T sz cap : Nat} {k : IntKind} {enc : α → List Value} {a : Option Addr} {l : List α} {W : World} {lo hi : Nat} {x y : Operand} {ty : TypeId} {pos : String} {af : Array Edge} {i : Nat} (hT : SliceTy P T sz) (hs : SlAt W lo hi sz enc a l) (hx : ev L x = some (.slice a l.length cap)) (hy : ev L y = some (.int k (i : Int))) (hb : i < l.length) (h : ∀ e, l[i]? = some e → TQ P Z N ((d, .pointer (some ⟨blk a, offs a + i * sz, none⟩)) :: L) M ops rest K) (hN : d < N := by decide) : TQ P Z N L M ops (⟨some d, .indexAddr T x y, ty, pos, af, none⟩ :: rest) K := by
  obtain ⟨e, he⟩ := get_exN hb
  exact tq_step rfl rfl hN (qv_iaN hT hs hx hy hb) (h e he)
theorem q0g {j t : Nat} {want : Bool} {v : Value} (hq : Qv P Z N L M o v) (h : TQ P Z N ((d, v) :: L) M ops rest K) (hg : o.guard = some (j, want) := by rfl) (hj : (ops[j]?).bind (·.dst) = some t := by rfl) (hl : L.lookup t = some (.bool want) := by rfl) (hd : o.dst = some d := by rfl) (hN : d < N := by decide) : TQ P Z N L M ops (o :: rest) K := tq_stepg hg hj hl hd hN hq h
theorem qdg {j t : Nat} {want : Bool} {p : Prop} [Decidable p] (hq : Qv P Z N L M o (.bool (decide p))) (ht : p → TQ P Z N ((d, .bool true) :: L) M ops rest K) (hf : ¬ p → TQ P Z N ((d, .bool false) :: L) M ops rest K) (hg : o.guard = some (j, want) := by rfl) (hj : (ops[j]?).bind (·.dst) = some t := by rfl) (hl : L.lookup t = some (.bool want) := by rfl) (hd : o.dst = some d := by rfl) (hN : d < N := by decide) : TQ P Z N L M ops (o :: rest) K := tq_decg hg hj hl hd hN hq ht hf
theorem qig {j t : Nat} {want : Bool} {α : Type} {T sz cap : Nat} {k : IntKind} {enc : α → List Value} {a : Option Addr} {l : List α} {W : World} {lo hi : Nat} {x y : Operand} {ty : TypeId} {pos : String} {af : Array Edge} {i : Int} (hT : SliceTy P T sz) (hs : SlAt W lo hi sz enc a l) (hx : ev L x = some (.slice a l.length cap)) (hy : ev L y = some (.int k i)) (hb : 0 ≤ i ∧ i < l.length) (h : ∀ e, l[i.toNat]? = some e → TQ P Z N ((d, .pointer (some ⟨blk a, offs a + i.toNat * sz, none⟩)) :: L) M ops rest K) (hj : (ops[j]?).bind (·.dst) = some t := by rfl) (hl : L.lookup t = some (.bool want) := by rfl) (hN : d < N := by decide) : TQ P Z N L M ops (⟨some d, .indexAddr T x y, ty, pos, af, some (j, want)⟩ :: rest) K := by
  obtain ⟨e, he⟩ := get_ex hb
  exact tq_stepg rfl hj hl rfl hN (qv_ia hT hs hx hy hb) (h e he)
theorem qng {j t : Nat} {want : Bool} {α : Type} {T sz cap : Nat} {k : IntKind} {enc : α → List Value} {a : Option Addr} {l : List α} {W : World} {lo hi : Nat} {x y : Operand} {ty : TypeId} {pos : String} {af : Array Edge} {i : Nat} (hT : SliceTy P T sz) (hs : SlAt W lo hi sz enc a l) (hx : ev L x = some (.slice a l.length cap)) (hy : ev L y = some (.int k (i : Int))) (hb : i < l.length) (h : ∀ e, l[i]? = some e → TQ P Z N ((d, .pointer (some ⟨blk a, offs a + i * sz, none⟩)) :: L) M ops rest K) (hj : (ops[j]?).bind (·.dst) = some t := by rfl) (hl : L.lookup t = some (.bool want) := by rfl) (hN : d < N := by decide) : TQ P Z N L M ops (⟨some d, .indexAddr T x y, ty, pos, af, some (j, want)⟩ :: rest) K := by
  obtain ⟨e, he⟩ := get_exN hb
  exact tq_stepg rfl hj hl rfl hN (qv_iaN hT hs hx hy hb) (h e he)
theorem qk {j t : Nat} {want : Bool} {u : Value} (h : TQ P Z N ((d, undef) :: L) M ops rest K) (hg : o.guard = some (j, want) := by rfl) (hj : (ops[j]?).bind (·.dst) = some t := by rfl) (hl : L.lookup t = some u := by rfl) (hb : asks u want = false := by rfl) (hd : o.dst = some d := by rfl) (hN : d < N := by decide) : TQ P Z N L M ops (o :: rest) K := tq_skip hg hj hl hb hd hN h
/-- two ways meet again: V: the slots that vary, by a ghost -/
def CutK {β : Type} (Z : Env) (N : Nat) (V : β → List (Nat × Value)) (I : β → Prop) (L : List (Nat × Value)) (M : Mem) : Act → World → Prop := fun a w => ∃ b, I b ∧ Fr Z N (V b ++ L) a ∧ M.holds w
theorem tc_cut {β : Type} {x y : Code} (V : β → List (Nat × Value)) (I : β → Prop) (hx : TC P Z N L M x (Exit.then (CutK Z N V I L M) Q)) (hy : ∀ b, I b → TC P Z N (V b ++ L) M y Q) : TC P Z N L M (.seq x y) Q :=
  fun a w hf hm => wpIn_seq (Go.wpIn_mono (hx a w hf hm) fun e a' w' h => by
    cases e with
    | normal => obtain ⟨b, hI, hf', hm'⟩ := h; exact hy b hI a' w' hf' hm'
    | _ => exact h)
theorem tp_cut {β : Type} {V : β → List (Nat × Value)} {I : β → Prop} {Le : List (Nat × Value)} {B : World} {bs bs' : List (Nat × Obj)} {ks ks' : List Kp} {ms : List Nat} {rs : List (Option (Nat × Obj))} (b : β) (hI : I b) (hV : Sub Le (V b)) (hE : Le.drop (Le.length - L.length) = L)
    (hk : (Le.take (Le.length - L.length)).all (fun p => hasKey (V b) p.1 || (L.lookup p.1).isNone) = true) (h1 : bs'.drop (bs'.length - bs.length) = bs) (h2 : ks'.drop (ks'.length - ks.length) = ks) :
    TP Z N Le ⟨B, bs', ks', ms, rs⟩ .normal (Exit.then (CutK Z N V I L ⟨B, bs, ks, ms, rs⟩) Q) :=
  fun _ _ hf hm => ⟨b, hI, hf.again hV hE hk, hm.less (h1 ▸ List.drop_sublist _ _) (h2 ▸ List.drop_sublist _ _)⟩
theorem qv_mk {fn : Fn} {cap : Array Operand} {vs : List Value} {dd : Option Tmp} {ty : TypeId} {pos : String} {af : Array Edge} {g : Option (Nat × Bool)} (hvs : evs L cap.toList = some vs) : Qv P Z N L M ⟨dd, .makeFunc fn #[] cap, ty, pos, af, g⟩ (.func fn #[] vs.toArray) := qv_of fun a hf w _ => by
  have : cap.map a.eval = vs.toArray := by
    apply Array.ext'
    simpa using evs_map hf hvs
  simp [execOp, Instr.makeFunc, this]
/-- a store of an element into a variable of its own -/
theorem tl_storeL {T n : Nat} {x y : Operand} {ty : TypeId} {pos : String} {af : Array Edge} {B : World} {bs : List (Nat × Obj)} {ks : List Kp} {ms : List Nat} {rs : List (Option (Nat × Obj))} {i b : Nat} {cs : Array Value} {us : List Value} {T0 : TypeId} (hS : Size P T n) (hlen : us.length = n) (hone : ∀ u ∈ us, u.oneCell' = true)
    (hx : ev L x = some (.pointer (some ⟨b, 0, none⟩))) (hy : ev L y = some (.agg us.toArray)) (hi : bs[i]? = some (b, .cells cs T0 (0, 0))) (hn : cs.size = n)
    (h : TL P Z N L ⟨B, bs.set i (b, .cells us.toArray T0 (0, 0)), ks, ms, rs⟩ ops rest Q) : TL P Z N L ⟨B, bs, ks, ms, rs⟩ ops (⟨none, .store T x y, ty, pos, af, none⟩ :: rest) Q :=
  tl_storeW (us := us.toArray) (by simpa [hlen] using hS) hx hy hi rfl (by simpa using hone) (by simp [hn, hlen]) h
end
end Go.Q
namespace Go.Q
open Go Go.RowKit
section
variable {P : Program} {Z : Env} {N : Nat} {L : List (Nat × Value)} {M M0 : Mem} {Q : Exit → Act → World → Prop} {ops : Array Oper}
/-- operation i is carried out: a value, or a call that returns -/
def gOp (P : Program) (ops : Array Oper) (i : Nat) (K : Act → World → Prop) (a : Act) (w : World) : Prop :=
  match ops[i]? with
  | none => False
  | some o =>
    if Region.wanted o (yielded ops a.tmps) then
      match (execOp a.eval o).run P w with
      | .ok (.value u) w' => K (a.put o.dst u) w'
      | .ok .skip w' => K (a.put o.dst undef) w'
      | .ok (.enter f args) w' => Calls P f args w' fun e w'' => ∃ u, e = .returned u ∧ K (a.put o.dst u) w''
      | _ => False
    else K (a.put o.dst undef) w
theorem gOp_mono {i : Nat} {K K' : Act → World → Prop} {a : Act} {w : World} (h : ∀ a w, K a w → K' a w) (hh : gOp P ops i K a w) : gOp P ops i K' a w := by
  unfold gOp at *
  split at hh
  · exact hh
  · split at hh
    · rename_i hw
      rw [if_pos hw]
      split at hh
      · exact h _ _ hh
      · exact h _ _ hh
      · exact hh.mono fun e w'' ⟨u, he, hk⟩ => ⟨u, he, h _ _ hk⟩
      · exact hh.elim
    · rename_i hw
      rw [if_neg hw]
      exact h _ _ hh
theorem wpOp_of_gOp {i : Nat} {K : Act → World → Prop} {a : Act} {w : World} {ro : Option Nat} (h : gOp P ops i K a w) : wpOpIn (FW ro) 0 P ops Q i K a w := by
  unfold gOp at h
  unfold wpOpIn
  cases ho : ops[i]? with
  | none => simp only [ho] at h
  | some o =>
    simp only [ho] at h ⊢
    split at h
    · rename_i hw
      rw [if_pos hw]
      refine wpIn_of ?_
      split at h
      · rename_i hr; rw [semAt_of hr (by simp)]; exact h
      · rename_i hr; rw [semAt_of hr (by simp)]; exact h
      · rename_i hr; rw [semAt_of hr (by simp)]; exact ⟨fun hd => by simp [Fence.wide] at hd, calls_in (h.mono fun e w'' ⟨u, he, hk⟩ => by subst he; exact hk)⟩
      · exact h.elim
    · rename_i hw
      rw [if_neg hw]
      exact ⟨fun _ _ => trivial, h⟩
theorem QS.mono {K K' : Act → Prop} (hK : ∀ a, K a → K' a) : ∀ {l : List Oper} {a : Act}, QS P ops M K l a → QS P ops M K' l a
  | [], _, h => hK _ h
  | o :: l, a, h => by
    unfold QS at h ⊢
    split
    · rename_i hw
      rw [if_pos hw] at h
      obtain ⟨v, h1, h2⟩ := h
      exact ⟨v, h1, QS.mono hK h2⟩
    · rename_i hw
      rw [if_neg hw] at h
      exact QS.mono hK h
def preDone (m : Nat) (listed : Array Bool) : Bool := (List.range m).all fun k => listed.getD k false
/-- from here on, in every order, also in every later world -/
def UP (ro : Option Nat) (P : Program) (ops : Array Oper) (Q : Exit → Act → World → Prop) (D : World → Prop) (m : Nat) : Nat → Array Bool → Act → World → Prop
  | 0, listed, a, w => ∀ w', Below w.heap.size w w' → D w' → preDone m listed = true ∧ wpAnyIn (FW ro) 0 P .any ops Q 0 listed a w'
  | f + 1, listed, a, w => ∀ w', Below w.heap.size w w' → D w' →
    if preDone m listed then wpAnyIn (FW ro) 0 P .any ops Q (f + 1) listed a w'
    else Region.ready .any ops listed ≠ [] ∧ ∀ i ∈ Region.ready .any ops listed, i < m ∧ gOp P ops i (fun a'' w'' => D w'' ∧ UP ro P ops Q D m f (listed.setIfInBounds i true) a'' w'') a w'
theorem UP.later {D : World → Prop} {m f : Nat} {listed : Array Bool} {a : Act} {w w1 : World} (h : UP Z.ro P ops Q D m f listed a w) (hb : Below w.heap.size w w1) : UP Z.ro P ops Q D m f listed a w1 := by
  cases f with
  | zero => exact fun w' hw' hD => h w' (hb.trans (hw'.mono hb.size)) hD
  | succ f => exact fun w' hw' hD => h w' (hb.trans (hw'.mono hb.size)) hD
theorem UP.any {D : World → Prop} {m : Nat} : ∀ {f : Nat} {listed : Array Bool} {a : Act} {w : World}, UP Z.ro P ops Q D m f listed a w → D w → wpAnyIn (FW Z.ro) 0 P .any ops Q f listed a w
  | 0, _, _, w, h, hD => (h w (Below.refl _ _) hD).2
  | f + 1, listed, a, w, h, hD => by
    have h' := h w (Below.refl _ _) hD
    split at h'
    · exact h'
    · exact ⟨fun h0 => absurd h0 h'.1, fun i hi => wpOp_of_gOp (gOp_mono (fun a'' w'' ⟨hd, hu⟩ => UP.any hu hd) (h'.2 i hi).2)⟩
/-- j waits for k, straight or through others -/
def reach (ops : Array Oper) : Nat → Nat → Nat → Bool
  | 0, _, _ => false
  | f + 1, j, k => match ops[j]? with
    | some o => o.after.any (fun e => Region.binds .any e && e.on == k) || o.after.any (fun e => Region.binds .any e && reach ops f e.on k)
    | none => false
/-- what has come up has come up behind what it waits for -/
def Dcl (ops : Array Oper) (listed : Array Bool) : Prop := ∀ k o, listed.getD k false = true → ops[k]? = some o → ∀ e ∈ o.after, Region.binds .any e = true → listed.getD e.on false = true
theorem reach_listed {listed : Array Bool} (hd : Dcl ops listed) {k : Nat} : ∀ (f j : Nat), reach ops f j k = true → (∀ o, ops[j]? = some o → ∀ e ∈ o.after, Region.binds .any e = true → listed.getD e.on false = true) → listed.getD k false = true
  | 0, _, h, _ => by simp [reach] at h
  | f + 1, j, h, hj => by
    unfold reach at h
    split at h
    · rename_i o ho
      rcases Bool.or_eq_true_iff.1 h with h | h
      · obtain ⟨e, he, hb⟩ := Array.any_eq_true'.1 h
        simp only [Bool.and_eq_true, beq_iff_eq] at hb
        have := hj o ho e he hb.1
        rwa [hb.2] at this
      · obtain ⟨e, he, hb⟩ := Array.any_eq_true'.1 h
        simp only [Bool.and_eq_true] at hb
        have hl := hj o ho e he hb.1
        exact reach_listed hd f e.on hb.2 fun o' ho' e' he' hb' => hd e.on o' hl ho' e' he' hb'
    · cases h
def dclB (ops : Array Oper) (listed : Array Bool) : Bool := (List.range ops.size).all fun k => !listed.getD k false || match ops[k]? with | some o => o.after.all fun e => !Region.binds .any e || listed.getD e.on false | none => true
theorem dclB_spec {listed : Array Bool} (h : dclB ops listed = true) : Dcl ops listed := fun k o hk ho e he hb => by
  have h1 := List.all_eq_true.1 h k (by simpa using (Array.getElem?_eq_some_iff.1 ho).1)
  simp only [hk, Bool.not_true, Bool.false_or, ho] at h1
  have h2 := Array.all_eq_true'.1 h1 e he
  simpa [hb] using h2
theorem Dcl.none (n : Nat) : Dcl ops (Array.replicate n false) := fun k o h => by
  rcases Nat.lt_or_ge k n with h' | h' <;> simp_all [Array.getD_eq_getD_getElem?]
theorem Dcl.set {listed : Array Bool} (hd : Dcl ops listed) {j : Nat} (hj : j ∈ Region.ready .any ops listed) : Dcl ops (listed.setIfInBounds j true) := fun k o h ho e he hb => by
  obtain ⟨_, oj, hoj, hall⟩ := mem_ready.1 hj
  by_cases hk : j = k
  · subst hk
    rw [hoj] at ho
    cases ho
    exact getD_set_true (hall e he hb)
  · rw [getD_set_ne false hk] at h
    exact getD_set_true (hd k o h ho e he hb)
/-- the operations from m on wait for all before -/
def tailB (m : Nat) (ops : Array Oper) : Bool := (List.range ops.size).all fun j => j < m || (List.range m).all fun k => reach ops ops.size j k
theorem tail_waits {m : Nat} (hB : tailB m ops = true) {listed : Array Bool} (hd : Dcl ops listed) {j : Nat} (hj : j ∈ Region.ready .any ops listed) (hm : m ≤ j) {k : Nat} (hk : k < m) : listed.getD k false = true := by
  obtain ⟨_, o, ho, hall⟩ := mem_ready.1 hj
  have h1 := List.all_eq_true.1 hB j (by simpa using (Array.getElem?_eq_some_iff.1 ho).1)
  simp only [Bool.or_eq_true, decide_eq_true_eq] at h1
  rcases h1 with h1 | h1
  · omega
  · have h2 := List.all_eq_true.1 h1 k (by simpa using hk)
    exact reach_listed hd _ _ h2 fun o' ho' e he hb => by rw [ho] at ho'; cases ho'; exact hall e he hb
/-- in this frame, in every world of D, operation o yields v, and the world has at most grown -/
def YS (P : Program) (ops : Array Oper) (D : World → Prop) (o : Oper) (v : Value) (a : Act) : Prop :=
  (Region.wanted o (yielded ops a.tmps) = true ∧ ∀ w, D w → o.quietAt P a (fun w' => Below w.heap.size w w') w v) ∨ (Region.wanted o (yielded ops a.tmps) = false ∧ v = undef)
theorem YS.of_same {D : World → Prop} {o : Oper} {v : Value} {a a' : Act} (h : YS P ops D o v a) (he : execOp a'.eval o = execOp a.eval o) (hw : Region.wanted o (yielded ops a'.tmps) = Region.wanted o (yielded ops a.tmps)) : YS P ops D o v a' := by
  unfold YS Oper.quietAt at *
  rw [he, hw]
  exact h
theorem YS.gOp {D : World → Prop} (hDu : ∀ w w', D w → Below w.heap.size w w' → D w') {i : Nat} {o : Oper} {v : Value} {a : Act} {w : World} {K : Act → World → Prop} (hi : ops[i]? = some o) (h : YS P ops D o v a) (hD : D w)
    (hK : ∀ w', Below w.heap.size w w' → D w' → K (a.put o.dst v) w') : Go.Q.gOp P ops i K a w := by
  unfold Go.Q.gOp
  simp only [hi]
  rcases h with ⟨hw, hq⟩ | ⟨hw, rfl⟩
  · rw [if_pos hw]
    have := hq w hD
    unfold Oper.quietAt at this
    generalize (execOp a.eval o).run P w = r at *
    cases r with
    | ok n w' =>
      cases n <;> simp only [Oper.quietUpon] at this <;> simp only
      case value u => obtain ⟨rfl, rfl⟩ := this; exact hK _ (Below.refl _ _) hD
      case skip => obtain ⟨rfl, rfl⟩ := this; exact hK _ (Below.refl _ _) hD
      case enter f args => obtain ⟨rfl, hc⟩ := this; exact hc.mono fun e w'' ⟨he, hb⟩ => ⟨v, he, hK _ hb (hDu _ _ hD hb)⟩
    | halt x w' => simp only [Oper.quietUpon] at this
  · rw [if_neg (by simp [hw])]
    exact hK _ (Below.refl _ _) hD
theorem gOp_put {D : World → Prop} {j : Nat} {oi oj : Oper} {v : Value} (hj : ops[j]? = some oj) (hap : oi.apart ops oj = true) (hsi : ∀ cs b, oi.op ≠ .select cs b) (hsj : ∀ cs b, oj.op ≠ .select cs b)
    {K : Act → World → Prop} {a : Act} {w : World} (hy : YS P ops D oi v a) (h : gOp P ops j K (a.put oi.dst v) w) :
    gOp P ops j (fun a' w' => YS P ops D oi v a' ∧ K (a'.put oi.dst v) w') a w := by
  obtain ⟨h1, h2, h3⟩ := Oper.apart_spec hap
  have keep : ∀ u, YS P ops D oi v (a.put oj.dst u) := fun u => hy.of_same (execOp_put oi hsi a oj.dst u h3) (wanted_put oi a oj.dst u h3)
  unfold gOp at *
  simp only [hj] at *
  rw [wanted_put oj a oi.dst v h1] at h
  split
  · rename_i hw
    rw [if_pos hw, execOp_put oj hsj a oi.dst v h1] at h
    generalize (execOp a.eval oj).run P w = r at *
    cases r with
    | ok n w' =>
      cases n <;> simp only at h ⊢
      case value u => exact ⟨keep u, by rw [← Act.put_comm a v u h2]; exact h⟩
      case skip => exact ⟨keep _, by rw [← Act.put_comm a v undef h2]; exact h⟩
      case enter f args => exact h.mono fun e w'' ⟨u, he, hk⟩ => ⟨u, he, keep u, by rw [← Act.put_comm a v u h2]; exact hk⟩
    | halt x w' => exact h
  · rename_i hw
    rw [if_neg hw] at h
    exact ⟨keep _, by rw [← Act.put_comm a v undef h2]; exact h⟩
/-- a quiet operation that may come up now may be taken first -/
theorem up_first {D : World → Prop} (hDu : ∀ w w', D w → Below w.heap.size w w' → D w') {m : Nat} (hB : tailB m ops = true) (hsel : ∀ (j : Nat) (o : Oper) cs b, ops[j]? = some o → o.op ≠ .select cs b)
    {i : Nat} {oi : Oper} {v : Value} (hi : ops[i]? = some oi) (him : i < m) :
    ∀ (f : Nat) (listed : Array Bool) (a : Act) (w : World), Dcl ops listed →
      (∀ j oj, ops[j]? = some oj → j ≠ i → listed.getD j true = false → (∀ e ∈ oj.after, Region.binds .any e = true → e.on ≠ i) → oi.apart ops oj = true) →
      i ∈ Region.ready .any ops listed → YS P ops D oi v a → UP Z.ro P ops Q D m f (listed.setIfInBounds i true) (a.put oi.dst v) w → UP Z.ro P ops Q D m (f + 1) listed a w := by
  intro f
  induction f with
  | zero =>
    intro listed a w hdc hfree hr hy H w' hw' hD'
    have hun : listed.getD i false = false := by
      have h0 := (mem_ready.1 hr).1
      rcases Nat.lt_or_ge i listed.size with h' | h' <;> simp_all [Array.getD_eq_getD_getElem?]
    have hnd : preDone m listed = false := by
      cases hp : preDone m listed with
      | false => rfl
      | true => have := List.all_eq_true.1 hp i (by simpa using him); simp [hun] at this
    rw [if_neg (by simp [hnd])]
    refine ⟨fun h => (by rw [h] at hr; cases hr), fun j hj => ?_⟩
    by_cases hji : j = i
    · subst hji
      exact ⟨him, hy.gOp hDu hi hD' fun w'' hb hd => ⟨hd, H.later (hw'.trans (hb.mono hw'.size))⟩⟩
    · have h2 := (H w' hw' hD').2
      have := ready_mono hj hji
      rw [h2.1] at this
      cases this
  | succ f ih =>
    intro listed a w hdc hfree hr hy H w' hw' hD'
    have hun : listed.getD i false = false := by
      have h0 := (mem_ready.1 hr).1
      rcases Nat.lt_or_ge i listed.size with h' | h' <;> simp_all [Array.getD_eq_getD_getElem?]
    have hnd : preDone m listed = false := by
      cases hp : preDone m listed with
      | false => rfl
      | true => have := List.all_eq_true.1 hp i (by simpa using him); simp [hun] at this
    rw [if_neg (by simp [hnd])]
    refine ⟨fun h => (by rw [h] at hr; cases hr), fun j hj => ?_⟩
    by_cases hji : j = i
    · subst hji
      exact ⟨him, hy.gOp hDu hi hD' fun w'' hb hd => ⟨hd, H.later (hw'.trans (hb.mono hw'.size))⟩⟩
    · have hjm : j < m := by
        rcases Nat.lt_or_ge j m with h' | h'
        · exact h'
        · have := tail_waits hB hdc hj h' him; rw [hun] at this; cases this
      refine ⟨hjm, ?_⟩
      have hrj := ready_mono hj hji
      have h2 := H w' hw' hD'
      have hnd2 : preDone m (listed.setIfInBounds i true) = false := by
        cases hp : preDone m (listed.setIfInBounds i true) with
        | false => rfl
        | true =>
          have := List.all_eq_true.1 hp j (by simpa using hjm)
          have hju := (mem_ready.1 hrj).1
          rcases Nat.lt_or_ge j (listed.setIfInBounds i true).size with h' | h' <;> simp_all [Array.getD_eq_getD_getElem?]
      rw [if_neg (by simp [hnd2])] at h2
      obtain ⟨_, hg⟩ := h2.2 j hrj
      obtain ⟨hjun, oj, hoj, hall⟩ := mem_ready.1 hj
      have hnot : ∀ e ∈ oj.after, Region.binds .any e = true → e.on ≠ i := fun e he hb heq => by
        have h1 := hall e he hb
        rw [heq, hun] at h1
        cases h1
      have h3 := gOp_put hoj (hfree j oj hoj hji hjun hnot) (fun cs b => hsel i oi cs b hi) (fun cs b => hsel j oj cs b hoj) hy hg
      have hfree' : ∀ k ok, ops[k]? = some ok → k ≠ i → (listed.setIfInBounds j true).getD k true = false → (∀ e ∈ ok.after, Region.binds .any e = true → e.on ≠ i) → oi.apart ops ok = true := fun k ok hk hki hun' hno => by
        refine hfree k ok hk hki ?_ hno
        by_cases hjk : j = k
        · subst hjk; exact hjun
        · rw [getD_set_ne true hjk] at hun'; exact hun'
      refine gOp_mono (fun a' w2 ⟨hy', hd, hu⟩ => ⟨hd, ih (listed.setIfInBounds j true) a' w2 (hdc.set hj) hfree' (ready_mono hr (Ne.symm hji)) hy' ?_⟩) h3
      rw [Array.setIfInBounds_comm _ _ hji]
      exact hu
def TU (P : Program) (Z : Env) (N : Nat) (L : List (Nat × Value)) (M0 M : Mem) (ops : Array Oper) (m f : Nat) (listed : Array Bool) (Q : Exit → Act → World → Prop) : Prop :=
  ∀ a w, Fr Z N L a → M.holds w → UP Z.ro P ops Q M0.holds m f listed a w
def lexPre (ops : Array Oper) : Nat → Nat → Array Bool → Bool
  | 0, _, _ => true
  | p + 1, k, listed => (Region.ready .any ops listed).contains k && Region.free .any ops listed k && lexPre ops p (k + 1) (listed.setIfInBounds k true)
def lexDone : Nat → Nat → Array Bool → Array Bool
  | 0, _, listed => listed
  | p + 1, k, listed => lexDone p (k + 1) (listed.setIfInBounds k true)
/-- quiet operations in the order of the text, then the rest -/
theorem up_lex {m : Nat} (hB : tailB m ops = true) (hs : Region.noSelect ops = true) (n : Nat) :
    ∀ (l : List Oper) (k : Nat) (listed : Array Bool) (a : Act) (w : World), Dcl ops listed → (∀ j, j < l.length → l[j]? = ops[k + j]?) → k + l.length ≤ m → lexPre ops l.length k listed = true →
      QS P ops M0 (fun a' => UP Z.ro P ops Q M0.holds m n (lexDone l.length k listed) a' w) l a → UP Z.ro P ops Q M0.holds m (n + l.length) listed a w
  | [], _, _, _, _, _, _, _, _, h => h
  | o :: l, k, listed, a, w, hdc, hl, hkm, hp, h => by
    have h0 : ops[k]? = some o := by have := (hl 0 (by simp)).symm; simpa using this
    simp only [List.length_cons] at hkm
    simp only [List.length_cons, lexPre, Bool.and_eq_true] at hp
    obtain ⟨⟨hr, hf⟩, hp'⟩ := hp
    have hl' : ∀ j, j < l.length → l[j]? = ops[k + 1 + j]? := fun j hj => by
      have := hl (j + 1) (by simpa using hj)
      simpa [Nat.add_assoc, Nat.add_comm 1 j] using this
    rw [List.length_cons, ← Nat.add_assoc]
    unfold QS at h
    split at h
    · rename_i hw
      obtain ⟨v, hq, hK⟩ := h
      exact up_first (fun _ _ hd hb => hd.ext hb) hB (Region.noSelect_spec hs) h0 (by omega) _ _ _ _ hdc (Region.free_spec h0 hf) (by simpa using hr) (.inl ⟨hw, hq⟩)
        (up_lex hB hs n l (k + 1) _ _ _ (hdc.set (by simpa using hr)) hl' (by omega) hp' hK)
    · rename_i hw
      exact up_first (fun _ _ hd hb => hd.ext hb) hB (Region.noSelect_spec hs) h0 (by omega) _ _ _ _ hdc (Region.free_spec h0 hf) (by simpa using hr) (.inr ⟨by simpa using hw, rfl⟩)
        (up_lex hB hs n l (k + 1) _ _ _ (hdc.set (by simpa using hr)) hl' (by omega) hp' h)
/-- a region: p quiet operations first, m operations ahead of the tail -/
theorem tc_drawU {id : Nat} {l : List Oper} (m p : Nat) (hm : P.follows .mixedOrders = true) (hB : (tailB m l.toArray && Region.noSelect l.toArray && lexPre l.toArray p 0 (Array.replicate l.length false) && decide (p ≤ m) && decide (p ≤ l.length)) = true)
    (h : TQ P Z N L M l.toArray (l.take p) (fun a => ∀ w, M.holds w → UP Z.ro P l.toArray Q M.holds m (l.length - p) (lexDone p 0 (Array.replicate l.length false)) a w)) : TC P Z N L M (.region id l.toArray true) Q := fun a w hf hM => by
  simp only [Bool.and_eq_true, decide_eq_true_eq] at hB
  obtain ⟨⟨⟨⟨h1, h2⟩, h3⟩, h4⟩, h5⟩ := hB
  refine wpIn_region_any hm ?_
  have hM' : M.holds { w with drawn := w.drawn + 1 } := hM.ext (below_drew' w)
  have hlen : (l.take p).length = p := by simp [h5]
  have := up_lex (P := P) (Q := Q) (M0 := M) h1 h2 (l.length - p) (l.take p) 0 (Array.replicate l.length false) a { w with drawn := w.drawn + 1 } (Dcl.none _) (fun j hj => by
      rw [hlen] at hj
      simp [hj]) (by omega) (by rw [hlen]; exact h3)
    (by rw [hlen]; exact (h a hf).mono fun a' hk => hk _ hM')
  rw [hlen, Nat.sub_add_cancel h5] at this
  simpa using this.any hM'
def drawB (ops : Array Oper) : Bool := tailB ops.size ops && Region.noSelect ops && lexPre ops ops.size 0 (Array.replicate ops.size false) && (Region.ready .any ops (lexDone ops.size 0 (Array.replicate ops.size false))).isEmpty && preDone ops.size (lexDone ops.size 0 (Array.replicate ops.size false))
/-- a region of quiet operations -/
theorem tc_draws {id : Nat} {l : List Oper} (hm : P.follows .mixedOrders = true) (hB : drawB l.toArray = true)
    (h : TQ P Z N L M l.toArray l (fun a => ∀ w, M.holds w → Q .normal a w)) : TC P Z N L M (.region id l.toArray true) Q := by
  simp only [drawB, Bool.and_eq_true, List.isEmpty_iff, List.size_toArray] at hB
  obtain ⟨⟨⟨⟨h1, h2⟩, h3⟩, h4⟩, h5⟩ := hB
  refine tc_drawU l.length l.length hm (by simp [h1, h2, h3]) ?_
  rw [List.take_length, Nat.sub_self]
  exact fun a hf => (h a hf).mono fun a' hk w hm' w' hb hD => ⟨h5, h4, hk w' hD⟩
theorem tq_up {m n : Nat} {listed : Array Bool} (h : TU P Z N L M M ops m n listed Q) : TQ P Z N L M ops [] (fun a => ∀ w, M.holds w → UP Z.ro P ops Q M.holds m n listed a w) :=
  fun a hf w hm => h a w hf hm
/-- operation number i of those that may come up now -/
def TG (P : Program) (Z : Env) (N : Nat) (L : List (Nat × Value)) (M0 M : Mem) (ops : Array Oper) (m f : Nat) (listed : Array Bool) (i : Nat) (Q : Exit → Act → World → Prop) : Prop :=
  ∀ a w, Fr Z N L a → M.holds w → gOp P ops i (fun a'' w'' => M0.holds w'' ∧ UP Z.ro P ops Q M0.holds m f (listed.setIfInBounds i true) a'' w'') a w
theorem tu_all {m f : Nat} {listed : Array Bool} (rs : List Nat) (hr : Region.ready .any ops listed = rs) (hne : rs ≠ []) (hd : preDone m listed = false) (hlt : rs.all (· < m) = true)
    (h : ∀ i ∈ rs, TG P Z N L M0 M ops m f listed i Q) : TU P Z N L M0 M ops m (f + 1) listed Q := fun a w hf hm w' hw' hD => by
  rw [if_neg (by simp [hd]), hr]
  exact ⟨hne, fun i hi => ⟨by simpa using List.all_eq_true.1 hlt i hi, h i hi a w' hf (hm.ext hw')⟩⟩
theorem tu_one {m f : Nat} {listed : Array Bool} (i : Nat) (h : TG P Z N L M0 M ops m f listed i Q) (hr : Region.ready .any ops listed = [i]) (hd : preDone m listed = false) (hlt : ([i] : List Nat).all (· < m) = true) : TU P Z N L M0 M ops m (f + 1) listed Q :=
  tu_all [i] hr (by simp) hd hlt (by simpa using h)
/-- a quiet operation that may come up now, taken first -/
theorem tu_take {m f i : Nat} {listed : Array Bool} {o : Oper} {d : Nat} {v : Value} (hq : Qv P Z N L M0 o v) (h : TU P Z N ((d, v) :: L) M0 M ops m f (listed.setIfInBounds i true) Q)
    (hB : (tailB m ops && Region.noSelect ops && (Region.ready .any ops listed).contains i && Region.free .any ops listed i && decide (i < m)) = true) (hdc : dclB ops listed = true)
    (ho : ops[i]? = some o := by rfl) (hg : o.guard = none := by rfl) (hd : o.dst = some d := by rfl) (hN : d < N := by decide) : TU P Z N L M0 M ops m (f + 1) listed Q := fun a w hf hm => by
  simp only [Bool.and_eq_true, decide_eq_true_eq] at hB
  obtain ⟨⟨⟨⟨h1, h2⟩, h3⟩, h4⟩, h5⟩ := hB
  refine up_first (fun _ _ hd hb => hd.ext hb) h1 (Region.noSelect_spec h2) ho h5 f listed a w (dclB_spec hdc) (Region.free_spec ho h4) (by simpa using h3) (.inl ⟨wanted_none hg _, fun w hw => hq a hf w hw⟩) (h _ _ (by rw [hd]; exact hf.put hN _) hm)
def chainB (ops : Array Oper) : Nat → Nat → Array Bool → Bool
  | 0, _, listed => (Region.ready .any ops listed).isEmpty
  | n + 1, k, listed => (Region.ready .any ops listed) == [k] && chainB ops n (k + 1) (listed.setIfInBounds k true)
theorem wpAny_chain {ro : Option Nat} : ∀ (l : List Oper) (k : Nat) (listed : Array Bool) (a : Act) (w : World), (∀ j, j < l.length → l[j]? = ops[k + j]?) → chainB ops l.length k listed = true → wpListIn (FW ro) 0 P ops Q l a w → wpAnyIn (FW ro) 0 P .any ops Q l.length listed a w
  | [], k, listed, a, w, _, hB, h => ⟨by simpa [chainB] using hB, h⟩
  | o :: l, k, listed, a, w, hl, hB, h => by
    have h0 : ops[k]? = some o := by have := (hl 0 (by simp)).symm; simpa using this
    simp only [List.length_cons, chainB, Bool.and_eq_true, beq_iff_eq] at hB
    have hl' : ∀ j, j < l.length → l[j]? = ops[k + 1 + j]? := fun j hj => by
      have := hl (j + 1) (by simpa using hj)
      simpa [Nat.add_assoc, Nat.add_comm 1 j] using this
    refine ⟨fun h' => (by rw [hB.1] at h'; cases h'), fun i hi => ?_⟩
    rw [hB.1] at hi
    obtain rfl : i = k := by simpa using hi
    unfold wpListIn at h
    unfold wpOpIn
    simp only [h0]
    split
    · rename_i hw
      rw [if_pos hw] at h
      exact Oper.wpIn_mono (fun a w h => wpAny_chain l (i + 1) _ a w hl' hB.2 h) h
    · rename_i hw
      rw [if_neg hw] at h
      exact ⟨h.1, wpAny_chain l (i + 1) _ _ w hl' hB.2 h.2⟩
/-- the tail, in its one order -/
theorem tu_tail {m f : Nat} {listed : Array Bool} {l : List Oper} (hd : preDone m listed = true) (hf : l.length = f) (hl2 : ops.toList.drop m = l) (hB : chainB ops f m listed = true) (h : TL P Z N L M ops l Q) : TU P Z N L M0 M ops m f listed Q := by
  subst hf
  have hidx : ∀ j, j < l.length → l[j]? = ops[m + j]? := fun j hj => by
    rw [← hl2]
    simp
  cases hl' : l.length with
  | zero =>
    intro a w hfr hm w' hw' hD
    refine ⟨hd, ?_⟩
    have := wpAny_chain (P := P) (Q := Q) l m listed a w' hidx hB (h a w' hfr (hm.ext hw'))
    rwa [hl'] at this
  | succ n =>
    intro a w hfr hm w' hw' hD
    rw [if_pos hd]
    have := wpAny_chain (P := P) (Q := Q) l m listed a w' hidx hB (h a w' hfr (hm.ext hw'))
    rwa [hl'] at this
/-- a new block -/
theorem tg_value {m f i : Nat} {listed : Array Bool} {o : Oper} {d : Nat} {val : Nat → Value} {obj : Obj} {B : World} {bs : List (Nat × Obj)} {ks : List Kp} {ms : List Nat} {rs : List (Option (Nat × Obj))} (ho : ops[i]? = some o) (hg : o.guard = none) (hd : o.dst = some d) (hN : d < N)
    (hr : ∀ a w, Fr Z N L a → Mem.holds ⟨B, bs, ks, ms, rs⟩ w → (execOp a.eval o).run P w = .ok (.value (val w.heap.size)) (w.alloc obj)) (hD : ∀ b w, Mem.holds ⟨B, (b, obj) :: bs, ks, ms, rs⟩ w → M0.holds w)
    (h : ∀ b, TU P Z N ((d, val b) :: L) M0 ⟨B, (b, obj) :: bs, ks, ms, rs⟩ ops m f (listed.setIfInBounds i true) Q) : TG P Z N L M0 ⟨B, bs, ks, ms, rs⟩ ops m f listed i Q := fun a w hf hm => by
  unfold gOp
  simp only [ho]
  rw [if_pos (wanted_none hg _), hr a w hf hm]
  have hm' := hm.alloc obj
  exact ⟨hD _ _ hm', h _ _ _ (by rw [hd]; exact hf.put hN _) hm'⟩
theorem tg_alloc {m f i : Nat} {listed : Array Bool} {d T : Nat} {ty : TypeId} {pos : String} {af : Array Edge} {cs : Array Value} {B : World} {bs : List (Nat × Obj)} {ks : List Kp} {ms : List Nat} {rs : List (Option (Nat × Obj))} (hz : Zero P T cs)
    (h : ∀ b, TU P Z N ((d, .pointer (some ⟨b, 0, none⟩)) :: L) M0 ⟨B, (b, .cells cs T (0, 0)) :: bs, ks, ms, rs⟩ ops m f (listed.setIfInBounds i true) Q)
    (hD : ∀ b w, Mem.holds ⟨B, (b, .cells cs T (0, 0)) :: bs, ks, ms, rs⟩ w → M0.holds w) (ho : ops[i]? = some ⟨some d, .alloc T, ty, pos, af, none⟩ := by rfl) (hN : d < N := by decide) : TG P Z N L M0 ⟨B, bs, ks, ms, rs⟩ ops m f listed i Q :=
  tg_value (val := fun b => .pointer (some ⟨b, 0, none⟩)) ho rfl rfl hN (fun a w hf hm => by
    obtain ⟨z, h1, h2⟩ := hz w
    subst h2
    simp [execOp, Instr.alloc, h1, newVar, newRow]) hD h
/-- a quiet operation among those that may come up -/
theorem tg_q {m f i : Nat} {listed : Array Bool} {o : Oper} {d : Nat} {v : Value} (hq : Qv P Z N L M o v) (h : TU P Z N ((d, v) :: L) M0 M ops m f (listed.setIfInBounds i true) Q)
    (hD : ∀ w, M.holds w → M0.holds w) (ho : ops[i]? = some o := by rfl) (hg : o.guard = none := by rfl) (hd : o.dst = some d := by rfl) (hN : d < N := by decide) : TG P Z N L M0 M ops m f listed i Q := fun a w hf hm => by
  have hDu : ∀ w w', M.holds w → Below w.heap.size w w' → M.holds w' := fun _ _ h hb => h.ext hb
  exact YS.gOp hDu ho (.inl ⟨wanted_none hg _, fun w hw => hq a hf w hw⟩) hm fun w' hb hm' => ⟨hD _ hm', h _ _ (by rw [hd]; exact hf.put hN _) hm'⟩
theorem tu_2 {m f : Nat} {listed : Array Bool} (i1 i2 : Nat) (hr : Region.ready .any ops listed = [i1, i2]) (hd : preDone m listed = false) (hlt : ([i1, i2] : List Nat).all (· < m) = true) (hi1 : TG P Z N L M0 M ops m f listed i1 Q) (hi2 : TG P Z N L M0 M ops m f listed i2 Q) : TU P Z N L M0 M ops m (f + 1) listed Q :=
  tu_all [i1, i2] hr (by simp) hd hlt (by simpa using ⟨hi1, hi2⟩)
theorem tu_3 {m f : Nat} {listed : Array Bool} (i1 i2 i3 : Nat) (hr : Region.ready .any ops listed = [i1, i2, i3]) (hd : preDone m listed = false) (hlt : ([i1, i2, i3] : List Nat).all (· < m) = true) (hi1 : TG P Z N L M0 M ops m f listed i1 Q) (hi2 : TG P Z N L M0 M ops m f listed i2 Q) (hi3 : TG P Z N L M0 M ops m f listed i3 Q) : TU P Z N L M0 M ops m (f + 1) listed Q :=
  tu_all [i1, i2, i3] hr (by simp) hd hlt (by simpa using ⟨hi1, hi2, hi3⟩)
theorem hD_drop {B : World} {bs bs' : List (Nat × Obj)} {ks ks' : List Kp} {ms : List Nat} {rs : List (Option (Nat × Obj))} (h1 : bs'.drop (bs'.length - bs.length) = bs) (h2 : ks'.drop (ks'.length - ks.length) = ks) (w : World) (h : Mem.holds ⟨B, bs', ks', ms, rs⟩ w) : Mem.holds ⟨B, bs, ks, ms, rs⟩ w :=
  h.less (h1 ▸ List.drop_sublist _ _) (h2 ▸ List.drop_sublist _ _)
def fst (n k : Nat) : Array Bool := lexDone k 0 (Array.replicate n false)
end
end Go.Q
namespace Go.Q
open Go Go.RowKit
def BuildTy (P : Program) (T : TypeId) (places : Array (Nat × Nat)) (zs : Array Value) : Prop :=
  ∃ fields : Array Field, P.underlying T = some (.struct fields) ∧ (∀ w, (fields.mapM (fun f => do pure (f.offset, ← sizeOf f.type)) : Sem (Array (Nat × Nat))).run P w = .ok places w) ∧ Zero P T zs
section
variable {P : Program} {Z : Env} {N : Nat} {L : List (Nat × Value)} {M : Mem} {Q : Exit → Act → World → Prop} {ops : Array Oper} {rest : List Oper} {d : Option Tmp} {ty : TypeId} {pos : String} {af : Array Edge} {g : Option (Nat × Bool)} {x y : Operand} {v : Value}
def evp (L : List (Nat × Value)) : List (Nat × Operand) → Option (List (Nat × Value))
  | [] => some []
  | (i, o) :: os => match ev L o, evp L os with
    | some v, some vs => some ((i, v) :: vs)
    | _, _ => none
theorem evp_map {a : Act} (hf : Fr Z N L a) : ∀ {l : List (Nat × Operand)} {vs : List (Nat × Value)}, evp L l = some vs → l.map (fun (i, x) => (i, a.eval x)) = vs
  | [], vs, h => by simp [evp] at h; subst h; rfl
  | (i, o) :: os, vs, h => by
    simp only [evp] at h
    split at h
    · rename_i v us h1 h2
      cases h
      simp only [List.map_cons, hf.eval h1]
      rw [evp_map hf h2]
    · cases h
theorem qv_build {T : TypeId} {parts : Array (Nat × Operand)} {places : Array (Nat × Nat)} {zs cells : Array Value} {ps : List (Nat × Value)} (hT : BuildTy P T places zs) (hp : evp L parts.toList = some ps) (hc : Instr.fill (places[·]?) zs ps = some cells) :
    Qv P Z N L M ⟨d, .build T parts, ty, pos, af, g⟩ (.agg cells) := qv_of fun a hf w _ => by
  obtain ⟨fields, hu, hpl, hz⟩ := hT
  obtain ⟨z, hz1, hz2⟩ := hz w
  have hm : parts.map (fun (i, x) => (i, a.eval x)) = ps.toArray := by
    apply Array.ext'
    simpa using evp_map hf hp
  have : (Instr.build T ps.toArray).run P w = .ok (.agg cells) w := by
    simp only [Instr.build, Sem.run_bind, hz1, Result.andThen_ok, run_underlying hu, hpl w, hz2, hc, Sem.run_pure]
  simp only [execOp, Sem.run_bind]
  rw [hm, this]
  rfl
theorem tl_storeO {T : TypeId} {B : World} {bs : List (Nat × Obj)} {ks : List Kp} {ms : List Nat} {rs : List (Option (Nat × Obj))} {i b n : Nat} {cs us : Array Value} {T0 : TypeId} (hS : Size P T n) (hx : ev L x = some (.pointer (some ⟨b, 0, none⟩))) (hy : ev L y = some v)
    (hi : bs[i]? = some (b, .cells cs T0 (0, 0))) (hu : v.cells = us) (hn' : us.size = n) (hone : us.toList.all Value.oneCell' = true) (hn : cs.size = us.size)
    (h : TL P Z N L ⟨B, bs.set i (b, .cells us T0 (0, 0)), ks, ms, rs⟩ ops rest Q) : TL P Z N L ⟨B, bs, ks, ms, rs⟩ ops (⟨none, .store T x y, ty, pos, af, none⟩ :: rest) Q :=
  tl_storeW (hn' ▸ hS) hx hy hi hu (fun u hu => List.all_eq_true.1 hone u hu) hn h
theorem tp_endC {ro : Option Nat} {fn : Func} {R : Ending → World → Prop} {t T n : Nat} {B : World} {bs : List (Nat × Obj)} {ks : List Kp} {ms : List Nat} {rs : List (Option (Nat × Obj))} {i b : Nat} {cs : Array Value} {T0 : TypeId} {fz : Nat × Nat} (hr : fn.results = #[.cell t T]) (hl : L.lookup t = some (.pointer (some ⟨b, 0, none⟩)))
    (hT : Agg P T n) (hi : bs[i]? = some (b, .cells cs T0 fz)) (hn : cs.size = n) (h : ∀ w, Mem.holds ⟨B, bs, ks, ms, rs⟩ w → R (.returned (.agg cs)) w) : TP ⟨ro, []⟩ N L ⟨B, bs, ks, ms, rs⟩ .ret (bodyPost P fn R) := fun a w hf hm =>
  ⟨hf.2.1, .agg cs, by
    have hb := (hm.boxOf (List.mem_of_getElem? hi)).2
    have hld : (loadVar T ⟨b, 0, none⟩).run P w = .ok (.agg cs.toList.toArray) w := run_loadVar_agg (by simpa [hn] using hT) fun j hj => by simp [World.cell?, hb]
    have ht := hf.2.2 t _ hl
    simp only [Array.toArray_toList] at hld
    simp [results, hr, Array.getD_eq_getD_getElem?, ht, asAddr, hld], h w hm⟩
theorem qv_aggNe {T T' : TypeId} {us vs : Array Value} {r : Bool} (hg : P.eqGuardType P.depth T = false) (hx : ev L x = some (.agg us)) (hy : ev L y = some (.agg vs)) (he : ∀ w, (Op.equal T (.agg us) (.agg vs)).run P w = .ok r w) :
    Qv P Z N L M ⟨d, .binOp .neq T x y T', ty, pos, af, g⟩ (.bool !r) := qv_of fun a hf w _ => by
  have h2 : (binOp .neq T (.agg us) (.agg vs)).run P w = .ok (.bool !r) w := by
    show ((do pure (.bool (!(← Op.equal T (.agg us) (.agg vs))))) : Sem Value).run P w = _
    simp [he w]
  simp [execOp, hf.eval hx, hf.eval hy, eqGuard, hg, h2]
end
end Go.Q
namespace Go.Q
open Go Go.RowKit
/-- whatever is there stays, but for the blocks of C -/
structure Upto (C : Nat → Prop) (w w' : World) : Prop where
  os : w'.os = w.os
  tape : w'.tape = w.tape
  output : w'.output = w.output
  size : w.heap.size ≤ w'.heap.size
  block : ∀ b, b < w.heap.size → ¬ C b → w'.heap[b]? = w.heap[b]?
section
variable {P : Program} {Z : Env} {N : Nat} {L : List (Nat × Value)} {M : Mem} {Q : Exit → Act → World → Prop} {ops : Array Oper} {rest : List Oper} {ty : TypeId} {pos : String} {af : Array Edge} {x y : Operand} {v : Value}
theorem tl_callM {β : Type} {dd : Option Tmp} {val : β → Value} {R : β → World → World → Prop} {f : FuncId} {args : Array Operand} {at' : Array TypeId} {vs caps : List Value} {fo : Operand} (hF : IsFn P f) (hfo : ev L fo = some (.func (.func f) #[] caps.toArray)) (hvs : evs L args.toList = some vs)
    (hC : ∀ w, M.holds w → Calls P f (vs ++ caps).toArray w fun e w' => ∃ r, e = .returned (val r) ∧ R r w w')
    (h : ∀ r w1 w2, M.holds w1 → R r w1 w2 → ∃ M' : Mem, M'.holds w2 ∧ TL P Z N (match dd with | some d => (d, val r) :: L | none => L) M' ops rest Q) (hd : dd.all (· < N) = true) :
    TL P Z N L M ops (⟨dd, .call { callee := .value fo, args := args, argTypes := at' }, ty, pos, af, none⟩ :: rest) Q := fun a w hf hm => by
  refine wpList_enter rfl (run_call hf hF hfo hvs w) ((hC w hm).mono ?_)
  rintro e w' ⟨r, rfl, hr⟩
  obtain ⟨M', hm', hk⟩ := h r w w' hm hr
  refine ⟨_, rfl, hk _ _ ?_ hm'⟩
  cases dd with
  | none => exact hf.put_none _
  | some d => exact hf.put (by simpa using hd) _
theorem tl_yield {β : Type} {d : Nat} {val : β → Value} {R : β → World → World → Prop} {l : Nat} {args : Array Operand} {at' : Array TypeId} {vs : List Value} {fo : Operand} (hfo : ev L fo = some (.func (.yield l) #[] #[])) (hvs : evs L args.toList = some vs)
    (hY : ∀ w, M.holds w → YieldAt (FW none) 0 P l vs.toArray w fun e w' => ∃ r, e = .returned (val r) ∧ R r w w')
    (h : ∀ r w1 w2, M.holds w1 → R r w1 w2 → ∃ M' : Mem, M'.holds w2 ∧ TL P Z N ((d, val r) :: L) M' ops rest Q) (hd : d < N) :
    TL P Z N L M ops (⟨some d, .call { callee := .value fo, args := args, argTypes := at' }, ty, pos, af, none⟩ :: rest) Q := fun a w hf hm => by
  obtain ⟨fn, tmps, assign, body, hy, hR⟩ := hY w hm
  have h1 : args.map a.eval = vs.toArray := by
    apply Array.ext'
    simpa using evs_map hf hvs
  have hrun : (execOp a.eval ⟨some d, .call { callee := .value fo, args := args, argTypes := at' }, ty, pos, af, none⟩).run P w = .ok (.round l fn tmps assign body) w := by
    simp [execOp, resolve, hf.eval hfo, Deferred.ofValue, invoke, h1, hy]
  unfold wpListIn
  rw [if_pos (by simp [Region.wanted])]
  refine wpIn_of ?_
  rw [semAt_of hrun (by simp)]
  refine ⟨fun hd => by simp [Fence.wide] at hd, RoundIn.mono hR ?_⟩
  rintro e w' ⟨r, rfl, hr⟩
  obtain ⟨M', hm', hk⟩ := h r w w' hm hr
  exact hk _ _ (hf.put hd _) hm'
theorem leavesM {fn : Func} {tmps : Array Value} {R : Ending → World → Prop} {v : Value} {B : World} {bs : List (Nat × Obj)} {ks : List Kp} {rs : List (Option (Nat × Obj))}
    (h : ∀ w, Mem.holds ⟨B, bs, ks, [], rs⟩ w → (results fn tmps).run P w = .ok v w ∧ R (.returned v) w) : ∀ (ds : List Nat) (w : World), Mem.holds ⟨B, bs, ks, ds, rs⟩ w → LeavesInM (FW none) 0 P fn tmps R (ds.map mk) .returning w
  | [], w, hm => ⟨v, h w hm⟩
  | D :: ds, w, hm => ⟨by simp, .inl ⟨D, _, rfl, run_takeDeferred (hm.box (markBox D) (List.mem_append_right _ (by simp))).2, leavesM h ds _ (hm.shut _)⟩⟩
theorem tp_end1M {ds : List Nat} {fn : Func} {R : Ending → World → Prop} {t : Tmp} {B : World} {bs : List (Nat × Obj)} {ks : List Kp} {rs : List (Option (Nat × Obj))} (hr : fn.results = #[.tmp t]) (hl : L.lookup t = some v) (h : ∀ w, Mem.holds ⟨B, bs, ks, [], rs⟩ w → R (.returned v) w) :
    TP ⟨none, ds⟩ N L ⟨B, bs, ks, ds, rs⟩ .ret (bodyPostW P fn R) := fun a w hf hm => by
  show LeavesInM (FW none) 0 P fn a.tmps R a.defers .returning w
  rw [hf.2.1]
  exact leavesM (fun w hm => ⟨by rw [results_tmp hr]; simp [Array.getD_eq_getD_getElem?, hf.2.2 t v hl], h w hm⟩) ds w hm
theorem tp_end2M {ds : List Nat} {fn : Func} {R : Ending → World → Prop} {t u : Tmp} {x : Value} {B : World} {bs : List (Nat × Obj)} {ks : List Kp} {rs : List (Option (Nat × Obj))} (hr : fn.results = #[.tmp t, .tmp u]) (hl : L.lookup t = some v) (hu : L.lookup u = some x) (h : ∀ w, Mem.holds ⟨B, bs, ks, [], rs⟩ w → R (.returned (.tuple #[v, x])) w) :
    TP ⟨none, ds⟩ N L ⟨B, bs, ks, ds, rs⟩ .ret (bodyPostW P fn R) := fun a w hf hm => by
  show LeavesInM (FW none) 0 P fn a.tmps R a.defers .returning w
  rw [hf.2.1]
  exact leavesM (fun w hm => ⟨by rw [results_tmp2 hr]; simp [Array.getD_eq_getD_getElem?, hf.2.2 t v hl, hf.2.2 u x hu], h w hm⟩) ds w hm
def zipL : List Nat → List Value → List (Nat × Value) → List (Nat × Value)
  | t :: ts, v :: vs, L => zipL ts vs ((t, v) :: L)
  | _, _, L => L
theorem zipL_fr : ∀ (ts : List Nat) (vs : List Value) (L : List (Nat × Value)) (tmps : Array Value) {Z : Env}, (∀ t ∈ ts, t < N) → Fr Z N L { tmps := tmps, defers := Z.ds.map mk } →
    Fr Z N (zipL ts vs L) { tmps := (ts.zip vs).foldl (fun c p => c.setIfInBounds p.1 p.2) tmps, defers := Z.ds.map mk }
  | [], vs, L, tmps, Z, _, h => by simpa [zipL] using h
  | t :: ts, [], L, tmps, Z, _, h => by simpa [zipL] using h
  | t :: ts, v :: vs, L, tmps, Z, ht, h => by
    simp only [zipL, List.zip_cons_cons, List.foldl_cons]
    exact zipL_fr ts vs _ _ (fun t' h' => ht t' (List.mem_cons_of_mem _ h')) (by
      have := h.put (ht t (by simp)) v
      simpa [Act.put] using this)
/-- the head of a round, behind the assignment -/
def BeginK (P : Program) (l : Nat) (body : Code) (Qb : Exit → Act → World → Prop) : Exit → Act → World → Prop :=
  Exit.then (fun a w => ∃ w₂, (Instr.beginRound l).run P w = .ok () w₂ ∧ body.wpIn (FW (some l)) 0 P Qb a w₂) (fun _ _ _ => False)
theorem tp_begin {l i : Nat} {r : Loop} {body : Code} {Qb : Exit → Act → World → Prop} {B : World} {bs : List (Nat × Obj)} {ks : List Kp} {ms : List Nat} {rs : List (Option (Nat × Obj))} (hi : bs[i]? = some (l, .loop r)) (hr : r.state = .ready)
    (h : TC P ⟨some l, []⟩ N L ⟨B, bs.set i (l, .loop { r with state := .busy }), ks, ms, rs⟩ body Qb) : TP ⟨some l, []⟩ N L ⟨B, bs, ks, ms, rs⟩ .normal (BeginK P l body Qb) := fun a w hf hm =>
  ⟨_, run_beginRound (hm.boxOf (List.mem_of_getElem? hi)).2 hr, h a _ hf (hm.put hi _)⟩
def busy (l : Nat) (r : Loop) : Nat × Obj := (l, .loop { r with state := .busy })
/-- the end of a round -/
def RoundQ {β : Type} (I : β → Prop) (Me : β → Mem) : Exit → Act → World → Prop
  | .normal, _, w => ∃ b, I b ∧ (Me b).holds w
  | _, _, _ => False
/-- what a function that is ranged over promises: it yields the elements of xs, one behind the other; the rounds may turn the blocks of C -/
def Yields1 {α : Type} (P : Program) (gf : FuncId) (caps : List Value) (enc : α → List Value) (xs : List α) (C : Nat → Prop) (l : Nat) (W1 : World) : Prop :=
  ∀ J : List α → World → Prop, (∀ pre W W', J pre W → Below W.heap.size W W' → J pre W') →
    (∀ pre x post W, xs = pre ++ x :: post → J pre W → YieldAt (FW none) 0 P l (enc x).toArray W fun e W' => e = .returned (.bool true) ∧ J (pre ++ [x]) W' ∧ Upto C W W') →
    J [] W1 → Calls P gf (.func (.yield l) #[] #[] :: caps).toArray W1 fun e w' => e = .returned (.tuple #[]) ∧ J xs w'
def allBut (W : World) (C : Nat → Prop) : Kp := ⟨W, 0, W.heap.size, fun b => ¬ C b⟩
def turns (l D : Nat) (Ds Cs : List Nat) : Nat → Prop := fun b => b = l ∨ b = D ∨ b ∈ Ds ∨ b ∈ Cs
theorem tc_rangeFunc {α β : Type} {g : Operand} {ps : Array Tmp} {assign body : Code} {gf : FuncId} {caps : List Value} {ds : List Nat} (enc : α → List Value) (xs : List α) (bs : β → List (Nat × Obj)) (ks : β → List Kp) (Cs : List Nat) (I : List α → β → Prop) (b0 : β)
    (hg : ev L g = some (.func (.func gf) #[] caps.toArray)) (hF : IsFn P gf) (hps : ps.all (· < N) = true) (hlen : ∀ x, (enc x).length = ps.size)
    (hCs : ∀ b, (bs b).map Prod.fst = Cs) (h0 : I [] b0) (hM : ∀ w, M.holds w → Mem.holds ⟨M.base, bs b0, ks b0, M.marks, M.rows⟩ w)
    (hit : ∀ w W1 l (C : Nat → Prop), M.holds w → Below w.heap.size w W1 → (∀ b, b < M.base.heap.size → ¬ C b) → (∀ k ∈ ks b0, ∀ b, k.lo ≤ b → b < k.hi → k.on b → ¬ C b) → (∀ b, C b → b < W1.heap.size) → Yields1 P gf caps enc xs C l W1)
    (hround : ∀ l D W (r : Loop) pre x post b, xs = pre ++ x :: post → I pre b → r.state = .ready → TC P ⟨some l, []⟩ N (zipL ps.toList (enc x) L) ⟨M.base, bs b ++ [(l, .loop r)], allBut W (turns l D (M.marks ++ M.rb) Cs) :: ks b, D :: M.marks, M.rows⟩ assign
      (BeginK P l body (RoundQ (I (pre ++ [x])) (fun b' => ⟨M.base, bs b' ++ [busy l r], allBut W (turns l D (M.marks ++ M.rb) Cs) :: ks b', D :: M.marks, M.rows⟩))))
    (hdone : ∀ D b, I xs b → TP ⟨none, D :: ds⟩ N L ⟨M.base, bs b, ks b, D :: M.marks, M.rows⟩ .normal Q) :
    TC P ⟨none, ds⟩ N L M (.rangeFunc g ps assign body) Q := by
  intro a w hf hm
  refine wpIn_rangeFunc fun fn _ => ?_
  obtain ⟨l, hl⟩ : ∃ l, l = w.heap.size + 1 := ⟨_, rfl⟩
  obtain ⟨D, hD⟩ : ∃ D, D = w.heap.size := ⟨_, rfl⟩
  obtain ⟨r, hr⟩ : ∃ r : Loop, r = { state := .ready, pending := none, fn, tmps := a.tmps, params := ps, assign, body, defers := D } := ⟨_, rfl⟩
  obtain ⟨W1, hW1⟩ : ∃ W1, W1 = (w.alloc (.deferred (some []))).alloc (.loop r) := ⟨_, rfl⟩
  have hbel : Below w.heap.size w W1 := by rw [hW1]; exact ((Below.refl _ w).alloc (Nat.le_refl _) _).alloc (by simp) _
  have hm0 := hM w hm
  have hm2 : Mem.holds ⟨M.base, bs b0 ++ [(l, .loop r)], ks b0, D :: M.marks, M.rows⟩ W1 := by
    have h1 := (hm0.alloc (.deferred (some []))).alloc (.loop r)
    rw [← hW1] at h1
    have hp : ((w.alloc (.deferred (some []))).heap.size, Obj.loop r) = (l, Obj.loop r) := by rw [hl]; simp
    simp only [hp] at h1
    have hperm : ((l, Obj.loop r) :: (w.heap.size, Obj.deferred (some [])) :: (bs b0 ++ (M.rows.filterMap id ++ M.marks.map markBox))).Perm ((bs b0 ++ [(l, Obj.loop r)]) ++ (M.rows.filterMap id ++ (D :: M.marks).map markBox)) := by
      simp only [List.map_cons, List.append_assoc, List.cons_append, List.nil_append, markBox, hD]
      have h2 := List.perm_middle (a := (l, Obj.loop r)) (l₁ := bs b0) (l₂ := M.rows.filterMap id ++ (w.heap.size, Obj.deferred (some [])) :: M.marks.map markBox)
      refine List.Perm.trans (List.Perm.cons _ ?_) h2.symm
      have h3 := List.perm_middle (a := (w.heap.size, Obj.deferred (some []))) (l₁ := bs b0 ++ M.rows.filterMap id) (l₂ := M.marks.map markBox)
      simp only [List.append_assoc] at h3
      exact h3.symm
    exact ⟨h1.os, h1.tape, h1.output, h1.size, h1.old, fun p hp => h1.box p (hperm.mem_iff.2 hp), (hperm.pairwise_iff (fun {a b} h => Ne.symm h)).1 h1.nodup, h1.kept, fun p hp => h1.apart p (hperm.mem_iff.2 hp)⟩
  have hmem : ∀ b, turns l D (M.marks ++ M.rb) Cs b → b = l ∨ b = D ∨ ∃ o, (b, o) ∈ (Mem.mk M.base (bs b0) (ks b0) M.marks M.rows).all := by
    rintro b (h | h | h | h)
    · exact .inl h
    · exact .inr (.inl h)
    · rcases List.mem_append.1 h with h | h
      · exact .inr (.inr ⟨_, List.mem_append_right _ (List.mem_append_right _ (List.mem_map.2 ⟨b, h, rfl⟩))⟩)
      · obtain ⟨p, hp, rfl⟩ := List.mem_map.1 h
        exact .inr (.inr ⟨p.2, List.mem_append_right _ (List.mem_append_left _ hp)⟩)
    · rw [← hCs b0] at h
      obtain ⟨p, hp, rfl⟩ := List.mem_map.1 h
      exact .inr (.inr ⟨p.2, List.mem_append_left _ hp⟩)
  refine ⟨l, [mk D], W1, { target := .fn (.func gf) caps.toArray, args := #[.func (.yield l) #[] #[]] }, W1, gf, (.func (.yield l) #[] #[] :: caps).toArray, W1, ?_, ?_, fun _ _ => trivial, ?_, fun hd => by simp [Fence.wide] at hd, ?_⟩
  · rw [hW1, hr, hl, hD]
    exact run_enterLoop_outer _ _ _ _ _
  · simp only [resolve, hf.eval hg]
    simp [go_sem]
  · simp [invoke, hF _ _]
  refine calls_in (ro := none) ((hit w W1 l (turns l D (M.marks ++ M.rb) Cs) hm hbel (fun b hb hc => by
      rcases hmem b hc with h | h | ⟨o, h⟩
      · have := hm0.size; simp only at this; omega
      · have := hm0.size; simp only at this; omega
      · have := (hm0.box _ h).1; simp only at this; omega) (fun k hk b h1 h2 h3 hc => by
      rcases hmem b hc with h | h | ⟨o, h⟩
      · have := (hm0.kept k hk).1; omega
      · have := (hm0.kept k hk).1; omega
      · rcases hm0.apart _ h k hk with h4 | h4 | h4
        · simp only at h4; omega
        · simp only at h4; omega
        · exact h4 h3) (fun b hc => by
      rcases hmem b hc with h | h | ⟨o, h⟩
      · rw [h, hl, hW1]; simp
      · rw [h, hD, hW1]; simp; omega
      · have := get_lt (hm0.box _ h).2; have := hbel.size; simp only at *; omega) (fun pre W => ∃ b, I pre b ∧ Mem.holds ⟨M.base, bs b ++ [(l, .loop r)], ks b, D :: M.marks, M.rows⟩ W) (fun pre W W' ⟨b, h1, h2⟩ hb => ⟨b, h1, h2.ext hb⟩) ?_ ⟨b0, h0, hm2⟩).mono ?_)
  · rintro pre x post W hx ⟨b, hI, hmW⟩
    have hlast : (l, Obj.loop r) ∈ (Mem.mk M.base (bs b ++ [(l, .loop r)]) (ks b) (D :: M.marks) M.rows).boxes := by simp
    have hy := run_yield (P := P) (args := (enc x).toArray) (hmW.boxOf hlast).2 (by rw [hr]; simp [hlen x])
    refine ⟨_, _, _, _, hy, ?_⟩
    rw [hr]
    have hmW' : Mem.holds ⟨M.base, bs b ++ [(l, .loop r)], allBut W (turns l D (M.marks ++ M.rb) Cs) :: ks b, D :: M.marks, M.rows⟩ W := by
      refine ⟨hmW.os, hmW.tape, hmW.output, hmW.size, hmW.old, hmW.box, hmW.nodup, fun k hk => ?_, fun p hp k hk => ?_⟩
      · rcases List.mem_cons.1 hk with rfl | hk
        · exact ⟨Nat.le_refl _, fun _ _ _ _ => rfl⟩
        · exact hmW.kept k hk
      · rcases List.mem_cons.1 hk with rfl | hk
        · simp only [Mem.all, List.mem_append, List.mem_singleton] at hp
          rcases hp with (hp | hp) | hp | hp
          · exact .inr (.inr (fun hn => hn (.inr (.inr (.inr (by rw [← hCs b]; exact List.mem_map_of_mem hp))))))
          · exact .inr (.inr (fun hn => hn (.inl (by rw [hp]))))
          · exact .inr (.inr (fun hn => hn (.inr (.inr (.inl (List.mem_append_right _ (List.mem_map_of_mem hp)))))))
          · obtain ⟨D', hD', rfl⟩ := List.mem_map.1 hp
            exact .inr (.inr (fun hn => hn (by
              rcases List.mem_cons.1 hD' with h | h
              · exact .inr (.inl h)
              · exact .inr (.inr (.inl (List.mem_append_left _ h))))))
        · exact hmW.apart p hp k hk
    have hrd := hround l D W r pre x post b hx hI (by rw [hr])
    have hfr : Fr ⟨some l, []⟩ N (zipL ps.toList (enc x) L) { tmps := (ps.toList.zip (enc x)).foldl (fun c p => c.setIfInBounds p.1 p.2) a.tmps, defers := [] } :=
      zipL_fr (Z := ⟨some l, []⟩) ps.toList (enc x) L a.tmps (fun t ht => by
        have := Array.all_eq_true'.1 hps t (by simpa using ht)
        simpa using this) ⟨hf.1, rfl, hf.2.2⟩
    have hstart := hrd _ W hfr hmW'
    rw [hr] at hstart
    refine roundIn_of_wpIn (F := FW none) trivial ?_
    have hz : (ps.zip (enc x).toArray).foldl (fun tmps (p : Nat × Value) => tmps.setIfInBounds p.1 p.2) a.tmps = (ps.toList.zip (enc x)).foldl (fun c p => c.setIfInBounds p.1 p.2) a.tmps := by
      rw [← Array.foldl_toList, Array.toList_zip]
    rw [← hz] at hstart
    refine Go.wpIn_mono hstart ?_
    intro e a1 w1 he
    cases e with
    | normal =>
      obtain ⟨w2, hb2, hbody⟩ := he
      refine ⟨w2, hb2, Go.wpIn_mono hbody ?_⟩
      intro e a3 w3 he3
      cases e with
      | normal =>
        obtain ⟨b', hI', hm3⟩ := he3
        have hidx : (bs b' ++ [busy l { state := .ready, pending := none, fn := fn, tmps := a.tmps, params := ps, assign := assign, body := body, defers := D }])[(bs b').length]? = some (busy l { state := .ready, pending := none, fn := fn, tmps := a.tmps, params := ps, assign := assign, body := body, defers := D }) := by simp
        have hend := run_endRound (P := P) none (hm3.boxOf (List.mem_of_getElem? hidx)).2
        refine ⟨_, _, hend, rfl, ⟨b', hI', ?_⟩, ?_⟩
        · have := hm3.put hidx (.loop { state := .ready, pending := none, fn := fn, tmps := a.tmps, params := ps, assign := assign, body := body, defers := D })
          have hs : (bs b' ++ [busy l { state := .ready, pending := none, fn := fn, tmps := a.tmps, params := ps, assign := assign, body := body, defers := D }]).set (bs b').length (l, .loop { state := .ready, pending := none, fn := fn, tmps := a.tmps, params := ps, assign := assign, body := body, defers := D }) = bs b' ++ [(l, .loop { state := .ready, pending := none, fn := fn, tmps := a.tmps, params := ps, assign := assign, body := body, defers := D })] := by simp [List.set_append_right]
          rw [hs] at this
          exact this.less (List.Sublist.refl _) (List.sublist_cons_self _ _)
        · have hk := hm3.kept _ (List.mem_cons_self ..)
          refine ⟨hm3.os.trans hmW.os.symm, hm3.tape.trans hmW.tape.symm, hm3.output.trans hmW.output.symm, ?_, fun c hc hn => ?_⟩
          · simp only [World.putObj_size]; exact hk.1
          · exact (World.putObj_heap_other (fun h => hn (.inl h))).trans (hk.2 c (Nat.zero_le _) hc hn)
      | _ => exact he3.elim
    | _ => exact he.elim
  · rintro e w' ⟨rfl, b, hI, hm'⟩
    have hlast : (bs b ++ [(l, Obj.loop r)])[(bs b).length]? = some (l, .loop r) := by simp
    have hrun := run_endLoop (P := P) (hm'.boxOf (List.mem_of_getElem? hlast)).2 (by rw [hr]; simp)
    have hpend : r.pending = none := by rw [hr]
    have hfin : Mem.holds ⟨M.base, bs b, ks b, D :: M.marks, M.rows⟩ (w'.putObj l (.loop { r with state := .exhausted })) :=
      (hm'.put hlast (.loop { r with state := .exhausted })).less (by simp [List.set_append_right]) (List.Sublist.refl _)
    refine ⟨none, w'.putObj l (.loop { r with state := .exhausted }), by rw [← hpend]; exact hrun, ?_⟩
    exact hdone D b hI _ _ ⟨hf.1, by simp [hf.2.1], hf.2.2⟩ hfin
end
end Go.Q
namespace Go.Q
open Go Go.RowKit
def setB (bs : List (Nat × Obj)) (V : List (Nat × Nat × Obj)) : List (Nat × Obj) := V.foldl (fun bs p => bs.set p.1 p.2) bs
section
variable {P : Program} {Z : Env} {N : Nat} {L : List (Nat × Value)} {M : Mem} {Q : Exit → Act → World → Prop} {ops : Array Oper} {rest : List Oper} {ty : TypeId} {pos : String} {af : Array Edge} {x y : Operand} {v : Value} {d : Option Tmp} {g : Option (Nat × Bool)}
theorem tc_loopB {β : Type} {B : World} {bs : List (Nat × Obj)} {ks : List Kp} {ms : List Nat} {rs : List (Option (Nat × Obj))} {c : Code} (V : β → List (Nat × Value)) (VB : β → List (Nat × Nat × Obj)) (I : β → Prop) (μ : β → Nat) (b₀ : β) (h0 : I b₀) (hL : Sub L (V b₀)) (hM : setB bs (VB b₀) = bs)
    (round : ∀ b, I b → TC P Z N (V b ++ L) ⟨B, setB bs (VB b), ks, ms, rs⟩ c (Exit.then (fun a w => ∃ b', I b' ∧ μ b' < μ b ∧ Fr Z N (V b' ++ L) a ∧ Mem.holds ⟨B, setB bs (VB b'), ks, ms, rs⟩ w) Q)) : TC P Z N L ⟨B, bs, ks, ms, rs⟩ (.loop c) Q :=
  tc_loopV V (fun b => ⟨B, setB bs (VB b), ks, ms, rs⟩) I μ b₀ h0 hL (fun w h => by rw [hM]; exact h) round
theorem tp_roundB {β : Type} {V : β → List (Nat × Value)} {VB : β → List (Nat × Nat × Obj)} {I : β → Prop} {μ : β → Nat} {b : β} {Le : List (Nat × Value)} {B : World} {bs bs' : List (Nat × Obj)} {ks ks' : List Kp} {ms : List Nat} {rs : List (Option (Nat × Obj))} (b' : β) (hI : I b') (hμ : μ b' < μ b) (hV : Sub Le (V b')) (hE : Le.drop (Le.length - L.length) = L)
    (hk : (Le.take (Le.length - L.length)).all (fun p => hasKey (V b') p.1 || (L.lookup p.1).isNone) = true) (h1 : bs'.drop (bs'.length - bs.length) = setB bs (VB b')) (h2 : ks'.drop (ks'.length - ks.length) = ks) :
    TP Z N Le ⟨B, bs', ks', ms, rs⟩ .normal (Exit.then (fun a w => ∃ b', I b' ∧ μ b' < μ b ∧ Fr Z N (V b' ++ L) a ∧ Mem.holds ⟨B, setB bs (VB b'), ks, ms, rs⟩ w) Q) :=
  fun _ w hf hm => ⟨b', hI, hμ, hf.again hV hE hk, hm.less (h1 ▸ List.drop_sublist _ _) (h2 ▸ List.drop_sublist _ _)⟩
theorem tc_rangeFuncB {α β : Type} {B : World} {bs : List (Nat × Obj)} {ks : List Kp} {ms : List Nat} {rs : List (Option (Nat × Obj))} {g : Operand} {ps : Array Tmp} {assign body : Code} {gf : FuncId} {caps : List Value} {ds : List Nat} (enc : α → List Value) (xs : List α) (VB : β → List (Nat × Nat × Obj)) (I : List α → β → Prop) (b0 : β)
    (hF : IsFn P gf) (h0 : I [] b0) (hlen : ∀ x, (enc x).length = ps.size) (hCs : ∀ b, (setB bs (VB b)).map Prod.fst = bs.map Prod.fst) (hM : setB bs (VB b0) = bs)
    (hit : ∀ w W1 l (C : Nat → Prop), Mem.holds ⟨B, bs, ks, ms, rs⟩ w → Below w.heap.size w W1 → (∀ b, b < B.heap.size → ¬ C b) → (∀ k ∈ ks, ∀ b, k.lo ≤ b → b < k.hi → k.on b → ¬ C b) → (∀ b, C b → b < W1.heap.size) → Yields1 P gf caps enc xs C l W1)
    (hround : ∀ l D W (r : Loop) pre x post b, xs = pre ++ x :: post → I pre b → r.state = .ready → TC P ⟨some l, []⟩ N (zipL ps.toList (enc x) L) ⟨B, setB bs (VB b) ++ [(l, .loop r)], allBut W (turns l D (ms ++ rbOf rs) (bs.map Prod.fst)) :: ks, D :: ms, rs⟩ assign
      (BeginK P l body (RoundQ (I (pre ++ [x])) (fun b' => ⟨B, setB bs (VB b') ++ [busy l r], allBut W (turns l D (ms ++ rbOf rs) (bs.map Prod.fst)) :: ks, D :: ms, rs⟩))))
    (hdone : ∀ D b, I xs b → TP ⟨none, D :: ds⟩ N L ⟨B, setB bs (VB b), ks, D :: ms, rs⟩ .normal Q)
    (hg : ev L g = some (.func (.func gf) #[] caps.toArray) := by rfl) (hps : ps.toList.all (fun t => Nat.blt t N) = true := by rfl) :
    TC P ⟨none, ds⟩ N L ⟨B, bs, ks, ms, rs⟩ (.rangeFunc g ps assign body) Q :=
  tc_rangeFunc enc xs (fun b => setB bs (VB b)) (fun _ => ks) (bs.map Prod.fst) I b0 hg hF (Array.all_eq_true'.2 fun t ht => by have := List.all_eq_true.1 hps t (by simpa using ht); simpa using this) hlen hCs h0 (fun w h => by rw [hM]; exact h) hit hround hdone
theorem tp_roundF {β : Type} {I : β → Prop} {l D : Nat} {r : Loop} {Le : List (Nat × Value)} {B : World} {VB : β → List (Nat × Nat × Obj)} {bs bs' : List (Nat × Obj)} {ks ks' : List Kp} {ms : List Nat} {rs : List (Option (Nat × Obj))} (b' : β) (hI : I b') (h1 : bs'.drop (bs'.length - (bs.length + 1)) = setB bs (VB b') ++ [busy l r]) (h2 : ks'.drop (ks'.length - ks.length) = ks) :
    TP Z N Le ⟨B, bs', ks', D :: ms, rs⟩ .normal (RoundQ I (fun b' => ⟨B, setB bs (VB b') ++ [busy l r], ks, D :: ms, rs⟩)) :=
  fun _ w hf hm => ⟨b', hI, hm.less (h1 ▸ List.drop_sublist _ _) (h2 ▸ List.drop_sublist _ _)⟩
theorem qv_ldH {T : TypeId} {b o lo hi : Nat} {W : World} {cs : Array Value} {T0 : TypeId} {fz : Nat × Nat} (hT : Scalar P T) (hM : M.has W lo hi) (h1 : lo ≤ b) (h2 : b < hi) (hi' : W.heap[b]? = some (.cells cs T0 fz)) (hx : ev L x = some (.pointer (some ⟨b, o, none⟩))) (ho : cs[o]? = some v) :
    Qv P Z N L M ⟨d, .load T x, ty, pos, af, g⟩ v :=
  qv_load hx fun w hm => run_loadVar_scalar hT (cell_of (by rw [(hM w hm).2 b h1 h2]; exact hi') ho)
theorem Mem.init_known {w w' : World} {ks : List Kp} (h : (Mem.init w).holds w') (hk : ∀ k ∈ ks, k.w = w ∧ k.hi ≤ w.heap.size) : Mem.holds ⟨w, [], ks, [], []⟩ w' :=
  ⟨h.os, h.tape, h.output, h.size, h.old, fun p hp => by simp [Mem.all] at hp, by simp [Mem.all], fun k h' => ⟨Nat.le_trans (hk k h').2 h.size, fun b _ h2 _ => by rw [(hk k h').1]; exact h.old b (Nat.lt_of_lt_of_le h2 (hk k h').2)⟩, fun p hp => by simp [Mem.all] at hp⟩
theorem Mem.holds.rebase {M : Mem} {C : Nat → Prop} {w1 w2 : World} {ks : List Kp} (hm : M.holds w1) (hu : Upto C w1 w2) (h : ∀ k ∈ ks, k.hi ≤ w1.heap.size ∧ ∀ b, k.lo ≤ b → b < k.hi → k.on b → ¬ C b ∧ w1.heap[b]? = k.w.heap[b]?) : Mem.holds ⟨w2, [], ks, [], []⟩ w2 :=
  ⟨rfl, rfl, rfl, Nat.le_refl _, fun _ _ => rfl, fun p hp => by simp [Mem.all] at hp, by simp [Mem.all], fun k hk => ⟨Nat.le_trans (h k hk).1 hu.size, fun b h1 h2 h3 => by
    obtain ⟨h4, h5⟩ := (h k hk).2 b h1 h2 h3
    rw [hu.block b (Nat.lt_of_lt_of_le h2 (h k hk).1) h4]; exact h5⟩, fun p hp => by simp [Mem.all] at hp⟩
theorem not_at {C : Nat → Prop} {c b : Nat} (h : ¬ C c) (h1 : c ≤ b) (h2 : b < c + 1) : ¬ C b := by rwa [show b = c by omega]
/-- a guarded operation that is wanted -/
theorem tl_unguard {op : Op} {j t : Nat} {want : Bool} (h : TL P Z N L M ops (⟨d, op, ty, pos, af, none⟩ :: rest) Q) (hj : (ops[j]?).bind (·.dst) = some t := by rfl) (hl : L.lookup t = some (.bool want) := by rfl) : TL P Z N L M ops (⟨d, op, ty, pos, af, some (j, want)⟩ :: rest) Q := fun a w hf hm => by
  have h' := h a w hf hm
  unfold wpListIn at h' ⊢
  rw [if_pos (by rw [wanted_some rfl hj hf hl]; simp)]
  rw [if_pos (by simp [Region.wanted])] at h'
  exact h'
/-- yield in an iterator that keeps J -/
theorem tl_yieldJ {α : Type} {C : Nat → Prop} {J : List α → World → Prop} {enc : α → List Value} {dd l : Nat} {args : Array Operand} {at' : Array TypeId} {fo : Operand} (hJ : ∀ pre W W', J pre W → Below W.heap.size W W' → J pre W') (pre : List α) (e : α)
    (hY : ∀ W, J pre W → YieldAt (FW none) 0 P l (enc e).toArray W fun e' W' => e' = .returned (.bool true) ∧ J (pre ++ [e]) W' ∧ Upto C W W')
    (h0 : J pre M.base) (hfo : ev L fo = some (.func (.yield l) #[] #[])) (hvs : evs L args.toList = some (enc e))
    (h : ∀ w1 w2, M.holds w1 → J (pre ++ [e]) w2 → Upto C w1 w2 → ∃ M' : Mem, M'.holds w2 ∧ TL P Z N ((dd, .bool true) :: L) M' ops rest Q) (hd : dd < N := by decide) :
    TL P Z N L M ops (⟨some dd, .call { callee := .value fo, args := args, argTypes := at' }, ty, pos, af, none⟩ :: rest) Q :=
  tl_yield (β := Unit) (val := fun _ => .bool true) (R := fun _ w1 w2 => J (pre ++ [e]) w2 ∧ Upto C w1 w2) hfo hvs (fun w hm => by
    obtain ⟨fn, tmps, assign, body, h1, h2⟩ := hY w (hJ pre _ _ h0 hm.below)
    exact ⟨fn, tmps, assign, body, h1, RoundIn.mono h2 fun e' W' ⟨h3, h4, h5⟩ => ⟨(), h3, h4, h5⟩⟩) (fun _ w1 w2 hm ⟨h4, h5⟩ => h w1 w2 hm h4 h5) hd
def AgainW {β : Type} (Z : Env) (N : Nat) (L : List (Nat × Value)) (ks : List Kp) (V : β → List (Nat × Value)) (I : β → World → Prop) (μ : β → Nat) (b : β) : Act → World → Prop :=
  fun a w => ∃ p : β × World, I p.1 p.2 ∧ μ p.1 < μ b ∧ Fr Z N (V p.1 ++ L) a ∧ Mem.holds ⟨p.2, [], ks, [], []⟩ w
theorem tc_loopW {β : Type} {c : Code} (ks : List Kp) (V : β → List (Nat × Value)) (I : β → World → Prop) (μ : β → Nat) (b₀ : β) (W₀ : World) (h0 : I b₀ W₀) (hL : Sub L (V b₀)) (hM : ∀ w, M.holds w → Mem.holds ⟨W₀, [], ks, [], []⟩ w)
    (round : ∀ b W, I b W → TC P Z N (V b ++ L) ⟨W, [], ks, [], []⟩ c (Exit.then (AgainW Z N L ks V I μ b) Q)) : TC P Z N L M (.loop c) Q :=
  tc_loopV (β := β × World) (fun p => V p.1) (fun p => ⟨p.2, [], ks, [], []⟩) (fun p => I p.1 p.2) (fun p => μ p.1) (b₀, W₀) h0 hL hM (fun p hI => round p.1 p.2 hI)
theorem tp_roundW {β : Type} {V : β → List (Nat × Value)} {I : β → World → Prop} {μ : β → Nat} {b : β} {Le : List (Nat × Value)} {W : World} {bs' : List (Nat × Obj)} {ks ks' : List Kp} (b' : β) (hI : I b' W) (hμ : μ b' < μ b) (hV : Sub Le (V b')) (hE : Le.drop (Le.length - L.length) = L)
    (hk : (Le.take (Le.length - L.length)).all (fun p => hasKey (V b') p.1 || (L.lookup p.1).isNone) = true) (h2 : ks'.drop (ks'.length - ks.length) = ks) :
    TP Z N Le ⟨W, bs', ks', [], []⟩ .normal (Exit.then (AgainW Z N L ks V I μ b) Q) :=
  fun _ w hf hm => ⟨(b', W), hI, hμ, hf.again hV hE hk, hm.less (List.nil_sublist _) (h2 ▸ List.drop_sublist _ _)⟩
theorem Mem.has.later {W w w' : World} {lo hi : Nat} (h : M.has W lo hi) (hm : M.holds w) (hb : Below w.heap.size w w') : hi ≤ w'.heap.size ∧ ∀ b, lo ≤ b → b < hi → w'.heap[b]? = W.heap[b]? :=
  ⟨Nat.le_trans (h w hm).1 hb.size, fun b h1 h2 => by rw [hb.block b (Nat.lt_of_lt_of_le h2 (h w hm).1)]; exact (h w hm).2 b h1 h2⟩
theorem qv_negI {T : TypeId} {n : Int} (hx : ev L x = some (.int .i64 n)) (h : -9223372036854775808 ≤ 0 - n ∧ 0 - n ≤ 9223372036854775807) : Qv P Z N L M ⟨d, .unOp .neg T x, ty, pos, af, g⟩ (.int .i64 (-n)) := by
  have := qv_neg (P := P) (Z := Z) (N := N) (M := M) (d := d) (ty := ty) (pos := pos) (af := af) (g := g) (T := T) hx
  rwa [wrap_in h.1 h.2, Int.zero_sub] at this
def BuildArr (P : Program) (T : TypeId) (sz : Nat) (zs : Array Value) : Prop := ∃ n E, P.underlying T = some (.array n E) ∧ Size P E sz ∧ Zero P T zs
theorem qv_buildA {T : TypeId} {parts : Array (Nat × Operand)} {sz : Nat} {zs cells : Array Value} {ps : List (Nat × Value)} (hT : BuildArr P T sz zs) (hp : evp L parts.toList = some ps) (hc : Instr.fill (fun i => some (i * sz, sz)) zs ps = some cells) :
    Qv P Z N L M ⟨d, .build T parts, ty, pos, af, g⟩ (.agg cells) := qv_of fun a hf w _ => by
  obtain ⟨n, E, hu, hs, hz⟩ := hT
  obtain ⟨z, hz1, hz2⟩ := hz w
  have hm : parts.map (fun (i, x) => (i, a.eval x)) = ps.toArray := by
    apply Array.ext'
    simpa using evp_map hf hp
  have : (Instr.build T ps.toArray).run P w = .ok (.agg cells) w := by
    simp only [Instr.build, Sem.run_bind, hz1, Result.andThen_ok, run_underlying hu, hs w, hz2, hc, Sem.run_pure]
  simp only [execOp, Sem.run_bind]
  rw [hm, this]
  rfl
/-- the first elements of a slice -/
theorem SlAt.take {α : Type} {W : World} {lo hi sz : Nat} {enc : α → List Value} {a : Option Addr} {l : List α} (h : SlAt W lo hi sz enc a l) (k : Nat) : SlAt W lo hi sz enc a (l.take k) :=
  ⟨Nat.le_trans (List.length_take_le' _ _) h.len, fun x hx => h.szs x (List.mem_of_mem_take hx), fun hn => h.nz (fun e => hn (by rw [e]; simp)), fun i j x v hx hv => h.cell i j x v (by
    rw [List.getElem?_take] at hx
    split at hx
    · exact hx
    · cases hx) hv⟩
end
end Go.Q
namespace Go.Q
open Go Go.RowKit
/-- v is a slice of n elements of one's own (no other slice shows into its block), xs its cells; ob its block -/
structure RowIs (e sz : Nat) (v : Value) (n : Nat) (xs : List Value) (ob : Option (Nat × Obj)) : Prop where
  len : xs.length = n * sz
  alt : (v = .slice none 0 0 ∧ n = 0 ∧ ob = none) ∨ ∃ g cap cur, v = .slice (some ⟨g, 0, none⟩) n cap ∧ ob = some (g, .cells cur e (0, 0)) ∧ n ≤ cap ∧ cap ≤ maxLen ∧ cur.size = cap * sz ∧ cur.toList.take (n * sz) = xs
theorem RowIs.nil (e sz : Nat) : RowIs e sz (.slice none 0 0) 0 [] none := ⟨by simp, .inl ⟨rfl, rfl, rfl⟩⟩
def AppTy (P : Program) (t e sz bytes : Nat) : Prop := P.underlying t = some (.slice e) ∧ (∃ z, (P.info? e).map (fun i => (i.zero, i.size, i.bytes)) = some (some z, sz, bytes) ∧ z.cells.size = sz) ∧ 0 < sz
section
variable {P : Program} {Z : Env} {N : Nat} {L : List (Nat × Value)} {M : Mem} {Q : Exit → Act → World → Prop} {ops : Array Oper} {rest : List Oper} {ty : TypeId} {pos : String} {af : Array Edge} {x y : Operand} {v : Value} {dd : Nat}
theorem set_filterMap {α : Type} : ∀ (rs : List (Option α)) (i : Nat) (o o' : Option α), rs[i]? = some o → ∃ A C, rs.filterMap id = A ++ o.toList ++ C ∧ (rs.set i o').filterMap id = A ++ o'.toList ++ C
  | [], i, o, o', h => by simp at h
  | r :: rs, 0, o, o', h => by
    simp at h
    subst h
    refine ⟨[], rs.filterMap id, ?_, ?_⟩
    · cases r <;> simp
    · cases o' <;> simp
  | r :: rs, i + 1, o, o', h => by
    obtain ⟨A, C, h1, h2⟩ := set_filterMap rs i o o' (by simpa using h)
    refine ⟨r.toList ++ A, C, ?_, ?_⟩
    · cases r <;> simp [h1]
    · cases r <;> simp [h2]
/-- a row is turned, or laid anew -/
theorem Mem.holds.row {B : World} {bs : List (Nat × Obj)} {ks : List Kp} {ms : List Nat} {rs : List (Option (Nat × Obj))} {w w' : World} {i : Nat} {ob : Option (Nat × Obj)} (h : Mem.holds ⟨B, bs, ks, ms, rs⟩ w) (hi : rs[i]? = some ob)
    {row : Option Nat} (hrow : row = ob.map Prod.fst) (hg : w.grownBy w' row) {ob' : Option (Nat × Obj)} (hob : ∀ p, ob' = some p → w'.heap[p.1]? = some p.2 ∧ (row = some p.1 ∨ p.1 = w.heap.size)) : Mem.holds ⟨B, bs, ks, ms, rs.set i ob'⟩ w' := by
  obtain ⟨A, C, h1, h2⟩ := set_filterMap rs i ob ob' hi
  have hall : (Mem.mk B bs ks ms rs).all = (bs ++ A) ++ (ob.toList ++ (C ++ ms.map markBox)) := by simp only [Mem.all, h1, List.append_assoc]
  have hall' : (Mem.mk B bs ks ms (rs.set i ob')).all = (bs ++ A) ++ (ob'.toList ++ (C ++ ms.map markBox)) := by simp only [Mem.all, h2, List.append_assoc]
  have hne : ∀ p ∈ (bs ++ A) ++ (C ++ ms.map markBox), p ∈ (Mem.mk B bs ks ms rs).all ∧ some p.1 ≠ row := by
    intro p hp
    have hnd := h.nodup
    rw [hall] at hnd ⊢
    cases ob with
    | none => exact ⟨by simpa using hp, by rw [hrow]; simp⟩
    | some q =>
      have hperm : ((bs ++ A) ++ ([q] ++ (C ++ ms.map markBox))).Perm (q :: ((bs ++ A) ++ (C ++ ms.map markBox))) := List.perm_middle
      have hp2 := (hperm.pairwise_iff (fun {a b} h => Ne.symm h)).1 hnd
      have := (List.pairwise_cons.1 hp2).1 p hp
      refine ⟨hperm.mem_iff.2 (List.mem_cons_of_mem _ hp), ?_⟩
      rw [hrow]
      simpa using fun e => this e.symm
  have hrb : ∀ b, row = some b → B.heap.size ≤ b ∧ b < w.heap.size ∧ ∀ k ∈ ks, b < k.lo ∨ k.hi ≤ b ∨ ¬ k.on b := by
    intro b hb
    rw [hrow] at hb
    cases ob with
    | none => simp at hb
    | some q =>
      simp at hb
      subst hb
      have hq : q ∈ (Mem.mk B bs ks ms rs).all := by rw [hall]; simp
      have := h.box _ hq
      exact ⟨this.1, get_lt this.2, h.apart _ hq⟩
  refine ⟨hg.os.trans h.os, hg.tape.trans h.tape, hg.output.trans h.output, Nat.le_trans h.size hg.size, fun b hb => ?_, fun p hp => ?_, ?_, fun k hk => ⟨Nat.le_trans (h.kept k hk).1 hg.size, fun b h3 h4 h5 => ?_⟩, fun p hp k hk => ?_⟩
  · rw [hg.block b (Nat.lt_of_lt_of_le hb h.size) (fun e => by have := (hrb b e.symm).1; simp only at hb; omega)]
    exact h.old b hb
  · rw [hall'] at hp
    simp only [List.mem_append, Option.mem_toList] at hp
    rcases hp with hp | hp | hp
    · obtain ⟨h5, h6⟩ := hne p (List.mem_append_left _ (List.mem_append.2 hp))
      have h7 := h.box p h5
      exact ⟨h7.1, by rw [hg.block _ (get_lt h7.2) h6]; exact h7.2⟩
    · obtain ⟨h5, h6⟩ := hob p hp
      refine ⟨?_, h5⟩
      rcases h6 with h6 | h6
      · exact (hrb _ h6).1
      · rw [h6]; exact h.size
    · obtain ⟨h5, h6⟩ := hne p (List.mem_append_right _ (List.mem_append.2 hp))
      have h7 := h.box p h5
      exact ⟨h7.1, by rw [hg.block _ (get_lt h7.2) h6]; exact h7.2⟩
  · rw [hall']
    have hbase : ((bs ++ A) ++ (C ++ ms.map markBox)).Pairwise (fun p q => p.1 ≠ q.1) := by
      have hnd := h.nodup
      rw [hall] at hnd
      exact hnd.sublist (List.Sublist.append (List.Sublist.refl _) (List.sublist_append_right _ _))
    cases ob' with
    | none => simpa using hbase
    | some q =>
      have hperm : (q :: ((bs ++ A) ++ (C ++ ms.map markBox))).Perm ((bs ++ A) ++ ([q] ++ (C ++ ms.map markBox))) := List.perm_middle.symm
      refine (hperm.pairwise_iff (fun {a b} h => Ne.symm h)).1 (List.pairwise_cons.2 ⟨fun p hp => ?_, hbase⟩)
      obtain ⟨h5, h6⟩ := hne p hp
      rcases (hob q rfl).2 with h7 | h7
      · exact fun e => h6 (by rw [h7, e])
      · have := get_lt (h.box p h5).2; omega
  · rw [hg.block b (Nat.lt_of_lt_of_le h4 (h.kept k hk).1) (fun e => by
      rcases (hrb b e.symm).2.2 k hk with h6 | h6 | h6
      · omega
      · omega
      · exact h6 h5)]
    exact (h.kept k hk).2 b h3 h4 h5
  · rw [hall'] at hp
    simp only [List.mem_append, Option.mem_toList] at hp
    rcases hp with hp | hp | hp
    · exact h.apart p (hne p (List.mem_append_left _ (List.mem_append.2 hp))).1 k hk
    · rcases (hob p hp).2 with h6 | h6
      · exact (hrb _ h6).2.2 k hk
      · exact .inr (.inl (by rw [h6]; exact (h.kept k hk).1))
    · exact h.apart p (hne p (List.mem_append_right _ (List.mem_append.2 hp))).1 k hk
theorem RowIs.owns {e sz n : Nat} {xs : List Value} {ob : Option (Nat × Obj)} (h : RowIs e sz v n xs ob) {base : Nat} {w : World} (hob : ∀ p, ob = some p → base ≤ p.1 ∧ w.heap[p.1]? = some p.2) : w.ownsRow base e sz v n xs := by
  refine ⟨h.len, ?_⟩
  rcases h.alt with ⟨h1, h2, _⟩ | ⟨g, cap, cur, h1, h2, h3⟩
  · exact .inl ⟨h1, h2⟩
  · obtain ⟨h4, h5⟩ := hob _ h2
    exact .inr ⟨g, cap, cur, h1, h4, h5, h3⟩
theorem ownBlock_of {e sz n : Nat} {xs : List Value} {ob : Option (Nat × Obj)} (h : RowIs e sz v n xs ob) : v.ownBlock = ob.map Prod.fst := by
  rcases h.alt with ⟨h1, _, h2⟩ | ⟨g, cap, cur, h1, h2, _⟩ <;> subst h1 <;> subst h2 <;> rfl
theorem RowIs.of_owns {w : World} {base e sz n : Nat} {xs : List Value} (h : w.ownsRow base e sz v n xs) : ∃ ob, RowIs e sz v n xs ob ∧ ∀ p, ob = some p → w.heap[p.1]? = some p.2 := by
  rcases h.2 with ⟨h1, h2⟩ | ⟨g, cap, cur, h1, _, h3, h4⟩
  · exact ⟨none, ⟨h.1, .inl ⟨h1, h2, rfl⟩⟩, fun p hp => by cases hp⟩
  · exact ⟨some (g, .cells cur e (0, 0)), ⟨h.1, .inr ⟨g, cap, cur, h1, rfl, h4⟩⟩, fun p hp => by cases hp; exact h3⟩
/-- append to a row of one's own; y: a slice whose cells are in a box -/
theorem tl_append {B : World} {bs : List (Nat × Obj)} {ks : List Kp} {ms : List Nat} {rs : List (Option (Nat × Obj))} {t e sz bytes n m c b : Nat} {xs news : List Value} {ob : Option (Nat × Obj)} {cs : Array Value} {T0 : TypeId} {fz : Nat × Nat} (i j : Nat) (hT : AppTy P t e sz bytes) (hrow : RowIs e sz v n xs ob)
    (h : ∀ v' ob', RowIs e sz v' (n + m) (xs ++ news) ob' → TL P Z N ((dd, v') :: L) ⟨B, bs, ks, ms, rs.set i ob'⟩ ops rest Q)
    (hone : ∀ u ∈ news, u.oneCell' = true) (b1 : n + m ≤ maxLen) (b2 : (n + m) * bytes ≤ 140737488355328)
    (hi : rs[i]? = some ob := by rfl) (hj : bs[j]? = some (b, .cells cs T0 fz) := by rfl) (hx : ev L x = some v := by rfl) (hy : ev L y = some (.slice (some ⟨b, 0, none⟩) m c) := by rfl) (hcs : cs.toList = news := by rfl) (hn : news.length = m * sz := by rfl) (hd : dd < N := by decide) :
    TL P Z N L ⟨B, bs, ks, ms, rs⟩ ops (⟨some dd, .call { callee := .builtin .append, args := #[x, y], argTypes := #[t, t] }, ty, pos, af, none⟩ :: rest) Q := fun a w hf hm => by
  obtain ⟨h1, ⟨z, hz, hzs⟩, h7⟩ := hT
  obtain ⟨ti, hi2, hz0, hz1, hz2⟩ := info_parts hz
  obtain ⟨A, C, hA, _⟩ := set_filterMap rs i ob none hi
  have hmem : ∀ p, ob = some p → p ∈ (Mem.mk B bs ks ms rs).all := fun p hp => by
    subst hp
    refine List.mem_append_right _ (List.mem_append_left _ ?_)
    show p ∈ rs.filterMap id
    rw [hA]; simp
  have hown : w.ownsRow B.heap.size e sz v n xs := hrow.owns fun p hp => hm.box p (hmem p hp)
  have hb := (hm.boxOf (List.mem_of_getElem? hj)).2
  obtain ⟨v', w', hrun, r1, r2, _, r4⟩ := run_append_own_at (P := P) (w := w) B.heap.size t ty e ti z sz bytes h1 hi2 hz0 hz1 hz2 hzs h7 v n xs hown ⟨b, 0, none⟩ m c news hn (fun k u hk => by
    subst hcs
    simp only [add_none, World.cell?, hb]
    simpa using hk) hone b1 b2 hm.size
  obtain ⟨ob', r5, r6⟩ := RowIs.of_owns r1
  have hrun' : (execOp a.eval ⟨some dd, .call { callee := .builtin .append, args := #[x, y], argTypes := #[t, t] }, ty, pos, af, none⟩).run P w = .ok (.value v') w' := by
    simp [execOp, resolve, invoke, builtin, hf.eval hx, hf.eval hy, hrun, Result.andThen]
  refine wpList_value rfl hrun' (h v' ob' r5 _ _ (hf.put hd _) (hm.row hi (ownBlock_of hrow) r2 fun p hp => ⟨r6 p hp, ?_⟩))
  have h8 := ownBlock_of r5
  rw [hp] at h8
  rcases r4 with r4 | r4
  · left; rw [← r4, h8]; rfl
  · right; rw [r4] at h8; simpa using h8.symm
def BuildSl (P : Program) (T len E sz : Nat) (zs0 : Array Value) : Prop := P.underlying T = some (.slice E) ∧ Size P E sz ∧ len * sz ≤ 16777216 ∧ 0 < len * sz ∧ ∃ zs, Zero P E zs ∧ (Array.range (len * sz)).map (fun k => zs[k % zs.size]!) = zs0
theorem run_buildSlice {T len E sz : Nat} {zs0 cells : Array Value} {ps : List (Nat × Value)} (hT : BuildSl P T len E sz zs0) (hc : Instr.fill (fun i => some (i * sz, sz)) zs0 ps = some cells) (w : World) :
    (Instr.buildSlice T len ps.toArray).run P w = .ok (.slice (some ⟨w.heap.size, 0, none⟩) len len) (w.alloc (.cells cells E)) := by
  obtain ⟨h1, h2, h3, h4, zs, h5, h6⟩ := hT
  obtain ⟨z, hz1, hz2⟩ := h5 w
  subst hz2
  simp only [Instr.buildSlice, Sem.run_bind, run_underlying h1, Result.andThen_ok, h2 w]
  rw [if_neg (by omega), if_neg (by omega)]
  simp only [Sem.run_bind, Sem.run_pure, hz1, Result.andThen_ok, h6, hc]
  simp [newRow]
theorem tl_buildSlice {B : World} {bs : List (Nat × Obj)} {ks : List Kp} {ms : List Nat} {rs : List (Option (Nat × Obj))} {T len E sz : Nat} {zs0 cells : Array Value} {parts : Array (Nat × Operand)} {ps : List (Nat × Value)} (hT : BuildSl P T len E sz zs0)
    (h : ∀ b, TL P Z N ((dd, .slice (some ⟨b, 0, none⟩) len len) :: L) ⟨B, (b, .cells cells E (0, 0)) :: bs, ks, ms, rs⟩ ops rest Q)
    (hp : evp L parts.toList = some ps := by rfl) (hc : Instr.fill (fun i => some (i * sz, sz)) zs0 ps = some cells := by rfl) (hd : dd < N := by decide) :
    TL P Z N L ⟨B, bs, ks, ms, rs⟩ ops (⟨some dd, .buildSlice T len parts, ty, pos, af, none⟩ :: rest) Q := fun a w hf hm => by
  have hpm : parts.map (fun (i, x) => (i, a.eval x)) = ps.toArray := by
    apply Array.ext'
    simpa using evp_map hf hp
  have hrun : (execOp a.eval ⟨some dd, .buildSlice T len parts, ty, pos, af, none⟩).run P w = .ok (.value (.slice (some ⟨w.heap.size, 0, none⟩) len len)) (w.alloc (.cells cells E)) := by
    have := run_buildSlice hT hc w
    rw [← hpm] at this
    simp [execOp, this]
  exact wpList_value rfl hrun (h _ _ _ (hf.put hd _) (hm.alloc _))
end
end Go.Q
namespace Go.Q
open Go Go.RowKit
section
variable {κ ω : Type} [DecidableEq κ]
def look (m : List (κ × ω)) (k : κ) (z : ω) : ω := match m.find? (fun p => decide (p.1 = k)) with | some p => p.2 | none => z
/-- the entry of k is there -/
def ensure (m : List (κ × ω)) (k : κ) (z : ω) : List (κ × ω) := if m.any (fun p => decide (p.1 = k)) then m else m ++ [(k, z)]
def setAt (m : List (κ × ω)) (k : κ) (v : ω) : List (κ × ω) := m.map (fun p => if p.1 = k then (k, v) else p)
def putM (m : List (κ × ω)) (k : κ) (v : ω) : List (κ × ω) := setAt (ensure m k v) k v
theorem look_ensure (m : List (κ × ω)) (k : κ) (z : ω) : look (ensure m k z) k z = look m k z := by
  unfold ensure
  split
  · rfl
  · rename_i h
    have hn : m.find? (fun p => decide (p.1 = k)) = none := by
      rw [List.find?_eq_none]
      intro p hp hk
      exact h (List.any_eq_true.2 ⟨p, hp, hk⟩)
    unfold look
    rw [List.find?_append, hn]
    simp
theorem setAt_ensure (m : List (κ × ω)) (k : κ) (z v : ω) : setAt (ensure m k z) k v = putM m k v := by
  unfold putM ensure setAt
  split <;> simp
variable (ek : κ → Value) (en : ω → Value)
/-- the entries of a map's block -/
structure Ents (m : List (κ × ω)) (es : Array MapEntry) (clock : Nat) : Prop where
  pairs : es.toList.map (fun e => (e.key, e.val)) = m.map (fun p => (ek p.1, en p.2))
  born : (es.toList.map (·.born)).Pairwise (· < ·)
  lt : ∀ e ∈ es.toList, e.born < clock
  nodup : (m.map Prod.fst).Nodup
def MapIs (m : List (κ × ω)) (o : Obj) : Prop := ∃ es clock, o = .map es clock ∧ Ents ek en m es clock
theorem MapIs.nil : MapIs ek en [] (.map #[] 0) := ⟨#[], 0, rfl, rfl, .nil, fun _ h => by simp at h, .nil⟩
variable {ek en}
theorem Ents.len {m : List (κ × ω)} {es : Array MapEntry} {clock : Nat} (h : Ents ek en m es clock) : es.size = m.length := by
  have := congrArg List.length h.pairs
  simpa using this
theorem Ents.get {m : List (κ × ω)} {es : Array MapEntry} {clock : Nat} (h : Ents ek en m es clock) (i : Nat) : (es[i]?).map (fun e => (e.key, e.val)) = (m[i]?).map (fun p => (ek p.1, en p.2)) := by
  have := congrArg (·[i]?) h.pairs
  simpa using this
theorem Ents.keys {m : List (κ × ω)} {es : Array MapEntry} {clock : Nat} (h : Ents ek en m es clock) : es.toList.map (·.key) = (m.map Prod.fst).map ek := by
  have := congrArg (List.map Prod.fst) h.pairs
  simpa [List.map_map, Function.comp_def] using this
def idxOf (k : κ) (ks : List κ) : Option Nat := ks.findIdx? (fun x => decide (k = x))
structure KeyTy (P : Program) (K : TypeId) (ek : κ → Value) : Prop where
  check : ∀ b k w, (Instr.checkKey b 10000 K (ek k)).run P w = .ok () w
  find : ∀ k (es : List MapEntry) (ks : List κ) w, es.map (·.key) = ks.map ek → (Instr.findKey K (ek k) es).run P w = .ok ((idxOf k ks).bind fun i => es[i]?.map fun e => (i, e.val)) w
  bits : ∀ k, Instr.sameBits 10000 (ek k) (ek k) = true
theorem findAsking_eq {P : Program} {K : TypeId} (heq : ∀ (k k' : κ) w, (Op.equal K (ek k) (ek k')).run P w = .ok (decide (k = k')) w) (k : κ) : ∀ (es : List MapEntry) (ks : List κ) (j : Nat) w, es.map (·.key) = ks.map ek →
    (Instr.findAsking K (ek k) es j).run P w = .ok ((idxOf k ks).bind fun i => es[i]?.map fun e => (j + i, e.val)) w
  | [], ks, j, w, h => by
    cases ks with
    | nil => simp [Instr.findAsking, idxOf]
    | cons _ _ => simp at h
  | e :: es, ks, j, w, h => by
    cases ks with
    | nil => simp at h
    | cons x ks =>
      simp only [List.map_cons, List.cons.injEq] at h
      obtain ⟨h1, h2⟩ := h
      have ih := findAsking_eq heq k es ks (j + 1) w h2
      simp only [Instr.findAsking, Sem.run_bind, h1, heq, Result.andThen_ok]
      by_cases hk : k = x
      · simp [hk, idxOf, List.findIdx?_cons]
      · simp only [hk, decide_false, Bool.false_eq_true, if_false, ih]
        simp only [idxOf, List.findIdx?_cons, hk, decide_false, Bool.false_eq_true, if_false]
        cases List.findIdx? (fun x => decide (k = x)) ks with
        | none => simp
        | some i => simp [Nat.add_assoc, Nat.add_comm 1 i]
/-- keys that are structs or arrays -/
theorem keyTy_agg {P : Program} {K : TypeId} (hK : (∃ fs, P.underlying K = some (.struct fs)) ∨ ∃ n E, P.underlying K = some (.array n E)) (hc : ∀ b (k : κ) w, (Instr.checkKey b 10000 K (ek k)).run P w = .ok () w)
    (heq : ∀ (k k' : κ) w, (Op.equal K (ek k) (ek k')).run P w = .ok (decide (k = k')) w) (hb : ∀ k, Instr.sameBits 10000 (ek k) (ek k) = true) : KeyTy P K ek where
  check := hc
  bits := hb
  find := fun k es ks w h => by
    have h2 := findAsking_eq heq k es ks 0 w h
    simp only [Nat.zero_add] at h2
    have h3 : ∀ T, ((∃ fs, T = TypeDesc.struct fs) ∨ ∃ n E, T = TypeDesc.array n E) → ∀ (es : List MapEntry), es ≠ [] → Instr.findNow T (ek k) es 0 = none := by
      intro T hT es hes
      cases es with
      | nil => exact absurd rfl hes
      | cons e es => rcases hT with ⟨fs, rfl⟩ | ⟨n, E, rfl⟩ <;> simp [Instr.findNow, Instr.sameNow]
    have main : ∀ T, P.underlying K = some T → ((∃ fs, T = TypeDesc.struct fs) ∨ ∃ n E, T = TypeDesc.array n E) → (Instr.findKey K (ek k) es).run P w = .ok ((idxOf k ks).bind fun i => es[i]?.map fun e => (i, e.val)) w := by
      intro T hu hT
      cases es with
      | nil =>
        cases ks with
        | nil => simp [Instr.findKey, run_underlying hu, Instr.findNow, idxOf]
        | cons _ _ => simp at h
      | cons e es => simp only [Instr.findKey, Sem.run_bind, run_underlying hu, Result.andThen_ok, h3 T hT (e :: es) (by simp), h2]
    rcases hK with ⟨fs, hu⟩ | ⟨n, E, hu⟩
    · exact main _ hu (.inl ⟨fs, rfl⟩)
    · exact main _ hu (.inr ⟨n, E, rfl⟩)
theorem idxOf_none {k : κ} {m : List (κ × ω)} (h : idxOf k (m.map Prod.fst) = none) : m.any (fun p => decide (p.1 = k)) = false := by
  rw [idxOf, List.findIdx?_eq_none_iff] at h
  rw [List.any_eq_false]
  intro p hp
  have := h p.1 (List.mem_map_of_mem hp)
  simpa [eq_comm] using this
theorem idxOf_some {k : κ} {m : List (κ × ω)} {i : Nat} (h : idxOf k (m.map Prod.fst) = some i) : ∃ v, m[i]? = some (k, v) := by
  rw [idxOf, List.findIdx?_eq_some_iff_getElem] at h
  obtain ⟨hi, h1, _⟩ := h
  have hi' : i < m.length := by simpa using hi
  simp at h1
  exact ⟨m[i].2, by rw [List.getElem?_eq_getElem hi', h1]⟩
theorem any_of_get {k : κ} {m : List (κ × ω)} {i : Nat} {v : ω} (h : m[i]? = some (k, v)) : m.any (fun p => decide (p.1 = k)) = true :=
  List.any_eq_true.2 ⟨(k, v), List.mem_of_getElem? h, by simp⟩
/-- with different keys, the entry of k is the one at i -/
theorem unique {m : List (κ × ω)} (hn : (m.map Prod.fst).Nodup) {i j : Nat} {k : κ} {v u : ω} (h : m[i]? = some (k, v)) (h' : m[j]? = some (k, u)) : i = j := by
  have hi : i < (m.map Prod.fst).length := by simpa using (List.getElem?_eq_some_iff.1 h).1
  have hj : j < (m.map Prod.fst).length := by simpa using (List.getElem?_eq_some_iff.1 h').1
  have e1 : (m.map Prod.fst)[i] = k := by have := (List.getElem?_eq_some_iff.1 h).2; simp [this]
  have e2 : (m.map Prod.fst)[j] = k := by have := (List.getElem?_eq_some_iff.1 h').2; simp [this]
  have hp := List.pairwise_iff_getElem.1 hn
  rcases Nat.lt_trichotomy i j with h1 | h1 | h1
  · exact absurd (e1.trans e2.symm) (hp i j hi hj h1)
  · exact h1
  · exact absurd (e2.trans e1.symm) (hp j i hj hi h1)
theorem look_at {m : List (κ × ω)} (hn : (m.map Prod.fst).Nodup) {i : Nat} {k : κ} {v z : ω} (h : m[i]? = some (k, v)) : look m k z = v := by
  unfold look
  cases hf : m.find? (fun p => decide (p.1 = k)) with
  | none =>
    rw [List.find?_eq_none] at hf
    have := hf (k, v) (List.mem_of_getElem? h)
    simp at this
  | some p =>
    obtain ⟨h1, as_, bs, h2, _⟩ := List.find?_eq_some_iff_append.1 hf
    simp at h1
    have hp : p ∈ m := List.mem_of_find?_eq_some hf
    obtain ⟨j, hj⟩ := List.getElem?_of_mem hp
    have : i = j := unique hn h (u := p.2) (by rw [hj, ← h1])
    subst this
    rw [h] at hj
    cases hj
    rfl
theorem look_none {m : List (κ × ω)} {k : κ} {z : ω} (h : idxOf k (m.map Prod.fst) = none) : look m k z = z := by
  unfold look
  have := idxOf_none h
  have hn : m.find? (fun p => decide (p.1 = k)) = none := by
    rw [List.find?_eq_none]
    intro p hp hk
    rw [List.any_eq_false] at this
    exact this p hp hk
  rw [hn]
section ops
variable {P : Program} {Z : Env} {N : Nat} {L : List (Nat × Value)} {M : Mem} {Q : Exit → Act → World → Prop} {ops : Array Oper} {rest : List Oper} {ty : TypeId} {pos : String} {af : Array Edge} {x y z : Operand} {dd b : Nat} {d : Option Tmp} {g : Option (Nat × Bool)} {T K E : TypeId}
def MapTy (P : Program) (T K E : TypeId) : Prop := P.underlying T = some (.map K E)
theorem run_lookup {m : List (κ × ω)} {o : Obj} {zv : ω} {k : κ} (hT : MapTy P T K E) (hK : KeyTy P K ek) (hm : MapIs ek en m o) (hz : ∀ w, (zeroValue E).run P w = .ok (en zv) w) {w : World} (hb : w.heap[b]? = some o) :
    (Instr.lookup T (.map (some b)) (ek k) false).run P w = .ok (en (look m k zv)) w := by
  obtain ⟨es, clock, rfl, h⟩ := hm
  have hf := hK.find k es.toList (m.map Prod.fst) w h.keys
  simp only [Instr.lookup, Sem.run_bind, run_underlying hT, Result.andThen_ok, MapKept.run_getObj_map hb, Sem.run_pure, hK.check, hf]
  cases hi : idxOf k (m.map Prod.fst) with
  | none => simp [hz w, look_none hi]
  | some i =>
    obtain ⟨v, hv⟩ := idxOf_some hi
    have hg := h.get i
    rw [hv] at hg
    simp only [Option.map_some] at hg
    obtain ⟨e, he, he2⟩ := Option.map_eq_some_iff.1 hg
    simp only [Prod.mk.injEq] at he2
    have he' : es.toList[i]? = some e := by rw [Array.getElem?_toList]; exact he
    simp only [he', Option.bind_some, Option.map_some, Sem.run_pure, Result.andThen_ok, he2.2, look_at h.nodup hv]
    rfl
theorem run_mapEntry {m : List (κ × ω)} {o : Obj} {zv : ω} {k : κ} (hT : MapTy P T K E) (hK : KeyTy P K ek) (hm : MapIs ek en m o) (hz : ∀ w, (zeroValue E).run P w = .ok (en zv) w) {w : World} (hb : w.heap[b]? = some o) :
    ∃ (es : Array MapEntry) (clock i bn : Nat), (Instr.mapEntry T (.map (some b)) (ek k)).run P w = .ok (.tuple #[en (look m k zv), .int .i64 (bn : Nat)]) (putBlock w b (.map es clock)) ∧ Ents ek en (ensure m k zv) es clock ∧ (ensure m k zv)[i]? = some (k, look m k zv) ∧ (es[i]?).map MapEntry.born = some bn := by
  obtain ⟨es, clock, rfl, h⟩ := hm
  have hf := hK.find k es.toList (m.map Prod.fst) w h.keys
  simp only [Instr.mapEntry, Sem.run_bind, run_underlying hT, Result.andThen_ok, MapKept.run_getObj_map hb, hK.check, hf]
  cases hi : idxOf k (m.map Prod.fst) with
  | none =>
    refine ⟨es.push { key := ek k, val := en zv, born := clock }, clock + 1, m.length, clock, ?_, ?_, ?_, ?_⟩
    · simp [hz w, look_none hi, MapKept.run_setObj_map _ hb, goInt, putBlock, ChangeMaps.setBlock]
    · have hens : ensure m k zv = m ++ [(k, zv)] := by rw [ensure, if_neg (by rw [idxOf_none hi]; simp)]
      rw [hens]
      refine ⟨by simp [h.pairs], ?_, ?_, ?_⟩
      · simp only [Array.toList_push, List.map_append, List.map_cons, List.map_nil]
        refine List.pairwise_append.2 ⟨h.born, by simp, fun a ha c hc => ?_⟩
        obtain ⟨e, he, rfl⟩ := List.mem_map.1 ha
        simp at hc
        subst hc
        exact h.lt e he
      · intro e he
        simp at he
        rcases he with he | rfl
        · have := h.lt e (by simpa using he); omega
        · simp
      · simp only [List.map_append, List.map_cons, List.map_nil]
        refine List.nodup_append.2 ⟨h.nodup, by simp, fun a ha c hc => ?_⟩
        simp at hc
        subst hc
        have := idxOf_none hi
        rw [List.any_eq_false] at this
        obtain ⟨p, hp, rfl⟩ := List.mem_map.1 ha
        simpa using this p hp
    · rw [ensure, if_neg (by rw [idxOf_none hi]; simp), look_none hi]; simp
    · rw [← h.len]; simp
  | some i =>
    obtain ⟨v, hv⟩ := idxOf_some hi
    have hg := h.get i
    rw [hv] at hg
    simp only [Option.map_some] at hg
    obtain ⟨e, he, he2⟩ := Option.map_eq_some_iff.1 hg
    simp only [Prod.mk.injEq] at he2
    have he' : es.toList[i]? = some e := by rw [Array.getElem?_toList]; exact he
    have hens : ensure m k zv = m := by rw [ensure, if_pos (any_of_get hv)]
    have hmod : es.modify i (fun e => { e with key := ek k }) = es := by
      apply Array.ext_getElem?
      intro j
      rw [Array.getElem?_modify]
      split
      · rename_i hij
        subst hij
        rw [he, ← he2.1]
        simp
      · rfl
    refine ⟨es, clock, i, e.born, ?_, by rw [hens]; exact h, by rw [hens, look_at h.nodup hv]; exact hv, by rw [he]; rfl⟩
    have hkts : (Instr.keyThatStays (ek k) (ek k)).run P w = .ok (ek k) w := by simp [Instr.keyThatStays, hK.bits]
    simp only [he', Option.bind_some, Option.map_some, he, Option.getD_some, he2.1, hkts, Sem.run_bind, Result.andThen_ok, hmod, MapKept.run_setObj_map _ hb, Sem.run_pure, he2.2, look_at h.nodup hv, goInt]
    rfl
theorem run_entryStore {m : List (κ × ω)} {es : Array MapEntry} {clock i bn : Nat} {k : κ} {u v : ω} (h : Ents ek en m es clock) (hi : m[i]? = some (k, u)) (hbn : (es[i]?).map MapEntry.born = some bn) {w : World} (hb : w.heap[b]? = some (.map es clock)) :
    ∃ o', (Instr.entryStore T (.map (some b)) (.int .i64 (bn : Nat)) (en v)).run P w = .ok () (putBlock w b o') ∧ MapIs ek en (setAt m k v) o' := by
  obtain ⟨e, he, rfl⟩ := Option.map_eq_some_iff.1 hbn
  have hlt : i < es.size := (Array.getElem?_eq_some_iff.1 he).1
  have hei : es[i] = e := (Array.getElem?_eq_some_iff.1 he).2
  have hfi : es.findIdx? (fun x => (x.born : Int) == (e.born : Int)) = some i := by
    rw [Array.findIdx?_eq_some_iff_getElem]
    refine ⟨hlt, by simp [hei], fun j hj => ?_⟩
    have hp := List.pairwise_iff_getElem.1 h.born j i (by simp; omega) (by simpa using hlt) hj
    simp only [List.getElem_map, Array.getElem_toList, hei] at hp
    simp
    omega
  refine ⟨.map (es.modify i fun x => { x with val := en v }) clock, ?_, _, _, rfl, ?_⟩
  · simp only [Instr.entryStore, Sem.run_bind, MapKept.run_getObj_map hb, Result.andThen_ok]
    have : (asInt (.int .i64 ((e.born : Nat) : Int))).run P w = .ok (e.born : Int) w := by simp [asInt, asIntOf]
    simp only [this, Result.andThen_ok, hfi, MapKept.run_setObj_map _ hb]
    rfl
  · have hborn : (es.modify i fun x => { x with val := en v }).toList.map (·.born) = es.toList.map (·.born) := by
      apply List.ext_getElem?
      intro j
      simp only [List.getElem?_map, Array.getElem?_toList, Array.getElem?_modify]
      split
      · rename_i hij; subst hij; rw [he]; rfl
      · rfl
    refine ⟨?_, by rw [hborn]; exact h.born, fun x hx => ?_, ?_⟩
    · apply List.ext_getElem?
      intro j
      have hg := h.get j
      simp only [List.getElem?_map, Array.getElem?_toList, Array.getElem?_modify, setAt]
      split
      · rename_i hij
        subst hij
        rw [he, hi] at hg ⊢
        simp at hg ⊢
        simp [hg.1]
      · rename_i hij
        rw [hg]
        cases hmj : m[j]? with
        | none => rfl
        | some p =>
          have : p.1 ≠ k := fun e2 => hij (unique h.nodup hi (u := p.2) (by rw [hmj, ← e2]))
          simp [this]
    · have : x.born ∈ (es.modify i fun x => { x with val := en v }).toList.map (·.born) := List.mem_map_of_mem hx
      rw [hborn] at this
      obtain ⟨x', hx', e3⟩ := List.mem_map.1 this
      rw [← e3]; exact h.lt x' hx'
    · have : (setAt m k v).map Prod.fst = m.map Prod.fst := by
        simp only [setAt, List.map_map]
        apply List.map_congr_left
        intro p _
        simp only [Function.comp]
        split
        · rename_i e4; exact e4.symm
        · rfl
      rw [this]; exact h.nodup
variable {B : World} {bs : List (Nat × Obj)} {ks : List Kp} {ms : List Nat} {rs : List (Option (Nat × Obj))}
theorem tl_makeMap (h : ∀ b, TL P Z N ((dd, .map (some b)) :: L) ⟨B, (b, .map #[] 0) :: bs, ks, ms, rs⟩ ops rest Q) (hd : dd < N := by decide) : TL P Z N L ⟨B, bs, ks, ms, rs⟩ ops (⟨some dd, .makeMap T none, ty, pos, af, none⟩ :: rest) Q := fun a w hf hm =>
  wpList_value rfl (w' := w.alloc (.map #[] 0)) (u := .map (some w.heap.size)) (by simp [execOp, Instr.makeMap]) (h _ _ _ (hf.put hd _) (hm.alloc _))
theorem qv_lookupM {m : List (κ × ω)} {o : Obj} {zv : ω} {k : κ} (i : Nat) (hT : MapTy P T K E) (hK : KeyTy P K ek) (hm : MapIs ek en m o) (hz : ∀ w, (zeroValue E).run P w = .ok (en zv) w) (hx : ev L x = some (.map (some b))) (hy : ev L y = some (ek k)) (hi : bs[i]? = some (b, o)) :
    Qv P Z N L ⟨B, bs, ks, ms, rs⟩ ⟨d, .lookup T x y false, ty, pos, af, g⟩ (en (look m k zv)) := qv_of fun a hf w hmw => by
  have := run_lookup (k := k) hT hK hm hz (hmw.boxOf (List.mem_of_getElem? hi)).2
  simp [execOp, hf.eval hx, hf.eval hy, this]
/-- the entry of k is there now; its stamp -/
def Stamped (ek : κ → Value) (en : ω → Value) (m : List (κ × ω)) (k : κ) (u : ω) (o : Obj) (bn : Nat) : Prop := ∃ (es : Array MapEntry) (clock i : Nat), o = .map es clock ∧ Ents ek en m es clock ∧ m[i]? = some (k, u) ∧ (es[i]?).map MapEntry.born = some bn
theorem Stamped.is {m : List (κ × ω)} {k : κ} {u : ω} {o : Obj} {bn : Nat} (h : Stamped ek en m k u o bn) : MapIs ek en m o := by
  obtain ⟨es, clock, i, h1, h2, _⟩ := h
  exact ⟨es, clock, h1, h2⟩
theorem tg_mapEntry {M0 : Mem} {mm f i : Nat} {listed : Array Bool} {m : List (κ × ω)} {o : Obj} {zv : ω} {k : κ} (j : Nat) (hT : MapTy P T K E) (hK : KeyTy P K ek) (hm : MapIs ek en m o) (hz : ∀ w, (zeroValue E).run P w = .ok (en zv) w)
    (h : ∀ o' bn, Stamped ek en (ensure m k zv) k (look m k zv) o' bn → TU P Z N ((dd, .tuple #[en (look m k zv), .int .i64 (bn : Nat)]) :: L) M0 ⟨B, bs.set j (b, o'), ks, ms, rs⟩ ops mm f (listed.setIfInBounds i true) Q)
    (hD : ∀ o' w, Mem.holds ⟨B, bs.set j (b, o'), ks, ms, rs⟩ w → M0.holds w) (ho : ops[i]? = some ⟨some dd, .mapEntry T x y, ty, pos, af, none⟩ := by rfl) (hj : bs[j]? = some (b, o) := by rfl) (hx : ev L x = some (.map (some b)) := by rfl) (hy : ev L y = some (ek k) := by rfl) (hd : dd < N := by decide) :
    TG P Z N L M0 ⟨B, bs, ks, ms, rs⟩ ops mm f listed i Q := fun a w hf hmw => by
  have hb := (hmw.boxOf (List.mem_of_getElem? hj)).2
  obtain ⟨es, clock, ix, bn, h1, h2, h3, h4⟩ := run_mapEntry (k := k) hT hK hm hz hb
  unfold gOp
  simp only [ho]
  have hrun : (execOp a.eval ⟨some dd, .mapEntry T x y, ty, pos, af, none⟩).run P w = .ok (.value (.tuple #[en (look m k zv), .int .i64 (bn : Nat)])) (putBlock w b (.map es clock)) := by
    simp [execOp, hf.eval hx, hf.eval hy, h1]
  rw [if_pos (wanted_none rfl _), hrun]
  have hm' := hmw.put hj (.map es clock)
  exact ⟨hD _ _ hm', h _ bn ⟨es, clock, ix, rfl, h2, h3, h4⟩ _ _ (hf.put hd _) hm'⟩
theorem tl_entryStore {m : List (κ × ω)} {o : Obj} {k : κ} {u v : ω} {bn : Nat} (j : Nat) (hs : Stamped ek en m k u o bn)
    (h : ∀ o', MapIs ek en (setAt m k v) o' → TL P Z N L ⟨B, bs.set j (b, o'), ks, ms, rs⟩ ops rest Q)
    (hj : bs[j]? = some (b, o) := by rfl) (hx : ev L x = some (.map (some b)) := by rfl) (hy : ev L y = some (.int .i64 (bn : Nat)) := by rfl) (hz : ev L z = some (en v) := by rfl) :
    TL P Z N L ⟨B, bs, ks, ms, rs⟩ ops (⟨none, .entryStore T x y z, ty, pos, af, none⟩ :: rest) Q := fun a w hf hmw => by
  obtain ⟨es, clock, i, rfl, h1, h2, h3⟩ := hs
  obtain ⟨o', h4, h5⟩ := run_entryStore (T := T) (v := v) h1 h2 h3 (hmw.boxOf (List.mem_of_getElem? hj)).2
  have h4' : (Instr.entryStore T (a.eval x) (a.eval y) (a.eval z)).run P w = .ok () (putBlock w b o') := by rw [hf.eval hx, hf.eval hy, hf.eval hz]; exact h4
  refine wpList_skipv rfl (w' := putBlock w b o') (by simp only [execOp, Sem.run_bind, h4']; rfl) (h o' h5 _ _ (hf.put_none _) (hmw.put hj _))
/-- a range over the map in block b; rest: what has not come yet -/
def RangeIs (ek : κ → Value) (en : ω → Value) (b : Nat) (m : List (κ × ω)) (om oi : Obj) (rest : List (κ × ω)) : Prop :=
  ∃ (es : Array MapEntry) (clock : Nat) (seen : Array Nat) (c0 : Nat), om = .map es clock ∧ Ents ek en m es clock ∧ oi = .mapIter (some b) clock seen c0 ∧ clock ≤ c0 ∧ (leftOf es seen).toList.map (fun e => (e.key, e.val)) = rest.map (fun p => (ek p.1, en p.2))
/-- the entry that came last -/
def EntryNow (ek : κ → Value) (en : ω → Value) (b : Nat) (om oi : Obj) (p : κ × ω) : Prop :=
  ∃ (es : Array MapEntry) (clock : Nat) (seen : Array Nat) (since : Nat) (e : MapEntry), om = .map es clock ∧ oi = .mapIter (some b) since (seen.push e.born) clock ∧ e ∈ es.toList ∧ (es.toList.map (·.born)).Nodup ∧ e.key = ek p.1 ∧ e.val = en p.2
theorem tl_range {m : List (κ × ω)} {o : Obj} (j : Nat) (hT : MapTy P T K E) (hm : MapIs ek en m o)
    (h : ∀ r oi, RangeIs ek en b m o oi m → TL P Z N ((dd, .pointer (some ⟨r, 0, none⟩)) :: L) ⟨B, (r, oi) :: bs, ks, ms, rs⟩ ops rest Q)
    (hj : bs[j]? = some (b, o) := by rfl) (hx : ev L x = some (.map (some b)) := by rfl) (hd : dd < N := by decide) :
    TL P Z N L ⟨B, bs, ks, ms, rs⟩ ops (⟨some dd, .range T x, ty, pos, af, none⟩ :: rest) Q := fun a w hf hmw => by
  obtain ⟨es, clock, rfl, h1⟩ := hm
  have hrun := run_range_map (P := P) w T K E b es clock hT (hmw.boxOf (List.mem_of_getElem? hj)).2
  refine wpList_value rfl (by simp only [execOp, hf.eval hx, Sem.run_bind, hrun]; rfl) (h _ _ ⟨es, clock, #[], clock, rfl, h1, rfl, Nat.le_refl _, ?_⟩ _ _ (hf.put hd _) (hmw.alloc _))
  rw [← h1.pairs]
  have : leftOf es #[] = es := by
    unfold leftOf
    exact Array.filter_eq_self.2 fun x _ => by simp
  rw [this]
theorem pw_ne {l : List Nat} (h : l.Pairwise (· < ·)) : l.Nodup := h.imp (fun h => by omega)
theorem RangeIs.step {m : List (κ × ω)} {es : Array MapEntry} {clock : Nat} {seen : Array Nat} {rest : List (κ × ω)} (h : Ents ek en m es clock) (hl : (leftOf es seen).toList.map (fun e => (e.key, e.val)) = rest.map (fun p => (ek p.1, en p.2)))
    {e : MapEntry} (he : e ∈ (leftOf es seen).toList) : ∃ p rest', rest.Perm (p :: rest') ∧ e.key = ek p.1 ∧ e.val = en p.2 ∧ (leftOf es (seen.push e.born)).toList.map (fun e => (e.key, e.val)) = rest'.map (fun p => (ek p.1, en p.2)) := by
  obtain ⟨A, C, hAC⟩ := List.append_of_mem he
  have hpush : (leftOf es (seen.push e.born)).toList = (leftOf es seen).toList.filter (fun x => !(x.born == e.born)) := by
    simp only [leftOf, Array.toList_filter, List.filter_filter]
    apply List.filter_congr
    intro x _
    rw [contains_push]
    cases seen.contains x.born <;> cases (x.born == e.born) <;> rfl
  have hnd : ((leftOf es seen).toList.map (·.born)).Nodup := by
    have : ((leftOf es seen).toList.map (·.born)).Sublist (es.toList.map (·.born)) := by
      simp only [leftOf, Array.toList_filter]
      exact (List.filter_sublist).map _
    exact (pw_ne h.born).sublist this
  rw [hAC] at hnd hl
  simp only [List.map_append, List.map_cons] at hnd hl
  obtain ⟨h1, h2, h3⟩ := List.nodup_append.1 hnd
  obtain ⟨h4, h5⟩ := List.nodup_cons.1 h2
  obtain ⟨A', R', hr, hA, hR⟩ := List.map_eq_append_iff.1 hl.symm
  obtain ⟨p, C', hR2, hp, hC⟩ := List.map_eq_cons_iff.1 hR
  subst hr
  subst hR2
  simp only [Prod.mk.injEq] at hp
  refine ⟨p, A' ++ C', List.perm_middle, hp.1.symm, hp.2.symm, ?_⟩
  have hfA : A.filter (fun x => !(x.born == e.born)) = A := List.filter_eq_self.2 fun x hx => by
    have := h3 x.born (List.mem_map_of_mem hx) e.born (by simp)
    simpa using this
  have hfC : C.filter (fun x => !(x.born == e.born)) = C := List.filter_eq_self.2 fun x hx => by
    have : x.born ≠ e.born := fun e2 => h4 (by rw [← e2]; exact List.mem_map_of_mem hx)
    simpa using this
  rw [hpush, hAC, List.filter_append, List.filter_cons, hfA, hfC]
  simp [hA, hC]
theorem tl_next {m rest_ : List (κ × ω)} {om oi : Obj} {r : Nat} (j i : Nat) (hr : RangeIs ek en b m om oi rest_)
    (hend : rest_ = [] → TL P Z N ((dd, .tuple #[.bool false]) :: L) ⟨B, bs, ks, ms, rs⟩ ops rest Q)
    (hgo : ∀ p rest' oi', rest_.Perm (p :: rest') → RangeIs ek en b m om oi' rest' → EntryNow ek en b om oi' p → TL P Z N ((dd, .tuple #[.bool true, ek p.1, en p.2]) :: L) ⟨B, bs.set i (r, oi'), ks, ms, rs⟩ ops rest Q)
    (hj : bs[j]? = some (b, om) := by rfl) (hi : bs[i]? = some (r, oi) := by rfl) (hx : ev L x = some (.pointer (some ⟨r, 0, none⟩)) := by rfl) (hd : dd < N := by decide) :
    TL P Z N L ⟨B, bs, ks, ms, rs⟩ ops (⟨some dd, .next x false, ty, pos, af, none⟩ :: rest) Q := fun a w hf hmw => by
  obtain ⟨es, clock, seen, c0, rfl, h1, rfl, h2, h3⟩ := hr
  have hb := (hmw.boxOf (List.mem_of_getElem? hj)).2
  have hrb := (hmw.boxOf (List.mem_of_getElem? hi)).2
  rcases run_next_at (P := P) w ty r b clock c0 seen es clock hrb hb h1.lt h2 with ⟨h0, hrun⟩ | ⟨e, he, w1, hal, hrun⟩
  · have hnil : rest_ = [] := by
      have : (leftOf es seen).toList = [] := by
        rw [Array.toList_eq_nil_iff]; exact Array.eq_empty_of_size_eq_zero h0
      rw [this] at h3
      simpa using h3.symm
    exact wpList_value rfl (by simp only [execOp, hf.eval hx, Sem.run_bind, hrun]; rfl) (hend hnil _ _ (hf.put hd _) hmw)
  · obtain ⟨p, rest', hp, hk, hv, hl⟩ := RangeIs.step h1 h3 he
    obtain ⟨hem, _⟩ := mem_left he
    have hm1 : Mem.holds ⟨B, bs, ks, ms, rs⟩ w1 := by rcases hal with rfl | rfl; exact hmw; exact hmw.drew
    rw [hk, hv] at hrun
    refine wpList_value rfl (by simp only [execOp, hf.eval hx, Sem.run_bind, hrun]; rfl) (hgo p rest' (.mapIter (some b) clock (seen.push e.born) clock) hp ⟨es, clock, _, clock, rfl, h1, rfl, Nat.le_refl _, hl⟩ ⟨es, clock, seen, clock, e, rfl, rfl, hem, pw_ne h1.born, hk, hv⟩ _ _ (hf.put hd _) (hm1.put hi _))
theorem tl_entry {om oi : Obj} {r : Nat} {p : κ × ω} (j i : Nat) (he : EntryNow ek en b om oi p)
    (h : TL P Z N ((dd, .tuple #[ek p.1, en p.2]) :: L) ⟨B, bs, ks, ms, rs⟩ ops rest Q)
    (hj : bs[j]? = some (b, om) := by rfl) (hi : bs[i]? = some (r, oi) := by rfl) (hx : ev L x = some (.pointer (some ⟨r, 0, none⟩)) := by rfl) (hd : dd < N := by decide) :
    TL P Z N L ⟨B, bs, ks, ms, rs⟩ ops (⟨some dd, .entry x, ty, pos, af, none⟩ :: rest) Q := fun a w hf hmw => by
  obtain ⟨es, clock, seen, since, e, rfl, rfl, h1, h2, h3, h4⟩ := he
  have hrun := run_entry_at (P := P) w r b since seen es clock e (hmw.boxOf (List.mem_of_getElem? hi)).2 (hmw.boxOf (List.mem_of_getElem? hj)).2 h1 h2
  rw [h3, h4] at hrun
  exact wpList_value rfl (by simp only [execOp, hf.eval hx, Sem.run_bind, hrun]; rfl) (h _ _ (hf.put hd _) hmw)
end ops
end
end Go.Q
namespace Go.Q
open Go Go.RowKit
/-- a row of elements -/
def RowOf {α : Type} (e sz : Nat) (enc : α → List Value) (v : Value) (l : List α) (ob : Option (Nat × Obj)) : Prop := RowIs e sz v l.length (l.flatMap enc) ob
theorem RowOf.nil {α : Type} (e sz : Nat) (enc : α → List Value) : RowOf e sz enc (.slice none 0 0) [] none := RowIs.nil e sz
theorem RowOf.snoc {α : Type} {e sz : Nat} {enc : α → List Value} {v : Value} {l : List α} {ob : Option (Nat × Obj)} {news : List Value} (y : α) (h : RowIs e sz v (l.length + 1) (l.flatMap enc ++ news) ob) (hn : news = enc y) : RowOf e sz enc v (l ++ [y]) ob := by
  unfold RowOf
  subst hn
  simpa using h
theorem RowOf.slice {α : Type} {e sz : Nat} {enc : α → List Value} {v : Value} {l : List α} {ob : Option (Nat × Obj)} (h : RowOf e sz enc v l ob) : ∃ a c, v = .slice a l.length c ∧ l.length ≤ c := by
  rcases h.alt with ⟨h1, h2, _⟩ | ⟨g, cap, cur, h1, _, h3, _⟩
  · exact ⟨none, 0, by rw [h1, h2], by omega⟩
  · exact ⟨_, cap, h1, h3⟩
theorem flatMap_get {α : Type} {enc : α → List Value} {sz : Nat} : ∀ {l : List α} {i j : Nat} {x : α}, (∀ y ∈ l, (enc y).length = sz) → l[i]? = some x → j < sz → (l.flatMap enc)[i * sz + j]? = (enc x)[j]?
  | [], _, _, _, _, h, _ => by simp at h
  | y :: l, 0, j, x, hs, h, hj => by
    simp at h
    subst h
    rw [List.flatMap_cons, Nat.zero_mul, Nat.zero_add, List.getElem?_append_left (by rw [hs _ (by simp)]; exact hj)]
  | y :: l, i + 1, j, x, hs, h, hj => by
    have hy := hs y (by simp)
    rw [List.flatMap_cons, List.getElem?_append_right (by rw [hy, Nat.succ_mul]; omega), hy]
    rw [show (i + 1) * sz + j - sz = i * sz + j by rw [Nat.succ_mul]; omega]
    exact flatMap_get (fun z hz => hs z (List.mem_cons_of_mem _ hz)) (by simpa using h) hj
theorem RowOf.sl {α : Type} {e sz : Nat} {enc : α → List Value} {v : Value} {l : List α} {ob : Option (Nat × Obj)} (h : RowOf e sz enc v l ob) {M : Mem} {w : World} (hm : M.holds w) (hmem : ∀ p, ob = some p → p ∈ M.all) (hsz : ∀ x, (enc x).length = sz) :
    ∃ a c, v = .slice a l.length c ∧ l.length ≤ c ∧ SlAt w M.base.heap.size w.heap.size sz enc a l := by
  rcases h.alt with ⟨h1, h2, _⟩ | ⟨g, cap, cur, h1, h2, h3, h4, h5, h6⟩
  · have hl : l = [] := List.eq_nil_of_length_eq_zero h2
    subst hl
    exact ⟨none, 0, h1, by simp, by simp, fun x hx => by simp at hx, fun hn => absurd rfl hn, fun i j x v hx => by simp at hx⟩
  · have hb := hm.box _ (hmem _ h2)
    refine ⟨some ⟨g, 0, none⟩, cap, h1, h3, by omega, fun x _ => hsz x, fun _ => ⟨rfl, hb.1, get_lt hb.2⟩, fun i j x u hx hu => ?_⟩
    have hj : j < sz := by have := (List.getElem?_eq_some_iff.1 hu).1; rw [hsz x] at this; exact this
    have hi : i < l.length := (List.getElem?_eq_some_iff.1 hx).1
    refine cell_of hb.2 ?_
    have hlt : i * sz + j < l.length * sz := by
      calc i * sz + j < i * sz + sz := by omega
        _ = (i + 1) * sz := by rw [Nat.succ_mul]
        _ ≤ l.length * sz := Nat.mul_le_mul_right _ hi
    have h7 : (l.flatMap enc)[i * sz + j]? = some u := by rw [flatMap_get (fun y _ => hsz y) hx hj, hu]
    rw [← h6, List.getElem?_take_of_lt hlt, Array.getElem?_toList] at h7
    simpa [offs] using h7
section
variable {P : Program} {Z : Env} {N : Nat} {L : List (Nat × Value)} {M : Mem} {Q : Exit → Act → World → Prop} {ops : Array Oper} {rest : List Oper} {B : World} {bs : List (Nat × Obj)} {ks : List Kp} {ms : List Nat} {rs : List (Option (Nat × Obj))}
/-- room for a row -/
theorem tc_rowRoom {c : Code} (h : TC P Z N L ⟨B, bs, ks, ms, none :: rs⟩ c Q) : TC P Z N L ⟨B, bs, ks, ms, rs⟩ c Q := fun a w hf hm => h a w hf (hm.sub rfl (List.Sublist.refl _) (List.Sublist.refl _))
def AgainR {α β : Type} (Z : Env) (N : Nat) (L : List (Nat × Value)) (B : World) (bs : List (Nat × Obj)) (VB : β → List (Nat × Nat × Obj)) (ks : List Kp) (ms : List Nat) (rs : List (Option (Nat × Obj))) (i e sz : Nat) (enc : α → List Value) (V : β → Value → List (Nat × Value)) (f : β → List α) (I : β → Prop) (μ : β → Nat) (b : β) : Act → World → Prop :=
  fun a w => ∃ (b' : β) (v' : Value) (ob' : Option (Nat × Obj)), I b' ∧ μ b' < μ b ∧ RowOf e sz enc v' (f b') ob' ∧ Fr Z N (V b' v' ++ L) a ∧ Mem.holds ⟨B, setB bs (VB b'), ks, ms, rs.set i ob'⟩ w
theorem set_self {α : Type} : ∀ {l : List α} {i : Nat} {x : α}, l[i]? = some x → l.set i x = l
  | [], _, _, h => by simp at h
  | y :: l, 0, x, h => by simp at h; subst h; rfl
  | y :: l, i + 1, x, h => by rw [List.set_cons_succ, set_self (by simpa using h)]
/-- a loop by a ghost that grows row i -/
theorem tc_loopR {α β : Type} {c : Code} (i e sz : Nat) (enc : α → List Value) (V : β → Value → List (Nat × Value)) (VB : β → List (Nat × Nat × Obj)) (f : β → List α) (I : β → Prop) (μ : β → Nat) (b₀ : β) {v₀ : Value} {ob₀ : Option (Nat × Obj)} (hrow : RowOf e sz enc v₀ (f b₀) ob₀) (h0 : I b₀) (hL : Sub L (V b₀ v₀)) (hi : rs[i]? = some ob₀) (hB : setB bs (VB b₀) = bs)
    (round : ∀ b v ob, I b → RowOf e sz enc v (f b) ob → TC P Z N (V b v ++ L) ⟨B, setB bs (VB b), ks, ms, rs.set i ob⟩ c (Exit.then (AgainR Z N L B bs VB ks ms rs i e sz enc V f I μ b) Q)) : TC P Z N L ⟨B, bs, ks, ms, rs⟩ (.loop c) Q :=
  tc_loopV (β := β × Value × Option (Nat × Obj)) (fun p => V p.1 p.2.1) (fun p => ⟨B, setB bs (VB p.1), ks, ms, rs.set i p.2.2⟩) (fun p => I p.1 ∧ RowOf e sz enc p.2.1 (f p.1) p.2.2) (fun p => μ p.1) (b₀, v₀, ob₀) ⟨h0, hrow⟩ hL
    (fun w h => by rw [hB, set_self hi]; exact h) (fun p hp => (round p.1 p.2.1 p.2.2 hp.1 hp.2).mono fun ex a w h => by
      cases ex with
      | normal => obtain ⟨b', v', ob', h1, h2, h3, h4, h5⟩ := h; exact ⟨(b', v', ob'), ⟨h1, h3⟩, h2, h4, h5⟩
      | _ => exact h)
theorem tp_roundR {α β : Type} {i e sz : Nat} {enc : α → List Value} {V : β → Value → List (Nat × Value)} {VB : β → List (Nat × Nat × Obj)} {f : β → List α} {I : β → Prop} {μ : β → Nat} {b : β} {Le : List (Nat × Value)} {bs' : List (Nat × Obj)} {ks' : List Kp} {rs' : List (Option (Nat × Obj))} {v' : Value} {ob' : Option (Nat × Obj)} (b' : β) (hrow : RowOf e sz enc v' (f b') ob') (hI : I b') (hμ : μ b' < μ b) (hV : Sub Le (V b' v')) (hE : Le.drop (Le.length - L.length) = L)
    (hk : (Le.take (Le.length - L.length)).all (fun p => hasKey (V b' v') p.1 || (L.lookup p.1).isNone) = true) (h1 : bs'.drop (bs'.length - bs.length) = setB bs (VB b')) (h2 : ks'.drop (ks'.length - ks.length) = ks) (h3 : rs' = rs.set i ob') :
    TP Z N Le ⟨B, bs', ks', ms, rs'⟩ .normal (Exit.then (AgainR Z N L B bs VB ks ms rs i e sz enc V f I μ b) Q) :=
  fun _ w hf hm => ⟨b', v', ob', hI, hμ, hrow, hf.again hV hE hk, by rw [← h3]; exact hm.less (h1 ▸ List.drop_sublist _ _) (h2 ▸ List.drop_sublist _ _)⟩
theorem SlAt.none {α : Type} {W : World} {lo sz : Nat} {enc : α → List Value} {a : Option Addr} : SlAt W lo lo sz enc a [] := ⟨by simp, by simp, fun h => absurd rfl h, fun i j x v h => by simp at h⟩
theorem Mem.holds.nilK {w : World} (h : Mem.holds ⟨B, bs, ks, ms, rs⟩ w) (W : World) : Mem.holds ⟨B, bs, Kin W B.heap.size B.heap.size :: ks, ms, rs⟩ w :=
  ⟨h.os, h.tape, h.output, h.size, h.old, h.box, h.nodup, fun k hk => by
    rcases List.mem_cons.1 hk with rfl | hk
    · exact ⟨h.size, fun b h1 h2 => absurd h2 (by simp only at *; omega)⟩
    · exact h.kept k hk, fun p hp k hk => by
    rcases List.mem_cons.1 hk with rfl | hk
    · exact .inr (.inl (h.box p hp).1)
    · exact h.apart p hp k hk⟩
/-- one element behind a row -/
theorem tl_append1 {α : Type} {t e sz bytes c b dd : Nat} {v : Value} {l : List α} {enc : α → List Value} {ob : Option (Nat × Obj)} {cs : Array Value} {T0 : TypeId} {fz : Nat × Nat} {x y : Operand} {ty : TypeId} {pos : String} {af : Array Edge} (i j : Nat) (hT : AppTy P t e sz bytes) (u : α) (hrow : RowOf e sz enc v l ob)
    (h : ∀ v' ob', RowOf e sz enc v' (l ++ [u]) ob' → TL P Z N ((dd, v') :: L) ⟨B, bs, ks, ms, rs.set i ob'⟩ ops rest Q)
    (hsz : (enc u).length = sz) (hone : ∀ z ∈ enc u, z.oneCell' = true) (hb : l.length < 1000000000) (hby : Nat.ble bytes 100000 = true := by rfl)
    (hi : rs[i]? = some ob := by rfl) (hj : bs[j]? = some (b, .cells cs T0 fz) := by rfl) (hx : ev L x = some v := by rfl) (hy : ev L y = some (.slice (some ⟨b, 0, none⟩) 1 c) := by rfl) (hcs : cs.toList = enc u := by rfl) (hd : dd < N := by decide) :
    TL P Z N L ⟨B, bs, ks, ms, rs⟩ ops (⟨some dd, .call { callee := .builtin .append, args := #[x, y], argTypes := #[t, t] }, ty, pos, af, none⟩ :: rest) Q :=
  tl_append i j hT hrow (fun v' ob' hr => h v' ob' (RowOf.snoc u hr rfl)) hone (by simp only [maxLen]; omega) (by
    have h1 : bytes ≤ 100000 := Nat.le_of_ble_eq_true hby
    calc (l.length + 1) * bytes ≤ 1000000000 * 100000 := Nat.mul_le_mul hb h1
      _ ≤ _ := by decide) hi hj hx hy hcs (by rw [hsz]; simp) hd
end
end Go.Q
namespace Go.Q
open Go Go.RowKit Go.Proofs Go.Sort
section
variable {P : Program} {Z : Env} {N : Nat} {L : List (Nat × Value)} {M : Mem} {Q : Exit → Act → World → Prop} {ops : Array Oper} {rest : List Oper} {B : World} {bs : List (Nat × Obj)} {ks : List Kp} {ms : List Nat} {rs : List (Option (Nat × Obj))}
variable {α : Type} [Inhabited α]
omit [Inhabited α] in
theorem flatMap_len {enc : α → List Value} {k : Nat} (hk : ∀ x, (enc x).length = k) : ∀ (l : List α), (l.flatMap enc).length = l.length * k
  | [] => by simp
  | x :: l => by rw [List.flatMap_cons, List.length_append, hk, flatMap_len hk l, List.length_cons, Nat.succ_mul, Nat.add_comm]
theorem flatK_eq {enc : α → List Value} {k : Nat} (hk : ∀ x, (enc x).length = k) (h0 : 0 < k) (l : List α) : (flatK enc k l.toArray).toList = l.flatMap enc := by
  apply List.ext_getElem?
  intro t
  rcases Nat.lt_or_ge t (l.length * k) with ht | ht
  · have hi : t / k < l.length := (Nat.div_lt_iff_lt_mul h0).2 ht
    have hj : t % k < k := Nat.mod_lt _ h0
    have e : t = t / k * k + t % k := by rw [Nat.mul_comm]; exact (Nat.div_add_mod t k).symm
    have h1 := flatMap_get (enc := enc) (sz := k) (l := l) (i := t / k) (j := t % k) (x := l[t / k]) (fun y _ => hk y) (List.getElem?_eq_getElem hi) hj
    rw [← e] at h1
    have h2 := get_flatK enc k l.toArray t (by simpa using ht)
    have hlt : t < (flatK enc k l.toArray).size := by simpa using ht
    rw [getElem!_pos (flatK enc k l.toArray) t hlt] at h2
    rw [Array.getElem?_toList, Array.getElem?_eq_getElem hlt, h2, h1]
    have e2 : (l.toArray[t / k]!) = l[t / k] := by rw [getElem!_pos l.toArray (t / k) (by simpa using hi)]; simp
    have hj' : t % k < (enc l[t / k]).length := by rw [hk]; exact hj
    rw [e2, getElem!_pos (enc l[t / k]) (t % k) hj', List.getElem?_eq_getElem hj']
  · rw [List.getElem?_eq_none (by simpa using ht), List.getElem?_eq_none (by rw [flatMap_len hk]; exact ht)]
theorem holdsK_of {enc : α → List Value} {k g e : Nat} (hk : ∀ x, (enc x).length = k) (h0 : 0 < k) {l : List α} {w : World} {cur : Array Value} (hb : w.heap[g]? = some (.cells cur e (0, 0))) (ht : cur.toList.take (l.length * k) = l.flatMap enc) : HoldsK enc k w g 0 l.toArray := by
  intro j hj
  have hj' : j < l.length * k := by simpa using hj
  refine ⟨?_, by simp [World.frozen?, hb]⟩
  rw [← flatK_eq hk h0 l] at ht
  have h1 : (cur.toList.take (l.length * k))[j]? = (flatK enc k l.toArray).toList[j]? := by rw [ht]
  rw [List.getElem?_take_of_lt hj'] at h1
  simp only [World.cell?, hb, Nat.zero_add]
  simp only [Option.isSome_none, Bool.false_eq_true, if_false]
  rw [← Array.getElem?_toList, h1, Array.getElem?_toList, Array.getElem?_eq_getElem hj, getElem!_pos (flatK enc k l.toArray) j hj]
  rfl
theorem heap_sortedK {enc : α → List Value} {k : Nat} {w : World} {g n : Nat} {os : Array Obj} {cur : Array Value} {e : TypeId} {fr : Nat × Nat} (d : Array α) (hb : w.heap[g]? = some (.cells cur e fr)) :
    (sortWorldK enc k w g 0 n d os).heap[g]? = some (.cells (putCells id 0 (flatK enc k d) cur) e fr) := by
  have hg : g < w.heap.size := (Array.getElem?_eq_some_iff.1 hb).1
  unfold sortWorldK
  rw [heap_grow_old _ _ (by simpa [putRowK, putRow, mapBlock, Sort.ahead] using hg)]
  simp [putRowK, putRow, mapBlock, Sort.ahead, Array.getElem?_modify, hb, onCells]
theorem grownBy_sortedK {enc : α → List Value} {k : Nat} {w : World} {g n : Nat} {os : Array Obj} (d : Array α) : w.grownBy (sortWorldK enc k w g 0 n d os) (some g) := by
  refine ⟨rfl, rfl, rfl, by simp [sortWorldK, grow, putRowK, putRow, mapBlock, Sort.ahead], fun j hj hne => ?_⟩
  unfold sortWorldK
  rw [heap_grow_old _ _ (by simpa [putRowK, putRow, mapBlock, Sort.ahead] using hj)]
  have : g ≠ j := fun e => hne (by rw [e])
  simp [putRowK, putRow, mapBlock, Sort.ahead, Array.getElem?_modify, this]
theorem take_putK {enc : α → List Value} {k : Nat} (hk : ∀ x, (enc x).length = k) (h0 : 0 < k) (cur : Array Value) (l : List α) (h : l.length * k ≤ cur.size) : (putCells id 0 (flatK enc k l.toArray) cur).toList.take (l.length * k) = l.flatMap enc := by
  rw [← flatK_eq hk h0 l]
  apply List.ext_getElem?
  intro j
  by_cases hj : j < l.length * k
  · have hj' : j < (flatK enc k l.toArray).size := by simpa using hj
    rw [List.getElem?_take_of_lt hj, Array.getElem?_toList, Array.getElem?_toList, Array.getElem?_eq_getElem hj']
    simp only [putCells, Array.getElem?_mapIdx, Array.getElem?_eq_getElem (show j < cur.size by omega), Option.map_some]
    rw [if_pos ⟨Nat.zero_le _, by omega⟩, Nat.sub_zero, getElem!_pos (flatK enc k l.toArray) j hj']
    rfl
  · rw [List.getElem?_take_eq_none (by omega), List.getElem?_eq_none (by simp; omega)]
/-- a row, sorted by the library: what is known of the sort is handed in -/
theorem tl_sort {e sz fS fC dd : Nat} {enc : α → List Value} {v : Value} {l : List α} {ob : Option (Nat × Obj)} {R : List α → Prop} {x : Operand} {at' : Array TypeId} {ty : TypeId} {pos : String} {af : Array Edge} (i : Nat) (hF : IsFn P fS) (hk : ∀ x, (enc x).length = sz) (h0 : 0 < sz)
    (hC0 : ∀ p cap fv w, Calls P fS #[.slice p 0 cap, fv] w fun e w' => e = .returned (.tuple #[]) ∧ w' = w) (hR0 : l = [] → R [])
    (hC : ∀ blk cap (w : World), HoldsK enc sz w blk 0 l.toArray → blk < w.heap.size → Calls P fS #[.slice (some ⟨blk, 0, none⟩) l.length cap, .func (.func fC) #[] #[]] w fun e w' => e = .returned (.tuple #[]) ∧ ∃ (l' : List α) (n : Nat) (os : Array Obj), l'.length = l.length ∧ R l' ∧ w' = sortWorldK enc sz w blk 0 n l'.toArray os)
    (hrow : RowOf e sz enc v l ob)
    (h : ∀ l' ob', l'.length = l.length → R l' → RowOf e sz enc v l' ob' → TL P Z N ((dd, .tuple #[]) :: L) ⟨B, bs, ks, ms, rs.set i ob'⟩ ops rest Q)
    (hi : rs[i]? = some ob := by rfl) (hx : ev L x = some v := by rfl) (hd : dd < N := by decide) :
    TL P Z N L ⟨B, bs, ks, ms, rs⟩ ops (⟨some dd, .call { callee := .value (.func fS), args := #[x, .func fC], argTypes := at' }, ty, pos, af, none⟩ :: rest) Q := by
  rcases hrow.alt with ⟨h1, h2, h3⟩ | ⟨g, cap, cur, h1, h2, h3, h4, h5, h6⟩
  · have hl : l = [] := List.eq_nil_of_length_eq_zero h2
    subst hl
    refine tl_callM (β := Unit) (dd := some dd) (val := fun _ => .tuple #[]) (R := fun _ w w' => w' = w) (vs := [v, .func (.func fC) #[] #[]]) (caps := []) hF rfl ?_ (fun w hm => ?_) (fun _ w1 w2 hm hw => ?_) (by simpa using hd)
    · show evs L [x, .func fC] = _
      simp only [evs]
      rw [hx]
      rfl
    · rw [h1]
      exact (hC0 none 0 (.func (.func fC) #[] #[]) w).mono fun e w' ⟨he, hw⟩ => ⟨(), he, hw⟩
    · subst hw
      refine ⟨_, ?_, h [] ob rfl (hR0 rfl) hrow⟩
      rw [set_self hi]; exact hm
  · have hlen : (l.flatMap enc).length = l.length * sz := flatMap_len hk l
    obtain ⟨A, C, hA, _⟩ := set_filterMap rs i ob none hi
    have hmem : (g, Obj.cells cur e (0, 0)) ∈ (Mem.mk B bs ks ms rs).all := by
      refine List.mem_append_right _ (List.mem_append_left _ ?_)
      show _ ∈ rs.filterMap id
      rw [hA, h2]; simp
    refine tl_callM (β := List α) (dd := some dd) (val := fun _ => .tuple #[]) (R := fun l' w w' => l'.length = l.length ∧ R l' ∧ ∃ n os, w' = sortWorldK enc sz w g 0 n l'.toArray os) (vs := [v, .func (.func fC) #[] #[]]) (caps := []) hF rfl ?_ (fun w hm => ?_) (fun l' w1 w2 hm hw => ?_) (by simpa using hd)
    · show evs L [x, .func fC] = _
      simp only [evs]
      rw [hx]
      rfl
    · rw [h1]
      have hb := hm.box _ hmem
      refine (hC g cap w (holdsK_of hk h0 hb.2 h6) (get_lt hb.2)).mono fun e w' ⟨he, l', n, os, h7, h8, h9⟩ => ⟨l', he, h7, h8, n, os, h9⟩
    · obtain ⟨h7, h8, n, os, rfl⟩ := hw
      have hb := hm.box _ hmem
      have hbk := heap_sortedK (enc := enc) (k := sz) (n := n) (os := os) l'.toArray hb.2
      have hsz : l.length * sz ≤ cur.size := by rw [h5]; exact Nat.mul_le_mul_right _ h3
      refine ⟨⟨B, bs, ks, ms, rs.set i (some (g, .cells (putCells id 0 (flatK enc sz l'.toArray) cur) e (0, 0)))⟩, hm.row hi (row := some g) (by rw [h2]; rfl) (grownBy_sortedK _) (fun p hp => by cases hp; exact ⟨hbk, .inl rfl⟩), h l' _ h7 h8 ⟨?_, .inr ⟨g, cap, _, ?_, rfl, by rw [h7]; exact h3, h4, by simp [putCells, h5], take_putK hk h0 cur l' (by rw [h7]; exact hsz)⟩⟩⟩
      · exact flatMap_len hk l'
      · rw [h7, h1]
end
section
variable {P : Program} {Z : Env} {N : Nat} {L : List (Nat × Value)} {M0 M : Mem} {Q : Exit → Act → World → Prop}
theorem tc_drawV {id : Nat} {l : List Oper} (m : Nat) (hm : P.follows .mixedOrders = true) (hB : (tailB m l.toArray && Region.noSelect l.toArray) = true) (hD : ∀ w, M.holds w → M0.holds w)
    (h : TU P Z N L M0 M l.toArray m l.length (Array.replicate l.length false) Q) : TC P Z N L M (.region id l.toArray true) Q := fun a w hf hM => by
  refine wpIn_region_any hm ?_
  have hM' : M.holds { w with drawn := w.drawn + 1 } := hM.ext (below_drew' w)
  have := (h a _ hf hM').any (hD _ hM')
  simpa using this
theorem hD_erase {B : World} {bs : List (Nat × Obj)} {ks : List Kp} {ms : List Nat} {rs : List (Option (Nat × Obj))} (j : Nat) (w : World) (h : Mem.holds ⟨B, bs, ks, ms, rs⟩ w) : Mem.holds ⟨B, bs.eraseIdx j, ks, ms, rs⟩ w :=
  h.less (List.eraseIdx_sublist _ _) (List.Sublist.refl _)
theorem hD_eraseSet {B : World} {bs : List (Nat × Obj)} {ks : List Kp} {ms : List Nat} {rs : List (Option (Nat × Obj))} (j : Nat) (p : Nat × Obj) (w : World) (h : Mem.holds ⟨B, bs.set j p, ks, ms, rs⟩ w) : Mem.holds ⟨B, bs.eraseIdx j, ks, ms, rs⟩ w := by
  have := hD_erase j w h
  rwa [List.eraseIdx_set_eq] at this
end
end Go.Q
namespace Go.Q
open Go Go.RowKit
/-- a world with one block in its place -/
def boxW (b : Nat) (o : Obj) : World := { (default : World) with heap := Array.replicate (b + 1) o }
theorem boxW_get (b : Nat) (o : Obj) : (boxW b o).heap[b]? = some o := by simp [boxW]
theorem Mem.has_box {B : World} {bs : List (Nat × Obj)} {ks : List Kp} {ms : List Nat} {rs : List (Option (Nat × Obj))} {b : Nat} {o : Obj} (h : (b, o) ∈ bs) : Mem.has ⟨B, bs, ks, ms, rs⟩ (boxW b o) b (b + 1) := fun w hm => by
  have hb := (hm.boxOf h).2
  refine ⟨get_lt hb, fun c h1 h2 => ?_⟩
  obtain rfl : c = b := by omega
  rw [hb, boxW_get]
theorem SlAt.ofBox {α : Type} {enc : α → List Value} {sz b E : Nat} {l : List α} (hl : l.length ≤ 1000000) (hk : ∀ x ∈ l, (enc x).length = sz) : SlAt (boxW b (.cells (l.flatMap enc).toArray E (0, 0))) b (b + 1) sz enc (some ⟨b, 0, Option.none⟩) l := by
  refine ⟨by simp only [maxLen]; omega, hk, fun _ => ⟨rfl, Nat.le_refl _, Nat.lt_succ_self _⟩, fun i j x v hx hv => ?_⟩
  have hj : j < sz := by have := (List.getElem?_eq_some_iff.1 hv).1; rwa [hk x (List.mem_of_getElem? hx)] at this
  refine cell_of (boxW_get _ _) ?_
  have := flatMap_get hk hx hj
  simpa [offs, hv] using this
section
variable {P : Program} {Z : Env} {N : Nat} {L : List (Nat × Value)} {Q : Exit → Act → World → Prop} {ops : Array Oper} {rest : List Oper} {ty : TypeId} {pos : String} {af : Array Edge} {dd : Nat}
theorem tl_buildSliceL {α : Type} {enc : α → List Value} {B : World} {bs : List (Nat × Obj)} {ks : List Kp} {ms : List Nat} {rs : List (Option (Nat × Obj))} {T len E sz : Nat} {zs0 : Array Value} {parts : Array (Nat × Operand)} {ps : List (Nat × Value)} (l : List α) (hT : BuildSl P T len E sz zs0)
    (h : ∀ b, TL P Z N ((dd, .slice (some ⟨b, 0, none⟩) len len) :: L) ⟨B, (b, .cells (l.flatMap enc).toArray E (0, 0)) :: bs, ks, ms, rs⟩ ops rest Q)
    (hp : evp L parts.toList = some ps) (hc : Instr.fill (fun i => some (i * sz, sz)) zs0 ps = some (l.flatMap enc).toArray) (hd : dd < N := by decide) :
    TL P Z N L ⟨B, bs, ks, ms, rs⟩ ops (⟨some dd, .buildSlice T len parts, ty, pos, af, none⟩ :: rest) Q := tl_buildSlice hT h hp hc hd
end
end Go.Q
namespace Go.Q
open Go Go.RowKit Go.WideShapes
/-- the cells of type T that read as data are the cells of an x with ok -/
structure Opener (P : Program) (T n : Nat) {α : Type} (enc : α → List Value) (ok : World → α → Prop) : Prop where
  size : P.cellsOf T = n
  len : ∀ w x, ok w x → (enc x).length = n
  run : ∀ {H : Type} (e : TypeId × Value → H) (w : World) (base : Nat) (spare : Nat → Bool) (held : Bool) (fuel : Nat) (cs : List Value) (x : DataW H × List MemPlace), DataW.trod e P w base spare held fuel T cs = some x → ∃ a, cs = enc a ∧ ok w a
theorem exists_list {α : Type} {Q : Nat → α → Prop} : ∀ (n : Nat), (∀ i, i < n → ∃ a, Q i a) → ∃ l : List α, l.length = n ∧ ∀ i a, l[i]? = some a → Q i a
  | 0, _ => ⟨[], rfl, fun i a h => by simp at h⟩
  | n + 1, h => by
    obtain ⟨l, h1, h2⟩ := exists_list n (fun i hi => h i (by omega))
    obtain ⟨a, ha⟩ := h n (by omega)
    refine ⟨l ++ [a], by simp [h1], fun i b hb => ?_⟩
    rcases Nat.lt_or_ge i l.length with hi | hi
    · rw [List.getElem?_append_left hi] at hb; exact h2 i b hb
    · have hi' : i = n := by have := (List.getElem?_eq_some_iff.1 hb).1; simp at this; omega
      subst hi'
      rw [List.getElem?_append_right hi, h1] at hb
      simp at hb; subst hb; exact ha
variable {P : Program}
theorem addr_add {a : Addr} (hs : a.spot = none) (i j : Nat) : (a.add i).add j = ⟨a.block, a.off + i + j, none⟩ := by
  obtain ⟨b, o, s⟩ := a
  simp only at hs
  subst hs
  unfold Addr.add
  split <;> split <;> simp_all
theorem Opener.slice {T E n : Nat} {α : Type} {enc : α → List Value} {ok : World → α → Prop} (h : Opener P E n enc ok) (ht : P.underlying T = some (.slice E)) (hn : 0 < n)
    {H : Type} {e : TypeId × Value → H} {w : World} {base : Nat} {spare : Nat → Bool} {held : Bool} {fuel : Nat} {cs : List Value} {x : DataW H × List MemPlace} (hx : DataW.trod e P w base spare held fuel T cs = some x) :
    ∃ (a : Option Addr) (l : List α) (c : Nat), cs = [.slice a l.length c] ∧ SlIn w n enc a l ∧ (∀ y ∈ l, ok w y) ∧ l.length ≤ c := by
  rcases DataW.trod_slice ht hx with ⟨h1, _⟩ | ⟨a, len, cap, elems, rest, m, _, h1, _, _, h2, h3, h4, h5, _, _⟩
  · exact ⟨none, [], 0, h1, ⟨by simp, by simp, fun hn => absurd rfl hn, fun i j x v hx => by simp at hx⟩, by simp, by simp⟩
  · obtain ⟨l, h6, h7⟩ := exists_list (Q := fun i y => w.cells? base (a.add (i * n)) n = some (enc y) ∧ ok w y) len (fun i hi => by
      have h8 := h5 i hi
      rw [h.size, List.getElem?_eq_getElem (by omega)] at h8
      obtain ⟨cs', h9, h10⟩ := Option.bind_eq_some_iff.1 h8
      obtain ⟨y, rfl, hy⟩ := h.run e w base spare held m cs' _ h10
      exact ⟨y, h9, hy⟩)
    have hok : ∀ y ∈ l, ok w y := fun y hy => by
      obtain ⟨i, hi⟩ := List.getElem?_of_mem hy
      exact (h7 i y hi).2
    have hspot : l ≠ [] → a.spot = none ∧ a.block < w.heap.size := fun hne => by
      cases l with
      | nil => exact absurd rfl hne
      | cons y l =>
        have h8 := (h7 0 y (by simp)).1
        have h9 := (World.cells?_some h8).2.2 0 hn
        have hl := h.len w y (hok y (by simp))
        rw [List.getElem?_eq_getElem (by omega)] at h9
        have e1 : (a.add (0 * n)).add 0 = a := by simp [Addr.add]
        rw [e1] at h9
        refine ⟨World.cell?_spot h9, ?_⟩
        rcases Nat.lt_or_ge a.block w.heap.size with hlt | hge
        · exact hlt
        · simp [World.cell?, Array.getElem?_eq_none hge] at h9
    refine ⟨some a, l, cap, by rw [h1, h6], ⟨by omega, fun y hy => h.len w y (hok y hy), fun hne => ?_, fun i j y v hy hv => ?_⟩, hok, by omega⟩
    · obtain ⟨h8, h9⟩ := hspot hne
      refine ⟨?_, Nat.zero_le _, h9⟩
      obtain ⟨b, o, s⟩ := a
      simp only at h8
      subst h8
      rfl
    · have hne : l ≠ [] := fun h0 => by rw [h0] at hy; simp at hy
      have h8 := (World.cells?_some (h7 i y hy).1).2.2 j (by
        have := (List.getElem?_eq_some_iff.1 hv).1
        rwa [h.len w y (hok y (List.mem_of_getElem? hy))] at this)
      rw [addr_add (hspot hne).1, hv] at h8
      exact h8
theorem Opener.int {T : Nat} {k : IntKind} (ht : P.underlying T = some (.int k)) (hc : P.cellsOf T = 1) : Opener P T 1 (fun i : Int => [.int k i]) (fun _ i => (Lit.int k i).wf = true) where
  size := hc
  len := fun _ _ _ => rfl
  run := fun e w base spare held fuel cs x hx => by
    obtain ⟨n, h1, _, h2⟩ := DataW.trod_int ht hx
    exact ⟨n, h1, h2⟩
theorem parts_join {α : Type} : ∀ (n sz : Nat) (cs : List α), cs.length = n * sz → cs = (List.range n).flatMap (fun i => (cs.drop (i * sz)).take sz)
  | 0, sz, cs, h => by simp at h; simp [h]
  | n + 1, sz, cs, h => by
    rw [List.range_succ_eq_map, List.flatMap_cons, List.flatMap_map]
    have h1 : (cs.drop sz).length = n * sz := by rw [List.length_drop, h, Nat.succ_mul]; omega
    have h2 := parts_join n sz (cs.drop sz) h1
    have h3 : (List.range n).flatMap (fun i => ((cs.drop sz).drop (i * sz)).take sz) = (List.range n).flatMap (fun i => (cs.drop ((i + 1) * sz)).take sz) := by
      congr 1
      funext i
      rw [List.drop_drop, Nat.succ_mul, Nat.add_comm]
    rw [h3] at h2
    have h4 : cs = cs.take sz ++ cs.drop sz := (List.take_append_drop _ _).symm
    conv => lhs; rw [h4, h2]
    simp
theorem flatMap_cong {α β : Type} {f g : α → List β} : ∀ {l : List α}, (∀ x ∈ l, f x = g x) → l.flatMap f = l.flatMap g
  | [], _ => rfl
  | x :: l, h => by rw [List.flatMap_cons, List.flatMap_cons, h x (by simp), flatMap_cong fun y hy => h y (List.mem_cons_of_mem _ hy)]
theorem Opener.array {T E m n : Nat} {α : Type} {enc : α → List Value} {ok : World → α → Prop} (h : Opener P E n enc ok) (ht : P.underlying T = some (.array m E)) (hc : P.cellsOf T = m * n) : Opener P T (m * n) (fun l : List α => l.flatMap enc) (fun w l => l.length = m ∧ ∀ y ∈ l, ok w y) where
  size := hc
  len := fun w l hl => by
    have : ∀ (l : List α), (∀ y ∈ l, ok w y) → (l.flatMap enc).length = l.length * n := by
      intro l
      induction l with
      | nil => intro _; simp
      | cons y l ih => intro hy; rw [List.flatMap_cons, List.length_append, h.len w y (hy y (by simp)), ih (fun z hz => hy z (List.mem_cons_of_mem _ hz)), List.length_cons, Nat.succ_mul, Nat.add_comm]
    rw [this l hl.2, hl.1]
  run := fun e w base spare held fuel cs x hx => by
    obtain ⟨xs, n', _, _, h1, h2, h3⟩ := DataW.trod_array ht hx
    obtain ⟨l, h4, h5⟩ := exists_list (Q := fun i y => (cs.drop (i * n)).take n = enc y ∧ ok w y) m (fun i hi => by
      have h6 := h3 i hi
      rw [h.size, List.getElem?_eq_getElem (by omega)] at h6
      obtain ⟨y, h7, h8⟩ := h.run e w base spare held n' _ _ h6
      exact ⟨y, h7, h8⟩)
    have h6 := parts_join m n cs (by rw [h1, hc])
    refine ⟨l, ?_, h4, fun y hy => by obtain ⟨i, hi⟩ := List.getElem?_of_mem hy; exact (h5 i y hi).2⟩
    rw [h6]
    have h7 : (List.range m).flatMap (fun i => (cs.drop (i * n)).take n) = (List.range m).flatMap (fun i => match l[i]? with | some y => enc y | none => []) := by
      refine flatMap_cong fun i hi => ?_
      have hi' : i < l.length := by rw [h4]; simpa using hi
      rw [List.getElem?_eq_getElem hi']
      exact (h5 i _ (List.getElem?_eq_getElem hi')).1
    rw [h7, ← h4]
    clear h7 h6 h5 h4
    induction l with
    | nil => rfl
    | cons y l ih =>
      rw [List.length_cons, List.range_succ_eq_map, List.flatMap_cons, List.flatMap_map, List.flatMap_cons]
      simpa using ih
/-- the cells of one field of a struct -/
theorem Opener.field {T F n : Nat} {α : Type} {enc : α → List Value} {ok : World → α → Prop} (h : Opener P F n enc ok) {fs : Array Field} (ht : P.underlying T = some (.struct fs)) {H : Type} {e : TypeId × Value → H} {w : World} {base : Nat} {spare : Nat → Bool} {held : Bool} {fuel : Nat} {cs : List Value} {x : DataW H × List MemPlace}
    (hx : DataW.trod e P w base spare held fuel T cs = some x) (i : Nat) {f : Field} (hf : fs[i]? = some f) (hF : f.type = F) : cs.length = P.cellsOf T ∧ ∃ a, (cs.drop f.offset).take n = enc a ∧ ok w a := by
  obtain ⟨xs, n', _, _, h1, h2, h3⟩ := DataW.trod_struct ht hx
  have h4 := h3 i f hf
  have hi : i < xs.length := by rw [h2]; exact (Array.getElem?_eq_some_iff.1 hf).1
  rw [hF, h.size, List.getElem?_eq_getElem hi] at h4
  exact ⟨h1, h.run e w base spare held n' _ _ h4⟩
section
variable {Z : Env} {N : Nat} {L : List (Nat × Value)} {M : Mem} {d : Option Tmp} {x y : Operand} {T T' ty : TypeId} {pos : String} {af : Array Edge} {g : Option (Nat × Bool)}
theorem qv_eqSelf {k : IntKind} {i : Int} (hx : ev L x = some (.int k i)) (hy : ev L y = some (.int k i)) : Qv P Z N L M ⟨d, .binOp .eql T x y T', ty, pos, af, g⟩ (.bool true) := by
  have h := qv_eql (P := P) (Z := Z) (N := N) (L := L) (M := M) (d := d) (T := T) (T' := T') (ty := ty) (pos := pos) (af := af) (g := g) hx hy
  simpa using h
theorem qv_neSelf {k : IntKind} {i : Int} (hx : ev L x = some (.int k i)) (hy : ev L y = some (.int k i)) : Qv P Z N L M ⟨d, .binOp .neq T x y T', ty, pos, af, g⟩ (.bool false) := by
  have h := qv_neq (P := P) (Z := Z) (N := N) (L := L) (M := M) (d := d) (T := T) (T' := T') (ty := ty) (pos := pos) (af := af) (g := g) hx hy
  simpa using h
end
end Go.Q
namespace Go.Q
open Go Go.RowKit
variable {P : Program}
section
variable {Z : Env} {N : Nat} {L : List (Nat × Value)} {M : Mem} {d : Option Tmp} {x y : Operand} {T T' ty : TypeId} {pos : String} {af : Array Edge} {g : Option (Nat × Bool)}
theorem qv_convI {D : TypeDesc} {k : IntKind} {i : Int} (h1 : P.underlying T = some D) (h2 : P.underlying T' = some (.int .i64)) (hx : ev L x = some (.int k i)) (hb : -9223372036854775808 ≤ i ∧ i ≤ 9223372036854775807) : Qv P Z N L M ⟨d, .convert T T' x, ty, pos, af, g⟩ (.int .i64 i) := qv_of fun a hf w _ => by
  have hw : IntKind.i64.wrap i = i := by simp [IntKind.wrap, IntKind.bits, IntKind.signed]; omega
  have : (convert T T' (.int k i)).run P w = .ok (.int .i64 i) w := by
    simp only [convert, Sem.run_bind, run_underlying h1, run_underlying h2, Result.andThen_ok]
    cases D <;> simp [Conv.intToInt, hw]
  simp [execOp, hf.eval hx, this]
end
theorem wf_u16 {y : Int} (h : (Lit.int .u16 y).wf = true) : 0 ≤ y ∧ y ≤ 65535 := by
  simp [Lit.wf, IntKind.min, IntKind.max, IntKind.bits, IntKind.signed] at h
  omega
end Go.Q
namespace Go.Q
open Go Go.RowKit
theorem SlAt.ofBoxP {α : Type} {enc : α → List Value} {sz b E : Nat} {cur : Array Value} {l : List α} (hl : l.length ≤ maxLen) (hk : ∀ x ∈ l, (enc x).length = sz) (hc : cur.toList.take (l.length * sz) = l.flatMap enc) : SlAt (boxW b (.cells cur E (0, 0))) b (b + 1) sz enc (some ⟨b, 0, Option.none⟩) l := by
  refine ⟨hl, hk, fun _ => ⟨rfl, Nat.le_refl _, Nat.lt_succ_self _⟩, fun i j x v hx hv => ?_⟩
  have hj : j < sz := by have := (List.getElem?_eq_some_iff.1 hv).1; rwa [hk x (List.mem_of_getElem? hx)] at this
  have hi : i < l.length := (List.getElem?_eq_some_iff.1 hx).1
  have hlt : i * sz + j < l.length * sz := by
    calc i * sz + j < i * sz + sz := by omega
      _ = (i + 1) * sz := by rw [Nat.succ_mul]
      _ ≤ l.length * sz := Nat.mul_le_mul_right _ hi
  refine cell_of (boxW_get _ _) ?_
  have h1 := flatMap_get hk hx hj
  rw [← hc, List.getElem?_take_of_lt hlt, Array.getElem?_toList, hv] at h1
  simpa [offs] using h1
section
variable {P : Program} {Z : Env} {N : Nat} {L : List (Nat × Value)} {M : Mem} {Q : Exit → Act → World → Prop} {ops : Array Oper} {rest : List Oper} {ty : TypeId} {pos : String} {af : Array Edge} {x y : Operand} {v : Value} {dd : Nat}
variable {B : World} {bs : List (Nat × Obj)} {ks : List Kp} {ms : List Nat} {rs : List (Option (Nat × Obj))}
theorem Mem.holds.perm {M M' : Mem} {w : World} (h : M.holds w) (hB : M'.base = M.base) (h1 : M'.all.Perm M.all) (h2 : M'.kept = M.kept) : M'.holds w :=
  ⟨hB ▸ h.os, hB ▸ h.tape, hB ▸ h.output, hB ▸ h.size, hB ▸ h.old, fun q hq => hB ▸ h.box q (h1.mem_iff.1 hq), (h1.pairwise_iff (fun {a b} h => Ne.symm h)).2 h.nodup, fun k hk => h.kept k (h2 ▸ hk), fun q hq k hk => h.apart q (h1.mem_iff.1 hq) k (h2 ▸ hk)⟩
/-- a row that grows no more is a box -/
theorem holds_rowBox {w : World} {i g : Nat} {o : Obj} (hi : rs[i]? = some (some (g, o))) (h : Mem.holds ⟨B, bs, ks, ms, rs⟩ w) : Mem.holds ⟨B, (g, o) :: bs, ks, ms, rs.set i none⟩ w := by
  obtain ⟨A, C, h1, h2⟩ := set_filterMap rs i _ none hi
  refine h.perm rfl ?_ rfl
  show ((g, o) :: bs ++ ((rs.set i none).filterMap id ++ ms.map markBox)).Perm (bs ++ (rs.filterMap id ++ ms.map markBox))
  rw [h1, h2]
  simp only [Option.toList_none, Option.toList_some, List.append_nil, List.append_assoc, List.cons_append, List.nil_append]
  have e : (bs ++ (A ++ (g, o) :: (C ++ ms.map markBox))) = (bs ++ A) ++ (g, o) :: (C ++ ms.map markBox) := by simp
  rw [e]
  have := (List.perm_middle (a := (g, o)) (l₁ := bs ++ A) (l₂ := C ++ ms.map markBox)).symm
  simpa using this
/-- a slice literal without elements -/
theorem tl_buildRow0 {α : Type} {enc : α → List Value} {T E sz : Nat} (i : Nat) (hT : P.underlying T = some (.slice E)) (hS : Size P E sz)
    (h : ∀ b, RowOf E sz enc (.slice (some ⟨b, 0, none⟩) 0 0) [] (some (b, .cells #[] E (0, 0))) → TL P Z N ((dd, .slice (some ⟨b, 0, none⟩) 0 0) :: L) ⟨B, bs, ks, ms, rs.set i (some (b, .cells #[] E (0, 0)))⟩ ops rest Q)
    (hi : rs[i]? = some none := by rfl) (hd : dd < N := by decide) :
    TL P Z N L ⟨B, bs, ks, ms, rs⟩ ops (⟨some dd, .buildSlice T 0 #[], ty, pos, af, none⟩ :: rest) Q := fun a w hf hm => by
  have hrun : (execOp a.eval ⟨some dd, .buildSlice T 0 #[], ty, pos, af, none⟩).run P w = .ok (.value (.slice (some ⟨w.heap.size, 0, none⟩) 0 0)) (w.alloc (.cells #[] E)) := by
    have hS' := hS w
    simp [execOp, Instr.buildSlice, run_underlying hT, hS', Instr.fill, newRow]
    have e0 : ∀ f : Nat → Value, Array.map f (Array.range 0) = #[] := fun f => Array.eq_empty_of_size_eq_zero (by simp)
    rw [e0]
  refine wpList_value rfl hrun (h w.heap.size ⟨by simp, .inr ⟨w.heap.size, 0, #[], rfl, rfl, Nat.le_refl _, by simp, by simp, by simp⟩⟩ _ _ (hf.put hd _) ?_)
  have hg : w.grownBy (w.alloc (.cells #[] E)) none := ⟨rfl, rfl, rfl, by show w.heap.size ≤ (w.heap.push _).size; simp, fun k hk _ => by show (w.heap.push _)[k]? = _; rw [Array.getElem?_push, if_neg (Nat.ne_of_lt hk)]⟩
  exact hm.row hi rfl hg fun p hp => by cases hp; exact ⟨by show (w.heap.push _)[w.heap.size]? = _; simp, .inr rfl⟩
theorem tg_buildRow0 {M0 : Mem} {mm f k : Nat} {listed : Array Bool} {α : Type} {enc : α → List Value} {T E sz : Nat} (i : Nat) (hT : P.underlying T = some (.slice E)) (hS : Size P E sz)
    (h : ∀ b, RowOf E sz enc (.slice (some ⟨b, 0, none⟩) 0 0) [] (some (b, .cells #[] E (0, 0))) → TU P Z N ((dd, .slice (some ⟨b, 0, none⟩) 0 0) :: L) M0 ⟨B, bs, ks, ms, rs.set i (some (b, .cells #[] E (0, 0)))⟩ ops mm f (listed.setIfInBounds k true) Q)
    (hD : ∀ ob' w, Mem.holds ⟨B, bs, ks, ms, rs.set i ob'⟩ w → M0.holds w) (ho : ops[k]? = some ⟨some dd, .buildSlice T 0 #[], ty, pos, af, none⟩ := by rfl) (hi : rs[i]? = some none := by rfl) (hd : dd < N := by decide) :
    TG P Z N L M0 ⟨B, bs, ks, ms, rs⟩ ops mm f listed k Q := fun a w hf hm => by
  have hrun : (execOp a.eval ⟨some dd, .buildSlice T 0 #[], ty, pos, af, none⟩).run P w = .ok (.value (.slice (some ⟨w.heap.size, 0, none⟩) 0 0)) (w.alloc (.cells #[] E)) := by
    have hS' := hS w
    simp [execOp, Instr.buildSlice, run_underlying hT, hS', Instr.fill, newRow]
    have e0 : ∀ f : Nat → Value, Array.map f (Array.range 0) = #[] := fun f => Array.eq_empty_of_size_eq_zero (by simp)
    rw [e0]
  have hg : w.grownBy (w.alloc (.cells #[] E)) none := ⟨rfl, rfl, rfl, by show w.heap.size ≤ (w.heap.push _).size; simp, fun k hk _ => by show (w.heap.push _)[k]? = _; rw [Array.getElem?_push, if_neg (Nat.ne_of_lt hk)]⟩
  have hm' : Mem.holds ⟨B, bs, ks, ms, rs.set i (some (w.heap.size, .cells #[] E (0, 0)))⟩ (w.alloc (.cells #[] E)) := hm.row hi rfl hg fun p hp => by cases hp; exact ⟨by show (w.heap.push _)[w.heap.size]? = _; simp, .inr rfl⟩
  unfold gOp
  simp only [ho]
  rw [if_pos (wanted_none rfl _), hrun]
  exact ⟨hD _ _ hm', h w.heap.size ⟨by simp, .inr ⟨w.heap.size, 0, #[], rfl, rfl, Nat.le_refl _, by simp, by simp, by simp⟩⟩ _ _ (hf.put hd _) hm'⟩
theorem run_append_none {t ty e sz bytes n cap c : Nat} {b : Option Addr} (hT : AppTy P t e sz bytes) (h : n ≤ cap) (w : World) : (Builtin.append_ #[t, t] ty #[.slice b n cap, .slice none 0 c]).run P w = .ok (.slice b n cap) w := by
  obtain ⟨h1, ⟨z, hz, hzs⟩, h7⟩ := hT
  obtain ⟨ti, hi2, hz0, hz1, hz2⟩ := info_parts hz
  have hs : (sizeOf e).run P w = .ok ti.size w := by simp [sizeOf, typeInfo, hi2]
  cases b <;> simp [Builtin.append_, run_underlying h1, hs, Builtin.lenOf, Builtin.firstCells, h, storeCells]
theorem flatMap_lenM {α : Type} {enc : α → List Value} {k : Nat} : ∀ {l : List α}, (∀ x ∈ l, (enc x).length = k) → (l.flatMap enc).length = l.length * k
  | [], _ => by simp
  | x :: l, h => by rw [List.flatMap_cons, List.length_append, h x (by simp), flatMap_lenM fun y hy => h y (List.mem_cons_of_mem _ hy), List.length_cons, Nat.succ_mul, Nat.add_comm]
theorem set_mem {α : Type} {l : List α} {i : Nat} {x y : α} (h : y ∈ l.set i x) : y ∈ l ∨ y = x := List.mem_or_eq_of_mem_set h
/-- append of a slice that is read -/
theorem row_appendS {α : Type} {enc : α → List Value} {t e sz bytes c lo hi : Nat} {W w : World} {a : Option Addr} {l l2 : List α} {ob : Option (Nat × Obj)} (i : Nat) (hT : AppTy P t e sz bytes) (hrow : RowOf e sz enc v l ob) (hs : SlAt W lo hi sz enc a l2) (hM : Mem.has ⟨B, bs, ks, ms, rs⟩ W lo hi) (hna : a = none → l2 = [])
    (hone : ∀ u ∈ l2.flatMap enc, u.oneCell' = true) (b1 : l.length + l2.length ≤ 1000000) (b2 : Nat.ble bytes 100000000 = true) (hl2 : ∀ x ∈ l2, (enc x).length = sz) (hi' : rs[i]? = some ob) (hm : Mem.holds ⟨B, bs, ks, ms, rs⟩ w) :
    ∃ v' ob' w', (Builtin.append_ #[t, t] ty #[v, .slice a l2.length c]).run P w = .ok v' w' ∧ RowOf e sz enc v' (l ++ l2) ob' ∧ Mem.holds ⟨B, bs, ks, ms, rs.set i ob'⟩ w' := by
  have hT' := hT
  obtain ⟨h1, ⟨z, hz, hzs⟩, h7⟩ := hT
  obtain ⟨ti, hi2, hz0, hz1, hz2⟩ := info_parts hz
  obtain ⟨A, C, hA, _⟩ := set_filterMap rs i ob none hi'
  have hmem : ∀ p, ob = some p → p ∈ (Mem.mk B bs ks ms rs).all := fun p hp => by
    subst hp
    refine List.mem_append_right _ (List.mem_append_left _ ?_)
    show p ∈ rs.filterMap id
    rw [hA]; simp
  have hown : w.ownsRow B.heap.size e sz v l.length (l.flatMap enc) := RowIs.owns hrow fun p hp => hm.box p (hmem p hp)
  cases a with
  | none =>
    have e0 : l2 = [] := hna rfl
    subst e0
    obtain ⟨b, cap, hv, hcap⟩ := RowOf.slice hrow
    have hrun := run_append_none (ty := ty) (c := c) (b := b) hT' hcap w
    rw [← hv] at hrun
    exact ⟨v, ob, w, hrun, by rw [List.append_nil]; exact hrow, by rw [set_self hi']; exact hm⟩
  | some ad =>
    have hflat : (l2.flatMap enc).length = l2.length * sz := flatMap_lenM hl2
    obtain ⟨v', w', hrun, r1, r2, _, r4⟩ := run_append_own_at (P := P) (w := w) B.heap.size t ty e ti z sz bytes h1 hi2 hz0 hz1 hz2 hzs h7 v l.length (l.flatMap enc) hown ad l2.length c (l2.flatMap enc) hflat (fun k u hk => by
        have hlt := (List.getElem?_eq_some_iff.1 hk).1
        rw [hflat] at hlt
        have hq : k / sz < l2.length := (Nat.div_lt_iff_lt_mul h7).2 hlt
        have hj : k % sz < sz := Nat.mod_lt _ h7
        have ek : k = k / sz * sz + k % sz := by rw [Nat.mul_comm]; exact (Nat.div_add_mod k sz).symm
        have hx2 : l2[k / sz]? = some l2[k / sz] := List.getElem?_eq_getElem hq
        have hg := flatMap_get (enc := enc) (sz := sz) hl2 hx2 hj
        rw [← ek, hk] at hg
        have hne : l2 ≠ [] := fun h0 => by simp [h0] at hq
        obtain ⟨n1, n2, n3⟩ := hs.nz hne
        have hcell := hs.cell (k / sz) (k % sz) _ u hx2 hg.symm
        have hhas := hM w hm
        have hblk := hhas.2 (blk (some ad)) n2 n3
        have ead : ad = ⟨ad.block, ad.off, none⟩ := by have := Option.some.inj n1; exact this
        have ec : w.cell? ⟨blk (some ad), offs (some ad) + k / sz * sz + k % sz, none⟩ = some u := by rw [cell_same hblk]; exact hcell
        rw [Nat.add_assoc, ← ek] at ec
        have : ad.add k = ⟨ad.block, ad.off + k, none⟩ := by
          rw [ead]
          unfold Addr.add
          split
          · rename_i h0; simp [h0]
          · rfl
        rw [this]
        exact ec) hone (by simp only [maxLen]; omega) (by
          have hb := Nat.le_of_ble_eq_true b2
          calc (l.length + l2.length) * bytes ≤ 1000000 * 100000000 := Nat.mul_le_mul b1 hb
            _ ≤ _ := by decide) hm.size
    obtain ⟨ob', r5, r6⟩ := RowIs.of_owns r1
    refine ⟨v', ob', w', hrun, by unfold RowOf; rw [List.length_append, List.flatMap_append]; exact r5, hm.row hi' (ownBlock_of hrow) r2 fun p hp => ⟨r6 p hp, ?_⟩⟩
    have h8 := ownBlock_of r5
    rw [hp] at h8
    rcases r4 with r4 | r4
    · left; rw [← r4, h8]; rfl
    · right; rw [r4] at h8; simpa using h8.symm
theorem tl_appendS {α : Type} {enc : α → List Value} {t e sz bytes c lo hi : Nat} {W : World} {a : Option Addr} {l l2 : List α} {ob : Option (Nat × Obj)} (i : Nat) (hT : AppTy P t e sz bytes) (hrow : RowOf e sz enc v l ob) (hs : SlAt W lo hi sz enc a l2) (hM : Mem.has ⟨B, bs, ks, ms, rs⟩ W lo hi) (hna : a = none → l2 = [])
    (h : ∀ v' ob', RowOf e sz enc v' (l ++ l2) ob' → TL P Z N ((dd, v') :: L) ⟨B, bs, ks, ms, rs.set i ob'⟩ ops rest Q)
    (hone : ∀ u ∈ l2.flatMap enc, u.oneCell' = true) (b1 : l.length + l2.length ≤ 1000000) (b2 : Nat.ble bytes 100000000 = true) (hl2 : ∀ x ∈ l2, (enc x).length = sz)
    (hi' : rs[i]? = some ob := by rfl) (hx : ev L x = some v := by rfl) (hy : ev L y = some (.slice a l2.length c) := by rfl) (hd : dd < N := by decide) :
    TL P Z N L ⟨B, bs, ks, ms, rs⟩ ops (⟨some dd, .call { callee := .builtin .append, args := #[x, y], argTypes := #[t, t] }, ty, pos, af, none⟩ :: rest) Q := fun a' w hf hm => by
  obtain ⟨v', ob', w', hrun, hr, hm'⟩ := row_appendS (ty := ty) (c := c) i hT hrow hs hM hna hone b1 b2 hl2 hi' hm
  have hrun' : (execOp a'.eval ⟨some dd, .call { callee := .builtin .append, args := #[x, y], argTypes := #[t, t] }, ty, pos, af, none⟩).run P w = .ok (.value v') w' := by
    simp [execOp, resolve, invoke, builtin, hf.eval hx, hf.eval hy, hrun, Result.andThen]
  exact wpList_value rfl hrun' (h v' ob' hr _ _ (hf.put hd _) hm')
/-- .. among operations that come up in every order -/
theorem tg_run {M M0 M' : Mem} {mm f i : Nat} {listed : Array Bool} {o : Oper} {R : Value → Mem → Prop} (ho : ops[i]? = some o) (hg : o.guard = none) (hdd : o.dst = some dd) (hd : dd < N)
    (hr : ∀ a w, Fr Z N L a → M.holds w → ∃ v' M' w', (execOp a.eval o).run P w = .ok (.value v') w' ∧ R v' M' ∧ M'.holds w') (hD : ∀ v' M', R v' M' → ∀ w, M'.holds w → M0.holds w)
    (h : ∀ v' M', R v' M' → TU P Z N ((dd, v') :: L) M0 M' ops mm f (listed.setIfInBounds i true) Q) : TG P Z N L M0 M ops mm f listed i Q := fun a w hf hm => by
  obtain ⟨v', M', w', hrun, hR, hm'⟩ := hr a w hf hm
  unfold gOp
  simp only [ho]
  rw [if_pos (wanted_none hg _), hrun]
  exact ⟨hD v' M' hR _ hm', h v' M' hR _ _ (by rw [hdd]; exact hf.put hd _) hm'⟩
theorem tg_appendS {M0 : Mem} {mm f k : Nat} {listed : Array Bool} {α : Type} {enc : α → List Value} {t e sz bytes c lo hi : Nat} {W : World} {a : Option Addr} {l l2 : List α} {ob : Option (Nat × Obj)} (i : Nat) (hT : AppTy P t e sz bytes) (hrow : RowOf e sz enc v l ob) (hs : SlAt W lo hi sz enc a l2) (hM : Mem.has ⟨B, bs, ks, ms, rs⟩ W lo hi) (hna : a = none → l2 = [])
    (h : ∀ v' ob', RowOf e sz enc v' (l ++ l2) ob' → TU P Z N ((dd, v') :: L) M0 ⟨B, bs, ks, ms, rs.set i ob'⟩ ops mm f (listed.setIfInBounds k true) Q)
    (hone : ∀ u ∈ l2.flatMap enc, u.oneCell' = true) (b1 : l.length + l2.length ≤ 1000000) (b2 : Nat.ble bytes 100000000 = true) (hl2 : ∀ x ∈ l2, (enc x).length = sz)
    (hD : ∀ ob' w, Mem.holds ⟨B, bs, ks, ms, rs.set i ob'⟩ w → M0.holds w)
    (ho : ops[k]? = some ⟨some dd, .call { callee := .builtin .append, args := #[x, y], argTypes := #[t, t] }, ty, pos, af, none⟩ := by rfl) (hi' : rs[i]? = some ob := by rfl) (hx : ev L x = some v := by rfl) (hy : ev L y = some (.slice a l2.length c) := by rfl) (hd : dd < N := by decide) :
    TG P Z N L M0 ⟨B, bs, ks, ms, rs⟩ ops mm f listed k Q :=
  tg_run (R := fun v' M' => ∃ ob', RowOf e sz enc v' (l ++ l2) ob' ∧ M' = ⟨B, bs, ks, ms, rs.set i ob'⟩) (M' := M0) ho rfl rfl hd (fun a' w hf hm => by
    obtain ⟨v', ob', w', hrun, hr, hm'⟩ := row_appendS (ty := ty) (c := c) i hT hrow hs hM hna hone b1 b2 hl2 hi' hm
    exact ⟨v', _, w', by simp [execOp, resolve, invoke, builtin, hf.eval hx, hf.eval hy, hrun, Result.andThen], ⟨ob', hr, rfl⟩, hm'⟩)
    (fun v' M' hR w hw => by obtain ⟨ob', _, rfl⟩ := hR; exact hD ob' w hw) (fun v' M' hR => by obtain ⟨ob', hr, rfl⟩ := hR; exact h v' ob' hr)
theorem tg_buildSlice {M0 : Mem} {mm f i : Nat} {listed : Array Bool} {T len E sz : Nat} {zs0 cells : Array Value} {parts : Array (Nat × Operand)} {ps : List (Nat × Value)} (hT : BuildSl P T len E sz zs0)
    (h : ∀ b, TU P Z N ((dd, .slice (some ⟨b, 0, none⟩) len len) :: L) M0 ⟨B, (b, .cells cells E (0, 0)) :: bs, ks, ms, rs⟩ ops mm f (listed.setIfInBounds i true) Q)
    (hD : ∀ b w, Mem.holds ⟨B, (b, .cells cells E (0, 0)) :: bs, ks, ms, rs⟩ w → M0.holds w)
    (ho : ops[i]? = some ⟨some dd, .buildSlice T len parts, ty, pos, af, none⟩ := by rfl) (hp : evp L parts.toList = some ps := by rfl) (hc : Instr.fill (fun i => some (i * sz, sz)) zs0 ps = some cells := by rfl) (hd : dd < N := by decide) :
    TG P Z N L M0 ⟨B, bs, ks, ms, rs⟩ ops mm f listed i Q :=
  tg_value (val := fun b => .slice (some ⟨b, 0, none⟩) len len) ho rfl rfl hd (fun a w hf hm => by
    have hpm : parts.map (fun (i, x) => (i, a.eval x)) = ps.toArray := by
      apply Array.ext'
      simpa using evp_map hf hp
    have := run_buildSlice hT hc w
    rw [← hpm] at this
    simp [execOp, this]) hD h
theorem hD_rows {bs' : List (Nat × Obj)} {ks' : List Kp} {rs' : List (Option (Nat × Obj))} (h1 : bs'.drop (bs'.length - bs.length) = bs) (h2 : ks'.drop (ks'.length - ks.length) = ks) (h3 : rs.filterMap id = []) (w : World) (h : Mem.holds ⟨B, bs', ks', ms, rs'⟩ w) : Mem.holds ⟨B, bs, ks, ms, rs⟩ w := by
  refine h.sub rfl ?_ (h2 ▸ List.drop_sublist _ _)
  show (bs ++ (rs.filterMap id ++ ms.map markBox)).Sublist (bs' ++ (rs'.filterMap id ++ ms.map markBox))
  rw [h3, List.nil_append]
  exact List.Sublist.append (h1 ▸ List.drop_sublist _ _) (List.sublist_append_right _ _)
theorem RowOf.some {α : Type} {e sz : Nat} {enc : α → List Value} {l : List α} {ob : Option (Nat × Obj)} (h : RowOf e sz enc v l ob) (hne : 0 < l.length) : ∃ g cap cur, v = .slice (Option.some ⟨g, 0, Option.none⟩) l.length cap ∧ ob = Option.some (g, .cells cur e (0, 0)) ∧ l.length ≤ cap ∧ cap ≤ maxLen ∧ cur.size = cap * sz ∧ cur.toList.take (l.length * sz) = l.flatMap enc := by
  rcases h.alt with ⟨_, h2, _⟩ | ⟨g, cap, cur, h1, h2, h3, h4, h5, h6⟩
  · omega
  · exact ⟨g, cap, cur, h1, h2, h3, h4, h5, h6⟩
/-- cells stored into element i of a box that is a slice -/
theorem splice {α : Type} {enc : α → List Value} {sz i off : Nat} {l : List α} {x0 x' : α} {cur cur' : Array Value} {us : List Value} (hk : ∀ x ∈ l, (enc x).length = sz) (hk' : (enc x').length = sz) (h0 : 0 < sz) (hl : l[i]? = some x0) (hcur : cur.toList.take (l.length * sz) = l.flatMap enc) (hsz : l.length * sz ≤ cur.size)
    (hsp : ∀ j, j < sz → (enc x')[j]? = if off ≤ j ∧ j < off + us.length then us[j - off]? else (enc x0)[j]?) (hoff : off + us.length ≤ sz) (hs' : cur'.size = cur.size)
    (hget : ∀ q, q < cur.size → cur'[q]? = if i * sz + off ≤ q ∧ q < i * sz + off + us.length then us[q - (i * sz + off)]? else cur[q]?) : cur'.toList.take (l.length * sz) = (l.set i x').flatMap enc := by
  have hk2 : ∀ y ∈ l.set i x', (enc y).length = sz := fun y hy => by rcases set_mem hy with hy | rfl; exact hk y hy; exact hk'
  have hlen : ((l.set i x').flatMap enc).length = l.length * sz := by rw [flatMap_lenM hk2]; simp
  apply List.ext_getElem?
  intro q
  rcases Nat.lt_or_ge q (l.length * sz) with hq | hq
  · have ha : q / sz < l.length := (Nat.div_lt_iff_lt_mul h0).2 hq
    have hj : q % sz < sz := Nat.mod_lt _ h0
    have eq_ : q = q / sz * sz + q % sz := by rw [Nat.mul_comm]; exact (Nat.div_add_mod q sz).symm
    rw [List.getElem?_take_of_lt hq, Array.getElem?_toList, hget q (by omega)]
    have hc1 : cur[q]? = (l.flatMap enc)[q]? := by rw [← hcur, List.getElem?_take_of_lt hq, Array.getElem?_toList]
    by_cases hai : q / sz = i
    · have hx' : (l.set i x')[q / sz]? = some x' := by rw [hai, List.getElem?_set_self (by omega)]
      have hx0 : l[q / sz]? = some x0 := by rw [hai]; exact hl
      have g1 := flatMap_get (enc := enc) hk2 hx' hj
      have g2 := flatMap_get (enc := enc) hk hx0 hj
      rw [← eq_] at g1 g2
      rw [g1, hc1, g2, hsp _ hj]
      have e2 : q = i * sz + q % sz := by rw [hai] at eq_; exact eq_
      by_cases hc : off ≤ q % sz ∧ q % sz < off + us.length
      · rw [if_pos hc, if_pos (by omega), show q - (i * sz + off) = q % sz - off by omega]
      · rw [if_neg hc, if_neg (by omega)]
    · have hxa : l[q / sz]? = some l[q / sz] := List.getElem?_eq_getElem ha
      have hxa' : (l.set i x')[q / sz]? = some l[q / sz] := by rw [List.getElem?_set_ne (fun h => hai h.symm)]; exact hxa
      have g1 := flatMap_get (enc := enc) hk2 hxa' hj
      have g2 := flatMap_get (enc := enc) hk hxa hj
      rw [← eq_] at g1 g2
      rw [g1, hc1, g2, if_neg]
      intro hc
      have h1 : i * sz ≤ q := by omega
      have h2 : q < i * sz + sz := by omega
      have : q / sz = i := by
        apply Nat.div_eq_of_lt_le
        · rw [Nat.mul_comm] at h1; rw [Nat.mul_comm]; omega
        · rw [Nat.succ_mul]; exact h2
      exact hai this
  · rw [List.getElem?_take_eq_none hq, List.getElem?_eq_none (by omega)]
theorem tl_storeSp {α : Type} {enc : α → List Value} {sz T i off j g E o : Nat} {cur : Array Value} {l : List α} {x0 : α} {us : List Value} (x' : α) (hS : Size P T us.length) (hk : ∀ x ∈ l, (enc x).length = sz) (hk' : (enc x').length = sz) (h0 : 0 < sz) (hl : l[i]? = some x0) (hcur : cur.toList.take (l.length * sz) = l.flatMap enc) (hsz : l.length * sz ≤ cur.size)
    (hsp : ∀ j, j < sz → (enc x')[j]? = if off ≤ j ∧ j < off + us.length then us[j - off]? else (enc x0)[j]?) (hoff : off + us.length ≤ sz) (hone : ∀ u ∈ us, u.oneCell' = true)
    (hj : bs[j]? = some (g, .cells cur E (0, 0))) (hx : ev L x = some (.pointer (some ⟨g, o, none⟩))) (ho : o = i * sz + off) (hy : ev L y = some v) (hu : v.cells.toList = us)
    (h : ∀ cur' : Array Value, cur'.toList.take (l.length * sz) = (l.set i x').flatMap enc → cur'.size = cur.size → TL P Z N L ⟨B, bs.set j (g, .cells cur' E (0, 0)), ks, ms, rs⟩ ops rest Q) : TL P Z N L ⟨B, bs, ks, ms, rs⟩ ops (⟨none, .store T x y, ty, pos, af, none⟩ :: rest) Q := fun a w hf hm => by
  subst ho
  have hb := (hm.boxOf (List.mem_of_getElem? hj)).2
  have hil : i < l.length := (List.getElem?_eq_some_iff.1 hl).1
  have hfit : i * sz + off + us.length ≤ cur.size := by
    calc i * sz + off + us.length ≤ i * sz + sz := by omega
      _ = (i + 1) * sz := by rw [Nat.succ_mul]
      _ ≤ l.length * sz := Nat.mul_le_mul_right _ hil
      _ ≤ cur.size := hsz
  have hlen : v.cells.size = us.length := by rw [← hu]; simp
  have hrun := run_storeCells (P := P) (o := i * sz + off) us hone 0 cur w hb (by omega)
  refine wpList_skipv rfl (w' := putBlock w g (.cells ((us.zipIdx 0).foldl (fun c p => c.setIfInBounds (i * sz + off + p.2) p.1) cur) E (0, 0))) ?_ (h _ (splice hk hk' h0 hl hcur hsz hsp hoff (by rw [foldl_set_size]) fun q hq => ?_) (by rw [foldl_set_size]) _ _ (hf.put_none _) (hm.put hj _))
  · have hS' := hS w
    simp only [execOp, hf.eval hx, hf.eval hy, Instr.storeAt, Instr.sureAddr, storeVar, hlen, Sem.run_bind, Sem.run_pure, Result.andThen_ok, hS', ne_eq, not_true_eq_false, if_false, hu, hrun]
  · rw [foldl_set_get _ us 0 cur q hq (by omega)]
    simp
end
end Go.Q
namespace Go.Q
open Go Go.RowKit
section
variable {P : Program} {Z : Env} {N : Nat} {L : List (Nat × Value)} {M : Mem} {Q : Exit → Act → World → Prop} {ops : Array Oper} {rest : List Oper}
variable {B : World} {bs : List (Nat × Obj)} {ks : List Kp} {ms : List Nat} {rs : List (Option (Nat × Obj))}
def AgainRR {α γ β : Type} (Z : Env) (N : Nat) (L : List (Nat × Value)) (B : World) (bs : List (Nat × Obj)) (VB : β → List (Nat × Nat × Obj)) (ks : List Kp) (ms : List Nat) (rs : List (Option (Nat × Obj))) (i e sz : Nat) (enc : α → List Value) (i2 e2 sz2 : Nat) (enc2 : γ → List Value) (V : β → Value → Value → List (Nat × Value)) (f : β → List α) (f2 : β → List γ) (I : β → Prop) (μ : β → Nat) (b : β) : Act → World → Prop :=
  fun a w => ∃ (b' : β) (v' : Value) (ob' : Option (Nat × Obj)) (v2 : Value) (ob2 : Option (Nat × Obj)), I b' ∧ μ b' < μ b ∧ RowOf e sz enc v' (f b') ob' ∧ RowOf e2 sz2 enc2 v2 (f2 b') ob2 ∧ Fr Z N (V b' v' v2 ++ L) a ∧ Mem.holds ⟨B, setB bs (VB b'), ks, ms, (rs.set i ob').set i2 ob2⟩ w
theorem tc_loopRR {α γ β : Type} {c : Code} (i e sz : Nat) (enc : α → List Value) (i2 e2 sz2 : Nat) (enc2 : γ → List Value) (V : β → Value → Value → List (Nat × Value)) (VB : β → List (Nat × Nat × Obj)) (f : β → List α) (f2 : β → List γ) (I : β → Prop) (μ : β → Nat) (b₀ : β) {v₀ u₀ : Value} {ob₀ ou₀ : Option (Nat × Obj)} (hrow : RowOf e sz enc v₀ (f b₀) ob₀) (hrow2 : RowOf e2 sz2 enc2 u₀ (f2 b₀) ou₀) (h0 : I b₀) (hL : Sub L (V b₀ v₀ u₀)) (hi : (rs.set i ob₀).set i2 ou₀ = rs) (hB : setB bs (VB b₀) = bs)
    (round : ∀ b v ob u ou, I b → RowOf e sz enc v (f b) ob → RowOf e2 sz2 enc2 u (f2 b) ou → TC P Z N (V b v u ++ L) ⟨B, setB bs (VB b), ks, ms, (rs.set i ob).set i2 ou⟩ c (Exit.then (AgainRR Z N L B bs VB ks ms rs i e sz enc i2 e2 sz2 enc2 V f f2 I μ b) Q)) : TC P Z N L ⟨B, bs, ks, ms, rs⟩ (.loop c) Q :=
  tc_loopV (β := β × (Value × Option (Nat × Obj)) × (Value × Option (Nat × Obj))) (fun p => V p.1 p.2.1.1 p.2.2.1) (fun p => ⟨B, setB bs (VB p.1), ks, ms, (rs.set i p.2.1.2).set i2 p.2.2.2⟩) (fun p => I p.1 ∧ RowOf e sz enc p.2.1.1 (f p.1) p.2.1.2 ∧ RowOf e2 sz2 enc2 p.2.2.1 (f2 p.1) p.2.2.2) (fun p => μ p.1) (b₀, (v₀, ob₀), (u₀, ou₀)) ⟨h0, hrow, hrow2⟩ hL
    (fun w h => by rw [hB, hi]; exact h) (fun p hp => (round p.1 p.2.1.1 p.2.1.2 p.2.2.1 p.2.2.2 hp.1 hp.2.1 hp.2.2).mono fun ex a w h => by
      cases ex with
      | normal => obtain ⟨b', v', ob', v2, ob2, h1, h2, h3, h4, h5, h6⟩ := h; exact ⟨(b', (v', ob'), (v2, ob2)), ⟨h1, h3, h4⟩, h2, h5, h6⟩
      | _ => exact h)
theorem tp_roundRR {α γ β : Type} {i e sz : Nat} {enc : α → List Value} {i2 e2 sz2 : Nat} {enc2 : γ → List Value} {V : β → Value → Value → List (Nat × Value)} {VB : β → List (Nat × Nat × Obj)} {f : β → List α} {f2 : β → List γ} {I : β → Prop} {μ : β → Nat} {b : β} {Le : List (Nat × Value)} {bs' : List (Nat × Obj)} {ks' : List Kp} {rs' : List (Option (Nat × Obj))} {v' v2 : Value} {ob' ob2 : Option (Nat × Obj)} (b' : β) (hrow : RowOf e sz enc v' (f b') ob') (hrow2 : RowOf e2 sz2 enc2 v2 (f2 b') ob2) (hI : I b') (hμ : μ b' < μ b) (hV : Sub Le (V b' v' v2)) (hE : Le.drop (Le.length - L.length) = L)
    (hk : (Le.take (Le.length - L.length)).all (fun p => hasKey (V b' v' v2) p.1 || (L.lookup p.1).isNone) = true) (h1 : bs'.drop (bs'.length - bs.length) = setB bs (VB b')) (h2 : ks'.drop (ks'.length - ks.length) = ks) (h3 : rs' = (rs.set i ob').set i2 ob2) :
    TP Z N Le ⟨B, bs', ks', ms, rs'⟩ .normal (Exit.then (AgainRR Z N L B bs VB ks ms rs i e sz enc i2 e2 sz2 enc2 V f f2 I μ b) Q) :=
  fun _ w hf hm => ⟨b', v', ob', v2, ob2, hI, hμ, hrow, hrow2, hf.again hV hE hk, by rw [← h3]; exact hm.less (h1 ▸ List.drop_sublist _ _) (h2 ▸ List.drop_sublist _ _)⟩
end
end Go.Q
namespace Go.Q
open Go Go.RowKit
section
variable {κ ω : Type} [DecidableEq κ] {ek : κ → Value} {en : ω → Value}
theorem setAt_fresh {m : List (κ × ω)} {k : κ} {v : ω} (h : ∀ p ∈ m, p.1 ≠ k) : setAt (m ++ [(k, v)]) k v = m ++ [(k, v)] := by
  unfold setAt
  rw [List.map_append]
  have : m.map (fun p => if p.1 = k then (k, v) else p) = m := by
    conv => rhs; rw [← List.map_id m]
    apply List.map_congr_left
    intro p hp
    rw [if_neg (h p hp)]; rfl
  rw [this]
  simp
theorem Ents.store {m : List (κ × ω)} {es : Array MapEntry} {clock i : Nat} {k : κ} {u v : ω} (h : Ents ek en m es clock) (hi : m[i]? = some (k, u)) {e : MapEntry} (he : es[i]? = some e) : Ents ek en (setAt m k v) (es.modify i fun x => { x with val := en v }) clock := by
  have hborn : (es.modify i fun x => { x with val := en v }).toList.map (·.born) = es.toList.map (·.born) := by
    apply List.ext_getElem?
    intro j
    simp only [List.getElem?_map, Array.getElem?_toList, Array.getElem?_modify]
    split
    · rename_i hij; subst hij; rw [he]; rfl
    · rfl
  refine ⟨?_, by rw [hborn]; exact h.born, fun x hx => ?_, ?_⟩
  · apply List.ext_getElem?
    intro j
    have hg := h.get j
    simp only [List.getElem?_map, Array.getElem?_toList, Array.getElem?_modify, setAt]
    split
    · rename_i hij
      subst hij
      rw [he, hi] at hg ⊢
      simp at hg ⊢
      simp [hg.1]
    · rename_i hij
      rw [hg]
      cases hmj : m[j]? with
      | none => rfl
      | some p =>
        have : p.1 ≠ k := fun e2 => hij (unique h.nodup hi (u := p.2) (by rw [hmj, ← e2]))
        simp [this]
  · have : x.born ∈ (es.modify i fun x => { x with val := en v }).toList.map (·.born) := List.mem_map_of_mem hx
    rw [hborn] at this
    obtain ⟨x', hx', e3⟩ := List.mem_map.1 this
    rw [← e3]; exact h.lt x' hx'
  · have : (setAt m k v).map Prod.fst = m.map Prod.fst := by
      simp only [setAt, List.map_map]
      apply List.map_congr_left
      intro p _
      simp only [Function.comp]
      split
      · rename_i e4; exact e4.symm
      · rfl
    rw [this]; exact h.nodup
variable {P : Program} {Z : Env} {N : Nat} {L : List (Nat × Value)} {M : Mem} {Q : Exit → Act → World → Prop} {ops : Array Oper} {rest : List Oper} {ty : TypeId} {pos : String} {af : Array Edge} {x y z : Operand} {b : Nat} {T K E : TypeId}
theorem run_mapUpdate {m : List (κ × ω)} {o : Obj} {k : κ} {v : ω} (hT : MapTy P T K E) (hK : KeyTy P K ek) (hm : MapIs ek en m o) {w : World} (hb : w.heap[b]? = some o) :
    ∃ o', (Instr.mapUpdate T (.map (some b)) (ek k) (en v)).run P w = .ok () (putBlock w b o') ∧ MapIs ek en (putM m k v) o' := by
  obtain ⟨es, clock, rfl, h⟩ := hm
  have hf := hK.find k es.toList (m.map Prod.fst) w h.keys
  simp only [Instr.mapUpdate, Sem.run_bind, run_underlying hT, Result.andThen_ok, MapKept.run_getObj_map hb, hK.check, hf]
  cases hi : idxOf k (m.map Prod.fst) with
  | none =>
    have hany := idxOf_none hi
    rw [List.any_eq_false] at hany
    have hne : ∀ p ∈ m, p.1 ≠ k := fun p hp e => hany p hp (by simpa using e)
    have hput : putM m k v = m ++ [(k, v)] := by
      unfold putM ensure
      rw [if_neg (by rw [idxOf_none hi]; simp), setAt_fresh hne]
    refine ⟨.map (es.push { key := ek k, val := en v, born := clock }) (clock + 1), ?_, _, _, rfl, ?_⟩
    · simp [MapKept.run_setObj_map _ hb, putBlock, ChangeMaps.setBlock]
    · rw [hput]
      refine ⟨by simp [h.pairs], ?_, ?_, ?_⟩
      · simp only [Array.toList_push, List.map_append, List.map_cons, List.map_nil]
        refine List.pairwise_append.2 ⟨h.born, by simp, fun a ha c hc => ?_⟩
        obtain ⟨e, he, rfl⟩ := List.mem_map.1 ha
        simp at hc
        subst hc
        exact h.lt e he
      · intro e he
        simp at he
        rcases he with he | rfl
        · have := h.lt e (by simpa using he); omega
        · simp
      · simp only [List.map_append, List.map_cons, List.map_nil]
        refine List.nodup_append.2 ⟨h.nodup, by simp, fun a ha c hc => ?_⟩
        simp at hc
        subst hc
        obtain ⟨p, hp, rfl⟩ := List.mem_map.1 ha
        exact hne p hp
  | some i =>
    obtain ⟨u, hv⟩ := idxOf_some hi
    have hg := h.get i
    rw [hv] at hg
    simp only [Option.map_some] at hg
    obtain ⟨e, he, he2⟩ := Option.map_eq_some_iff.1 hg
    simp only [Prod.mk.injEq] at he2
    have he' : es.toList[i]? = some e := by rw [Array.getElem?_toList]; exact he
    have hens : ensure m k v = m := by rw [ensure, if_pos (any_of_get hv)]
    have hmod : es.modify i (fun e => { e with key := ek k, val := en v }) = es.modify i (fun e => { e with val := en v }) := by
      apply Array.ext_getElem?
      intro j
      rw [Array.getElem?_modify, Array.getElem?_modify]
      split
      · rename_i hij
        subst hij
        rw [he, ← he2.1]
        simp
      · rfl
    have hkts : (Instr.keyThatStays (ek k) (ek k)).run P w = .ok (ek k) w := by simp [Instr.keyThatStays, hK.bits]
    refine ⟨.map (es.modify i fun e => { e with val := en v }) clock, ?_, _, _, rfl, ?_⟩
    · simp only [he', Option.bind_some, Option.map_some, he, Option.getD_some, he2.1, hkts, Sem.run_bind, Result.andThen_ok, hmod, MapKept.run_setObj_map _ hb]
      rfl
    · unfold putM
      rw [hens]
      exact h.store hv he
variable {B : World} {bs : List (Nat × Obj)} {ks : List Kp} {ms : List Nat} {rs : List (Option (Nat × Obj))}
theorem tl_mapUpdate {m : List (κ × ω)} {o : Obj} {k : κ} {v : ω} (j : Nat) (hT : MapTy P T K E) (hK : KeyTy P K ek) (hm : MapIs ek en m o)
    (h : ∀ o', MapIs ek en (putM m k v) o' → TL P Z N L ⟨B, bs.set j (b, o'), ks, ms, rs⟩ ops rest Q)
    (hj : bs[j]? = some (b, o) := by rfl) (hx : ev L x = some (.map (some b)) := by rfl) (hy : ev L y = some (ek k) := by rfl) (hz : ev L z = some (en v) := by rfl) :
    TL P Z N L ⟨B, bs, ks, ms, rs⟩ ops (⟨none, .mapUpdate T x y z, ty, pos, af, none⟩ :: rest) Q := fun a w hf hmw => by
  obtain ⟨o', h4, h5⟩ := run_mapUpdate (k := k) (v := v) hT hK hm (hmw.boxOf (List.mem_of_getElem? hj)).2
  have h4' : (Instr.mapUpdate T (a.eval x) (a.eval y) (a.eval z)).run P w = .ok () (putBlock w b o') := by rw [hf.eval hx, hf.eval hy, hf.eval hz]; exact h4
  refine wpList_skipv rfl (w' := putBlock w b o') (by simp only [execOp, Sem.run_bind, h4']; rfl) (h o' h5 _ _ (hf.put_none _) (hmw.put hj _))
end
/-- arrays of three integers -/
def encA3 (k : Int × Int × Int) : Value := .agg #[.int .i64 k.1, .int .i64 k.2.1, .int .i64 k.2.2]
theorem eqArr3 {P : Program} {T I : TypeId} {i : TypeInfo} (hu : P.underlying T = some (.array 3 I)) (hi : P.info? I = some i) (hc : P.cellsOf I = 1) (hI : P.underlying I = some (.int .i64)) (ha : ∀ w, (isAgg I).run P w = .ok false w) (a b : Int × Int × Int) (w : World) :
    (Op.equal T (encA3 a) (encA3 b)).run P w = .ok (decide (a = b)) w := by
  obtain ⟨a1, a2, a3⟩ := a
  obtain ⟨b1, b2, b3⟩ := b
  simp only [Op.equal, Op.maxDepth, encA3]
  rw [run_equalIn_array w 9999 _ _ hu hi, hc]
  by_cases h1 : a1 = b1 <;> by_cases h2 : a2 = b2 <;> by_cases h3 : a3 = b3 <;>
    simp [Op.eqItems, List.range, List.range.loop, part, ha, run_equalIn_int _ 9998 I .i64 .i64 _ _ hI, Result.andThen, h1, h2, h3]
theorem keyArr3 {P : Program} {T I : TypeId} {i : TypeInfo} (hu : P.underlying T = some (.array 3 I)) (hi : P.info? I = some i) (hc : P.cellsOf I = 1) (hI : P.underlying I = some (.int .i64)) (ha : ∀ w, (isAgg I).run P w = .ok false w) : KeyTy P T encA3 := by
  have hs : ∀ w, (sizeOf I).run P w = .ok 1 w := fun w => by
    have := run_sizeOf w hi
    rwa [hc] at this
  refine keyTy_agg (.inr ⟨_, _, hu⟩) (fun b k w => ?_) (fun k k' w => eqArr3 hu hi hc hI ha k k' w) (fun k => by simp [encA3, Instr.sameBits])
  have h : ∀ n, (Instr.checkKey b (n + 1 + 1) T (encA3 k)).run P w = .ok () w := fun n => by
    simp [encA3, Instr.checkKey, run_underlying hu, run_underlying hI, part, ha, hs, Result.andThen, Std.Legacy.Range.forIn_eq_forIn_range', Std.Legacy.Range.size, List.range']
  exact h 9998
end Go.Q
namespace Go.Q
open Go Go.RowKit
section
variable {P : Program} {Z : Env} {N : Nat} {L : List (Nat × Value)} {M : Mem} {Q : Exit → Act → World → Prop} {ops : Array Oper} {rest : List Oper} {v : Value}
variable {B : World} {bs : List (Nat × Obj)} {ks : List Kp} {ms : List Nat} {rs : List (Option (Nat × Obj))}
theorem results_tmp3 {fn : Func} {t u s : Tmp} (h : fn.results = #[.tmp t, .tmp u, .tmp s]) (tmps : Array Value) (P : Program) (w : World) : (results fn tmps).run P w = .ok (.tuple #[tmps.getD t undef, tmps.getD u undef, tmps.getD s undef]) w := by
  simp [results, h]
theorem tp_end3 {ro : Option Nat} {fn : Func} {R : Ending → World → Prop} {t u s : Tmp} {v x y : Value} (hr : fn.results = #[.tmp t, .tmp u, .tmp s]) (hl : L.lookup t = some v) (hu : L.lookup u = some x) (hs : L.lookup s = some y) (h : ∀ w, M.holds w → R (.returned (.tuple #[v, x, y])) w) :
    TP ⟨ro, []⟩ N L M .ret (bodyPost P fn R) := fun a w hf hm =>
  ⟨hf.2.1, _, by rw [results_tmp3 hr]; simp [Array.getD_eq_getD_getElem?, hf.2.2 t v hl, hf.2.2 u x hu, hf.2.2 s y hs], h w hm⟩
/-- a row that is only read from here on -/
theorem holds_rowKeep {w : World} {i g : Nat} {o : Obj} (hi : rs[i]? = some (some (g, o))) (h : Mem.holds ⟨B, bs, ks, ms, rs⟩ w) : Mem.holds ⟨B, bs, Kin (boxW g o) g (g + 1) :: ks, ms, rs.set i none⟩ w := by
  have h1 := holds_rowBox hi h
  have h2 : Mem.holds ⟨B, bs, ks, ms, rs.set i none⟩ w := h1.less (List.sublist_cons_self _ _) (List.Sublist.refl _)
  have hb := h1.box (g, o) (by simp [Mem.all])
  have hnd := List.pairwise_cons.1 h1.nodup
  refine ⟨h2.os, h2.tape, h2.output, h2.size, h2.old, h2.box, h2.nodup, fun k hk => ?_, fun p hp k hk => ?_⟩
  · rcases List.mem_cons.1 hk with rfl | hk
    · refine ⟨get_lt hb.2, fun c h3 h4 _ => ?_⟩
      simp only at h3 h4
      obtain rfl : c = g := by omega
      rw [hb.2, boxW_get]
    · exact h2.kept k hk
  · rcases List.mem_cons.1 hk with rfl | hk
    · have := hnd.1 p hp
      simp only at this ⊢
      omega
    · exact h2.apart p hp k hk
theorem holds_rowNone {w : World} {i : Nat} (hi : rs[i]? = some none) (h : Mem.holds ⟨B, bs, ks, ms, rs⟩ w) : Mem.holds ⟨B, bs, Kin B 0 0 :: ks, ms, rs.set i none⟩ w := by
  rw [set_self hi]
  refine ⟨h.os, h.tape, h.output, h.size, h.old, h.box, h.nodup, fun k hk => ?_, fun p hp k hk => ?_⟩
  · rcases List.mem_cons.1 hk with rfl | hk
    · exact ⟨Nat.zero_le _, fun c h3 h4 _ => by simp only at h4; omega⟩
    · exact h.kept k hk
  · rcases List.mem_cons.1 hk with rfl | hk
    · exact .inr (.inl (Nat.zero_le _))
    · exact h.apart p hp k hk
theorem tc_rowKeep {α : Type} {e sz : Nat} {enc : α → List Value} {l : List α} {ob : Option (Nat × Obj)} {c : Code} (i : Nat) (hrow : RowOf e sz enc v l ob) (hsz : ∀ x, (enc x).length = sz)
    (h : ∀ (W : World) (lo hi : Nat) (a : Option Addr) (cap : Nat), v = .slice a l.length cap → l.length ≤ cap → SlAt W lo hi sz enc a l → TC P Z N L ⟨B, bs, Kin W lo hi :: ks, ms, rs.set i none⟩ c Q) (hi : rs[i]? = some ob := by rfl) : TC P Z N L ⟨B, bs, ks, ms, rs⟩ c Q := fun a w hf hm => by
  rcases hrow.alt with ⟨h1, h2, h3⟩ | ⟨g, cap, cur, h1, h2, h3, h4, h5, h6⟩
  · subst h3
    have hl : l = [] := List.eq_nil_of_length_eq_zero h2
    subst hl
    exact h B 0 0 none 0 h1 (by simp) ⟨by simp, fun x hx => by simp at hx, fun hn => absurd rfl hn, fun i j x v hx => by simp at hx⟩ a w hf (holds_rowNone hi hm)
  · subst h2
    exact h _ g (g + 1) (some ⟨g, 0, none⟩) cap h1 h3 (SlAt.ofBoxP (by omega) (fun x _ => hsz x) h6) a w hf (holds_rowKeep hi hm)
end
end Go.Q
namespace Go.Q
open Go
structure Link where
  src : Int
  dst : Int
  cap : List Int
  price : List Int
structure Net where
  houses : Int
  links : List Link
structure Send where
  link : Int
  tick : Int
  bytes : Int
structure Demand where
  src : Int
  dst : Int
  bytes : Int
  ready : Int
  due : Int
def i64 (n : Int) : Value := .int .i64 n
def encLink (x : Link) : List Value := .int .i64 x.src :: .int .i64 x.dst :: (x.cap.map (Value.int .i64) ++ x.price.map (Value.int .i64))
def encSend (x : Send) : List Value := [.int .i64 x.link, .int .i64 x.tick, .int .i64 x.bytes]
def netA (n : Net) (a : Option Addr) (c : Nat) : Array Value := #[.int .i64 n.houses, .slice a n.links.length c]
def LinkOk (x : Link) : Prop := x.cap.length = 24 ∧ x.price.length = 24
def NetOk (n : Net) : Prop := ∀ x ∈ n.links, LinkOk x
theorem box_cap {x : Link} {j : Nat} (h : LinkOk x) (hj : j < 24) : (encLink x).toArray[0 + 2 + (j : Int).toNat * 1]? = some (.int .i64 (x.cap.getD j 0)) := by
  simp only [List.getElem?_toArray, Int.toNat_natCast, Nat.mul_one]
  rw [show 0 + 2 + j = j + 1 + 1 by omega]
  simp only [encLink, List.getElem?_cons_succ]
  rw [List.getElem?_append_left (by simp [h.1]; omega)]
  simp [h.1, hj]
theorem box_price {x : Link} {j : Nat} (h : LinkOk x) (hj : j < 24) : (encLink x).toArray[0 + 26 + (j : Int).toNat * 1]? = some (.int .i64 (x.price.getD j 0)) := by
  simp only [List.getElem?_toArray, Int.toNat_natCast, Nat.mul_one]
  rw [show 0 + 26 + j = (24 + j) + 1 + 1 by omega]
  simp only [encLink, List.getElem?_cons_succ]
  rw [List.getElem?_append_right (by simp [h.1])]
  simp [h.1, h.2, hj]
theorem enc_cap {x : Link} {i : Int} (h : LinkOk x) (h0 : 0 ≤ i) (hj : i < 24) : (encLink x)[2 + i.toNat * 1]? = some (.int .i64 (x.cap.getD i.toNat 0)) := by
  have := box_cap (j := i.toNat) h (by omega)
  simp only [List.getElem?_toArray, Int.toNat_natCast] at this
  rwa [show 0 + 2 + i.toNat * 1 = 2 + i.toNat * 1 by omega] at this
theorem enc_price {x : Link} {i : Int} (h : LinkOk x) (h0 : 0 ≤ i) (hj : i < 24) : (encLink x)[26 + i.toNat * 1]? = some (.int .i64 (x.price.getD i.toNat 0)) := by
  have := box_price (j := i.toNat) h (by omega)
  simp only [List.getElem?_toArray, Int.toNat_natCast] at this
  rwa [show 0 + 26 + i.toNat * 1 = 26 + i.toNat * 1 by omega] at this
def isHouse (n : Net) (h : Int) : Prop := 0 ≤ h ∧ h < n.houses
instance (n : Net) (h : Int) : Decidable (isHouse n h) := by unfold isHouse; infer_instance
def hourBad (x : Link) (j : Nat) : Prop := x.cap.getD j 0 < 0 ∨ 1073741824 < x.cap.getD j 0 ∨ x.price.getD j 0 < 0 ∨ 1000000 < x.price.getD j 0
instance (x : Link) (j : Nat) : Decidable (hourBad x j) := by unfold hourBad; infer_instance
/-- the first error of the hours from j on -/
def hoursFrom (x : Link) : (d j : Nat) → Int
  | 0, _ => 0
  | d + 1, j => if hourBad x j then 3 else hoursFrom x d (j + 1)
def checkLink (n : Net) (x : Link) : Int := if ¬ isHouse n x.src ∨ ¬ isHouse n x.dst ∨ x.src = x.dst then 1 else hoursFrom x 24 0
def checkLinks (n : Net) : List Link → Int
  | [] => 0
  | x :: r => if checkLink n x = 0 then checkLinks n r else checkLink n x
def netCheck (n : Net) : Int := if n.houses < 1 ∨ 12 < n.houses ∨ 60 < n.links.length then 2 else checkLinks n n.links
theorem drop_of {α : Type} {l : List α} {k : Nat} {x : α} (h : l[k]? = some x) : l.drop k = x :: l.drop (k + 1) := by
  obtain ⟨hlt, hx⟩ := List.getElem?_eq_some_iff.1 h
  rw [List.drop_eq_getElem_cons hlt, hx]
theorem hoursFrom_bad {x : Link} {j : Nat} (h : j < 24) (hb : hourBad x j) : hoursFrom x (24 - j) j = 3 := by
  rw [show 24 - j = (23 - j) + 1 by omega, hoursFrom, if_pos hb]
theorem hoursFrom_ok {x : Link} {j : Nat} (h : j < 24) (hb : ¬ hourBad x j) : hoursFrom x (24 - j) j = hoursFrom x (24 - (j + 1)) (j + 1) := by
  rw [show 24 - j = (23 - j) + 1 by omega, hoursFrom, if_neg hb, show 24 - (j + 1) = 23 - j by omega]
theorem checkLink_arg {n : Net} {x : Link} (h : ¬ isHouse n x.src ∨ ¬ isHouse n x.dst ∨ x.src = x.dst) : checkLink n x = 1 := by rw [checkLink, if_pos h]
theorem checkLink_hours {n : Net} {x : Link} (h1 : isHouse n x.src) (h2 : isHouse n x.dst) (h3 : ¬ x.src = x.dst) : checkLink n x = hoursFrom x 24 0 := by
  rw [checkLink, if_neg]
  simp [h1, h2, h3]
theorem checkLinks_at {n : Net} {k : Nat} {x : Link} (h : n.links[k]? = some x) : checkLinks n (n.links.drop k) = if checkLink n x = 0 then checkLinks n (n.links.drop (k + 1)) else checkLink n x := by
  rw [drop_of h, checkLinks]
theorem netCheck_limit {n : Net} (h : n.houses < 1 ∨ 12 < n.houses ∨ 60 < n.links.length) : netCheck n = 2 := by rw [netCheck, if_pos h]
theorem netCheck_links {n : Net} (h1 : ¬ n.houses < 1) (h2 : ¬ 12 < n.houses) (h3 : ¬ 60 < (n.links.length : Int)) : netCheck n = checkLinks n n.links := by
  rw [netCheck, if_neg]
  omega
theorem hoursFrom_zero {x : Link} : ∀ {d j : Nat}, hoursFrom x d j = 0 → ∀ i, j ≤ i → i < j + d → ¬ hourBad x i
  | 0, j, _, i, h1, h2 => by omega
  | d + 1, j, h, i, h1, h2 => by
    rw [hoursFrom] at h
    split at h
    · simp at h
    · rename_i hn
      rcases Nat.eq_or_lt_of_le h1 with rfl | hlt
      · exact hn
      · exact hoursFrom_zero h i hlt (by omega)
structure LinkGood (n : Net) (x : Link) : Prop where
  src : isHouse n x.src
  dst : isHouse n x.dst
  ne : x.src ≠ x.dst
  hour : ∀ j, j < 24 → 0 ≤ x.cap.getD j 0 ∧ x.cap.getD j 0 ≤ 1073741824 ∧ 0 ≤ x.price.getD j 0 ∧ x.price.getD j 0 ≤ 1000000
theorem checkLink_zero {n : Net} {x : Link} (h : checkLink n x = 0) : LinkGood n x := by
  unfold checkLink at h
  split at h
  · simp at h
  · rename_i hn
    refine ⟨?_, ?_, ?_, fun j hj => ?_⟩
    · exact Classical.not_not.1 fun h => hn (.inl h)
    · exact Classical.not_not.1 fun h => hn (.inr (.inl h))
    · exact fun h => hn (.inr (.inr h))
    · have := hoursFrom_zero h j (Nat.zero_le _) (by omega)
      simp only [hourBad] at this
      omega
theorem checkLinks_zero {n : Net} : ∀ {l : List Link}, checkLinks n l = 0 → ∀ x ∈ l, LinkGood n x
  | [], _, x, hx => by simp at hx
  | y :: r, h, x, hx => by
    rw [checkLinks] at h
    split at h
    · rename_i h0
      rcases List.mem_cons.1 hx with rfl | hx
      · exact checkLink_zero h0
      · exact checkLinks_zero h x hx
    · rename_i h0; exact absurd h h0
structure NetGood (n : Net) : Prop where
  h0 : 1 ≤ n.houses
  h1 : n.houses ≤ 12
  len : n.links.length ≤ 60
  link : ∀ x ∈ n.links, LinkGood n x
theorem netCheck_zero {n : Net} (h : netCheck n = 0) : NetGood n := by
  unfold netCheck at h
  split at h
  · simp at h
  · exact ⟨by omega, by omega, by omega, checkLinks_zero h⟩
def sendErr (n : Net) (p : Option Send) (x : Send) : Int :=
  if x.link < 0 ∨ (n.links.length : Int) ≤ x.link then 1
  else if x.tick < 0 ∨ 1000000 ≤ x.tick ∨ x.bytes < 1 ∨ 1073741824 < x.bytes then 3
  else match p with
    | none => 0
    | some p => if x.tick < p.tick ∨ (x.tick = p.tick ∧ x.link ≤ p.link) then 1 else 0
def rightFrom (n : Net) : Option Send → List Send → Int
  | _, [] => 0
  | p, x :: r => if sendErr n p x = 0 then rightFrom n (some x) r else sendErr n p x
def right (n : Net) (l : List Send) : Int := if netCheck n ≠ 0 then netCheck n else if 2000 < l.length then 2 else rightFrom n none l
def prevAt (l : List Send) : Nat → Option Send
  | 0 => none
  | k + 1 => l[k]?
theorem rightFrom_at {n : Net} {l : List Send} {k : Nat} {x : Send} (h : l[k]? = some x) :
    rightFrom n (prevAt l k) (l.drop k) = if sendErr n (prevAt l k) x = 0 then rightFrom n (prevAt l (k + 1)) (l.drop (k + 1)) else sendErr n (prevAt l k) x := by
  rw [drop_of h, rightFrom, prevAt, h]
theorem right_check {n : Net} {l : List Send} (h : netCheck n ≠ 0) : right n l = netCheck n := by rw [right, if_pos h]
theorem right_limit {n : Net} {l : List Send} (h : ¬ netCheck n ≠ 0) (h2 : 2000 < (l.length : Int)) : right n l = 2 := by rw [right, if_neg h, if_pos (by omega)]
theorem right_from {n : Net} {l : List Send} (h : ¬ netCheck n ≠ 0) (h2 : ¬ 2000 < (l.length : Int)) : right n l = rightFrom n none l := by rw [right, if_neg h, if_neg (by omega)]
theorem sendErr_link {n : Net} {p : Option Send} {x : Send} (h : x.link < 0 ∨ (n.links.length : Int) ≤ x.link) : sendErr n p x = 1 := by unfold sendErr; rw [if_pos h]
theorem sendErr_range {n : Net} {p : Option Send} {x : Send} (h0 : ¬ x.link < 0) (h1 : ¬ (n.links.length : Int) ≤ x.link) (h : x.tick < 0 ∨ 1000000 ≤ x.tick ∨ x.bytes < 1 ∨ 1073741824 < x.bytes) : sendErr n p x = 3 := by
  unfold sendErr; rw [if_neg (by omega), if_pos h]
theorem sendErr_order {n : Net} {p x : Send} (h0 : ¬ x.link < 0) (h1 : ¬ (n.links.length : Int) ≤ x.link) (h2 : ¬ x.tick < 0) (h3 : ¬ 1000000 ≤ x.tick) (h4 : ¬ x.bytes < 1) (h5 : ¬ 1073741824 < x.bytes)
    (h : x.tick < p.tick ∨ (x.tick = p.tick ∧ x.link ≤ p.link)) : sendErr n (some p) x = 1 := by
  unfold sendErr; rw [if_neg (by omega), if_neg (by omega)]; simp [h]
theorem sendErr_ok {n : Net} {p x : Send} (h0 : ¬ x.link < 0) (h1 : ¬ (n.links.length : Int) ≤ x.link) (h2 : ¬ x.tick < 0) (h3 : ¬ 1000000 ≤ x.tick) (h4 : ¬ x.bytes < 1) (h5 : ¬ 1073741824 < x.bytes)
    (h : ¬ (x.tick < p.tick ∨ (x.tick = p.tick ∧ x.link ≤ p.link))) : sendErr n (some p) x = 0 := by
  unfold sendErr; rw [if_neg (by omega), if_neg (by omega)]; simp [h]
theorem sendErr_first {n : Net} {x : Send} (h0 : ¬ x.link < 0) (h1 : ¬ (n.links.length : Int) ≤ x.link) (h2 : ¬ x.tick < 0) (h3 : ¬ 1000000 ≤ x.tick) (h4 : ¬ x.bytes < 1) (h5 : ¬ 1073741824 < x.bytes) : sendErr n none x = 0 := by
  unfold sendErr; rw [if_neg (by omega), if_neg (by omega)]
structure SendGood (n : Net) (x : Send) : Prop where
  l0 : 0 ≤ x.link
  l1 : x.link < n.links.length
  t0 : 0 ≤ x.tick
  t1 : x.tick < 1000000
  b0 : 1 ≤ x.bytes
  b1 : x.bytes ≤ 1073741824
/-- before, in a schedule -/
def Before (p x : Send) : Prop := p.tick < x.tick ∨ (p.tick = x.tick ∧ p.link < x.link)
theorem Before.trans {a b c : Send} (h : Before a b) (h' : Before b c) : Before a c := by unfold Before at *; omega
theorem sendErr_zero {n : Net} {p : Option Send} {x : Send} (h : sendErr n p x = 0) : SendGood n x ∧ ∀ q, p = some q → Before q x := by
  unfold sendErr at h
  split at h
  · simp at h
  · split at h
    · simp at h
    · refine ⟨⟨by omega, by omega, by omega, by omega, by omega, by omega⟩, fun q hq => ?_⟩
      subst hq
      simp only at h
      split at h
      · simp at h
      · unfold Before; omega
theorem rightFrom_zero {n : Net} : ∀ {l : List Send} {p : Option Send}, rightFrom n p l = 0 → (∀ x ∈ l, SendGood n x) ∧ l.Pairwise Before ∧ ∀ q, p = some q → ∀ x ∈ l, Before q x
  | [], p, _ => ⟨fun _ h => by simp at h, .nil, fun _ _ _ h => by simp at h⟩
  | x :: r, p, h => by
    rw [rightFrom] at h
    split at h
    · rename_i h0
      obtain ⟨h1, h2⟩ := sendErr_zero h0
      obtain ⟨h3, h4, h5⟩ := rightFrom_zero h
      refine ⟨fun y hy => ?_, List.pairwise_cons.2 ⟨fun y hy => h5 x rfl y hy, h4⟩, fun q hq y hy => ?_⟩
      · rcases List.mem_cons.1 hy with rfl | hy
        · exact h1
        · exact h3 y hy
      · rcases List.mem_cons.1 hy with rfl | hy
        · exact h2 q hq
        · exact (h2 q hq).trans (h5 x rfl y hy)
    · rename_i h0; exact absurd h h0
structure Sched (n : Net) (l : List Send) : Prop where
  net : NetGood n
  len : l.length ≤ 2000
  send : ∀ x ∈ l, SendGood n x
  ord : l.Pairwise Before
theorem right_zero {n : Net} {l : List Send} (h : right n l = 0) : Sched n l := by
  unfold right at h
  split at h
  · rename_i h0; exact absurd h h0
  · rename_i h0
    split at h
    · simp at h
    · obtain ⟨h1, h2, _⟩ := rightFrom_zero h
      exact ⟨netCheck_zero (by omega), by omega, h1, h2⟩
def capOf (n : Net) (link tick : Int) : Int := match n.links[link.toNat]? with | some x => x.cap.getD (tick % 24).toNat 0 | none => 0
def priceOf (n : Net) (link tick : Int) : Int := match n.links[link.toNat]? with | some x => x.price.getD (tick % 24).toNat 0 | none => 0
theorem NetGood.cap {n : Net} (h : NetGood n) (link tick : Int) : 0 ≤ capOf n link tick ∧ capOf n link tick ≤ 1073741824 := by
  unfold capOf
  split
  · rename_i x hx
    have := (h.link x (List.mem_of_getElem? hx)).hour (tick % 24).toNat (by omega)
    omega
  · omega
theorem NetGood.price {n : Net} (h : NetGood n) (link tick : Int) : 0 ≤ priceOf n link tick ∧ priceOf n link tick ≤ 1000000 := by
  unfold priceOf
  split
  · rename_i x hx
    have := (h.link x (List.mem_of_getElem? hx)).hour (tick % 24).toNat (by omega)
    omega
  · omega
def isum {α : Type} (f : α → Int) : List α → Int
  | [] => 0
  | x :: r => f x + isum f r
theorem isum_append {α : Type} (f : α → Int) : ∀ (a b : List α), isum f (a ++ b) = isum f a + isum f b
  | [], b => by simp [isum]
  | x :: a, b => by simp only [List.cons_append, isum, isum_append f a b]; omega
theorem take_of {α : Type} {l : List α} {k : Nat} {x : α} (h : l[k]? = some x) : l.take (k + 1) = l.take k ++ [x] := by
  obtain ⟨hlt, hx⟩ := List.getElem?_eq_some_iff.1 h
  rw [List.take_succ_eq_append_getElem hlt, hx]
theorem isum_take {α : Type} {f : α → Int} {l : List α} {k : Nat} {x : α} (h : l[k]? = some x) : isum f (l.take (k + 1)) = isum f (l.take k) + f x := by
  rw [take_of h, isum_append]; simp [isum]
theorem isum_bound {α : Type} {f : α → Int} {lo hi : Int} : ∀ {l : List α}, (∀ x ∈ l, lo ≤ f x ∧ f x ≤ hi) → lo * l.length ≤ isum f l ∧ isum f l ≤ hi * l.length
  | [], _ => by simp [isum]
  | x :: r, h => by
    have h1 := h x (by simp)
    have h2 := isum_bound (l := r) (fun y hy => h y (List.mem_cons_of_mem _ hy))
    simp only [isum, List.length_cons]
    rw [show ((r.length + 1 : Nat) : Int) = (r.length : Int) + 1 by omega, Int.mul_add, Int.mul_add]
    omega
theorem mem_take {α : Type} {l : List α} {k : Nat} {x : α} (h : x ∈ l.take k) : x ∈ l := List.mem_of_mem_take h
def fitsFrom (n : Net) : List Send → Int
  | [] => 0
  | x :: r => if capOf n x.link x.tick < x.bytes then 13 else fitsFrom n r
def fits (n : Net) (l : List Send) : Int := if right n l ≠ 0 then right n l else fitsFrom n l
theorem fitsFrom_at {n : Net} {l : List Send} {k : Nat} {x : Send} (h : l[k]? = some x) : fitsFrom n (l.drop k) = if capOf n x.link x.tick < x.bytes then 13 else fitsFrom n (l.drop (k + 1)) := by
  rw [drop_of h, fitsFrom]
theorem fitsFrom_zero {n : Net} : ∀ {l : List Send}, fitsFrom n l = 0 ↔ ∀ x ∈ l, x.bytes ≤ capOf n x.link x.tick
  | [] => by simp [fitsFrom]
  | x :: r => by
    rw [fitsFrom]
    split
    · rename_i h
      constructor
      · intro h'; simp at h'
      · intro h'; have := h' x (by simp); omega
    · rename_i h
      rw [fitsFrom_zero]
      constructor
      · intro h' y hy
        rcases List.mem_cons.1 hy with rfl | hy
        · omega
        · exact h' y hy
      · intro h' y hy; exact h' y (List.mem_cons_of_mem _ hy)
theorem fits_zero {n : Net} {l : List Send} : fits n l = 0 ↔ right n l = 0 ∧ ∀ x ∈ l, x.bytes ≤ capOf n x.link x.tick := by
  unfold fits
  split
  · rename_i h; exact ⟨fun h' => absurd h' h, fun h' => absurd h'.1 h⟩
  · rename_i h; rw [fitsFrom_zero]; exact ⟨fun h' => ⟨by omega, h'⟩, fun h' => h'.2⟩
def costSum (n : Net) (l : List Send) : Int := isum (fun x => x.bytes * priceOf n x.link x.tick) l
def cost (n : Net) (l : List Send) : Int × Int := if right n l ≠ 0 then (0, right n l) else (costSum n l, 0)
theorem send_cost {n : Net} {x : Send} (hn : NetGood n) (h : SendGood n x) : 0 ≤ x.bytes * priceOf n x.link x.tick ∧ x.bytes * priceOf n x.link x.tick ≤ 1073741824000000 := by
  have h1 := hn.price x.link x.tick
  refine ⟨Int.mul_nonneg (by have := h.b0; omega) h1.1, ?_⟩
  calc x.bytes * priceOf n x.link x.tick ≤ 1073741824 * 1000000 := Int.mul_le_mul h.b1 h1.2 h1.1 (by omega)
    _ = 1073741824000000 := by decide
theorem costSum_bound {n : Net} {l : List Send} (h : Sched n l) (k : Nat) : 0 ≤ costSum n (l.take k) ∧ costSum n (l.take k) ≤ 1073741824000000 * 2000 := by
  have := isum_bound (f := fun x : Send => x.bytes * priceOf n x.link x.tick) (l := l.take k) (lo := 0) (hi := 1073741824000000) (fun x hx => send_cost h.net (h.send x (mem_take hx)))
  have hl : (l.take k).length ≤ 2000 := by have := h.len; have := List.length_take_le' k l; omega
  unfold costSum
  omega
/-- the bytes over a link in a tick -/
def sentOver (l : List Send) (link tick : Int) : Int := isum (fun x => if x.link = link ∧ x.tick = tick then x.bytes else 0) l
def left (n : Net) (l : List Send) (link tick : Int) : Int × Int :=
  if right n l ≠ 0 then (0, right n l)
  else if link < 0 ∨ (n.links.length : Int) ≤ link ∨ tick < 0 ∨ 1000000 ≤ tick then (0, 1)
  else (capOf n link tick - sentOver l link tick, 0)
/-- a right demand -/
def demanded (n : Net) (d : Demand) : Prop := isHouse n d.src ∧ isHouse n d.dst ∧ 1 ≤ d.bytes ∧ d.bytes ≤ 1099511627776 ∧ 0 ≤ d.ready ∧ d.ready ≤ d.due ∧ d.due ≤ 1000000
instance (n : Net) (d : Demand) : Decidable (demanded n d) := by unfold demanded; infer_instance
theorem prevAt_pos {l : List Send} {k : Nat} {p : Send} (h : 0 < (k : Int)) (he : l[((k : Int) - 1).toNat]? = some p) : prevAt l k = some p := by
  cases k with
  | zero => simp at h
  | succ k =>
    rw [show (((k + 1 : Nat) : Int) - 1).toNat = k by omega] at he
    exact he
theorem right_next {n : Net} {l : List Send} {k : Nat} {x : Send} (he : l[k]? = some x) (h0 : ¬ x.link < 0) (h1 : ¬ (n.links.length : Int) ≤ x.link) (h2 : ¬ x.tick < 0) (h3 : ¬ 1000000 ≤ x.tick) (h4 : ¬ x.bytes < 1) (h5 : ¬ 1073741824 < x.bytes)
    (h6 : 0 < (k : Int) → ∀ p, l[((k : Int) - 1).toNat]? = some p → ¬ (x.tick < p.tick ∨ (x.tick = p.tick ∧ x.link ≤ p.link))) :
    rightFrom n (prevAt l k) (l.drop k) = rightFrom n (prevAt l (k + 1)) (l.drop (k + 1)) := by
  rw [rightFrom_at he, if_pos]
  cases k with
  | zero => exact sendErr_first h0 h1 h2 h3 h4 h5
  | succ k =>
    have hlt := (List.getElem?_eq_some_iff.1 he).1
    have hp : l[k]? = some l[k] := List.getElem?_eq_getElem (by omega)
    rw [prevAt, hp]
    refine sendErr_ok h0 h1 h2 h3 h4 h5 (h6 (by omega) _ ?_)
    rw [show (((k + 1 : Nat) : Int) - 1).toNat = k by omega, hp]
theorem right_stop {n : Net} {l : List Send} {k : Nat} {x : Send} {e : Int} (he : l[k]? = some x) (h : sendErr n (prevAt l k) x = e) (h0 : e ≠ 0) : rightFrom n (prevAt l k) (l.drop k) = e := by
  rw [rightFrom_at he, if_neg (by omega), h]
theorem right_disorder {n : Net} {l : List Send} {k : Nat} {x p : Send} (he : l[k]? = some x) (h0 : ¬ x.link < 0) (h1 : ¬ (n.links.length : Int) ≤ x.link) (h2 : ¬ x.tick < 0) (h3 : ¬ 1000000 ≤ x.tick) (h4 : ¬ x.bytes < 1) (h5 : ¬ 1073741824 < x.bytes)
    (hk : 0 < (k : Int)) (hp : l[((k : Int) - 1).toNat]? = some p) (h : x.tick < p.tick ∨ (x.tick = p.tick ∧ x.link ≤ p.link)) : rightFrom n (prevAt l k) (l.drop k) = 1 := by
  refine right_stop he ?_ (by decide)
  rw [prevAt_pos hk hp]
  exact sendErr_order h0 h1 h2 h3 h4 h5 h
theorem capOf_eq {n : Net} {link tick : Int} {x : Link} (h : n.links[link.toNat]? = some x) : capOf n link tick = x.cap.getD (tick % 24).toNat 0 := by unfold capOf; rw [h]
theorem priceOf_eq {n : Net} {link tick : Int} {x : Link} (h : n.links[link.toNat]? = some x) : priceOf n link tick = x.price.getD (tick % 24).toNat 0 := by unfold priceOf; rw [h]
theorem costSum_take {n : Net} {l : List Send} {k : Nat} {x : Send} (h : l[k]? = some x) : costSum n (l.take (k + 1)) = costSum n (l.take k) + x.bytes * priceOf n x.link x.tick := isum_take h
theorem SlSend_len {l : List Send} (k : Nat) (h : ¬ (k : Int) < l.length) : l.take k = l := List.take_of_length_le (by omega)
def srcOf (n : Net) (link : Int) : Int := match n.links[link.toNat]? with | some x => x.src | none => 0
def dstOf (n : Net) (link : Int) : Int := match n.links[link.toNat]? with | some x => x.dst | none => 0
abbrev Chg := Int × Int × Int
def changesOf (n : Net) (l : List Send) : List Chg := l.flatMap fun x => [(x.tick, srcOf n x.link, -x.bytes), (x.tick, dstOf n x.link, x.bytes)]
def chgSum (h t : Int) (cs : List Chg) : Int := isum (fun c => if c.1 < t ∧ c.2.1 = h then c.2.2 else 0) cs
/-- the bytes of a demand in a house at a tick -/
def have' (n : Net) (l : List Send) (d : Demand) (h t : Int) : Int := (if h = d.src ∧ d.ready ≤ t then d.bytes else 0) + chgSum h t (changesOf n l)
/-- what is sent from a house in a tick -/
def outOf (n : Net) (l : List Send) (a t : Int) : Int := isum (fun y => if y.tick = t ∧ srcOf n y.link = a then y.bytes else 0) l
/-- more is sent than is there -/
def bad (n : Net) (l : List Send) (d : Demand) (x : Send) : Prop := have' n l d (srcOf n x.link) x.tick < outOf n l (srcOf n x.link) x.tick
instance (n : Net) (l : List Send) (d : Demand) (x : Send) : Decidable (bad n l d x) := by unfold bad; infer_instance
theorem isum_zero {α : Type} {f : α → Int} : ∀ {l : List α}, (∀ x ∈ l, f x = 0) → isum f l = 0
  | [], _ => rfl
  | x :: r, h => by rw [isum, h x (by simp), isum_zero fun y hy => h y (List.mem_cons_of_mem _ hy)]; rfl
def atOk (n : Net) (l : List Send) (d : Demand) (t : Int) : Prop := d.ready ≤ t ∧ t ≤ d.due ∧ d.bytes ≤ have' n l d d.dst t
instance (n : Net) (l : List Send) (d : Demand) (t : Int) : Decidable (atOk n l d t) := by unfold atOk; infer_instance
theorem lk {o : Option Value} {a b : Int} (h : o = some (.int .i64 a)) (e : a = b) : o = some (.int .i64 b) := e ▸ h
/-- a slice's head -/
structure Hd where
  l : List Send
  a : Option Addr
  c : Nat
def encHd (h : Hd) : List Value := [.slice h.a h.l.length h.c]
def sends (ls : List Hd) : List Send := ls.flatMap (·.l)
def over (l : List Send) : Prop := ∃ x ∈ l, 1073741824 < x.bytes
instance (l : List Send) : Decidable (over l) := by unfold over; infer_instance
end Go.Q
namespace Go.Q
open Go Go.RowKit
instance : DecidableEq Send := fun x y => decidable_of_iff (x.link = y.link ∧ x.tick = y.tick ∧ x.bytes = y.bytes) (by cases x; cases y; simp)
def fieldSig (P : Program) (T : TypeId) : List (Bool × TypeId × Nat) := (P.fieldsOf T).toList.map (fun f => (f.name == "_", f.type, f.offset))
theorem perm_step {α : Type} {a b c m : List α} {p : α} (h : (a ++ b).Perm m) (hb : b.Perm (p :: c)) : ((a ++ [p]) ++ c).Perm m := by
  rw [List.append_assoc]
  exact ((List.Perm.append_left a hb).symm).trans h
def Bnd (x : Send) : Prop := 0 ≤ x.link ∧ x.link ≤ 1000000000000 ∧ 0 ≤ x.tick ∧ x.tick ≤ 1000000000000
abbrev BS := { x : Send // Bnd x }
instance : Inhabited BS := ⟨⟨⟨0, 0, 0⟩, by simp [Bnd]⟩⟩
theorem SlAt.nothing {α : Type} {W : World} {lo hi sz : Nat} {enc : α → List Value} {a : Option Addr} : SlAt W lo hi sz enc a [] := ⟨by simp, by simp, fun h => absurd rfl h, fun i j x v h => by simp at h⟩
def few (n : Net) (ls : List Hd) (sends : Int) : Prop := n.links.length ≤ 70 ∧ ls.length ≤ 4 ∧ ∀ h ∈ ls, (h.l.length : Int) ≤ sends
instance (n : Net) (ls : List Hd) (sends : Int) : Decidable (few n ls sends) := by unfold few; infer_instance
theorem none_stepG {α : Type} {l : List α} {k : Nat} {x : α} {P : Nat → α → Prop} (h : ∀ (j : Nat) y, j < k → l[j]? = some y → P j y) (hx : l[k]? = some x) (h1 : P k x) : ∀ (j : Nat) y, j < k + 1 → l[j]? = some y → P j y := fun j y hj hy => by
  rcases Nat.lt_succ_iff_lt_or_eq.1 hj with hj | rfl
  · exact h j y hj hy
  · rw [hx] at hy; cases hy; exact h1
theorem take_step {α : Type} {a b : List α} {k : Nat} {x y : α} (h : a.take k = b.take k) (hx : a[k]? = some x) (hy : b[k]? = some y) (e : x = y) : a.take (k + 1) = b.take (k + 1) := by rw [take_of hx, take_of hy, h, e]
theorem take_diff {α : Type} {a b : List α} {k : Nat} {x y : α} (hx : a[k]? = some x) (hy : b[k]? = some y) (e : x ≠ y) : a ≠ b := fun h => by subst h; rw [hx] at hy; cases hy; exact e rfl
theorem take_same {α : Type} {a b : List α} {k : Nat} (h : a.take k = b.take k) (h1 : a.length ≤ k) (h2 : a.length = b.length) : a = b := by rwa [List.take_of_length_le h1, List.take_of_length_le (by omega)] at h
end Go.Q
