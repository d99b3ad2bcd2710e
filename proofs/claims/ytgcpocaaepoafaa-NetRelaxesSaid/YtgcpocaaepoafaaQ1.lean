/- Frames as lists of slots, the judgements, the rules of code. Plain words over the model's Code.wp. -/
import Derived.WalkKit
import Derived.Deep.Quiet
import Derived.KernelRfl
import Derived.RangeFuncNested
import Derived.RangeFuncCalls
import Derived.OrdersIn
import Derived.TacticsIn
set_option linter.unusedVariables false
set_option linter.unusedSimpArgs false
set_option linter.unusedSectionVars false
namespace Go.Q
open Go Go.RowKit

/-- the frame of a function, or of a round of the loop with the record ro; ds: the blocks for the deferred calls of its loops' rounds -/
structure Env where
  ro : Option Nat
  ds : List Nat
def mk (D : Nat) : Deferred := { target := .collected D, args := #[] }
abbrev FW (ro : Option Nat) : Fence := { Fence.wide with round := ro }

/-- what is known of a frame: its size, its deferred calls, and the slots of the list (the first entry of a slot counts) -/
def Fr (Z : Env) (N : Nat) (L : List (Nat × Value)) (a : Act) : Prop :=
  a.tmps.size = N ∧ a.defers = Z.ds.map mk ∧ ∀ t v, L.lookup t = some v → a.tmps[t]? = some v

def ev (L : List (Nat × Value)) : Operand → Option Value
  | .tmp t => L.lookup t
  | .const v => some v
  | .global g => some (.pointer (some ⟨g, 0, none⟩))
  | .func f => some (.func (.func f) #[] #[])

theorem Fr.eval {Z : Env} {N : Nat} {L : List (Nat × Value)} {a : Act} (h : Fr Z N L a) {x : Operand} {v : Value} (hx : ev L x = some v) : a.eval x = v := by
  cases x with
  | tmp t =>
    have := h.2.2 t v hx
    simp [Act.eval, Array.getD_eq_getD_getElem?, this]
  | const c => simpa [ev, Act.eval] using hx
  | global g => simpa [ev, Act.eval] using hx
  | func f => simpa [ev, Act.eval] using hx

theorem Fr.put {Z : Env} {N : Nat} {L : List (Nat × Value)} {a : Act} (h : Fr Z N L a) {d : Nat} (hd : d < N) (v : Value) : Fr Z N ((d, v) :: L) (a.put (some d) v) := by
  refine ⟨by simp [Act.put, h.1], by simp [Act.put, h.2.1], fun t u hl => ?_⟩
  simp only [List.lookup_cons] at hl
  by_cases ht : t = d
  · subst ht
    simp at hl
    subst hl
    simp [Act.put, h.1, hd]
  · have : (t == d) = false := by simpa using ht
    rw [this] at hl
    simp only [Act.put]
    rw [Array.getElem?_setIfInBounds_ne (by omega)]
    exact h.2.2 t u hl

theorem Fr.put_none {Z : Env} {N : Nat} {L : List (Nat × Value)} {a : Act} (h : Fr Z N L a) (v : Value) : Fr Z N L (a.put none v) := by simpa [Act.put] using h

/-- the slots of L0 are among those of L -/
def Sub (L : List (Nat × Value)) : List (Nat × Value) → Prop
  | [] => True
  | (t, v) :: r => L.lookup t = some v ∧ Sub L r

theorem Sub.lookup {L : List (Nat × Value)} : ∀ {L0 : List (Nat × Value)}, Sub L L0 → ∀ t v, L0.lookup t = some v → L.lookup t = some v
  | [], _, t, v, h => by simp at h
  | (t', v') :: r, ⟨h1, h2⟩, t, v, h => by
    simp only [List.lookup_cons] at h
    by_cases ht : t = t'
    · subst ht
      simp at h
      subst h
      exact h1
    · have : (t == t') = false := by simpa using ht
      rw [this] at h
      exact Sub.lookup h2 t v h

theorem Fr.sub {Z : Env} {N : Nat} {L L0 : List (Nat × Value)} {a : Act} (h : Fr Z N L a) (hs : Sub L L0) : Fr Z N L0 a :=
  ⟨h.1, h.2.1, fun t v hl => h.2.2 t v (hs.lookup t v hl)⟩

/-! ### memory: what the call owns, and regions that stay as they are -/

/-- the blocks lo ≤ b < hi that on speaks of are as in w -/
structure Kp where
  w : World
  lo : Nat
  hi : Nat
  on : Nat → Prop
abbrev Kin (w : World) (lo hi : Nat) : Kp := ⟨w, lo, hi, fun _ => True⟩

structure Mem where
  base : World
  boxes : List (Nat × Obj)
  kept : List Kp
  marks : List Nat
  rows : List (Option (Nat × Obj))

def markBox (D : Nat) : Nat × Obj := (D, .deferred (some []))
def rbOf (rs : List (Option (Nat × Obj))) : List Nat := (rs.filterMap id).map Prod.fst
def Mem.rb (M : Mem) : List Nat := rbOf M.rows
def Mem.all (M : Mem) : List (Nat × Obj) := M.boxes ++ (M.rows.filterMap id ++ M.marks.map markBox)

structure Mem.holds (M : Mem) (w : World) : Prop where
  os : w.os = M.base.os
  tape : w.tape = M.base.tape
  output : w.output = M.base.output
  size : M.base.heap.size ≤ w.heap.size
  old : ∀ b, b < M.base.heap.size → w.heap[b]? = M.base.heap[b]?
  box : ∀ p ∈ M.all, M.base.heap.size ≤ p.1 ∧ w.heap[p.1]? = some p.2
  nodup : M.all.Pairwise (fun p q => p.1 ≠ q.1)
  kept : ∀ k ∈ M.kept, k.hi ≤ w.heap.size ∧ ∀ b, k.lo ≤ b → b < k.hi → k.on b → w.heap[b]? = k.w.heap[b]?
  apart : ∀ p ∈ M.all, ∀ k ∈ M.kept, p.1 < k.lo ∨ k.hi ≤ p.1 ∨ ¬ k.on p.1

def Mem.init (w : World) : Mem := ⟨w, [], [], [], []⟩

theorem Mem.init_holds (w : World) : (Mem.init w).holds w :=
  ⟨rfl, rfl, rfl, Nat.le_refl _, fun _ _ => rfl, fun _ h => by simp [Mem.init, Mem.all] at h, by simp [Mem.init, Mem.all], fun _ h => by simp [Mem.init] at h, fun _ h => by simp [Mem.init, Mem.all] at h⟩

theorem Mem.holds.below {M : Mem} {w : World} (h : M.holds w) : Below M.base.heap.size M.base w := ⟨h.os, h.tape, h.output, h.size, h.old⟩

theorem get_lt {w : World} {b : Nat} {o : Obj} (h : w.heap[b]? = some o) : b < w.heap.size := by
  rcases Nat.lt_or_ge b w.heap.size with h' | h'
  · exact h'
  · rw [Array.getElem?_eq_none h'] at h; cases h

theorem Mem.mem_all {M : Mem} {p : Nat × Obj} (h : p ∈ M.boxes) : p ∈ M.all := List.mem_append_left _ h
theorem Mem.holds.boxOf {M : Mem} {w : World} (h : M.holds w) {p : Nat × Obj} (hb : p ∈ M.boxes) : M.base.heap.size ≤ p.1 ∧ w.heap[p.1]? = some p.2 := h.box p (Mem.mem_all hb)
theorem Mem.holds.lt {M : Mem} {w : World} (h : M.holds w) {b : Nat} {o : Obj} (hb : (b, o) ∈ M.boxes) : b < w.heap.size := get_lt (h.boxOf hb).2

/-- a step that turns nothing that is there -/
theorem Mem.holds.ext {M : Mem} {w w' : World} (h : M.holds w) (hb : Below w.heap.size w w') : M.holds w' := by
  refine ⟨hb.os.trans h.os, hb.tape.trans h.tape, hb.output.trans h.output, Nat.le_trans h.size hb.size, fun b hlt => ?_, fun p hp => ?_, h.nodup, fun k hk => ?_, h.apart⟩
  · rw [hb.block b (Nat.lt_of_lt_of_le hlt h.size), h.old b hlt]
  · have := h.box p hp
    exact ⟨this.1, by rw [hb.block _ (get_lt this.2)]; exact this.2⟩
  · obtain ⟨h1, h2⟩ := h.kept k hk
    exact ⟨Nat.le_trans h1 hb.size, fun b hl hh ho => by rw [hb.block b (by omega)]; exact h2 b hl hh ho⟩

theorem Mem.holds.drew {M : Mem} {w : World} (h : M.holds w) : M.holds w.drew := h.ext ((Below.refl _ w).drew)

theorem below_drew' (w : World) : Below w.heap.size w { w with drawn := w.drawn + 1 } := ⟨rfl, rfl, rfl, Nat.le_refl _, fun _ _ => rfl⟩

/-- a new block -/
theorem Mem.holds.alloc {M : Mem} {w : World} (h : M.holds w) (o : Obj) : Mem.holds ⟨M.base, (w.heap.size, o) :: M.boxes, M.kept, M.marks, M.rows⟩ (w.alloc o) := by
  have he : M.holds (w.alloc o) := h.ext ((Below.refl _ w).alloc (Nat.le_refl _) o)
  refine ⟨he.os, he.tape, he.output, he.size, he.old, fun p hp => ?_, ?_, he.kept, fun p hp k hk => ?_⟩
  · rcases List.mem_cons.1 (show p ∈ (w.heap.size, o) :: M.all from hp) with rfl | hp
    · exact ⟨h.size, by show (w.heap.push o)[w.heap.size]? = _; simp⟩
    · exact he.box p hp
  · refine List.pairwise_cons.2 ⟨fun p hp => ?_, h.nodup⟩
    have := get_lt (h.box p hp).2
    simp only; omega
  · rcases List.mem_cons.1 (show p ∈ (w.heap.size, o) :: M.all from hp) with rfl | hp
    · exact .inr (.inl (h.kept k hk).1)
    · exact he.apart p hp k hk

/-- a call that hands back something new: its blocks stay as they are -/
theorem Mem.holds.keep {M : Mem} {w w' : World} (h : M.holds w) (hb : Below w.heap.size w w') : Mem.holds ⟨M.base, M.boxes, Kin w' w.heap.size w'.heap.size :: M.kept, M.marks, M.rows⟩ w' := by
  have he := h.ext hb
  refine ⟨he.os, he.tape, he.output, he.size, he.old, he.box, he.nodup, fun k hk => ?_, fun p hp k hk => ?_⟩
  · rcases List.mem_cons.1 hk with rfl | hk
    · exact ⟨Nat.le_refl _, fun _ _ _ _ => rfl⟩
    · exact he.kept k hk
  · rcases List.mem_cons.1 hk with rfl | hk
    · exact .inl (get_lt (h.box p hp).2)
    · exact he.apart p hp k hk

theorem Mem.holds.sub {M M' : Mem} {w : World} (h : M.holds w) (hB : M'.base = M.base) (h1 : M'.all.Sublist M.all) (h2 : M'.kept.Sublist M.kept) : M'.holds w :=
  ⟨hB ▸ h.os, hB ▸ h.tape, hB ▸ h.output, hB ▸ h.size, hB ▸ h.old, fun q hq => hB ▸ h.box q (h1.subset hq), h.nodup.sublist h1, fun k hk => h.kept k (h2.subset hk), fun q hq k hk => h.apart q (h1.subset hq) k (h2.subset hk)⟩
/-- only some boxes and regions are remembered -/
theorem Mem.holds.less {B : World} {bs bs' : List (Nat × Obj)} {ks ks' : List Kp} {ms : List Nat} {rs : List (Option (Nat × Obj))} {w : World} (h : Mem.holds ⟨B, bs, ks, ms, rs⟩ w) (h1 : bs'.Sublist bs) (h2 : ks'.Sublist ks) : Mem.holds ⟨B, bs', ks', ms, rs⟩ w :=
  h.sub rfl (List.Sublist.append h1 (List.Sublist.refl _)) h2

theorem heap_setObj_ne {w : World} {b c : Nat} {o : Obj} (h : c ≠ b) : ({ w with heap := w.heap.setIfInBounds b o } : World).heap[c]? = w.heap[c]? := by
  simp [Ne.symm h]

/-- the world with one block written anew -/
def putBlock (w : World) (b : Nat) (o : Obj) : World := { w with heap := w.heap.setIfInBounds b o }

theorem setCell_eq {w : World} {b off : Nat} {cs : Array Value} {T : TypeId} {fz : Nat × Nat} (h : w.heap[b]? = some (.cells cs T fz)) (v : Value) :
    w.setCell ⟨b, off, none⟩ v = putBlock w b (.cells (cs.setIfInBounds off v) T fz) := by
  have hb := get_lt h
  have hg : w.heap[b] = .cells cs T fz := by simpa [Array.getElem?_eq_getElem hb] using h
  simp only [World.setCell, putBlock]
  congr 1
  apply Array.ext_getElem?
  intro i
  rw [Array.getElem?_modify, Array.getElem?_setIfInBounds]
  by_cases hi : b = i
  · subst hi
    rw [if_pos rfl, if_pos rfl, if_pos hb, h]
    rfl
  · rw [if_neg hi, if_neg hi]

theorem Mem.holds.putA {M : Mem} {w : World} (h : M.holds w) {i : Nat} {b : Nat} {o : Obj} (hi : M.all[i]? = some (b, o)) (o' : Obj) {M' : Mem} (hB : M'.base = M.base) (hA : M'.all = M.all.set i (b, o')) (hK : M'.kept = M.kept) :
    M'.holds (putBlock w b o') := by
  have hmem : (b, o) ∈ M.all := List.mem_of_getElem? hi
  have hbox := h.box _ hmem
  have hlt := get_lt hbox.2
  have hii : i < M.all.length := by
    rcases Nat.lt_or_ge i M.all.length with h' | h'
    · exact h'
    · rw [List.getElem?_eq_none h'] at hi; cases hi
  have hgi : M.all[i] = (b, o) := by simpa [List.getElem?_eq_getElem hii] using hi
  have keep : ∀ c, c ≠ b → (putBlock w b o').heap[c]? = w.heap[c]? := fun c hc => heap_setObj_ne hc
  refine ⟨by rw [hB]; exact h.os, by rw [hB]; exact h.tape, by rw [hB]; exact h.output, by rw [hB]; simpa [putBlock] using h.size, fun c hc => ?_, fun p hp => ?_, ?_, fun k hk => ?_, fun p hp k hk => ?_⟩
  · have h0 : M.base.heap.size ≤ b := hbox.1
    rw [hB] at hc ⊢
    rw [keep c (by omega)]; exact h.old c hc
  · rw [hA] at hp
    rw [hB]
    obtain ⟨j, hj, rfl⟩ := List.mem_iff_getElem.1 hp
    have hjl : j < M.all.length := by simpa using hj
    rw [List.getElem_set]
    split
    · exact ⟨hbox.1, by simp [putBlock, hlt]⟩
    · rename_i hne
      have hb := h.box _ (List.getElem_mem hjl)
      refine ⟨hb.1, ?_⟩
      rw [keep]
      · exact hb.2
      · have hp' := List.pairwise_iff_getElem.1 h.nodup
        rcases Nat.lt_or_ge i j with hij | hij
        · have := hp' i j hii hjl hij
          rw [hgi] at this; exact fun e => this e.symm
        · have := hp' j i hjl hii (by omega)
          rw [hgi] at this; exact this
  · rw [hA]
    have hp' := List.pairwise_iff_getElem.1 h.nodup
    refine List.pairwise_iff_getElem.2 fun j k hj hk hjk => ?_
    have h1 : j < M.all.length := by simpa using hj
    have h2 : k < M.all.length := by simpa using hk
    have := hp' j k h1 h2 hjk
    rw [List.getElem_set, List.getElem_set]
    split <;> split
    · omega
    · rename_i e _; subst e; rw [hgi] at this; exact this
    · rename_i _ e; subst e; rw [hgi] at this; exact this
    · exact this
  · rw [hK] at hk
    obtain ⟨h1, h2⟩ := h.kept k hk
    refine ⟨by simpa [putBlock] using h1, fun c hl hh ho => ?_⟩
    rw [keep c (by
      intro e
      subst e
      rcases h.apart _ hmem k hk with h3 | h3 | h3
      · exact absurd hl (by simp only at h3; omega)
      · exact absurd hh (by simp only at h3; omega)
      · exact h3 ho)]
    exact h2 c hl hh ho
  · rw [hA] at hp
    rw [hK] at hk
    obtain ⟨j, hj, rfl⟩ := List.mem_iff_getElem.1 hp
    have hjl : j < M.all.length := by simpa using hj
    rw [List.getElem_set]
    split
    · have := h.apart _ hmem k hk; simpa using this
    · exact h.apart _ (List.getElem_mem hjl) k hk

theorem Mem.holds.put {B : World} {bs : List (Nat × Obj)} {ks : List Kp} {ms : List Nat} {rs : List (Option (Nat × Obj))} {w : World} (h : Mem.holds ⟨B, bs, ks, ms, rs⟩ w) {i : Nat} {b : Nat} {o : Obj} (hi : bs[i]? = some (b, o)) (o' : Obj) :
    Mem.holds ⟨B, bs.set i (b, o'), ks, ms, rs⟩ (putBlock w b o') := by
  have hii : i < bs.length := by
    rcases Nat.lt_or_ge i bs.length with h' | h'
    · exact h'
    · rw [List.getElem?_eq_none h'] at hi; cases hi
  exact h.putA (i := i) (o := o) (by show (bs ++ _)[i]? = _; rw [List.getElem?_append_left hii]; exact hi) o' rfl (by show bs.set i (b, o') ++ _ = (bs ++ _).set i (b, o'); rw [List.set_append_left _ _ hii]) rfl

/-- the block for the rounds' deferred calls is shut: it is not spoken of any more -/
theorem Mem.holds.shut {B : World} {bs : List (Nat × Obj)} {ks : List Kp} {ms : List Nat} {rs : List (Option (Nat × Obj))} {D : Nat} {w : World} (h : Mem.holds ⟨B, bs, ks, D :: ms, rs⟩ w) (o' : Obj) : Mem.holds ⟨B, bs, ks, ms, rs⟩ (putBlock w D o') := by
  have hi : (Mem.mk B bs ks (D :: ms) rs).all[bs.length + (rs.filterMap id).length]? = some (markBox D) := by
    show (bs ++ (rs.filterMap id ++ (D :: ms).map markBox))[bs.length + (rs.filterMap id).length]? = _
    simp
  have h1 : Mem.holds ⟨B, bs ++ (rs.filterMap id ++ [(D, o')]), ks, ms, []⟩ (putBlock w D o') := h.putA (i := bs.length + (rs.filterMap id).length) (b := D) (o := .deferred (some [])) hi o' rfl (by
    show (bs ++ (rs.filterMap id ++ [(D, o')])) ++ ([] ++ ms.map markBox) = (bs ++ (rs.filterMap id ++ (D :: ms).map markBox)).set (bs.length + (rs.filterMap id).length) (D, o')
    simp [List.set_append_right]) rfl
  refine h1.sub rfl ?_ (List.Sublist.refl _)
  show (bs ++ (rs.filterMap id ++ ms.map markBox)).Sublist ((bs ++ (rs.filterMap id ++ [(D, o')])) ++ ([] ++ ms.map markBox))
  simp only [List.append_assoc, List.nil_append, List.cons_append]
  exact List.Sublist.append (List.Sublist.refl _) (List.Sublist.append (List.Sublist.refl _) (List.sublist_cons_self _ _))

end Go.Q
