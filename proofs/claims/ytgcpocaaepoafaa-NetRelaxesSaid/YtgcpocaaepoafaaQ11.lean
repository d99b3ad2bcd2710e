/- Maps of one's own: as lists of pairs, oldest first. -/
import Derived.Test.YtgcpocaaepoafaaQ10
import Derived.Maps.RangeRun
import Derived.Laws.StructEq
set_option linter.unusedVariables false
set_option linter.unusedSimpArgs false
set_option linter.unusedSectionVars false
namespace Go.Q
open Go Go.RowKit

section
variable {κ ω : Type} [DecidableEq κ]

def look (m : List (κ × ω)) (k : κ) (z : ω) : ω := match m.find? (fun p => decide (p.1 = k)) with | some p => p.2 | none => z
/-- the entry of k is there -/
def ensure (m : List (κ × ω)) (k : κ) (z : ω) : List (κ × ω) := if m.any (fun p => decide (p.1 = k)) then m else m ++ [(k, z)]
def setAt (m : List (κ × ω)) (k : κ) (v : ω) : List (κ × ω) := m.map (fun p => if p.1 = k then (k, v) else p)
def putM (m : List (κ × ω)) (k : κ) (v : ω) : List (κ × ω) := setAt (ensure m k v) k v

theorem look_ensure (m : List (κ × ω)) (k : κ) (z : ω) : look (ensure m k z) k z = look m k z := by
  unfold ensure
  split
  · rfl
  · rename_i h
    have hn : m.find? (fun p => decide (p.1 = k)) = none := by
      rw [List.find?_eq_none]
      intro p hp hk
      exact h (List.any_eq_true.2 ⟨p, hp, hk⟩)
    unfold look
    rw [List.find?_append, hn]
    simp
theorem setAt_ensure (m : List (κ × ω)) (k : κ) (z v : ω) : setAt (ensure m k z) k v = putM m k v := by
  unfold putM ensure setAt
  split <;> simp

variable (ek : κ → Value) (en : ω → Value)

/-- the entries of a map's block -/
structure Ents (m : List (κ × ω)) (es : Array MapEntry) (clock : Nat) : Prop where
  pairs : es.toList.map (fun e => (e.key, e.val)) = m.map (fun p => (ek p.1, en p.2))
  born : (es.toList.map (·.born)).Pairwise (· < ·)
  lt : ∀ e ∈ es.toList, e.born < clock
  nodup : (m.map Prod.fst).Nodup
def MapIs (m : List (κ × ω)) (o : Obj) : Prop := ∃ es clock, o = .map es clock ∧ Ents ek en m es clock

theorem MapIs.nil : MapIs ek en [] (.map #[] 0) := ⟨#[], 0, rfl, rfl, .nil, fun _ h => by simp at h, .nil⟩

variable {ek en}
theorem Ents.len {m : List (κ × ω)} {es : Array MapEntry} {clock : Nat} (h : Ents ek en m es clock) : es.size = m.length := by
  have := congrArg List.length h.pairs
  simpa using this
theorem Ents.get {m : List (κ × ω)} {es : Array MapEntry} {clock : Nat} (h : Ents ek en m es clock) (i : Nat) : (es[i]?).map (fun e => (e.key, e.val)) = (m[i]?).map (fun p => (ek p.1, en p.2)) := by
  have := congrArg (·[i]?) h.pairs
  simpa using this
theorem Ents.keys {m : List (κ × ω)} {es : Array MapEntry} {clock : Nat} (h : Ents ek en m es clock) : es.toList.map (·.key) = (m.map Prod.fst).map ek := by
  have := congrArg (List.map Prod.fst) h.pairs
  simpa [List.map_map, Function.comp_def] using this

/-! ### what is asked of the key's type -/
def idxOf (k : κ) (ks : List κ) : Option Nat := ks.findIdx? (fun x => decide (k = x))
structure KeyTy (P : Program) (K : TypeId) (ek : κ → Value) : Prop where
  check : ∀ b k w, (Instr.checkKey b 10000 K (ek k)).run P w = .ok () w
  find : ∀ k (es : List MapEntry) (ks : List κ) w, es.map (·.key) = ks.map ek → (Instr.findKey K (ek k) es).run P w = .ok ((idxOf k ks).bind fun i => es[i]?.map fun e => (i, e.val)) w
  bits : ∀ k, Instr.sameBits 10000 (ek k) (ek k) = true

theorem findAsking_eq {P : Program} {K : TypeId} (heq : ∀ (k k' : κ) w, (Op.equal K (ek k) (ek k')).run P w = .ok (decide (k = k')) w) (k : κ) : ∀ (es : List MapEntry) (ks : List κ) (j : Nat) w, es.map (·.key) = ks.map ek →
    (Instr.findAsking K (ek k) es j).run P w = .ok ((idxOf k ks).bind fun i => es[i]?.map fun e => (j + i, e.val)) w
  | [], ks, j, w, h => by
    cases ks with
    | nil => simp [Instr.findAsking, idxOf]
    | cons _ _ => simp at h
  | e :: es, ks, j, w, h => by
    cases ks with
    | nil => simp at h
    | cons x ks =>
      simp only [List.map_cons, List.cons.injEq] at h
      obtain ⟨h1, h2⟩ := h
      have ih := findAsking_eq heq k es ks (j + 1) w h2
      simp only [Instr.findAsking, Sem.run_bind, h1, heq, Result.andThen_ok]
      by_cases hk : k = x
      · simp [hk, idxOf, List.findIdx?_cons]
      · simp only [hk, decide_false, Bool.false_eq_true, if_false, ih]
        simp only [idxOf, List.findIdx?_cons, hk, decide_false, Bool.false_eq_true, if_false]
        cases List.findIdx? (fun x => decide (k = x)) ks with
        | none => simp
        | some i => simp [Nat.add_assoc, Nat.add_comm 1 i]

/-- keys that are structs or arrays -/
theorem keyTy_agg {P : Program} {K : TypeId} (hK : (∃ fs, P.underlying K = some (.struct fs)) ∨ ∃ n E, P.underlying K = some (.array n E)) (hc : ∀ b (k : κ) w, (Instr.checkKey b 10000 K (ek k)).run P w = .ok () w)
    (heq : ∀ (k k' : κ) w, (Op.equal K (ek k) (ek k')).run P w = .ok (decide (k = k')) w) (hb : ∀ k, Instr.sameBits 10000 (ek k) (ek k) = true) : KeyTy P K ek where
  check := hc
  bits := hb
  find := fun k es ks w h => by
    have h2 := findAsking_eq heq k es ks 0 w h
    simp only [Nat.zero_add] at h2
    have h3 : ∀ T, ((∃ fs, T = TypeDesc.struct fs) ∨ ∃ n E, T = TypeDesc.array n E) → ∀ (es : List MapEntry), es ≠ [] → Instr.findNow T (ek k) es 0 = none := by
      intro T hT es hes
      cases es with
      | nil => exact absurd rfl hes
      | cons e es => rcases hT with ⟨fs, rfl⟩ | ⟨n, E, rfl⟩ <;> simp [Instr.findNow, Instr.sameNow]
    have main : ∀ T, P.underlying K = some T → ((∃ fs, T = TypeDesc.struct fs) ∨ ∃ n E, T = TypeDesc.array n E) → (Instr.findKey K (ek k) es).run P w = .ok ((idxOf k ks).bind fun i => es[i]?.map fun e => (i, e.val)) w := by
      intro T hu hT
      cases es with
      | nil =>
        cases ks with
        | nil => simp [Instr.findKey, run_underlying hu, Instr.findNow, idxOf]
        | cons _ _ => simp at h
      | cons e es => simp only [Instr.findKey, Sem.run_bind, run_underlying hu, Result.andThen_ok, h3 T hT (e :: es) (by simp), h2]
    rcases hK with ⟨fs, hu⟩ | ⟨n, E, hu⟩
    · exact main _ hu (.inl ⟨fs, rfl⟩)
    · exact main _ hu (.inr ⟨n, E, rfl⟩)

theorem idxOf_none {k : κ} {m : List (κ × ω)} (h : idxOf k (m.map Prod.fst) = none) : m.any (fun p => decide (p.1 = k)) = false := by
  rw [idxOf, List.findIdx?_eq_none_iff] at h
  rw [List.any_eq_false]
  intro p hp
  have := h p.1 (List.mem_map_of_mem hp)
  simpa [eq_comm] using this
theorem idxOf_some {k : κ} {m : List (κ × ω)} {i : Nat} (h : idxOf k (m.map Prod.fst) = some i) : ∃ v, m[i]? = some (k, v) := by
  rw [idxOf, List.findIdx?_eq_some_iff_getElem] at h
  obtain ⟨hi, h1, _⟩ := h
  have hi' : i < m.length := by simpa using hi
  simp at h1
  exact ⟨m[i].2, by rw [List.getElem?_eq_getElem hi', h1]⟩
theorem any_of_get {k : κ} {m : List (κ × ω)} {i : Nat} {v : ω} (h : m[i]? = some (k, v)) : m.any (fun p => decide (p.1 = k)) = true :=
  List.any_eq_true.2 ⟨(k, v), List.mem_of_getElem? h, by simp⟩
/-- with different keys, the entry of k is the one at i -/
theorem unique {m : List (κ × ω)} (hn : (m.map Prod.fst).Nodup) {i j : Nat} {k : κ} {v u : ω} (h : m[i]? = some (k, v)) (h' : m[j]? = some (k, u)) : i = j := by
  have hi : i < (m.map Prod.fst).length := by simpa using (List.getElem?_eq_some_iff.1 h).1
  have hj : j < (m.map Prod.fst).length := by simpa using (List.getElem?_eq_some_iff.1 h').1
  have e1 : (m.map Prod.fst)[i] = k := by have := (List.getElem?_eq_some_iff.1 h).2; simp [this]
  have e2 : (m.map Prod.fst)[j] = k := by have := (List.getElem?_eq_some_iff.1 h').2; simp [this]
  have hp := List.pairwise_iff_getElem.1 hn
  rcases Nat.lt_trichotomy i j with h1 | h1 | h1
  · exact absurd (e1.trans e2.symm) (hp i j hi hj h1)
  · exact h1
  · exact absurd (e2.trans e1.symm) (hp j i hj hi h1)
theorem look_at {m : List (κ × ω)} (hn : (m.map Prod.fst).Nodup) {i : Nat} {k : κ} {v z : ω} (h : m[i]? = some (k, v)) : look m k z = v := by
  unfold look
  cases hf : m.find? (fun p => decide (p.1 = k)) with
  | none =>
    rw [List.find?_eq_none] at hf
    have := hf (k, v) (List.mem_of_getElem? h)
    simp at this
  | some p =>
    obtain ⟨h1, as, bs, h2, _⟩ := List.find?_eq_some_iff_append.1 hf
    simp at h1
    have hp : p ∈ m := List.mem_of_find?_eq_some hf
    obtain ⟨j, hj⟩ := List.getElem?_of_mem hp
    have : i = j := unique hn h (u := p.2) (by rw [hj, ← h1])
    subst this
    rw [h] at hj
    cases hj
    rfl
theorem look_none {m : List (κ × ω)} {k : κ} {z : ω} (h : idxOf k (m.map Prod.fst) = none) : look m k z = z := by
  unfold look
  have := idxOf_none h
  have hn : m.find? (fun p => decide (p.1 = k)) = none := by
    rw [List.find?_eq_none]
    intro p hp hk
    rw [List.any_eq_false] at this
    exact this p hp hk
  rw [hn]

section ops
variable {P : Program} {Z : Env} {N : Nat} {L : List (Nat × Value)} {M : Mem} {Q : Exit → Act → World → Prop} {ops : Array Oper} {rest : List Oper} {ty : TypeId} {pos : String} {af : Array Edge} {x y z : Operand} {dd b : Nat} {d : Option Tmp} {g : Option (Nat × Bool)} {T K E : TypeId}

def MapTy (P : Program) (T K E : TypeId) : Prop := P.underlying T = some (.map K E)

theorem run_lookup {m : List (κ × ω)} {o : Obj} {zv : ω} {k : κ} (hT : MapTy P T K E) (hK : KeyTy P K ek) (hm : MapIs ek en m o) (hz : ∀ w, (zeroValue E).run P w = .ok (en zv) w) {w : World} (hb : w.heap[b]? = some o) :
    (Instr.lookup T (.map (some b)) (ek k) false).run P w = .ok (en (look m k zv)) w := by
  obtain ⟨es, clock, rfl, h⟩ := hm
  have hf := hK.find k es.toList (m.map Prod.fst) w h.keys
  simp only [Instr.lookup, Sem.run_bind, run_underlying hT, Result.andThen_ok, MapKept.run_getObj_map hb, Sem.run_pure, hK.check, hf]
  cases hi : idxOf k (m.map Prod.fst) with
  | none => simp [hz w, look_none hi]
  | some i =>
    obtain ⟨v, hv⟩ := idxOf_some hi
    have hg := h.get i
    rw [hv] at hg
    simp only [Option.map_some] at hg
    obtain ⟨e, he, he2⟩ := Option.map_eq_some_iff.1 hg
    simp only [Prod.mk.injEq] at he2
    have he' : es.toList[i]? = some e := by rw [Array.getElem?_toList]; exact he
    simp only [he', Option.bind_some, Option.map_some, Sem.run_pure, Result.andThen_ok, he2.2, look_at h.nodup hv]
    rfl

theorem run_mapEntry {m : List (κ × ω)} {o : Obj} {zv : ω} {k : κ} (hT : MapTy P T K E) (hK : KeyTy P K ek) (hm : MapIs ek en m o) (hz : ∀ w, (zeroValue E).run P w = .ok (en zv) w) {w : World} (hb : w.heap[b]? = some o) :
    ∃ (es : Array MapEntry) (clock i bn : Nat), (Instr.mapEntry T (.map (some b)) (ek k)).run P w = .ok (.tuple #[en (look m k zv), .int .i64 (bn : Nat)]) (putBlock w b (.map es clock)) ∧ Ents ek en (ensure m k zv) es clock ∧ (ensure m k zv)[i]? = some (k, look m k zv) ∧ (es[i]?).map MapEntry.born = some bn := by
  obtain ⟨es, clock, rfl, h⟩ := hm
  have hf := hK.find k es.toList (m.map Prod.fst) w h.keys
  simp only [Instr.mapEntry, Sem.run_bind, run_underlying hT, Result.andThen_ok, MapKept.run_getObj_map hb, hK.check, hf]
  cases hi : idxOf k (m.map Prod.fst) with
  | none =>
    refine ⟨es.push { key := ek k, val := en zv, born := clock }, clock + 1, m.length, clock, ?_, ?_, ?_, ?_⟩
    · simp [hz w, look_none hi, MapKept.run_setObj_map _ hb, goInt, putBlock, ChangeMaps.setBlock]
    · have hens : ensure m k zv = m ++ [(k, zv)] := by rw [ensure, if_neg (by rw [idxOf_none hi]; simp)]
      rw [hens]
      refine ⟨by simp [h.pairs], ?_, ?_, ?_⟩
      · simp only [Array.toList_push, List.map_append, List.map_cons, List.map_nil]
        refine List.pairwise_append.2 ⟨h.born, by simp, fun a ha c hc => ?_⟩
        obtain ⟨e, he, rfl⟩ := List.mem_map.1 ha
        simp at hc
        subst hc
        exact h.lt e he
      · intro e he
        simp at he
        rcases he with he | rfl
        · have := h.lt e (by simpa using he); omega
        · simp
      · simp only [List.map_append, List.map_cons, List.map_nil]
        refine List.nodup_append.2 ⟨h.nodup, by simp, fun a ha c hc => ?_⟩
        simp at hc
        subst hc
        have := idxOf_none hi
        rw [List.any_eq_false] at this
        obtain ⟨p, hp, rfl⟩ := List.mem_map.1 ha
        simpa using this p hp
    · rw [ensure, if_neg (by rw [idxOf_none hi]; simp), look_none hi]; simp
    · rw [← h.len]; simp
  | some i =>
    obtain ⟨v, hv⟩ := idxOf_some hi
    have hg := h.get i
    rw [hv] at hg
    simp only [Option.map_some] at hg
    obtain ⟨e, he, he2⟩ := Option.map_eq_some_iff.1 hg
    simp only [Prod.mk.injEq] at he2
    have he' : es.toList[i]? = some e := by rw [Array.getElem?_toList]; exact he
    have hens : ensure m k zv = m := by rw [ensure, if_pos (any_of_get hv)]
    have hmod : es.modify i (fun e => { e with key := ek k }) = es := by
      apply Array.ext_getElem?
      intro j
      rw [Array.getElem?_modify]
      split
      · rename_i hij
        subst hij
        rw [he, ← he2.1]
        simp
      · rfl
    refine ⟨es, clock, i, e.born, ?_, by rw [hens]; exact h, by rw [hens, look_at h.nodup hv]; exact hv, by rw [he]; rfl⟩
    have hkts : (Instr.keyThatStays (ek k) (ek k)).run P w = .ok (ek k) w := by simp [Instr.keyThatStays, hK.bits]
    simp only [he', Option.bind_some, Option.map_some, he, Option.getD_some, he2.1, hkts, Sem.run_bind, Result.andThen_ok, hmod, MapKept.run_setObj_map _ hb, Sem.run_pure, he2.2, look_at h.nodup hv, goInt]
    rfl

theorem run_entryStore {m : List (κ × ω)} {es : Array MapEntry} {clock i bn : Nat} {k : κ} {u v : ω} (h : Ents ek en m es clock) (hi : m[i]? = some (k, u)) (hbn : (es[i]?).map MapEntry.born = some bn) {w : World} (hb : w.heap[b]? = some (.map es clock)) :
    ∃ o', (Instr.entryStore T (.map (some b)) (.int .i64 (bn : Nat)) (en v)).run P w = .ok () (putBlock w b o') ∧ MapIs ek en (setAt m k v) o' := by
  obtain ⟨e, he, rfl⟩ := Option.map_eq_some_iff.1 hbn
  have hlt : i < es.size := (Array.getElem?_eq_some_iff.1 he).1
  have hei : es[i] = e := (Array.getElem?_eq_some_iff.1 he).2
  have hfi : es.findIdx? (fun x => (x.born : Int) == (e.born : Int)) = some i := by
    rw [Array.findIdx?_eq_some_iff_getElem]
    refine ⟨hlt, by simp [hei], fun j hj => ?_⟩
    have hp := List.pairwise_iff_getElem.1 h.born j i (by simp; omega) (by simpa using hlt) hj
    simp only [List.getElem_map, Array.getElem_toList, hei] at hp
    simp
    omega
  refine ⟨.map (es.modify i fun x => { x with val := en v }) clock, ?_, _, _, rfl, ?_⟩
  · simp only [Instr.entryStore, Sem.run_bind, MapKept.run_getObj_map hb, Result.andThen_ok]
    have : (asInt (.int .i64 ((e.born : Nat) : Int))).run P w = .ok (e.born : Int) w := by simp [asInt, asIntOf]
    simp only [this, Result.andThen_ok, hfi, MapKept.run_setObj_map _ hb]
    rfl
  · have hborn : (es.modify i fun x => { x with val := en v }).toList.map (·.born) = es.toList.map (·.born) := by
      apply List.ext_getElem?
      intro j
      simp only [List.getElem?_map, Array.getElem?_toList, Array.getElem?_modify]
      split
      · rename_i hij; subst hij; rw [he]; rfl
      · rfl
    refine ⟨?_, by rw [hborn]; exact h.born, fun x hx => ?_, ?_⟩
    · apply List.ext_getElem?
      intro j
      have hg := h.get j
      simp only [List.getElem?_map, Array.getElem?_toList, Array.getElem?_modify, setAt]
      split
      · rename_i hij
        subst hij
        rw [he, hi] at hg ⊢
        simp at hg ⊢
        simp [hg.1]
      · rename_i hij
        rw [hg]
        cases hmj : m[j]? with
        | none => rfl
        | some p =>
          have : p.1 ≠ k := fun e2 => hij (unique h.nodup hi (u := p.2) (by rw [hmj, ← e2]))
          simp [this]
    · have : x.born ∈ (es.modify i fun x => { x with val := en v }).toList.map (·.born) := List.mem_map_of_mem hx
      rw [hborn] at this
      obtain ⟨x', hx', e3⟩ := List.mem_map.1 this
      rw [← e3]; exact h.lt x' hx'
    · have : (setAt m k v).map Prod.fst = m.map Prod.fst := by
        simp only [setAt, List.map_map]
        apply List.map_congr_left
        intro p _
        simp only [Function.comp]
        split
        · rename_i e4; exact e4.symm
        · rfl
      rw [this]; exact h.nodup

/-! ### the operations -/
variable {B : World} {bs : List (Nat × Obj)} {ks : List Kp} {ms : List Nat} {rs : List (Option (Nat × Obj))}

theorem tl_makeMap (h : ∀ b, TL P Z N ((dd, .map (some b)) :: L) ⟨B, (b, .map #[] 0) :: bs, ks, ms, rs⟩ ops rest Q) (hd : dd < N := by decide) : TL P Z N L ⟨B, bs, ks, ms, rs⟩ ops (⟨some dd, .makeMap T none, ty, pos, af, none⟩ :: rest) Q := fun a w hf hm =>
  wpList_value rfl (w' := w.alloc (.map #[] 0)) (u := .map (some w.heap.size)) (by simp [execOp, Instr.makeMap]) (h _ _ _ (hf.put hd _) (hm.alloc _))

theorem qv_lookupM {m : List (κ × ω)} {o : Obj} {zv : ω} {k : κ} (i : Nat) (hT : MapTy P T K E) (hK : KeyTy P K ek) (hm : MapIs ek en m o) (hz : ∀ w, (zeroValue E).run P w = .ok (en zv) w) (hx : ev L x = some (.map (some b))) (hy : ev L y = some (ek k)) (hi : bs[i]? = some (b, o)) :
    Qv P Z N L ⟨B, bs, ks, ms, rs⟩ ⟨d, .lookup T x y false, ty, pos, af, g⟩ (en (look m k zv)) := qv_of fun a hf w hmw => by
  have := run_lookup (k := k) hT hK hm hz (hmw.boxOf (List.mem_of_getElem? hi)).2
  simp [execOp, hf.eval hx, hf.eval hy, this]

theorem qv_lenM {m : List (κ × ω)} {o : Obj} (i : Nat) (hT : MapTy P T K E) (hm : MapIs ek en m o) (hx : ev L x = some (.map (some b))) (hi : bs[i]? = some (b, o)) :
    Qv P Z N L ⟨B, bs, ks, ms, rs⟩ ⟨d, .call { callee := .builtin .len, args := #[x], argTypes := #[T] }, ty, pos, af, g⟩ (.int .i64 (m.length : Int)) := qv_of fun a hf w hmw => by
  obtain ⟨es, clock, rfl, h⟩ := hm
  have hb := (hmw.boxOf (List.mem_of_getElem? hi)).2
  have : (Builtin.len_ #[T] ty #[.map (some b)]).run P w = .ok (.int .i64 (m.length : Int)) w := by
    rw [← h.len]
    have hT' : P.underlying T = some (.map K E) := hT
    simp [Builtin.len_, run_underlying hT', MapKept.run_getObj_map hb, goInt, Result.andThen]
  simp [execOp, resolve, invoke, builtin, hf.eval hx, this, Result.andThen]

/-- the entry of k is there now; its stamp -/
def Stamped (ek : κ → Value) (en : ω → Value) (m : List (κ × ω)) (k : κ) (u : ω) (o : Obj) (bn : Nat) : Prop := ∃ (es : Array MapEntry) (clock i : Nat), o = .map es clock ∧ Ents ek en m es clock ∧ m[i]? = some (k, u) ∧ (es[i]?).map MapEntry.born = some bn
theorem Stamped.is {m : List (κ × ω)} {k : κ} {u : ω} {o : Obj} {bn : Nat} (h : Stamped ek en m k u o bn) : MapIs ek en m o := by
  obtain ⟨es, clock, i, h1, h2, _⟩ := h
  exact ⟨es, clock, h1, h2⟩

theorem tg_mapEntry {M0 : Mem} {mm f i : Nat} {listed : Array Bool} {m : List (κ × ω)} {o : Obj} {zv : ω} {k : κ} (j : Nat) (hT : MapTy P T K E) (hK : KeyTy P K ek) (hm : MapIs ek en m o) (hz : ∀ w, (zeroValue E).run P w = .ok (en zv) w)
    (h : ∀ o' bn, Stamped ek en (ensure m k zv) k (look m k zv) o' bn → TU P Z N ((dd, .tuple #[en (look m k zv), .int .i64 (bn : Nat)]) :: L) M0 ⟨B, bs.set j (b, o'), ks, ms, rs⟩ ops mm f (listed.setIfInBounds i true) Q)
    (hD : ∀ o' w, Mem.holds ⟨B, bs.set j (b, o'), ks, ms, rs⟩ w → M0.holds w) (ho : ops[i]? = some ⟨some dd, .mapEntry T x y, ty, pos, af, none⟩ := by rfl) (hj : bs[j]? = some (b, o) := by rfl) (hx : ev L x = some (.map (some b)) := by rfl) (hy : ev L y = some (ek k) := by rfl) (hd : dd < N := by decide) :
    TG P Z N L M0 ⟨B, bs, ks, ms, rs⟩ ops mm f listed i Q := fun a w hf hmw => by
  have hb := (hmw.boxOf (List.mem_of_getElem? hj)).2
  obtain ⟨es, clock, ix, bn, h1, h2, h3, h4⟩ := run_mapEntry (k := k) hT hK hm hz hb
  unfold gOp
  simp only [ho]
  have hrun : (execOp a.eval ⟨some dd, .mapEntry T x y, ty, pos, af, none⟩).run P w = .ok (.value (.tuple #[en (look m k zv), .int .i64 (bn : Nat)])) (putBlock w b (.map es clock)) := by
    simp [execOp, hf.eval hx, hf.eval hy, h1]
  rw [if_pos (wanted_none rfl _), hrun]
  have hm' := hmw.put hj (.map es clock)
  exact ⟨hD _ _ hm', h _ bn ⟨es, clock, ix, rfl, h2, h3, h4⟩ _ _ (hf.put hd _) hm'⟩

theorem tl_entryStore {m : List (κ × ω)} {o : Obj} {k : κ} {u v : ω} {bn : Nat} (j : Nat) (hs : Stamped ek en m k u o bn)
    (h : ∀ o', MapIs ek en (setAt m k v) o' → TL P Z N L ⟨B, bs.set j (b, o'), ks, ms, rs⟩ ops rest Q)
    (hj : bs[j]? = some (b, o) := by rfl) (hx : ev L x = some (.map (some b)) := by rfl) (hy : ev L y = some (.int .i64 (bn : Nat)) := by rfl) (hz : ev L z = some (en v) := by rfl) :
    TL P Z N L ⟨B, bs, ks, ms, rs⟩ ops (⟨none, .entryStore T x y z, ty, pos, af, none⟩ :: rest) Q := fun a w hf hmw => by
  obtain ⟨es, clock, i, rfl, h1, h2, h3⟩ := hs
  obtain ⟨o', h4, h5⟩ := run_entryStore (T := T) (v := v) h1 h2 h3 (hmw.boxOf (List.mem_of_getElem? hj)).2
  have h4' : (Instr.entryStore T (a.eval x) (a.eval y) (a.eval z)).run P w = .ok () (putBlock w b o') := by rw [hf.eval hx, hf.eval hy, hf.eval hz]; exact h4
  refine wpList_skipv rfl (w' := putBlock w b o') (by simp only [execOp, Sem.run_bind, h4']; rfl) (h o' h5 _ _ (hf.put_none _) (hmw.put hj _))

/-! ### ranges over maps -/
/-- a range over the map in block b; rest: what has not come yet -/
def RangeIs (ek : κ → Value) (en : ω → Value) (b : Nat) (m : List (κ × ω)) (om oi : Obj) (rest : List (κ × ω)) : Prop :=
  ∃ (es : Array MapEntry) (clock : Nat) (seen : Array Nat) (c0 : Nat), om = .map es clock ∧ Ents ek en m es clock ∧ oi = .mapIter (some b) clock seen c0 ∧ clock ≤ c0 ∧ (leftOf es seen).toList.map (fun e => (e.key, e.val)) = rest.map (fun p => (ek p.1, en p.2))
/-- the entry that came last -/
def EntryNow (ek : κ → Value) (en : ω → Value) (b : Nat) (om oi : Obj) (p : κ × ω) : Prop :=
  ∃ (es : Array MapEntry) (clock : Nat) (seen : Array Nat) (since : Nat) (e : MapEntry), om = .map es clock ∧ oi = .mapIter (some b) since (seen.push e.born) clock ∧ e ∈ es.toList ∧ (es.toList.map (·.born)).Nodup ∧ e.key = ek p.1 ∧ e.val = en p.2

theorem tl_range {m : List (κ × ω)} {o : Obj} (j : Nat) (hT : MapTy P T K E) (hm : MapIs ek en m o)
    (h : ∀ r oi, RangeIs ek en b m o oi m → TL P Z N ((dd, .pointer (some ⟨r, 0, none⟩)) :: L) ⟨B, (r, oi) :: bs, ks, ms, rs⟩ ops rest Q)
    (hj : bs[j]? = some (b, o) := by rfl) (hx : ev L x = some (.map (some b)) := by rfl) (hd : dd < N := by decide) :
    TL P Z N L ⟨B, bs, ks, ms, rs⟩ ops (⟨some dd, .range T x, ty, pos, af, none⟩ :: rest) Q := fun a w hf hmw => by
  obtain ⟨es, clock, rfl, h1⟩ := hm
  have hrun := run_range_map (P := P) w T K E b es clock hT (hmw.boxOf (List.mem_of_getElem? hj)).2
  refine wpList_value rfl (by simp only [execOp, hf.eval hx, Sem.run_bind, hrun]; rfl) (h _ _ ⟨es, clock, #[], clock, rfl, h1, rfl, Nat.le_refl _, ?_⟩ _ _ (hf.put hd _) (hmw.alloc _))
  rw [← h1.pairs]
  have : leftOf es #[] = es := by
    unfold leftOf
    exact Array.filter_eq_self.2 fun x _ => by simp
  rw [this]

theorem pw_ne {l : List Nat} (h : l.Pairwise (· < ·)) : l.Nodup := h.imp (fun h => by omega)

theorem RangeIs.step {m : List (κ × ω)} {es : Array MapEntry} {clock : Nat} {seen : Array Nat} {rest : List (κ × ω)} (h : Ents ek en m es clock) (hl : (leftOf es seen).toList.map (fun e => (e.key, e.val)) = rest.map (fun p => (ek p.1, en p.2)))
    {e : MapEntry} (he : e ∈ (leftOf es seen).toList) : ∃ p rest', rest.Perm (p :: rest') ∧ e.key = ek p.1 ∧ e.val = en p.2 ∧ (leftOf es (seen.push e.born)).toList.map (fun e => (e.key, e.val)) = rest'.map (fun p => (ek p.1, en p.2)) := by
  obtain ⟨A, C, hAC⟩ := List.append_of_mem he
  have hpush : (leftOf es (seen.push e.born)).toList = (leftOf es seen).toList.filter (fun x => !(x.born == e.born)) := by
    simp only [leftOf, Array.toList_filter, List.filter_filter]
    apply List.filter_congr
    intro x _
    rw [contains_push]
    cases seen.contains x.born <;> cases (x.born == e.born) <;> rfl
  have hnd : ((leftOf es seen).toList.map (·.born)).Nodup := by
    have : ((leftOf es seen).toList.map (·.born)).Sublist (es.toList.map (·.born)) := by
      simp only [leftOf, Array.toList_filter]
      exact (List.filter_sublist).map _
    exact (pw_ne h.born).sublist this
  rw [hAC] at hnd hl
  simp only [List.map_append, List.map_cons] at hnd hl
  obtain ⟨h1, h2, h3⟩ := List.nodup_append.1 hnd
  obtain ⟨h4, h5⟩ := List.nodup_cons.1 h2
  obtain ⟨A', R', hr, hA, hR⟩ := List.map_eq_append_iff.1 hl.symm
  obtain ⟨p, C', hR2, hp, hC⟩ := List.map_eq_cons_iff.1 hR
  subst hr
  subst hR2
  simp only [Prod.mk.injEq] at hp
  refine ⟨p, A' ++ C', List.perm_middle, hp.1.symm, hp.2.symm, ?_⟩
  have hfA : A.filter (fun x => !(x.born == e.born)) = A := List.filter_eq_self.2 fun x hx => by
    have := h3 x.born (List.mem_map_of_mem hx) e.born (by simp)
    simpa using this
  have hfC : C.filter (fun x => !(x.born == e.born)) = C := List.filter_eq_self.2 fun x hx => by
    have : x.born ≠ e.born := fun e2 => h4 (by rw [← e2]; exact List.mem_map_of_mem hx)
    simpa using this
  rw [hpush, hAC, List.filter_append, List.filter_cons, hfA, hfC]
  simp [hA, hC]

theorem tl_next {m rest_ : List (κ × ω)} {om oi : Obj} {r : Nat} (j i : Nat) (hr : RangeIs ek en b m om oi rest_)
    (hend : rest_ = [] → TL P Z N ((dd, .tuple #[.bool false]) :: L) ⟨B, bs, ks, ms, rs⟩ ops rest Q)
    (hgo : ∀ p rest' oi', rest_.Perm (p :: rest') → RangeIs ek en b m om oi' rest' → EntryNow ek en b om oi' p → TL P Z N ((dd, .tuple #[.bool true, ek p.1, en p.2]) :: L) ⟨B, bs.set i (r, oi'), ks, ms, rs⟩ ops rest Q)
    (hj : bs[j]? = some (b, om) := by rfl) (hi : bs[i]? = some (r, oi) := by rfl) (hx : ev L x = some (.pointer (some ⟨r, 0, none⟩)) := by rfl) (hd : dd < N := by decide) :
    TL P Z N L ⟨B, bs, ks, ms, rs⟩ ops (⟨some dd, .next x false, ty, pos, af, none⟩ :: rest) Q := fun a w hf hmw => by
  obtain ⟨es, clock, seen, c0, rfl, h1, rfl, h2, h3⟩ := hr
  have hb := (hmw.boxOf (List.mem_of_getElem? hj)).2
  have hrb := (hmw.boxOf (List.mem_of_getElem? hi)).2
  rcases run_next_at (P := P) w ty r b clock c0 seen es clock hrb hb h1.lt h2 with ⟨h0, hrun⟩ | ⟨e, he, w1, hal, hrun⟩
  · have hnil : rest_ = [] := by
      have : (leftOf es seen).toList = [] := by
        rw [Array.toList_eq_nil_iff]; exact Array.eq_empty_of_size_eq_zero h0
      rw [this] at h3
      simpa using h3.symm
    exact wpList_value rfl (by simp only [execOp, hf.eval hx, Sem.run_bind, hrun]; rfl) (hend hnil _ _ (hf.put hd _) hmw)
  · obtain ⟨p, rest', hp, hk, hv, hl⟩ := RangeIs.step h1 h3 he
    obtain ⟨hem, _⟩ := mem_left he
    have hm1 : Mem.holds ⟨B, bs, ks, ms, rs⟩ w1 := by rcases hal with rfl | rfl; exact hmw; exact hmw.drew
    rw [hk, hv] at hrun
    refine wpList_value rfl (by simp only [execOp, hf.eval hx, Sem.run_bind, hrun]; rfl) (hgo p rest' (.mapIter (some b) clock (seen.push e.born) clock) hp ⟨es, clock, _, clock, rfl, h1, rfl, Nat.le_refl _, hl⟩ ⟨es, clock, seen, clock, e, rfl, rfl, hem, pw_ne h1.born, hk, hv⟩ _ _ (hf.put hd _) (hm1.put hi _))

theorem tl_entry {om oi : Obj} {r : Nat} {p : κ × ω} (j i : Nat) (he : EntryNow ek en b om oi p)
    (h : TL P Z N ((dd, .tuple #[ek p.1, en p.2]) :: L) ⟨B, bs, ks, ms, rs⟩ ops rest Q)
    (hj : bs[j]? = some (b, om) := by rfl) (hi : bs[i]? = some (r, oi) := by rfl) (hx : ev L x = some (.pointer (some ⟨r, 0, none⟩)) := by rfl) (hd : dd < N := by decide) :
    TL P Z N L ⟨B, bs, ks, ms, rs⟩ ops (⟨some dd, .entry x, ty, pos, af, none⟩ :: rest) Q := fun a w hf hmw => by
  obtain ⟨es, clock, seen, since, e, rfl, rfl, h1, h2, h3, h4⟩ := he
  have hrun := run_entry_at (P := P) w r b since seen es clock e (hmw.boxOf (List.mem_of_getElem? hi)).2 (hmw.boxOf (List.mem_of_getElem? hj)).2 h1 h2
  rw [h3, h4] at hrun
  exact wpList_value rfl (by simp only [execOp, hf.eval hx, Sem.run_bind, hrun]; rfl) (h _ _ (hf.put hd _) hmw)

end ops
end
end Go.Q
