/- Layer 15 in plain Lean: Join by a map of sums, sorted, is Join by putting one send after the other. -/
import Derived.Test.YtgcpocaaepoafaaS15
import Derived.Test.YtgcpocaaepoafaaQ11
set_option linter.unusedVariables false
set_option linter.unusedSimpArgs false
set_option linter.unusedSectionVars false
namespace Go.Q
open Go Go.RowKit

instance : DecidableEq Send := fun x y => decidable_of_iff (x.link = y.link ∧ x.tick = y.tick ∧ x.bytes = y.bytes) (by cases x; cases y; simp)
def fieldSig (P : Program) (T : TypeId) : List (Bool × TypeId × Nat) := (P.fieldsOf T).toList.map (fun f => (f.name == "_", f.type, f.offset))
theorem eqStruct2 {P : Program} {T I : TypeId} (hu : P.underlying T = some (.struct (P.fieldsOf T))) (hp : P.stoodInHeld T = false) (hI : P.underlying I = some (.int .i64)) (ha : ∀ w, (isAgg I).run P w = .ok false w) (hf : fieldSig P T = [(false, I, 0), (false, I, 1)]) (a b c d : Int) (w : World) :
    (Op.equal T (.agg #[.int .i64 a, .int .i64 b]) (.agg #[.int .i64 c, .int .i64 d])).run P w = .ok (decide (a = c ∧ b = d)) w := by
  simp only [Op.equal, Op.maxDepth]
  rw [run_equalIn_agg w 9999 T _ _ hu hp]
  unfold fieldSig at hf
  generalize (P.fieldsOf T).toList = fs at hf
  rcases fs with _ | ⟨f0, _ | ⟨f1, _ | ⟨f2, r⟩⟩⟩ <;> simp at hf
  obtain ⟨⟨n0, t0, o0⟩, n1, t1, o1⟩ := hf
  by_cases h1 : a = c <;> by_cases h2 : b = d <;>
    simp [Op.eqFields, n0, t0, o0, n1, t1, o1, part, ha, run_equalIn_int _ 9998 I .i64 .i64 _ _ hI, Result.andThen, h1, h2]
theorem eqStruct3 {P : Program} {T I : TypeId} (hu : P.underlying T = some (.struct (P.fieldsOf T))) (hp : P.stoodInHeld T = false) (hI : P.underlying I = some (.int .i64)) (ha : ∀ w, (isAgg I).run P w = .ok false w) (hf : fieldSig P T = [(false, I, 0), (false, I, 1), (false, I, 2)]) (x y : Send) (w : World) :
    (Op.equal T (.agg (encSend x).toArray) (.agg (encSend y).toArray)).run P w = .ok (decide (x = y)) w := by
  simp only [Op.equal, Op.maxDepth]
  rw [run_equalIn_agg w 9999 T _ _ hu hp]
  unfold fieldSig at hf
  generalize (P.fieldsOf T).toList = fs at hf
  rcases fs with _ | ⟨f0, _ | ⟨f1, _ | ⟨f2, _ | ⟨f3, r⟩⟩⟩⟩ <;> simp at hf
  obtain ⟨⟨n0, t0, o0⟩, ⟨n1, t1, o1⟩, n2, t2, o2⟩ := hf
  obtain ⟨a, b, c⟩ := x
  obtain ⟨a', b', c'⟩ := y
  by_cases h1 : a = a' <;> by_cases h2 : b = b' <;> by_cases h3' : c = c' <;>
    simp [encSend, Op.eqFields, n0, t0, o0, n1, t1, o1, n2, t2, o2, part, ha, run_equalIn_int _ 9998 I .i64 .i64 _ _ hI, Result.andThen, h1, h2, h3']
abbrev SKey := Int × Int
def encKey (k : SKey) : Value := .agg #[.int .i64 k.1, .int .i64 k.2]
def keyOf (x : Send) : SKey := (x.tick, x.link)
def pairOf (x : Send) : SKey × Int := (keyOf x, x.bytes)
def sendOf (p : SKey × Int) : Send := ⟨p.1.2, p.1.1, p.2⟩
theorem sendOf_pairOf (x : Send) : sendOf (pairOf x) = x := rfl
theorem pairOf_sendOf (p : SKey × Int) : pairOf (sendOf p) = p := rfl
def addM (m : List (SKey × Int)) (x : Send) : List (SKey × Int) := putM m (keyOf x) (look m (keyOf x) 0 + x.bytes)
def sumM (xs : List Send) : List (SKey × Int) := xs.foldl addM []
theorem sumM_snoc (xs : List Send) (x : Send) : sumM (xs ++ [x]) = addM (sumM xs) x := by rw [sumM, List.foldl_append]; rfl

theorem setAt_no {m : List (SKey × Int)} {k : SKey} {v : Int} (h : ∀ p ∈ m, p.1 ≠ k) : setAt m k v = m := by
  unfold setAt
  conv => rhs; rw [← List.map_id m]
  apply List.map_congr_left
  intro p hp
  rw [if_neg (h p hp)]; rfl
theorem any_no {m : List (SKey × Int)} {k : SKey} (h : ∀ p ∈ m, p.1 ≠ k) : m.any (fun p => decide (p.1 = k)) = false := by
  rw [List.any_eq_false]; intro p hp; simpa using h p hp
theorem look_no {m : List (SKey × Int)} {k : SKey} (h : ∀ p ∈ m, p.1 ≠ k) : look m k 0 = 0 := by
  unfold look
  rw [List.find?_eq_none.2 (fun p hp => by simpa using h p hp)]
theorem addM_new {m : List (SKey × Int)} {x : Send} (h : ∀ p ∈ m, p.1 ≠ keyOf x) : addM m x = m ++ [pairOf x] := by
  unfold addM putM ensure
  rw [any_no h, look_no h]
  simp only [Bool.false_eq_true, if_false]
  unfold setAt
  rw [List.map_append]
  have := setAt_no (v := 0 + x.bytes) h
  unfold setAt at this
  rw [this]
  simp [pairOf]
theorem addM_cons {p : SKey × Int} {m : List (SKey × Int)} {x : Send} (hn : ∀ q ∈ m, q.1 ≠ p.1) : addM (p :: m) x = if p.1 = keyOf x then (keyOf x, p.2 + x.bytes) :: m else p :: addM m x := by
  unfold addM putM ensure look
  by_cases h : p.1 = keyOf x
  · have h' : ∀ q ∈ m, q.1 ≠ keyOf x := fun q hq => h ▸ hn q hq
    have e := setAt_no (v := p.2 + x.bytes) h'
    simp only [List.any_cons, h, decide_true, Bool.true_or, if_true, List.find?_cons]
    unfold setAt at e ⊢
    rw [List.map_cons, e, if_pos h]
  · simp only [List.any_cons, h, decide_false, Bool.false_or, List.find?_cons, Bool.false_eq_true, if_false]
    unfold setAt
    by_cases ha : (m.any fun p => decide (p.1 = keyOf x)) = true
    · rw [if_pos ha, if_pos ha, List.map_cons, if_neg h]
    · rw [if_neg ha, if_neg ha, List.cons_append, List.map_cons, if_neg h]
theorem addM_keys {m : List (SKey × Int)} {x : Send} {k : SKey} (h : ∀ p ∈ m, p.1 ≠ k) (hk : keyOf x ≠ k) : ∀ p ∈ addM m x, p.1 ≠ k := by
  unfold addM putM ensure setAt
  intro p hp
  obtain ⟨q, hq, rfl⟩ := List.mem_map.1 hp
  split
  · exact hk
  · split at hq
    · exact h q hq
    · rcases List.mem_append.1 hq with hq | hq
      · exact h q hq
      · simp at hq; subst hq; exact hk
def KeysNodup (m : List (SKey × Int)) : Prop := m.Pairwise (fun p q => p.1 ≠ q.1)
theorem addM_nodup {x : Send} : ∀ {m : List (SKey × Int)}, KeysNodup m → KeysNodup (addM m x)
  | [], _ => by simp [addM, putM, ensure, setAt, KeysNodup]
  | p :: m, h => by
    obtain ⟨h1, h2⟩ := List.pairwise_cons.1 h
    have h1' : ∀ q ∈ m, q.1 ≠ p.1 := fun q hq => (h1 q hq).symm
    rw [addM_cons h1']
    split
    · rename_i hk
      exact List.pairwise_cons.2 ⟨fun q hq => by rw [← hk]; exact h1 q hq, h2⟩
    · rename_i hk
      exact List.pairwise_cons.2 ⟨fun q hq => (addM_keys h1' (Ne.symm hk) q hq).symm, addM_nodup h2⟩
theorem perm_nodup {m m' : List (SKey × Int)} (h : m.Perm m') (hn : KeysNodup m) : KeysNodup m' := (h.pairwise_iff (fun {a b} h => Ne.symm h)).1 hn
theorem addM_perm {x : Send} {m m' : List (SKey × Int)} (h : m.Perm m') (hn : KeysNodup m) : (addM m x).Perm (addM m' x) := by
  induction h with
  | nil => exact .refl _
  | cons p h ih =>
    obtain ⟨h1, h2⟩ := List.pairwise_cons.1 hn
    have h1' := fun q hq => (h1 q hq).symm
    rw [addM_cons h1', addM_cons (fun q hq => h1' q (h.mem_iff.2 hq))]
    split
    · exact h.cons _
    · exact (ih h2).cons _
  | swap p q m =>
    obtain ⟨h1, h2⟩ := List.pairwise_cons.1 hn
    obtain ⟨h3, h4⟩ := List.pairwise_cons.1 h2
    have hpq : q.1 ≠ p.1 := h1 p (by simp)
    have hq : ∀ r ∈ m, r.1 ≠ q.1 := fun r hr => (h1 r (List.mem_cons_of_mem _ hr)).symm
    have hp : ∀ r ∈ m, r.1 ≠ p.1 := fun r hr => (h3 r hr).symm
    rw [addM_cons (p := q) (m := p :: m) (by intro r hr; rcases List.mem_cons.1 hr with rfl | hr; exact hpq.symm; exact hq r hr), addM_cons (p := p) (m := q :: m) (by intro r hr; rcases List.mem_cons.1 hr with rfl | hr; exact hpq; exact hp r hr), addM_cons hp, addM_cons hq]
    by_cases e1 : q.1 = keyOf x
    · by_cases e2 : p.1 = keyOf x
      · exact absurd (e1.trans e2.symm) hpq
      · rw [if_pos e1, if_neg e2, if_pos e1]; exact .swap _ _ _
    · by_cases e2 : p.1 = keyOf x
      · rw [if_neg e1, if_pos e2, if_pos e2]; exact .swap _ _ _
      · rw [if_neg e1, if_neg e2, if_neg e2, if_neg e1]; exact .swap _ _ _
  | trans h1 h2 ih1 ih2 => exact (ih1 hn).trans (ih2 (perm_nodup h1 hn))

/-! ### put, by recursion -/
def ins (x : Send) : List Send → List Send
  | [] => [x]
  | y :: r => if y.tick = x.tick ∧ y.link = x.link then ⟨y.link, y.tick, y.bytes + x.bytes⟩ :: r
    else if x.tick < y.tick ∨ (y.tick = x.tick ∧ x.link < y.link) then x :: y :: r else y :: ins x r
theorem putFold_done (x : Send) : ∀ (l acc : List Send), l.foldl (putStep x) (acc, true) = (acc ++ l, true)
  | [], acc => by simp
  | y :: l, acc => by rw [List.foldl_cons, putStep_done rfl, putFold_done x l]; simp
theorem putFold_ins (x : Send) : ∀ (l acc : List Send), (if (l.foldl (putStep x) (acc, false)).2 then (l.foldl (putStep x) (acc, false)).1 else (l.foldl (putStep x) (acc, false)).1 ++ [x]) = acc ++ ins x l
  | [], acc => by simp [ins]
  | y :: l, acc => by
    rw [List.foldl_cons, ins]
    by_cases h1 : y.tick = x.tick ∧ y.link = x.link
    · rw [putStep_same rfl h1.1 h1.2, putFold_done, if_pos h1]; simp
    · rw [if_neg h1]
      by_cases h2 : x.tick < y.tick ∨ (y.tick = x.tick ∧ x.link < y.link)
      · rw [putStep_ins rfl h2, putFold_done, if_pos h2]; simp
      · rw [putStep_keep rfl h1 h2, putFold_ins x l, if_neg h2]; simp
theorem putL_ins (l : List Send) (x : Send) : putL l x = ins x l := by
  have := putFold_ins x l []
  rw [List.nil_append] at this
  exact this
theorem ins_mem {x z : Send} : ∀ {l : List Send}, z ∈ ins x l → (∃ y ∈ l, keyOf z = keyOf y) ∨ keyOf z = keyOf x
  | [], h => by simp [ins] at h; subst h; exact .inr rfl
  | y :: l, h => by
    rw [ins] at h
    split at h
    · rcases List.mem_cons.1 h with rfl | h
      · exact .inl ⟨y, by simp, rfl⟩
      · exact .inl ⟨z, List.mem_cons_of_mem _ h, rfl⟩
    · split at h
      · rcases List.mem_cons.1 h with rfl | h
        · exact .inr rfl
        · exact .inl ⟨z, h, rfl⟩
      · rcases List.mem_cons.1 h with rfl | h
        · exact .inl ⟨z, by simp, rfl⟩
        · rcases ins_mem h with ⟨u, hu, e⟩ | e
          · exact .inl ⟨u, List.mem_cons_of_mem _ hu, e⟩
          · exact .inr e
theorem before_key {a b b' : Send} (h : Before a b) (e : keyOf b' = keyOf b) : Before a b' := by
  simp only [keyOf, Prod.mk.injEq] at e
  unfold Before at *; omega
theorem key_before {a a' b : Send} (h : Before a b) (e : keyOf a' = keyOf a) : Before a' b := by
  simp only [keyOf, Prod.mk.injEq] at e
  unfold Before at *; omega
theorem ins_ord {x : Send} : ∀ {l : List Send}, l.Pairwise Before → (ins x l).Pairwise Before
  | [], _ => by simp [ins]
  | y :: l, h => by
    obtain ⟨h1, h2⟩ := List.pairwise_cons.1 h
    rw [ins]
    split
    · exact List.pairwise_cons.2 ⟨fun z hz => key_before (h1 z hz) rfl, h2⟩
    · split
      · rename_i hlt
        have hxy : Before x y := by unfold Before; omega
        exact List.pairwise_cons.2 ⟨fun z hz => by
          rcases List.mem_cons.1 hz with rfl | hz
          · exact hxy
          · exact hxy.trans (h1 z hz), h⟩
      · rename_i hn1 hn2
        refine List.pairwise_cons.2 ⟨fun z hz => ?_, ins_ord h2⟩
        rcases ins_mem hz with ⟨u, hu, e⟩ | e
        · exact before_key (h1 u hu) e
        · exact before_key (b := x) (by unfold Before; omega) e
theorem keys_of_ord {l : List Send} (h : l.Pairwise Before) : KeysNodup (l.map pairOf) := by
  refine List.pairwise_map.2 (h.imp fun {a b} hab => ?_)
  intro e
  simp only [pairOf, keyOf, Prod.mk.injEq] at e
  unfold Before at hab; omega
theorem ins_perm {x : Send} : ∀ {l : List Send}, l.Pairwise Before → (addM (l.map pairOf) x).Perm ((ins x l).map pairOf)
  | [], _ => by simp [addM, putM, ensure, setAt, look, ins, pairOf]
  | y :: l, h => by
    obtain ⟨h1, h2⟩ := List.pairwise_cons.1 h
    have hk := keys_of_ord h
    rw [List.map_cons] at hk ⊢
    obtain ⟨h3, h4⟩ := List.pairwise_cons.1 hk
    rw [addM_cons (fun q hq => (h3 q hq).symm), ins]
    by_cases e : y.tick = x.tick ∧ y.link = x.link
    · rw [if_pos e, if_pos (by simp [pairOf, keyOf, e])]
      simp [pairOf, keyOf, e]
    · rw [if_neg e, if_neg (by simp only [pairOf, keyOf, Prod.mk.injEq]; exact e)]
      by_cases hlt : x.tick < y.tick ∨ (y.tick = x.tick ∧ x.link < y.link)
      · rw [if_pos hlt]
        have hxy : Before x y := by unfold Before; omega
        rw [addM_new (fun p hp => by
          obtain ⟨z, hz, rfl⟩ := List.mem_map.1 hp
          intro e2
          have := hxy.trans (h1 z hz)
          simp only [pairOf, keyOf, Prod.mk.injEq] at e2
          unfold Before at this; omega)]
        simp only [List.map_cons]
        have : ((pairOf y :: List.map pairOf l) ++ [pairOf x]).Perm (pairOf x :: (pairOf y :: List.map pairOf l)) := List.perm_append_singleton _ _
        exact this
      · rw [if_neg hlt, List.map_cons]
        exact (ins_perm h2).cons _
theorem putAll_ord (xs : List Send) : (putAll xs).Pairwise Before ∧ (sumM xs).Perm ((putAll xs).map pairOf) := by
  suffices h : ∀ (xs acc : List Send) (m : List (SKey × Int)), acc.Pairwise Before → m.Perm (acc.map pairOf) → (xs.foldl putL acc).Pairwise Before ∧ (xs.foldl addM m).Perm ((xs.foldl putL acc).map pairOf) from h xs [] [] .nil (.refl _)
  intro xs
  induction xs with
  | nil => intro acc m h1 h2; exact ⟨h1, h2⟩
  | cons x xs ih =>
    intro acc m h1 h2
    simp only [List.foldl_cons]
    refine ih (putL acc x) (addM m x) (by rw [putL_ins]; exact ins_ord h1) ?_
    rw [putL_ins]
    exact (addM_perm h2 (perm_nodup h2.symm (keys_of_ord h1))).trans (ins_perm h1)
theorem sumM_len (xs : List Send) : (sumM xs).length = (putAll xs).length := by
  have := (putAll_ord xs).2.length_eq
  simpa using this
theorem sumM_over (xs : List Send) : over (putAll xs) ↔ ∃ p ∈ sumM xs, 1073741824 < p.2 := by
  have h := (putAll_ord xs).2
  constructor
  · rintro ⟨x, hx, hb⟩
    exact ⟨pairOf x, h.mem_iff.2 (List.mem_map_of_mem hx), hb⟩
  · rintro ⟨p, hp, hb⟩
    obtain ⟨x, hx, rfl⟩ := List.mem_map.1 (h.mem_iff.1 hp)
    exact ⟨x, hx, hb⟩
/-- two strictly sorted lists with the same elements are one -/
theorem sorted_one : ∀ {l l' : List Send}, l.Pairwise Before → l'.Pairwise Before → l.Perm l' → l = l'
  | [], l', _, _, h => (h.nil_eq)
  | x :: l, [], _, _, h => absurd h.length_eq (by simp)
  | x :: l, y :: l', h1, h2, h => by
    obtain ⟨a1, a2⟩ := List.pairwise_cons.1 h1
    obtain ⟨b1, b2⟩ := List.pairwise_cons.1 h2
    have hxy : x = y := by
      rcases List.mem_cons.1 (h.mem_iff.1 (List.mem_cons_self)) with e | hx
      · exact e
      · rcases List.mem_cons.1 (h.mem_iff.2 (List.mem_cons_self (a := y) (l := l'))) with e | hy
        · exact e.symm
        · have u := b1 x hx; have v := a1 y hy; unfold Before at u v; omega
    subst hxy
    rw [sorted_one a2 b2 (List.Perm.cons_inv h)]
/-- what the sort leaves, is Join -/
theorem sorted_putAll {xs : List Send} {ps : List (SKey × Int)} {l : List Send} (hp : ps.Perm (sumM xs)) (hl : l.Perm (ps.map sendOf)) (hs : l.Pairwise (fun a b => ¬ (b.tick < a.tick ∨ (b.tick = a.tick ∧ b.link < a.link)))) : l = putAll xs := by
  obtain ⟨h1, h2⟩ := putAll_ord xs
  have hperm : l.Perm (putAll xs) := by
    have h3 : (ps.map sendOf).Perm (((putAll xs).map pairOf).map sendOf) := (hp.trans h2).map sendOf
    rw [List.map_map, show sendOf ∘ pairOf = id from funext fun x => rfl, List.map_id] at h3
    exact hl.trans h3
  have hne : l.Pairwise (fun a b => keyOf a ≠ keyOf b) := (hperm.pairwise_iff (fun {a b} h => Ne.symm h)).2 (h1.imp fun {a b} hab e => by simp only [keyOf, Prod.mk.injEq] at e; unfold Before at hab; omega)
  have hord : l.Pairwise Before := by
    have := hs.and hne
    refine this.imp fun {a b} ⟨u, v⟩ => ?_
    simp only [keyOf, ne_eq, Prod.mk.injEq] at v
    unfold Before; omega
  exact sorted_one hord h1 hperm
theorem sumM_bound {xs : List Send} (h : ∀ x ∈ xs, 1 ≤ x.bytes ∧ x.bytes ≤ 1073741824) : ∀ p ∈ sumM xs, 1 ≤ p.2 ∧ p.2 ≤ 1073741824 * xs.length := by
  intro p hp
  obtain ⟨x, hx, rfl⟩ := List.mem_map.1 ((putAll_ord xs).2.mem_iff.1 hp)
  exact putAll_bytes h x hx
theorem look_bound {m : List (SKey × Int)} {B : Int} (h0 : 0 ≤ B) (h : ∀ p ∈ m, 1 ≤ p.2 ∧ p.2 ≤ B) (k : SKey) : 0 ≤ look m k 0 ∧ look m k 0 ≤ B := by
  unfold look
  cases hf : m.find? (fun p => decide (p.1 = k)) with
  | none => exact ⟨Int.le_refl _, h0⟩
  | some p => have := h p (List.mem_of_find?_eq_some hf); exact ⟨by simp only; omega, this.2⟩
theorem putL_keys {l : List Send} {x : Send} {K : SKey → Prop} (hl : ∀ y ∈ l, K (keyOf y)) (hx : K (keyOf x)) : ∀ y ∈ putL l x, K (keyOf y) := by
  intro y hy
  rw [putL_ins] at hy
  rcases ins_mem hy with ⟨u, hu, e⟩ | e
  · rw [e]; exact hl u hu
  · rw [e]; exact hx
theorem putAll_keys {K : SKey → Prop} {xs : List Send} (h : ∀ x ∈ xs, K (keyOf x)) : ∀ y ∈ putAll xs, K (keyOf y) := by
  suffices h' : ∀ (xs acc : List Send), (∀ x ∈ xs, K (keyOf x)) → (∀ y ∈ acc, K (keyOf y)) → ∀ y ∈ xs.foldl putL acc, K (keyOf y) from h' xs [] h (by simp)
  intro xs
  induction xs with
  | nil => intro acc _ h; exact h
  | cons x xs ih => intro acc h1 h2; exact ih (putL acc x) (fun z hz => h1 z (List.mem_cons_of_mem _ hz)) (putL_keys h2 (h1 x (by simp)))

/-! ### what the walk of Join asks -/
theorem rights_append {n : Net} : ∀ (a b : List Hd), rights n (a ++ b) = if rights n a = 0 then rights n b else rights n a
  | [], b => by simp [rights]
  | h :: a, b => by
    rw [List.cons_append, rights, rights]
    by_cases h0 : right n h.l = 0
    · rw [if_pos h0, if_pos h0, rights_append a b]
    · rw [if_neg h0, if_neg h0, if_neg h0]
theorem rights_step {n : Net} {ls : List Hd} {k : Nat} {h : Hd} (hk : ls[k]? = some h) (h0 : rights n (ls.take k) = 0) (h1 : right n h.l = 0) : rights n (ls.take (k + 1)) = 0 := by
  rw [take_of hk, rights_append, if_pos h0, rights, if_pos h1]; rfl
theorem rights_stop {n : Net} {ls : List Hd} {k : Nat} {h : Hd} (hk : ls[k]? = some h) (h0 : rights n (ls.take k) = 0) (h1 : right n h.l ≠ 0) : rights n ls = right n h.l := by
  conv => lhs; rw [← List.take_append_drop k ls]
  rw [rights_append, if_pos h0, rights_at hk, if_neg h1]
theorem soFar_take (ls : List Hd) (k j : Nat) : soFar (ls.take (k + 1)) k j = soFar ls k j := by
  unfold soFar lsAt
  rw [List.take_take, Nat.min_eq_left (Nat.le_succ k), List.getElem?_take_of_lt (Nat.lt_succ_self k)]
theorem sum_ok {n : Net} {ls : List Hd} {k : Nat} (h : rights n (ls.take (k + 1)) = 0) (h4 : ls.length ≤ 4) (j : Nat) (key : SKey) : 0 ≤ look (sumM (soFar ls k j)) key 0 ∧ look (sumM (soFar ls k j)) key 0 ≤ 1000000000000000 := by
  have h1 := soFar_bound h (Nat.le_trans (List.length_take_le' _ _) h4) k j
  rw [soFar_take] at h1
  unfold look
  cases hf : (sumM (soFar ls k j)).find? (fun p => decide (p.1 = key)) with
  | none => simp
  | some p =>
    obtain ⟨x, hx, rfl⟩ := List.mem_map.1 ((putAll_ord (soFar ls k j)).2.mem_iff.1 (List.mem_of_find?_eq_some hf))
    exact h1.2 x hx
theorem sumM_step {ls : List Hd} {k j : Nat} {h : Hd} {x : Send} (hk : ls[k]? = some h) (hx : h.l[j]? = some x) : addM (sumM (soFar ls k j)) x = sumM (soFar ls k (j + 1)) := by rw [soFar_step hk hx, sumM_snoc]
theorem take_all {ls : List Hd} {k : Nat} (h : ls.length ≤ k) : ls.take k = ls := List.take_of_length_le h
theorem perm_step {α : Type} {a b c m : List α} {p : α} (h : (a ++ b).Perm m) (hb : b.Perm (p :: c)) : ((a ++ [p]) ++ c).Perm m := by
  rw [List.append_assoc]
  exact ((List.Perm.append_left a hb).symm).trans h

def Bnd (x : Send) : Prop := 0 ≤ x.link ∧ x.link ≤ 1000000000000 ∧ 0 ≤ x.tick ∧ x.tick ≤ 1000000000000
abbrev BS := { x : Send // Bnd x }
instance : Inhabited BS := ⟨⟨⟨0, 0, 0⟩, by simp [Bnd]⟩⟩
def encB (x : BS) : List Value := encSend x.1
def liftB (l : List Send) (h : ∀ x ∈ l, Bnd x) : List BS := l.pmap Subtype.mk h
theorem liftB_val {l : List Send} (h : ∀ x ∈ l, Bnd x) : (liftB l h).map Subtype.val = l := by simp [liftB, List.map_pmap]
theorem encB_val (l : List BS) : (l.map Subtype.val).flatMap encSend = l.flatMap encB := by rw [List.flatMap_map]; rfl
def SortedB (l : List BS) (l' : List BS) : Prop := l'.Perm l ∧ l'.Pairwise (fun a b => ¬ (b.1.tick < a.1.tick ∨ (b.1.tick = a.1.tick ∧ b.1.link < a.1.link)))
theorem sortedB_nil {l : List BS} (h : l = []) : SortedB l [] := by subst h; exact ⟨.refl _, .nil⟩
theorem liftB_len {l : List Send} (h : ∀ x ∈ l, Bnd x) (h1 : l.length ≤ 2000) : (liftB l h).length < 1000000000 := by simp only [liftB, List.length_pmap]; omega
theorem sum_bnd {n : Net} {ls : List Hd} (h : rights n ls = 0) : ∀ p ∈ sumM (sends ls), Bnd (sendOf p) := by
  intro p hp
  obtain ⟨x, hx, rfl⟩ := List.mem_map.1 ((putAll_ord (sends ls)).2.mem_iff.1 hp)
  have := putAll_keys (K := fun k => 0 ≤ k.2 ∧ k.2 ≤ 1000000000000 ∧ 0 ≤ k.1 ∧ k.1 ≤ 1000000000000) (xs := sends ls) (fun x hx => by
    obtain ⟨y, hy, hxy⟩ := List.mem_flatMap.1 hx
    have hr := right_zero (rights_zero h y hy)
    obtain ⟨s1, s2, s3, s4, _, _⟩ := hr.send x hxy
    have h2 := hr.net.len
    simp only [keyOf]; omega) x hx
  exact this
theorem join_done {n : Net} {ls : List Hd} {a b : List (SKey × Int)} {l : List BS} (h : ¬ netCheck n ≠ 0) (h1 : rights n ls = 0) (h2 : ¬ ((sumM (sends ls)).length : Int) > 2000) (hab : (a ++ b).Perm (sumM (sends ls))) (hb : b = []) (ho : ∀ p ∈ a, p.2 ≤ 1073741824)
    {hB : ∀ x ∈ a.map sendOf, Bnd x} (hs : SortedB (liftB (a.map sendOf) hB) l) : join n ls = (l.map Subtype.val, 0) := by
  subst hb
  rw [List.append_nil] at hab
  rw [sumM_len] at h2
  have e : l.map Subtype.val = putAll (sends ls) := by
    refine sorted_putAll hab ?_ ?_
    · have := hs.1.map Subtype.val
      rwa [liftB_val] at this
    · exact List.pairwise_map.2 hs.2
  rw [e]
  refine join_ok h h1 (by omega) fun hov => ?_
  obtain ⟨p, hp, hlt⟩ := (sumM_over _).1 hov
  have := ho p (hab.mem_iff.2 hp)
  omega
theorem join_much {n : Net} {ls : List Hd} (h : ¬ netCheck n ≠ 0) (h1 : rights n ls = 0) (h2 : ((sumM (sends ls)).length : Int) > 2000) : join n ls = ([], 2) := by
  rw [sumM_len] at h2
  exact join_limit h h1 (by omega)
theorem join_high {n : Net} {ls : List Hd} {a b c : List (SKey × Int)} {p : SKey × Int} (h : ¬ netCheck n ≠ 0) (h1 : rights n ls = 0) (h2 : ¬ ((sumM (sends ls)).length : Int) > 2000) (hab : (a ++ b).Perm (sumM (sends ls))) (hb : b.Perm (p :: c)) (hp : p.2 > 1073741824) : join n ls = ([], 3) := by
  rw [sumM_len] at h2
  exact join_range h h1 (by omega) ((sumM_over _).2 ⟨p, hab.mem_iff.1 (List.mem_append_right _ (hb.mem_iff.2 (by simp))), hp⟩)
/-- a result of Join -/
def JoinIs (n : Net) (ls : List Hd) (f : Value → Value → Value) (e : Ending) (w w' : World) : Prop :=
  ∃ r : Option Addr × Nat, e = .returned (f (.slice r.1 (join n ls).1.length r.2) (.int .i64 (join n ls).2)) ∧ Below w.heap.size w w' ∧ (join n ls).1.length ≤ r.2 ∧ SlAt w' w.heap.size w'.heap.size 3 encSend r.1 (join n ls).1
theorem SlAt.nothing {α : Type} {W : World} {lo hi sz : Nat} {enc : α → List Value} {a : Option Addr} : SlAt W lo hi sz enc a [] := ⟨by simp, by simp, fun h => absurd rfl h, fun i j x v h => by simp at h⟩
theorem joinIs_err {n : Net} {ls : List Hd} {f : Value → Value → Value} {x : Int} {w w' : World} (h : join n ls = ([], x)) (hb : Below w.heap.size w w') : JoinIs n ls f (.returned (f (.slice none 0 0) (.int .i64 x))) w w' :=
  ⟨(none, 0), by rw [h]; rfl, hb, by rw [h]; exact Nat.zero_le _, by rw [h]; exact SlAt.nothing⟩

/-! ### Few, Same -/
def few (n : Net) (ls : List Hd) (sends : Int) : Prop := n.links.length ≤ 70 ∧ ls.length ≤ 4 ∧ ∀ h ∈ ls, (h.l.length : Int) ≤ sends
instance (n : Net) (ls : List Hd) (sends : Int) : Decidable (few n ls sends) := by unfold few; infer_instance
theorem none_stepG {α : Type} {l : List α} {k : Nat} {x : α} {P : Nat → α → Prop} (h : ∀ (j : Nat) y, j < k → l[j]? = some y → P j y) (hx : l[k]? = some x) (h1 : P k x) : ∀ (j : Nat) y, j < k + 1 → l[j]? = some y → P j y := fun j y hj hy => by
  rcases Nat.lt_succ_iff_lt_or_eq.1 hj with hj | rfl
  · exact h j y hj hy
  · rw [hx] at hy; cases hy; exact h1
theorem few_all {n : Net} {ls : List Hd} {s : Int} (h1 : n.links.length ≤ 70) (h2 : ls.length ≤ 4) (h3 : ∀ (j : Nat) h, ls[j]? = some h → (h.l.length : Int) ≤ s) : few n ls s :=
  ⟨h1, h2, fun h hh => by obtain ⟨j, hj⟩ := List.getElem?_of_mem hh; exact h3 j h hj⟩
theorem take_step {α : Type} {a b : List α} {k : Nat} {x y : α} (h : a.take k = b.take k) (hx : a[k]? = some x) (hy : b[k]? = some y) (e : x = y) : a.take (k + 1) = b.take (k + 1) := by rw [take_of hx, take_of hy, h, e]
theorem take_diff {α : Type} {a b : List α} {k : Nat} {x y : α} (hx : a[k]? = some x) (hy : b[k]? = some y) (e : x ≠ y) : a ≠ b := fun h => by subst h; rw [hx] at hy; cases hy; exact e rfl
theorem take_same {α : Type} {a b : List α} {k : Nat} (h : a.take k = b.take k) (h1 : a.length ≤ k) (h2 : a.length = b.length) : a = b := by rwa [List.take_of_length_le h1, List.take_of_length_le (by omega)] at h
theorem putAll_some (ls : List Hd) (k j : Nat) {h : Hd} {x : Send} (hk : ls[k]? = some h) (hx : h.l[j]? = some x) : putAll (soFar ls k (j + 1)) = putL (putAll (soFar ls k j)) x := by rw [soFar_step hk hx, putAll_snoc]
end Go.Q
