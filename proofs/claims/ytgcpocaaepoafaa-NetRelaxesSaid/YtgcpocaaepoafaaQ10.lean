/- Rows: slices of one's own that grow by append; slices built from parts. -/
import Derived.Test.YtgcpocaaepoafaaQ9
import Derived.Maps.AppendAt
import Derived.OwnWalkIn
set_option linter.unusedVariables false
set_option linter.unusedSimpArgs false
set_option linter.unusedSectionVars false
namespace Go.Q
open Go Go.RowKit

/-- v is a slice of n elements of one's own (no other slice shows into its block), xs its cells; ob its block -/
structure RowIs (e sz : Nat) (v : Value) (n : Nat) (xs : List Value) (ob : Option (Nat × Obj)) : Prop where
  len : xs.length = n * sz
  alt : (v = .slice none 0 0 ∧ n = 0 ∧ ob = none) ∨ ∃ g cap cur, v = .slice (some ⟨g, 0, none⟩) n cap ∧ ob = some (g, .cells cur e (0, 0)) ∧ n ≤ cap ∧ cap ≤ maxLen ∧ cur.size = cap * sz ∧ cur.toList.take (n * sz) = xs

theorem RowIs.nil (e sz : Nat) : RowIs e sz (.slice none 0 0) 0 [] none := ⟨by simp, .inl ⟨rfl, rfl, rfl⟩⟩

def AppTy (P : Program) (t e sz bytes : Nat) : Prop := P.underlying t = some (.slice e) ∧ (∃ z, (P.info? e).map (fun i => (i.zero, i.size, i.bytes)) = some (some z, sz, bytes) ∧ z.cells.size = sz) ∧ 0 < sz

section
variable {P : Program} {Z : Env} {N : Nat} {L : List (Nat × Value)} {M : Mem} {Q : Exit → Act → World → Prop} {ops : Array Oper} {rest : List Oper} {ty : TypeId} {pos : String} {af : Array Edge} {x y : Operand} {v : Value} {dd : Nat}

theorem set_filterMap {α : Type} : ∀ (rs : List (Option α)) (i : Nat) (o o' : Option α), rs[i]? = some o → ∃ A C, rs.filterMap id = A ++ o.toList ++ C ∧ (rs.set i o').filterMap id = A ++ o'.toList ++ C
  | [], i, o, o', h => by simp at h
  | r :: rs, 0, o, o', h => by
    simp at h
    subst h
    refine ⟨[], rs.filterMap id, ?_, ?_⟩
    · cases r <;> simp
    · cases o' <;> simp
  | r :: rs, i + 1, o, o', h => by
    obtain ⟨A, C, h1, h2⟩ := set_filterMap rs i o o' (by simpa using h)
    refine ⟨r.toList ++ A, C, ?_, ?_⟩
    · cases r <;> simp [h1]
    · cases r <;> simp [h2]

/-- a row is turned, or laid anew -/
theorem Mem.holds.row {B : World} {bs : List (Nat × Obj)} {ks : List Kp} {ms : List Nat} {rs : List (Option (Nat × Obj))} {w w' : World} {i : Nat} {ob : Option (Nat × Obj)} (h : Mem.holds ⟨B, bs, ks, ms, rs⟩ w) (hi : rs[i]? = some ob)
    {row : Option Nat} (hrow : row = ob.map Prod.fst) (hg : w.grownBy w' row) {ob' : Option (Nat × Obj)} (hob : ∀ p, ob' = some p → w'.heap[p.1]? = some p.2 ∧ (row = some p.1 ∨ p.1 = w.heap.size)) : Mem.holds ⟨B, bs, ks, ms, rs.set i ob'⟩ w' := by
  obtain ⟨A, C, h1, h2⟩ := set_filterMap rs i ob ob' hi
  have hall : (Mem.mk B bs ks ms rs).all = (bs ++ A) ++ (ob.toList ++ (C ++ ms.map markBox)) := by simp only [Mem.all, h1, List.append_assoc]
  have hall' : (Mem.mk B bs ks ms (rs.set i ob')).all = (bs ++ A) ++ (ob'.toList ++ (C ++ ms.map markBox)) := by simp only [Mem.all, h2, List.append_assoc]
  have hne : ∀ p ∈ (bs ++ A) ++ (C ++ ms.map markBox), p ∈ (Mem.mk B bs ks ms rs).all ∧ some p.1 ≠ row := by
    intro p hp
    have hnd := h.nodup
    rw [hall] at hnd ⊢
    cases ob with
    | none => exact ⟨by simpa using hp, by rw [hrow]; simp⟩
    | some q =>
      have hperm : ((bs ++ A) ++ ([q] ++ (C ++ ms.map markBox))).Perm (q :: ((bs ++ A) ++ (C ++ ms.map markBox))) := List.perm_middle
      have hp2 := (hperm.pairwise_iff (fun {a b} h => Ne.symm h)).1 hnd
      have := (List.pairwise_cons.1 hp2).1 p hp
      refine ⟨hperm.mem_iff.2 (List.mem_cons_of_mem _ hp), ?_⟩
      rw [hrow]
      simpa using fun e => this e.symm
  have hrb : ∀ b, row = some b → B.heap.size ≤ b ∧ b < w.heap.size ∧ ∀ k ∈ ks, b < k.lo ∨ k.hi ≤ b ∨ ¬ k.on b := by
    intro b hb
    rw [hrow] at hb
    cases ob with
    | none => simp at hb
    | some q =>
      simp at hb
      subst hb
      have hq : q ∈ (Mem.mk B bs ks ms rs).all := by rw [hall]; simp
      have := h.box _ hq
      exact ⟨this.1, get_lt this.2, h.apart _ hq⟩
  refine ⟨hg.os.trans h.os, hg.tape.trans h.tape, hg.output.trans h.output, Nat.le_trans h.size hg.size, fun b hb => ?_, fun p hp => ?_, ?_, fun k hk => ⟨Nat.le_trans (h.kept k hk).1 hg.size, fun b h3 h4 h5 => ?_⟩, fun p hp k hk => ?_⟩
  · rw [hg.block b (Nat.lt_of_lt_of_le hb h.size) (fun e => by have := (hrb b e.symm).1; simp only at hb; omega)]
    exact h.old b hb
  · rw [hall'] at hp
    simp only [List.mem_append, Option.mem_toList] at hp
    rcases hp with hp | hp | hp
    · obtain ⟨h5, h6⟩ := hne p (List.mem_append_left _ (List.mem_append.2 hp))
      have h7 := h.box p h5
      exact ⟨h7.1, by rw [hg.block _ (get_lt h7.2) h6]; exact h7.2⟩
    · obtain ⟨h5, h6⟩ := hob p hp
      refine ⟨?_, h5⟩
      rcases h6 with h6 | h6
      · exact (hrb _ h6).1
      · rw [h6]; exact h.size
    · obtain ⟨h5, h6⟩ := hne p (List.mem_append_right _ (List.mem_append.2 hp))
      have h7 := h.box p h5
      exact ⟨h7.1, by rw [hg.block _ (get_lt h7.2) h6]; exact h7.2⟩
  · rw [hall']
    have hbase : ((bs ++ A) ++ (C ++ ms.map markBox)).Pairwise (fun p q => p.1 ≠ q.1) := by
      have hnd := h.nodup
      rw [hall] at hnd
      exact hnd.sublist (List.Sublist.append (List.Sublist.refl _) (List.sublist_append_right _ _))
    cases ob' with
    | none => simpa using hbase
    | some q =>
      have hperm : (q :: ((bs ++ A) ++ (C ++ ms.map markBox))).Perm ((bs ++ A) ++ ([q] ++ (C ++ ms.map markBox))) := List.perm_middle.symm
      refine (hperm.pairwise_iff (fun {a b} h => Ne.symm h)).1 (List.pairwise_cons.2 ⟨fun p hp => ?_, hbase⟩)
      obtain ⟨h5, h6⟩ := hne p hp
      rcases (hob q rfl).2 with h7 | h7
      · exact fun e => h6 (by rw [h7, e])
      · have := get_lt (h.box p h5).2; omega
  · rw [hg.block b (Nat.lt_of_lt_of_le h4 (h.kept k hk).1) (fun e => by
      rcases (hrb b e.symm).2.2 k hk with h6 | h6 | h6
      · omega
      · omega
      · exact h6 h5)]
    exact (h.kept k hk).2 b h3 h4 h5
  · rw [hall'] at hp
    simp only [List.mem_append, Option.mem_toList] at hp
    rcases hp with hp | hp | hp
    · exact h.apart p (hne p (List.mem_append_left _ (List.mem_append.2 hp))).1 k hk
    · rcases (hob p hp).2 with h6 | h6
      · exact (hrb _ h6).2.2 k hk
      · exact .inr (.inl (by rw [h6]; exact (h.kept k hk).1))
    · exact h.apart p (hne p (List.mem_append_right _ (List.mem_append.2 hp))).1 k hk

theorem RowIs.owns {e sz n : Nat} {xs : List Value} {ob : Option (Nat × Obj)} (h : RowIs e sz v n xs ob) {base : Nat} {w : World} (hob : ∀ p, ob = some p → base ≤ p.1 ∧ w.heap[p.1]? = some p.2) : w.ownsRow base e sz v n xs := by
  refine ⟨h.len, ?_⟩
  rcases h.alt with ⟨h1, h2, _⟩ | ⟨g, cap, cur, h1, h2, h3⟩
  · exact .inl ⟨h1, h2⟩
  · obtain ⟨h4, h5⟩ := hob _ h2
    exact .inr ⟨g, cap, cur, h1, h4, h5, h3⟩

theorem ownBlock_of {e sz n : Nat} {xs : List Value} {ob : Option (Nat × Obj)} (h : RowIs e sz v n xs ob) : v.ownBlock = ob.map Prod.fst := by
  rcases h.alt with ⟨h1, _, h2⟩ | ⟨g, cap, cur, h1, h2, _⟩ <;> subst h1 <;> subst h2 <;> rfl

theorem RowIs.of_owns {w : World} {base e sz n : Nat} {xs : List Value} (h : w.ownsRow base e sz v n xs) : ∃ ob, RowIs e sz v n xs ob ∧ ∀ p, ob = some p → w.heap[p.1]? = some p.2 := by
  rcases h.2 with ⟨h1, h2⟩ | ⟨g, cap, cur, h1, _, h3, h4⟩
  · exact ⟨none, ⟨h.1, .inl ⟨h1, h2, rfl⟩⟩, fun p hp => by cases hp⟩
  · exact ⟨some (g, .cells cur e (0, 0)), ⟨h.1, .inr ⟨g, cap, cur, h1, rfl, h4⟩⟩, fun p hp => by cases hp; exact h3⟩

/-- append to a row of one's own; y: a slice whose cells are in a box -/
theorem tl_append {B : World} {bs : List (Nat × Obj)} {ks : List Kp} {ms : List Nat} {rs : List (Option (Nat × Obj))} {t e sz bytes n m c b : Nat} {xs news : List Value} {ob : Option (Nat × Obj)} {cs : Array Value} {T0 : TypeId} {fz : Nat × Nat} (i j : Nat) (hT : AppTy P t e sz bytes) (hrow : RowIs e sz v n xs ob)
    (h : ∀ v' ob', RowIs e sz v' (n + m) (xs ++ news) ob' → TL P Z N ((dd, v') :: L) ⟨B, bs, ks, ms, rs.set i ob'⟩ ops rest Q)
    (hone : ∀ u ∈ news, u.oneCell' = true) (b1 : n + m ≤ maxLen) (b2 : (n + m) * bytes ≤ 140737488355328)
    (hi : rs[i]? = some ob := by rfl) (hj : bs[j]? = some (b, .cells cs T0 fz) := by rfl) (hx : ev L x = some v := by rfl) (hy : ev L y = some (.slice (some ⟨b, 0, none⟩) m c) := by rfl) (hcs : cs.toList = news := by rfl) (hn : news.length = m * sz := by rfl) (hd : dd < N := by decide) :
    TL P Z N L ⟨B, bs, ks, ms, rs⟩ ops (⟨some dd, .call { callee := .builtin .append, args := #[x, y], argTypes := #[t, t] }, ty, pos, af, none⟩ :: rest) Q := fun a w hf hm => by
  obtain ⟨h1, ⟨z, hz, hzs⟩, h7⟩ := hT
  obtain ⟨ti, hi2, hz0, hz1, hz2⟩ := info_parts hz
  obtain ⟨A, C, hA, _⟩ := set_filterMap rs i ob none hi
  have hmem : ∀ p, ob = some p → p ∈ (Mem.mk B bs ks ms rs).all := fun p hp => by
    subst hp
    refine List.mem_append_right _ (List.mem_append_left _ ?_)
    show p ∈ rs.filterMap id
    rw [hA]; simp
  have hown : w.ownsRow B.heap.size e sz v n xs := hrow.owns fun p hp => hm.box p (hmem p hp)
  have hb := (hm.boxOf (List.mem_of_getElem? hj)).2
  obtain ⟨v', w', hrun, r1, r2, _, r4⟩ := run_append_own_at (P := P) (w := w) B.heap.size t ty e ti z sz bytes h1 hi2 hz0 hz1 hz2 hzs h7 v n xs hown ⟨b, 0, none⟩ m c news hn (fun k u hk => by
    subst hcs
    simp only [add_none, World.cell?, hb]
    simpa using hk) hone b1 b2 hm.size
  obtain ⟨ob', r5, r6⟩ := RowIs.of_owns r1
  have hrun' : (execOp a.eval ⟨some dd, .call { callee := .builtin .append, args := #[x, y], argTypes := #[t, t] }, ty, pos, af, none⟩).run P w = .ok (.value v') w' := by
    simp [execOp, resolve, invoke, builtin, hf.eval hx, hf.eval hy, hrun, Result.andThen]
  refine wpList_value rfl hrun' (h v' ob' r5 _ _ (hf.put hd _) (hm.row hi (ownBlock_of hrow) r2 fun p hp => ⟨r6 p hp, ?_⟩))
  have h8 := ownBlock_of r5
  rw [hp] at h8
  rcases r4 with r4 | r4
  · left; rw [← r4, h8]; rfl
  · right; rw [r4] at h8; simpa using h8.symm

/-! ### slices built from parts -/
def BuildSl (P : Program) (T len E sz : Nat) (zs0 : Array Value) : Prop := P.underlying T = some (.slice E) ∧ Size P E sz ∧ len * sz ≤ 16777216 ∧ 0 < len * sz ∧ ∃ zs, Zero P E zs ∧ (Array.range (len * sz)).map (fun k => zs[k % zs.size]!) = zs0

theorem run_buildSlice {T len E sz : Nat} {zs0 cells : Array Value} {ps : List (Nat × Value)} (hT : BuildSl P T len E sz zs0) (hc : Instr.fill (fun i => some (i * sz, sz)) zs0 ps = some cells) (w : World) :
    (Instr.buildSlice T len ps.toArray).run P w = .ok (.slice (some ⟨w.heap.size, 0, none⟩) len len) (w.alloc (.cells cells E)) := by
  obtain ⟨h1, h2, h3, h4, zs, h5, h6⟩ := hT
  obtain ⟨z, hz1, hz2⟩ := h5 w
  subst hz2
  simp only [Instr.buildSlice, Sem.run_bind, run_underlying h1, Result.andThen_ok, h2 w]
  rw [if_neg (by omega), if_neg (by omega)]
  simp only [Sem.run_bind, Sem.run_pure, hz1, Result.andThen_ok, h6, hc]
  simp [newRow]

theorem tl_buildSlice {B : World} {bs : List (Nat × Obj)} {ks : List Kp} {ms : List Nat} {rs : List (Option (Nat × Obj))} {T len E sz : Nat} {zs0 cells : Array Value} {parts : Array (Nat × Operand)} {ps : List (Nat × Value)} (hT : BuildSl P T len E sz zs0)
    (h : ∀ b, TL P Z N ((dd, .slice (some ⟨b, 0, none⟩) len len) :: L) ⟨B, (b, .cells cells E (0, 0)) :: bs, ks, ms, rs⟩ ops rest Q)
    (hp : evp L parts.toList = some ps := by rfl) (hc : Instr.fill (fun i => some (i * sz, sz)) zs0 ps = some cells := by rfl) (hd : dd < N := by decide) :
    TL P Z N L ⟨B, bs, ks, ms, rs⟩ ops (⟨some dd, .buildSlice T len parts, ty, pos, af, none⟩ :: rest) Q := fun a w hf hm => by
  have hpm : parts.map (fun (i, x) => (i, a.eval x)) = ps.toArray := by
    apply Array.ext'
    simpa using evp_map hf hp
  have hrun : (execOp a.eval ⟨some dd, .buildSlice T len parts, ty, pos, af, none⟩).run P w = .ok (.value (.slice (some ⟨w.heap.size, 0, none⟩) len len)) (w.alloc (.cells cells E)) := by
    have := run_buildSlice hT hc w
    rw [← hpm] at this
    simp [execOp, this]
  exact wpList_value rfl hrun (h _ _ _ (hf.put hd _) (hm.alloc _))
end
end Go.Q
