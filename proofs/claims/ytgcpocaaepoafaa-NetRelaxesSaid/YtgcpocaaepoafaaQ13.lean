/- Rows of one's own, sorted by the library; drawn regions whose quiet operations know less than the memory. -/
import Derived.Test.YtgcpocaaepoafaaQ12
import Derived.Shelf.SlSortCmp.InsertionK
import Derived.Sort.OwnSortedInts
set_option linter.unusedVariables false
set_option linter.unusedSimpArgs false
set_option linter.unusedSectionVars false
namespace Go.Q
open Go Go.RowKit Go.Proofs Go.Sort

section
variable {P : Program} {Z : Env} {N : Nat} {L : List (Nat × Value)} {M : Mem} {Q : Exit → Act → World → Prop} {ops : Array Oper} {rest : List Oper} {B : World} {bs : List (Nat × Obj)} {ks : List Kp} {ms : List Nat} {rs : List (Option (Nat × Obj))}
variable {α : Type} [Inhabited α]

omit [Inhabited α] in
theorem flatMap_len {enc : α → List Value} {k : Nat} (hk : ∀ x, (enc x).length = k) : ∀ (l : List α), (l.flatMap enc).length = l.length * k
  | [] => by simp
  | x :: l => by rw [List.flatMap_cons, List.length_append, hk, flatMap_len hk l, List.length_cons, Nat.succ_mul, Nat.add_comm]
theorem flatK_eq {enc : α → List Value} {k : Nat} (hk : ∀ x, (enc x).length = k) (h0 : 0 < k) (l : List α) : (flatK enc k l.toArray).toList = l.flatMap enc := by
  apply List.ext_getElem?
  intro t
  rcases Nat.lt_or_ge t (l.length * k) with ht | ht
  · have hi : t / k < l.length := (Nat.div_lt_iff_lt_mul h0).2 ht
    have hj : t % k < k := Nat.mod_lt _ h0
    have e : t = t / k * k + t % k := by rw [Nat.mul_comm]; exact (Nat.div_add_mod t k).symm
    have h1 := flatMap_get (enc := enc) (sz := k) (l := l) (i := t / k) (j := t % k) (x := l[t / k]) (fun y _ => hk y) (List.getElem?_eq_getElem hi) hj
    rw [← e] at h1
    have h2 := get_flatK enc k l.toArray t (by simpa using ht)
    have hlt : t < (flatK enc k l.toArray).size := by simpa using ht
    rw [getElem!_pos (flatK enc k l.toArray) t hlt] at h2
    rw [Array.getElem?_toList, Array.getElem?_eq_getElem hlt, h2, h1]
    have e2 : (l.toArray[t / k]!) = l[t / k] := by rw [getElem!_pos l.toArray (t / k) (by simpa using hi)]; simp
    have hj' : t % k < (enc l[t / k]).length := by rw [hk]; exact hj
    rw [e2, getElem!_pos (enc l[t / k]) (t % k) hj', List.getElem?_eq_getElem hj']
  · rw [List.getElem?_eq_none (by simpa using ht), List.getElem?_eq_none (by rw [flatMap_len hk]; exact ht)]

theorem holdsK_of {enc : α → List Value} {k g e : Nat} (hk : ∀ x, (enc x).length = k) (h0 : 0 < k) {l : List α} {w : World} {cur : Array Value} (hb : w.heap[g]? = some (.cells cur e (0, 0))) (ht : cur.toList.take (l.length * k) = l.flatMap enc) : HoldsK enc k w g 0 l.toArray := by
  intro j hj
  have hj' : j < l.length * k := by simpa using hj
  refine ⟨?_, by simp [World.frozen?, hb]⟩
  rw [← flatK_eq hk h0 l] at ht
  have h1 : (cur.toList.take (l.length * k))[j]? = (flatK enc k l.toArray).toList[j]? := by rw [ht]
  rw [List.getElem?_take_of_lt hj'] at h1
  simp only [World.cell?, hb, Nat.zero_add]
  simp only [Option.isSome_none, Bool.false_eq_true, if_false]
  rw [← Array.getElem?_toList, h1, Array.getElem?_toList, Array.getElem?_eq_getElem hj, getElem!_pos (flatK enc k l.toArray) j hj]
  rfl

theorem heap_sortedK {enc : α → List Value} {k : Nat} {w : World} {g n : Nat} {os : Array Obj} {cur : Array Value} {e : TypeId} {fr : Nat × Nat} (d : Array α) (hb : w.heap[g]? = some (.cells cur e fr)) :
    (sortWorldK enc k w g 0 n d os).heap[g]? = some (.cells (putCells id 0 (flatK enc k d) cur) e fr) := by
  have hg : g < w.heap.size := (Array.getElem?_eq_some_iff.1 hb).1
  unfold sortWorldK
  rw [heap_grow_old _ _ (by simpa [putRowK, putRow, mapBlock, Sort.ahead] using hg)]
  simp [putRowK, putRow, mapBlock, Sort.ahead, Array.getElem?_modify, hb, onCells]

theorem grownBy_sortedK {enc : α → List Value} {k : Nat} {w : World} {g n : Nat} {os : Array Obj} (d : Array α) : w.grownBy (sortWorldK enc k w g 0 n d os) (some g) := by
  refine ⟨rfl, rfl, rfl, by simp [sortWorldK, grow, putRowK, putRow, mapBlock, Sort.ahead], fun j hj hne => ?_⟩
  unfold sortWorldK
  rw [heap_grow_old _ _ (by simpa [putRowK, putRow, mapBlock, Sort.ahead] using hj)]
  have : g ≠ j := fun e => hne (by rw [e])
  simp [putRowK, putRow, mapBlock, Sort.ahead, Array.getElem?_modify, this]

theorem take_putK {enc : α → List Value} {k : Nat} (hk : ∀ x, (enc x).length = k) (h0 : 0 < k) (cur : Array Value) (l : List α) (h : l.length * k ≤ cur.size) : (putCells id 0 (flatK enc k l.toArray) cur).toList.take (l.length * k) = l.flatMap enc := by
  rw [← flatK_eq hk h0 l]
  apply List.ext_getElem?
  intro j
  by_cases hj : j < l.length * k
  · have hj' : j < (flatK enc k l.toArray).size := by simpa using hj
    rw [List.getElem?_take_of_lt hj, Array.getElem?_toList, Array.getElem?_toList, Array.getElem?_eq_getElem hj']
    simp only [putCells, Array.getElem?_mapIdx, Array.getElem?_eq_getElem (show j < cur.size by omega), Option.map_some]
    rw [if_pos ⟨Nat.zero_le _, by omega⟩, Nat.sub_zero, getElem!_pos (flatK enc k l.toArray) j hj']
    rfl
  · rw [List.getElem?_take_eq_none (by omega), List.getElem?_eq_none (by simp; omega)]

/-- a row, sorted by the library: what is known of the sort is handed in -/
theorem tl_sort {e sz fS fC dd : Nat} {enc : α → List Value} {v : Value} {l : List α} {ob : Option (Nat × Obj)} {R : List α → Prop} {x : Operand} {at' : Array TypeId} {ty : TypeId} {pos : String} {af : Array Edge} (i : Nat) (hF : IsFn P fS) (hk : ∀ x, (enc x).length = sz) (h0 : 0 < sz)
    (hC0 : ∀ p cap fv w, Calls P fS #[.slice p 0 cap, fv] w fun e w' => e = .returned (.tuple #[]) ∧ w' = w) (hR0 : l = [] → R [])
    (hC : ∀ blk cap (w : World), HoldsK enc sz w blk 0 l.toArray → blk < w.heap.size → Calls P fS #[.slice (some ⟨blk, 0, none⟩) l.length cap, .func (.func fC) #[] #[]] w fun e w' => e = .returned (.tuple #[]) ∧ ∃ (l' : List α) (n : Nat) (os : Array Obj), l'.length = l.length ∧ R l' ∧ w' = sortWorldK enc sz w blk 0 n l'.toArray os)
    (hrow : RowOf e sz enc v l ob)
    (h : ∀ l' ob', l'.length = l.length → R l' → RowOf e sz enc v l' ob' → TL P Z N ((dd, .tuple #[]) :: L) ⟨B, bs, ks, ms, rs.set i ob'⟩ ops rest Q)
    (hi : rs[i]? = some ob := by rfl) (hx : ev L x = some v := by rfl) (hd : dd < N := by decide) :
    TL P Z N L ⟨B, bs, ks, ms, rs⟩ ops (⟨some dd, .call { callee := .value (.func fS), args := #[x, .func fC], argTypes := at' }, ty, pos, af, none⟩ :: rest) Q := by
  rcases hrow.alt with ⟨h1, h2, h3⟩ | ⟨g, cap, cur, h1, h2, h3, h4, h5, h6⟩
  · have hl : l = [] := List.eq_nil_of_length_eq_zero h2
    subst hl
    refine tl_callM (β := Unit) (dd := some dd) (val := fun _ => .tuple #[]) (R := fun _ w w' => w' = w) (vs := [v, .func (.func fC) #[] #[]]) (caps := []) hF rfl ?_ (fun w hm => ?_) (fun _ w1 w2 hm hw => ?_) (by simpa using hd)
    · show evs L [x, .func fC] = _
      simp only [evs]
      rw [hx]
      rfl
    · rw [h1]
      exact (hC0 none 0 (.func (.func fC) #[] #[]) w).mono fun e w' ⟨he, hw⟩ => ⟨(), he, hw⟩
    · subst hw
      refine ⟨_, ?_, h [] ob rfl (hR0 rfl) hrow⟩
      rw [set_self hi]; exact hm
  · have hlen : (l.flatMap enc).length = l.length * sz := flatMap_len hk l
    obtain ⟨A, C, hA, _⟩ := set_filterMap rs i ob none hi
    have hmem : (g, Obj.cells cur e (0, 0)) ∈ (Mem.mk B bs ks ms rs).all := by
      refine List.mem_append_right _ (List.mem_append_left _ ?_)
      show _ ∈ rs.filterMap id
      rw [hA, h2]; simp
    refine tl_callM (β := List α) (dd := some dd) (val := fun _ => .tuple #[]) (R := fun l' w w' => l'.length = l.length ∧ R l' ∧ ∃ n os, w' = sortWorldK enc sz w g 0 n l'.toArray os) (vs := [v, .func (.func fC) #[] #[]]) (caps := []) hF rfl ?_ (fun w hm => ?_) (fun l' w1 w2 hm hw => ?_) (by simpa using hd)
    · show evs L [x, .func fC] = _
      simp only [evs]
      rw [hx]
      rfl
    · rw [h1]
      have hb := hm.box _ hmem
      refine (hC g cap w (holdsK_of hk h0 hb.2 h6) (get_lt hb.2)).mono fun e w' ⟨he, l', n, os, h7, h8, h9⟩ => ⟨l', he, h7, h8, n, os, h9⟩
    · obtain ⟨h7, h8, n, os, rfl⟩ := hw
      have hb := hm.box _ hmem
      have hbk := heap_sortedK (enc := enc) (k := sz) (n := n) (os := os) l'.toArray hb.2
      have hsz : l.length * sz ≤ cur.size := by rw [h5]; exact Nat.mul_le_mul_right _ h3
      refine ⟨⟨B, bs, ks, ms, rs.set i (some (g, .cells (putCells id 0 (flatK enc sz l'.toArray) cur) e (0, 0)))⟩, hm.row hi (row := some g) (by rw [h2]; rfl) (grownBy_sortedK _) (fun p hp => by cases hp; exact ⟨hbk, .inl rfl⟩), h l' _ h7 h8 ⟨?_, .inr ⟨g, cap, _, ?_, rfl, by rw [h7]; exact h3, h4, by simp [putCells, h5], take_putK hk h0 cur l' (by rw [h7]; exact hsz)⟩⟩⟩
      · exact flatMap_len hk l'
      · rw [h7, h1]
end

/-! ### drawn regions: the quiet operations know only a part of the memory -/
section
variable {P : Program} {Z : Env} {N : Nat} {L : List (Nat × Value)} {M0 M : Mem} {Q : Exit → Act → World → Prop}
theorem tc_drawV {id : Nat} {l : List Oper} (m : Nat) (hm : P.follows .mixedOrders = true) (hB : (tailB m l.toArray && Region.noSelect l.toArray) = true) (hD : ∀ w, M.holds w → M0.holds w)
    (h : TU P Z N L M0 M l.toArray m l.length (Array.replicate l.length false) Q) : TC P Z N L M (.region id l.toArray true) Q := fun a w hf hM => by
  refine wpIn_region_any hm ?_
  have hM' : M.holds { w with drawn := w.drawn + 1 } := hM.ext (below_drew' w)
  have := (h a _ hf hM').any (hD _ hM')
  simpa using this

theorem hD_erase {B : World} {bs : List (Nat × Obj)} {ks : List Kp} {ms : List Nat} {rs : List (Option (Nat × Obj))} (j : Nat) (w : World) (h : Mem.holds ⟨B, bs, ks, ms, rs⟩ w) : Mem.holds ⟨B, bs.eraseIdx j, ks, ms, rs⟩ w :=
  h.less (List.eraseIdx_sublist _ _) (List.Sublist.refl _)
theorem hD_eraseSet {B : World} {bs : List (Nat × Obj)} {ks : List Kp} {ms : List Nat} {rs : List (Option (Nat × Obj))} (j : Nat) (p : Nat × Obj) (w : World) (h : Mem.holds ⟨B, bs.set j p, ks, ms, rs⟩ w) : Mem.holds ⟨B, bs.eraseIdx j, ks, ms, rs⟩ w := by
  have := hD_erase j w h
  rwa [List.eraseIdx_set_eq] at this
end
end Go.Q
