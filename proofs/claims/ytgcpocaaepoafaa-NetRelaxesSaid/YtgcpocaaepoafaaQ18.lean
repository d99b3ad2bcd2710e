/- Slices of one's own that are read and written in place: a box as a slice; append of a slice. -/
import Derived.Test.YtgcpocaaepoafaaQ17
set_option linter.unusedVariables false
set_option linter.unusedSimpArgs false
set_option linter.unusedSectionVars false
namespace Go.Q
open Go Go.RowKit

theorem SlAt.ofBoxP {α : Type} {enc : α → List Value} {sz b E : Nat} {cur : Array Value} {l : List α} (hl : l.length ≤ maxLen) (hk : ∀ x ∈ l, (enc x).length = sz) (hc : cur.toList.take (l.length * sz) = l.flatMap enc) : SlAt (boxW b (.cells cur E (0, 0))) b (b + 1) sz enc (some ⟨b, 0, Option.none⟩) l := by
  refine ⟨hl, hk, fun _ => ⟨rfl, Nat.le_refl _, Nat.lt_succ_self _⟩, fun i j x v hx hv => ?_⟩
  have hj : j < sz := by have := (List.getElem?_eq_some_iff.1 hv).1; rwa [hk x (List.mem_of_getElem? hx)] at this
  have hi : i < l.length := (List.getElem?_eq_some_iff.1 hx).1
  have hlt : i * sz + j < l.length * sz := by
    calc i * sz + j < i * sz + sz := by omega
      _ = (i + 1) * sz := by rw [Nat.succ_mul]
      _ ≤ l.length * sz := Nat.mul_le_mul_right _ hi
  refine cell_of (boxW_get _ _) ?_
  have h1 := flatMap_get hk hx hj
  rw [← hc, List.getElem?_take_of_lt hlt, Array.getElem?_toList, hv] at h1
  simpa [offs] using h1

section
variable {P : Program} {Z : Env} {N : Nat} {L : List (Nat × Value)} {M : Mem} {Q : Exit → Act → World → Prop} {ops : Array Oper} {rest : List Oper} {ty : TypeId} {pos : String} {af : Array Edge} {x y : Operand} {v : Value} {dd : Nat}
variable {B : World} {bs : List (Nat × Obj)} {ks : List Kp} {ms : List Nat} {rs : List (Option (Nat × Obj))}

theorem Mem.holds.perm {M M' : Mem} {w : World} (h : M.holds w) (hB : M'.base = M.base) (h1 : M'.all.Perm M.all) (h2 : M'.kept = M.kept) : M'.holds w :=
  ⟨hB ▸ h.os, hB ▸ h.tape, hB ▸ h.output, hB ▸ h.size, hB ▸ h.old, fun q hq => hB ▸ h.box q (h1.mem_iff.1 hq), (h1.pairwise_iff (fun {a b} h => Ne.symm h)).2 h.nodup, fun k hk => h.kept k (h2 ▸ hk), fun q hq k hk => h.apart q (h1.mem_iff.1 hq) k (h2 ▸ hk)⟩
/-- a row that grows no more is a box -/
theorem holds_rowBox {w : World} {i g : Nat} {o : Obj} (hi : rs[i]? = some (some (g, o))) (h : Mem.holds ⟨B, bs, ks, ms, rs⟩ w) : Mem.holds ⟨B, (g, o) :: bs, ks, ms, rs.set i none⟩ w := by
  obtain ⟨A, C, h1, h2⟩ := set_filterMap rs i _ none hi
  refine h.perm rfl ?_ rfl
  show ((g, o) :: bs ++ ((rs.set i none).filterMap id ++ ms.map markBox)).Perm (bs ++ (rs.filterMap id ++ ms.map markBox))
  rw [h1, h2]
  simp only [Option.toList_none, Option.toList_some, List.append_nil, List.append_assoc, List.cons_append, List.nil_append]
  have e : (bs ++ (A ++ (g, o) :: (C ++ ms.map markBox))) = (bs ++ A) ++ (g, o) :: (C ++ ms.map markBox) := by simp
  rw [e]
  have := (List.perm_middle (a := (g, o)) (l₁ := bs ++ A) (l₂ := C ++ ms.map markBox)).symm
  simpa using this
theorem tl_rowBox (i : Nat) {g : Nat} {o : Obj} (hi : rs[i]? = some (some (g, o))) (h : TL P Z N L ⟨B, (g, o) :: bs, ks, ms, rs.set i none⟩ ops rest Q) : TL P Z N L ⟨B, bs, ks, ms, rs⟩ ops rest Q := fun a w hf hm => h a w hf (holds_rowBox hi hm)
theorem tc_rowBox {c : Code} (i : Nat) {g : Nat} {o : Obj} (hi : rs[i]? = some (some (g, o))) (h : TC P Z N L ⟨B, (g, o) :: bs, ks, ms, rs.set i none⟩ c Q) : TC P Z N L ⟨B, bs, ks, ms, rs⟩ c Q := fun a w hf hm => h a w hf (holds_rowBox hi hm)

/-- a slice literal without elements -/
theorem tl_buildRow0 {α : Type} {enc : α → List Value} {T E sz : Nat} (i : Nat) (hT : P.underlying T = some (.slice E)) (hS : Size P E sz)
    (h : ∀ b, RowOf E sz enc (.slice (some ⟨b, 0, none⟩) 0 0) [] (some (b, .cells #[] E (0, 0))) → TL P Z N ((dd, .slice (some ⟨b, 0, none⟩) 0 0) :: L) ⟨B, bs, ks, ms, rs.set i (some (b, .cells #[] E (0, 0)))⟩ ops rest Q)
    (hi : rs[i]? = some none := by rfl) (hd : dd < N := by decide) :
    TL P Z N L ⟨B, bs, ks, ms, rs⟩ ops (⟨some dd, .buildSlice T 0 #[], ty, pos, af, none⟩ :: rest) Q := fun a w hf hm => by
  have hrun : (execOp a.eval ⟨some dd, .buildSlice T 0 #[], ty, pos, af, none⟩).run P w = .ok (.value (.slice (some ⟨w.heap.size, 0, none⟩) 0 0)) (w.alloc (.cells #[] E)) := by
    have hS' := hS w
    simp [execOp, Instr.buildSlice, run_underlying hT, hS', Instr.fill, newRow]
    have e0 : ∀ f : Nat → Value, Array.map f (Array.range 0) = #[] := fun f => Array.eq_empty_of_size_eq_zero (by simp)
    rw [e0]
  refine wpList_value rfl hrun (h w.heap.size ⟨by simp, .inr ⟨w.heap.size, 0, #[], rfl, rfl, Nat.le_refl _, by simp, by simp, by simp⟩⟩ _ _ (hf.put hd _) ?_)
  have hg : w.grownBy (w.alloc (.cells #[] E)) none := ⟨rfl, rfl, rfl, by show w.heap.size ≤ (w.heap.push _).size; simp, fun k hk _ => by show (w.heap.push _)[k]? = _; rw [Array.getElem?_push, if_neg (Nat.ne_of_lt hk)]⟩
  exact hm.row hi rfl hg fun p hp => by cases hp; exact ⟨by show (w.heap.push _)[w.heap.size]? = _; simp, .inr rfl⟩

theorem tg_buildRow0 {M0 : Mem} {mm f k : Nat} {listed : Array Bool} {α : Type} {enc : α → List Value} {T E sz : Nat} (i : Nat) (hT : P.underlying T = some (.slice E)) (hS : Size P E sz)
    (h : ∀ b, RowOf E sz enc (.slice (some ⟨b, 0, none⟩) 0 0) [] (some (b, .cells #[] E (0, 0))) → TU P Z N ((dd, .slice (some ⟨b, 0, none⟩) 0 0) :: L) M0 ⟨B, bs, ks, ms, rs.set i (some (b, .cells #[] E (0, 0)))⟩ ops mm f (listed.setIfInBounds k true) Q)
    (hD : ∀ ob' w, Mem.holds ⟨B, bs, ks, ms, rs.set i ob'⟩ w → M0.holds w) (ho : ops[k]? = some ⟨some dd, .buildSlice T 0 #[], ty, pos, af, none⟩ := by rfl) (hi : rs[i]? = some none := by rfl) (hd : dd < N := by decide) :
    TG P Z N L M0 ⟨B, bs, ks, ms, rs⟩ ops mm f listed k Q := fun a w hf hm => by
  have hrun : (execOp a.eval ⟨some dd, .buildSlice T 0 #[], ty, pos, af, none⟩).run P w = .ok (.value (.slice (some ⟨w.heap.size, 0, none⟩) 0 0)) (w.alloc (.cells #[] E)) := by
    have hS' := hS w
    simp [execOp, Instr.buildSlice, run_underlying hT, hS', Instr.fill, newRow]
    have e0 : ∀ f : Nat → Value, Array.map f (Array.range 0) = #[] := fun f => Array.eq_empty_of_size_eq_zero (by simp)
    rw [e0]
  have hg : w.grownBy (w.alloc (.cells #[] E)) none := ⟨rfl, rfl, rfl, by show w.heap.size ≤ (w.heap.push _).size; simp, fun k hk _ => by show (w.heap.push _)[k]? = _; rw [Array.getElem?_push, if_neg (Nat.ne_of_lt hk)]⟩
  have hm' : Mem.holds ⟨B, bs, ks, ms, rs.set i (some (w.heap.size, .cells #[] E (0, 0)))⟩ (w.alloc (.cells #[] E)) := hm.row hi rfl hg fun p hp => by cases hp; exact ⟨by show (w.heap.push _)[w.heap.size]? = _; simp, .inr rfl⟩
  unfold gOp
  simp only [ho]
  rw [if_pos (wanted_none rfl _), hrun]
  exact ⟨hD _ _ hm', h w.heap.size ⟨by simp, .inr ⟨w.heap.size, 0, #[], rfl, rfl, Nat.le_refl _, by simp, by simp, by simp⟩⟩ _ _ (hf.put hd _) hm'⟩

theorem run_append_none {t ty e sz bytes n cap c : Nat} {b : Option Addr} (hT : AppTy P t e sz bytes) (h : n ≤ cap) (w : World) : (Builtin.append_ #[t, t] ty #[.slice b n cap, .slice none 0 c]).run P w = .ok (.slice b n cap) w := by
  obtain ⟨h1, ⟨z, hz, hzs⟩, h7⟩ := hT
  obtain ⟨ti, hi2, hz0, hz1, hz2⟩ := info_parts hz
  have hs : (sizeOf e).run P w = .ok ti.size w := by simp [sizeOf, typeInfo, hi2]
  cases b <;> simp [Builtin.append_, run_underlying h1, hs, Builtin.lenOf, Builtin.firstCells, h, storeCells]

theorem flatMap_lenM {α : Type} {enc : α → List Value} {k : Nat} : ∀ {l : List α}, (∀ x ∈ l, (enc x).length = k) → (l.flatMap enc).length = l.length * k
  | [], _ => by simp
  | x :: l, h => by rw [List.flatMap_cons, List.length_append, h x (by simp), flatMap_lenM fun y hy => h y (List.mem_cons_of_mem _ hy), List.length_cons, Nat.succ_mul, Nat.add_comm]
theorem set_mem {α : Type} {l : List α} {i : Nat} {x y : α} (h : y ∈ l.set i x) : y ∈ l ∨ y = x := List.mem_or_eq_of_mem_set h
/-- append of a slice that is read -/
theorem row_appendS {α : Type} {enc : α → List Value} {t e sz bytes c lo hi : Nat} {W w : World} {a : Option Addr} {l l2 : List α} {ob : Option (Nat × Obj)} (i : Nat) (hT : AppTy P t e sz bytes) (hrow : RowOf e sz enc v l ob) (hs : SlAt W lo hi sz enc a l2) (hM : Mem.has ⟨B, bs, ks, ms, rs⟩ W lo hi) (hna : a = none → l2 = [])
    (hone : ∀ u ∈ l2.flatMap enc, u.oneCell' = true) (b1 : l.length + l2.length ≤ 1000000) (b2 : Nat.ble bytes 100000000 = true) (hl2 : ∀ x ∈ l2, (enc x).length = sz) (hi' : rs[i]? = some ob) (hm : Mem.holds ⟨B, bs, ks, ms, rs⟩ w) :
    ∃ v' ob' w', (Builtin.append_ #[t, t] ty #[v, .slice a l2.length c]).run P w = .ok v' w' ∧ RowOf e sz enc v' (l ++ l2) ob' ∧ Mem.holds ⟨B, bs, ks, ms, rs.set i ob'⟩ w' := by
  have hT' := hT
  obtain ⟨h1, ⟨z, hz, hzs⟩, h7⟩ := hT
  obtain ⟨ti, hi2, hz0, hz1, hz2⟩ := info_parts hz
  obtain ⟨A, C, hA, _⟩ := set_filterMap rs i ob none hi'
  have hmem : ∀ p, ob = some p → p ∈ (Mem.mk B bs ks ms rs).all := fun p hp => by
    subst hp
    refine List.mem_append_right _ (List.mem_append_left _ ?_)
    show p ∈ rs.filterMap id
    rw [hA]; simp
  have hown : w.ownsRow B.heap.size e sz v l.length (l.flatMap enc) := RowIs.owns hrow fun p hp => hm.box p (hmem p hp)
  cases a with
  | none =>
    have e0 : l2 = [] := hna rfl
    subst e0
    obtain ⟨b, cap, hv, hcap⟩ := RowOf.slice hrow
    have hrun := run_append_none (ty := ty) (c := c) (b := b) hT' hcap w
    rw [← hv] at hrun
    exact ⟨v, ob, w, hrun, by rw [List.append_nil]; exact hrow, by rw [set_self hi']; exact hm⟩
  | some ad =>
    have hflat : (l2.flatMap enc).length = l2.length * sz := flatMap_lenM hl2
    obtain ⟨v', w', hrun, r1, r2, _, r4⟩ := run_append_own_at (P := P) (w := w) B.heap.size t ty e ti z sz bytes h1 hi2 hz0 hz1 hz2 hzs h7 v l.length (l.flatMap enc) hown ad l2.length c (l2.flatMap enc) hflat (fun k u hk => by
        have hlt := (List.getElem?_eq_some_iff.1 hk).1
        rw [hflat] at hlt
        have hq : k / sz < l2.length := (Nat.div_lt_iff_lt_mul h7).2 hlt
        have hj : k % sz < sz := Nat.mod_lt _ h7
        have ek : k = k / sz * sz + k % sz := by rw [Nat.mul_comm]; exact (Nat.div_add_mod k sz).symm
        have hx2 : l2[k / sz]? = some l2[k / sz] := List.getElem?_eq_getElem hq
        have hg := flatMap_get (enc := enc) (sz := sz) hl2 hx2 hj
        rw [← ek, hk] at hg
        have hne : l2 ≠ [] := fun h0 => by simp [h0] at hq
        obtain ⟨n1, n2, n3⟩ := hs.nz hne
        have hcell := hs.cell (k / sz) (k % sz) _ u hx2 hg.symm
        have hhas := hM w hm
        have hblk := hhas.2 (blk (some ad)) n2 n3
        have ead : ad = ⟨ad.block, ad.off, none⟩ := by have := Option.some.inj n1; exact this
        have ec : w.cell? ⟨blk (some ad), offs (some ad) + k / sz * sz + k % sz, none⟩ = some u := by rw [cell_same hblk]; exact hcell
        rw [Nat.add_assoc, ← ek] at ec
        have : ad.add k = ⟨ad.block, ad.off + k, none⟩ := by
          rw [ead]
          unfold Addr.add
          split
          · rename_i h0; simp [h0]
          · rfl
        rw [this]
        exact ec) hone (by simp only [maxLen]; omega) (by
          have hb := Nat.le_of_ble_eq_true b2
          calc (l.length + l2.length) * bytes ≤ 1000000 * 100000000 := Nat.mul_le_mul b1 hb
            _ ≤ _ := by decide) hm.size
    obtain ⟨ob', r5, r6⟩ := RowIs.of_owns r1
    refine ⟨v', ob', w', hrun, by unfold RowOf; rw [List.length_append, List.flatMap_append]; exact r5, hm.row hi' (ownBlock_of hrow) r2 fun p hp => ⟨r6 p hp, ?_⟩⟩
    have h8 := ownBlock_of r5
    rw [hp] at h8
    rcases r4 with r4 | r4
    · left; rw [← r4, h8]; rfl
    · right; rw [r4] at h8; simpa using h8.symm
theorem tl_appendS {α : Type} {enc : α → List Value} {t e sz bytes c lo hi : Nat} {W : World} {a : Option Addr} {l l2 : List α} {ob : Option (Nat × Obj)} (i : Nat) (hT : AppTy P t e sz bytes) (hrow : RowOf e sz enc v l ob) (hs : SlAt W lo hi sz enc a l2) (hM : Mem.has ⟨B, bs, ks, ms, rs⟩ W lo hi) (hna : a = none → l2 = [])
    (h : ∀ v' ob', RowOf e sz enc v' (l ++ l2) ob' → TL P Z N ((dd, v') :: L) ⟨B, bs, ks, ms, rs.set i ob'⟩ ops rest Q)
    (hone : ∀ u ∈ l2.flatMap enc, u.oneCell' = true) (b1 : l.length + l2.length ≤ 1000000) (b2 : Nat.ble bytes 100000000 = true) (hl2 : ∀ x ∈ l2, (enc x).length = sz)
    (hi' : rs[i]? = some ob := by rfl) (hx : ev L x = some v := by rfl) (hy : ev L y = some (.slice a l2.length c) := by rfl) (hd : dd < N := by decide) :
    TL P Z N L ⟨B, bs, ks, ms, rs⟩ ops (⟨some dd, .call { callee := .builtin .append, args := #[x, y], argTypes := #[t, t] }, ty, pos, af, none⟩ :: rest) Q := fun a' w hf hm => by
  obtain ⟨v', ob', w', hrun, hr, hm'⟩ := row_appendS (ty := ty) (c := c) i hT hrow hs hM hna hone b1 b2 hl2 hi' hm
  have hrun' : (execOp a'.eval ⟨some dd, .call { callee := .builtin .append, args := #[x, y], argTypes := #[t, t] }, ty, pos, af, none⟩).run P w = .ok (.value v') w' := by
    simp [execOp, resolve, invoke, builtin, hf.eval hx, hf.eval hy, hrun, Result.andThen]
  exact wpList_value rfl hrun' (h v' ob' hr _ _ (hf.put hd _) hm')

/-- .. among operations that come up in every order -/
theorem tg_run {M M0 M' : Mem} {mm f i : Nat} {listed : Array Bool} {o : Oper} {R : Value → Mem → Prop} (ho : ops[i]? = some o) (hg : o.guard = none) (hdd : o.dst = some dd) (hd : dd < N)
    (hr : ∀ a w, Fr Z N L a → M.holds w → ∃ v' M' w', (execOp a.eval o).run P w = .ok (.value v') w' ∧ R v' M' ∧ M'.holds w') (hD : ∀ v' M', R v' M' → ∀ w, M'.holds w → M0.holds w)
    (h : ∀ v' M', R v' M' → TU P Z N ((dd, v') :: L) M0 M' ops mm f (listed.setIfInBounds i true) Q) : TG P Z N L M0 M ops mm f listed i Q := fun a w hf hm => by
  obtain ⟨v', M', w', hrun, hR, hm'⟩ := hr a w hf hm
  unfold gOp
  simp only [ho]
  rw [if_pos (wanted_none hg _), hrun]
  exact ⟨hD v' M' hR _ hm', h v' M' hR _ _ (by rw [hdd]; exact hf.put hd _) hm'⟩
theorem tg_appendS {M0 : Mem} {mm f k : Nat} {listed : Array Bool} {α : Type} {enc : α → List Value} {t e sz bytes c lo hi : Nat} {W : World} {a : Option Addr} {l l2 : List α} {ob : Option (Nat × Obj)} (i : Nat) (hT : AppTy P t e sz bytes) (hrow : RowOf e sz enc v l ob) (hs : SlAt W lo hi sz enc a l2) (hM : Mem.has ⟨B, bs, ks, ms, rs⟩ W lo hi) (hna : a = none → l2 = [])
    (h : ∀ v' ob', RowOf e sz enc v' (l ++ l2) ob' → TU P Z N ((dd, v') :: L) M0 ⟨B, bs, ks, ms, rs.set i ob'⟩ ops mm f (listed.setIfInBounds k true) Q)
    (hone : ∀ u ∈ l2.flatMap enc, u.oneCell' = true) (b1 : l.length + l2.length ≤ 1000000) (b2 : Nat.ble bytes 100000000 = true) (hl2 : ∀ x ∈ l2, (enc x).length = sz)
    (hD : ∀ ob' w, Mem.holds ⟨B, bs, ks, ms, rs.set i ob'⟩ w → M0.holds w)
    (ho : ops[k]? = some ⟨some dd, .call { callee := .builtin .append, args := #[x, y], argTypes := #[t, t] }, ty, pos, af, none⟩ := by rfl) (hi' : rs[i]? = some ob := by rfl) (hx : ev L x = some v := by rfl) (hy : ev L y = some (.slice a l2.length c) := by rfl) (hd : dd < N := by decide) :
    TG P Z N L M0 ⟨B, bs, ks, ms, rs⟩ ops mm f listed k Q :=
  tg_run (R := fun v' M' => ∃ ob', RowOf e sz enc v' (l ++ l2) ob' ∧ M' = ⟨B, bs, ks, ms, rs.set i ob'⟩) (M' := M0) ho rfl rfl hd (fun a' w hf hm => by
    obtain ⟨v', ob', w', hrun, hr, hm'⟩ := row_appendS (ty := ty) (c := c) i hT hrow hs hM hna hone b1 b2 hl2 hi' hm
    exact ⟨v', _, w', by simp [execOp, resolve, invoke, builtin, hf.eval hx, hf.eval hy, hrun, Result.andThen], ⟨ob', hr, rfl⟩, hm'⟩)
    (fun v' M' hR w hw => by obtain ⟨ob', _, rfl⟩ := hR; exact hD ob' w hw) (fun v' M' hR => by obtain ⟨ob', hr, rfl⟩ := hR; exact h v' ob' hr)
theorem tg_buildSlice {M0 : Mem} {mm f i : Nat} {listed : Array Bool} {T len E sz : Nat} {zs0 cells : Array Value} {parts : Array (Nat × Operand)} {ps : List (Nat × Value)} (hT : BuildSl P T len E sz zs0)
    (h : ∀ b, TU P Z N ((dd, .slice (some ⟨b, 0, none⟩) len len) :: L) M0 ⟨B, (b, .cells cells E (0, 0)) :: bs, ks, ms, rs⟩ ops mm f (listed.setIfInBounds i true) Q)
    (hD : ∀ b w, Mem.holds ⟨B, (b, .cells cells E (0, 0)) :: bs, ks, ms, rs⟩ w → M0.holds w)
    (ho : ops[i]? = some ⟨some dd, .buildSlice T len parts, ty, pos, af, none⟩ := by rfl) (hp : evp L parts.toList = some ps := by rfl) (hc : Instr.fill (fun i => some (i * sz, sz)) zs0 ps = some cells := by rfl) (hd : dd < N := by decide) :
    TG P Z N L M0 ⟨B, bs, ks, ms, rs⟩ ops mm f listed i Q :=
  tg_value (val := fun b => .slice (some ⟨b, 0, none⟩) len len) ho rfl rfl hd (fun a w hf hm => by
    have hpm : parts.map (fun (i, x) => (i, a.eval x)) = ps.toArray := by
      apply Array.ext'
      simpa using evp_map hf hp
    have := run_buildSlice hT hc w
    rw [← hpm] at this
    simp [execOp, this]) hD h
theorem hD_row {M : Mem} {i : Nat} {ob : Option (Nat × Obj)} (hM : M.rows[i]? = some none) (w : World) (h : Mem.holds ⟨M.base, M.boxes, M.kept, M.marks, M.rows.set i ob⟩ w) : M.holds w := by
  obtain ⟨A, C, h1, h2⟩ := set_filterMap M.rows i none ob hM
  refine h.sub rfl ?_ (List.Sublist.refl _)
  show (M.boxes ++ (M.rows.filterMap id ++ M.marks.map markBox)).Sublist (M.boxes ++ ((M.rows.set i ob).filterMap id ++ M.marks.map markBox))
  rw [h1, h2]
  refine List.Sublist.append (List.Sublist.refl _) (List.Sublist.append ?_ (List.Sublist.refl _))
  simp only [Option.toList_none, List.append_nil, List.append_assoc]
  exact List.Sublist.append (List.Sublist.refl _) (List.sublist_append_right _ _)
theorem UP.raise {M0 M : Mem} (hD : ∀ w, M.holds w → M0.holds w) {mm : Nat} : ∀ {f : Nat} {listed : Array Bool} {a : Act} {w : World}, M.holds w → UP Z.ro P ops Q M.holds mm f listed a w → UP Z.ro P ops Q M0.holds mm f listed a w
  | 0, listed, a, w, hm, h => fun w' hb _ => h w' hb (hm.ext hb)
  | f + 1, listed, a, w, hm, h => fun w' hb _ => by
    have h' := h w' hb (hm.ext hb)
    split
    · rename_i hp; rw [if_pos hp] at h'; exact h'
    · rename_i hp
      rw [if_neg hp] at h'
      exact ⟨h'.1, fun i hi => ⟨(h'.2 i hi).1, gOp_mono (fun a'' w'' ⟨h1, h2⟩ => ⟨hD _ h1, UP.raise hD h1 h2⟩) (h'.2 i hi).2⟩⟩
/-- what has been laid is known to the quiet operations from here on -/
theorem tu_raise {M0 M : Mem} {mm f : Nat} {listed : Array Bool} (hD : ∀ w, M.holds w → M0.holds w) (h : TU P Z N L M M ops mm f listed Q) : TU P Z N L M0 M ops mm f listed Q := fun a w hf hm => UP.raise hD hm (h a w hf hm)
theorem hD_rows {bs' : List (Nat × Obj)} {ks' : List Kp} {rs' : List (Option (Nat × Obj))} (h1 : bs'.drop (bs'.length - bs.length) = bs) (h2 : ks'.drop (ks'.length - ks.length) = ks) (h3 : rs.filterMap id = []) (w : World) (h : Mem.holds ⟨B, bs', ks', ms, rs'⟩ w) : Mem.holds ⟨B, bs, ks, ms, rs⟩ w := by
  refine h.sub rfl ?_ (h2 ▸ List.drop_sublist _ _)
  show (bs ++ (rs.filterMap id ++ ms.map markBox)).Sublist (bs' ++ (rs'.filterMap id ++ ms.map markBox))
  rw [h3, List.nil_append]
  exact List.Sublist.append (h1 ▸ List.drop_sublist _ _) (List.sublist_append_right _ _)
theorem RowOf.some {α : Type} {e sz : Nat} {enc : α → List Value} {l : List α} {ob : Option (Nat × Obj)} (h : RowOf e sz enc v l ob) (hne : 0 < l.length) : ∃ g cap cur, v = .slice (Option.some ⟨g, 0, Option.none⟩) l.length cap ∧ ob = Option.some (g, .cells cur e (0, 0)) ∧ l.length ≤ cap ∧ cap ≤ maxLen ∧ cur.size = cap * sz ∧ cur.toList.take (l.length * sz) = l.flatMap enc := by
  rcases h.alt with ⟨_, h2, _⟩ | ⟨g, cap, cur, h1, h2, h3, h4, h5, h6⟩
  · omega
  · exact ⟨g, cap, cur, h1, h2, h3, h4, h5, h6⟩

/-- cells stored into element i of a box that is a slice -/
theorem splice {α : Type} {enc : α → List Value} {sz i off : Nat} {l : List α} {x0 x' : α} {cur cur' : Array Value} {us : List Value} (hk : ∀ x ∈ l, (enc x).length = sz) (hk' : (enc x').length = sz) (h0 : 0 < sz) (hl : l[i]? = some x0) (hcur : cur.toList.take (l.length * sz) = l.flatMap enc) (hsz : l.length * sz ≤ cur.size)
    (hsp : ∀ j, j < sz → (enc x')[j]? = if off ≤ j ∧ j < off + us.length then us[j - off]? else (enc x0)[j]?) (hoff : off + us.length ≤ sz) (hs' : cur'.size = cur.size)
    (hget : ∀ q, q < cur.size → cur'[q]? = if i * sz + off ≤ q ∧ q < i * sz + off + us.length then us[q - (i * sz + off)]? else cur[q]?) : cur'.toList.take (l.length * sz) = (l.set i x').flatMap enc := by
  have hk2 : ∀ y ∈ l.set i x', (enc y).length = sz := fun y hy => by rcases set_mem hy with hy | rfl; exact hk y hy; exact hk'
  have hlen : ((l.set i x').flatMap enc).length = l.length * sz := by rw [flatMap_lenM hk2]; simp
  apply List.ext_getElem?
  intro q
  rcases Nat.lt_or_ge q (l.length * sz) with hq | hq
  · have ha : q / sz < l.length := (Nat.div_lt_iff_lt_mul h0).2 hq
    have hj : q % sz < sz := Nat.mod_lt _ h0
    have eq_ : q = q / sz * sz + q % sz := by rw [Nat.mul_comm]; exact (Nat.div_add_mod q sz).symm
    rw [List.getElem?_take_of_lt hq, Array.getElem?_toList, hget q (by omega)]
    have hc1 : cur[q]? = (l.flatMap enc)[q]? := by rw [← hcur, List.getElem?_take_of_lt hq, Array.getElem?_toList]
    by_cases hai : q / sz = i
    · have hx' : (l.set i x')[q / sz]? = some x' := by rw [hai, List.getElem?_set_self (by omega)]
      have hx0 : l[q / sz]? = some x0 := by rw [hai]; exact hl
      have g1 := flatMap_get (enc := enc) hk2 hx' hj
      have g2 := flatMap_get (enc := enc) hk hx0 hj
      rw [← eq_] at g1 g2
      rw [g1, hc1, g2, hsp _ hj]
      have e2 : q = i * sz + q % sz := by rw [hai] at eq_; exact eq_
      by_cases hc : off ≤ q % sz ∧ q % sz < off + us.length
      · rw [if_pos hc, if_pos (by omega), show q - (i * sz + off) = q % sz - off by omega]
      · rw [if_neg hc, if_neg (by omega)]
    · have hxa : l[q / sz]? = some l[q / sz] := List.getElem?_eq_getElem ha
      have hxa' : (l.set i x')[q / sz]? = some l[q / sz] := by rw [List.getElem?_set_ne (fun h => hai h.symm)]; exact hxa
      have g1 := flatMap_get (enc := enc) hk2 hxa' hj
      have g2 := flatMap_get (enc := enc) hk hxa hj
      rw [← eq_] at g1 g2
      rw [g1, hc1, g2, if_neg]
      intro hc
      have h1 : i * sz ≤ q := by omega
      have h2 : q < i * sz + sz := by omega
      have : q / sz = i := by
        apply Nat.div_eq_of_lt_le
        · rw [Nat.mul_comm] at h1; rw [Nat.mul_comm]; omega
        · rw [Nat.succ_mul]; exact h2
      exact hai this
  · rw [List.getElem?_take_eq_none hq, List.getElem?_eq_none (by omega)]

theorem tl_storeSp {α : Type} {enc : α → List Value} {sz T i off j g E o : Nat} {cur : Array Value} {l : List α} {x0 : α} {us : List Value} (x' : α) (hS : Size P T us.length) (hk : ∀ x ∈ l, (enc x).length = sz) (hk' : (enc x').length = sz) (h0 : 0 < sz) (hl : l[i]? = some x0) (hcur : cur.toList.take (l.length * sz) = l.flatMap enc) (hsz : l.length * sz ≤ cur.size)
    (hsp : ∀ j, j < sz → (enc x')[j]? = if off ≤ j ∧ j < off + us.length then us[j - off]? else (enc x0)[j]?) (hoff : off + us.length ≤ sz) (hone : ∀ u ∈ us, u.oneCell' = true)
    (hj : bs[j]? = some (g, .cells cur E (0, 0))) (hx : ev L x = some (.pointer (some ⟨g, o, none⟩))) (ho : o = i * sz + off) (hy : ev L y = some v) (hu : v.cells.toList = us)
    (h : ∀ cur' : Array Value, cur'.toList.take (l.length * sz) = (l.set i x').flatMap enc → cur'.size = cur.size → TL P Z N L ⟨B, bs.set j (g, .cells cur' E (0, 0)), ks, ms, rs⟩ ops rest Q) : TL P Z N L ⟨B, bs, ks, ms, rs⟩ ops (⟨none, .store T x y, ty, pos, af, none⟩ :: rest) Q := fun a w hf hm => by
  subst ho
  have hb := (hm.boxOf (List.mem_of_getElem? hj)).2
  have hil : i < l.length := (List.getElem?_eq_some_iff.1 hl).1
  have hfit : i * sz + off + us.length ≤ cur.size := by
    calc i * sz + off + us.length ≤ i * sz + sz := by omega
      _ = (i + 1) * sz := by rw [Nat.succ_mul]
      _ ≤ l.length * sz := Nat.mul_le_mul_right _ hil
      _ ≤ cur.size := hsz
  have hlen : v.cells.size = us.length := by rw [← hu]; simp
  have hrun := run_storeCells (P := P) (o := i * sz + off) us hone 0 cur w hb (by omega)
  refine wpList_skipv rfl (w' := putBlock w g (.cells ((us.zipIdx 0).foldl (fun c p => c.setIfInBounds (i * sz + off + p.2) p.1) cur) E (0, 0))) ?_ (h _ (splice hk hk' h0 hl hcur hsz hsp hoff (by rw [foldl_set_size]) fun q hq => ?_) (by rw [foldl_set_size]) _ _ (hf.put_none _) (hm.put hj _))
  · have hS' := hS w
    simp only [execOp, hf.eval hx, hf.eval hy, Instr.storeAt, Instr.sureAddr, storeVar, hlen, Sem.run_bind, Sem.run_pure, Result.andThen_ok, hS', ne_eq, not_true_eq_false, if_false, hu, hrun]
  · rw [foldl_set_get _ us 0 cur q hq (by omega)]
    simp
end
end Go.Q
