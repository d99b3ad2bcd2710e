/- Regions that draw their order: quiet operations first, then what makes new blocks (in every order), then a tail that waits for all of them. -/
import Derived.Test.YtgcpocaaepoafaaQ5
set_option linter.unusedVariables false
set_option linter.unusedSimpArgs false
set_option linter.unusedSectionVars false
namespace Go.Q
open Go Go.RowKit

section
variable {P : Program} {Z : Env} {N : Nat} {L : List (Nat × Value)} {M M0 : Mem} {Q : Exit → Act → World → Prop} {ops : Array Oper}

/-- operation i is carried out: a value, or a call that returns -/
def gOp (P : Program) (ops : Array Oper) (i : Nat) (K : Act → World → Prop) (a : Act) (w : World) : Prop :=
  match ops[i]? with
  | none => False
  | some o =>
    if Region.wanted o (yielded ops a.tmps) then
      match (execOp a.eval o).run P w with
      | .ok (.value u) w' => K (a.put o.dst u) w'
      | .ok .skip w' => K (a.put o.dst undef) w'
      | .ok (.enter f args) w' => Calls P f args w' fun e w'' => ∃ u, e = .returned u ∧ K (a.put o.dst u) w''
      | _ => False
    else K (a.put o.dst undef) w

theorem gOp_mono {i : Nat} {K K' : Act → World → Prop} {a : Act} {w : World} (h : ∀ a w, K a w → K' a w) (hh : gOp P ops i K a w) : gOp P ops i K' a w := by
  unfold gOp at *
  split at hh
  · exact hh
  · split at hh
    · rename_i hw
      rw [if_pos hw]
      split at hh
      · exact h _ _ hh
      · exact h _ _ hh
      · exact hh.mono fun e w'' ⟨u, he, hk⟩ => ⟨u, he, h _ _ hk⟩
      · exact hh.elim
    · rename_i hw
      rw [if_neg hw]
      exact h _ _ hh

theorem wpOp_of_gOp {i : Nat} {K : Act → World → Prop} {a : Act} {w : World} {ro : Option Nat} (h : gOp P ops i K a w) : wpOpIn (FW ro) 0 P ops Q i K a w := by
  unfold gOp at h
  unfold wpOpIn
  cases ho : ops[i]? with
  | none => simp only [ho] at h
  | some o =>
    simp only [ho] at h ⊢
    split at h
    · rename_i hw
      rw [if_pos hw]
      refine wpIn_of ?_
      split at h
      · rename_i hr; rw [semAt_of hr (by simp)]; exact h
      · rename_i hr; rw [semAt_of hr (by simp)]; exact h
      · rename_i hr; rw [semAt_of hr (by simp)]; exact ⟨fun hd => by simp [Fence.wide] at hd, calls_in (h.mono fun e w'' ⟨u, he, hk⟩ => by subst he; exact hk)⟩
      · exact h.elim
    · rename_i hw
      rw [if_neg hw]
      exact ⟨fun _ _ => trivial, h⟩

theorem QS.mono {K K' : Act → Prop} (hK : ∀ a, K a → K' a) : ∀ {l : List Oper} {a : Act}, QS P ops M K l a → QS P ops M K' l a
  | [], _, h => hK _ h
  | o :: l, a, h => by
    unfold QS at h ⊢
    split
    · rename_i hw
      rw [if_pos hw] at h
      obtain ⟨v, h1, h2⟩ := h
      exact ⟨v, h1, QS.mono hK h2⟩
    · rename_i hw
      rw [if_neg hw] at h
      exact QS.mono hK h

def preDone (m : Nat) (listed : Array Bool) : Bool := (List.range m).all fun k => listed.getD k false

/-- from here on, in every order, also in every later world -/
def UP (ro : Option Nat) (P : Program) (ops : Array Oper) (Q : Exit → Act → World → Prop) (D : World → Prop) (m : Nat) : Nat → Array Bool → Act → World → Prop
  | 0, listed, a, w => ∀ w', Below w.heap.size w w' → D w' → preDone m listed = true ∧ wpAnyIn (FW ro) 0 P .any ops Q 0 listed a w'
  | f + 1, listed, a, w => ∀ w', Below w.heap.size w w' → D w' →
    if preDone m listed then wpAnyIn (FW ro) 0 P .any ops Q (f + 1) listed a w'
    else Region.ready .any ops listed ≠ [] ∧ ∀ i ∈ Region.ready .any ops listed, i < m ∧ gOp P ops i (fun a'' w'' => D w'' ∧ UP ro P ops Q D m f (listed.setIfInBounds i true) a'' w'') a w'

theorem UP.later {D : World → Prop} {m f : Nat} {listed : Array Bool} {a : Act} {w w1 : World} (h : UP Z.ro P ops Q D m f listed a w) (hb : Below w.heap.size w w1) : UP Z.ro P ops Q D m f listed a w1 := by
  cases f with
  | zero => exact fun w' hw' hD => h w' (hb.trans (hw'.mono hb.size)) hD
  | succ f => exact fun w' hw' hD => h w' (hb.trans (hw'.mono hb.size)) hD

theorem UP.any {D : World → Prop} {m : Nat} : ∀ {f : Nat} {listed : Array Bool} {a : Act} {w : World}, UP Z.ro P ops Q D m f listed a w → D w → wpAnyIn (FW Z.ro) 0 P .any ops Q f listed a w
  | 0, _, _, w, h, hD => (h w (Below.refl _ _) hD).2
  | f + 1, listed, a, w, h, hD => by
    have h' := h w (Below.refl _ _) hD
    split at h'
    · exact h'
    · exact ⟨fun h0 => absurd h0 h'.1, fun i hi => wpOp_of_gOp (gOp_mono (fun a'' w'' ⟨hd, hu⟩ => UP.any hu hd) (h'.2 i hi).2)⟩

/-- j waits for k, straight or through others -/
def reach (ops : Array Oper) : Nat → Nat → Nat → Bool
  | 0, _, _ => false
  | f + 1, j, k => match ops[j]? with
    | some o => o.after.any (fun e => Region.binds .any e && e.on == k) || o.after.any (fun e => Region.binds .any e && reach ops f e.on k)
    | none => false

/-- what has come up has come up behind what it waits for -/
def Dcl (ops : Array Oper) (listed : Array Bool) : Prop := ∀ k o, listed.getD k false = true → ops[k]? = some o → ∀ e ∈ o.after, Region.binds .any e = true → listed.getD e.on false = true

theorem reach_listed {listed : Array Bool} (hd : Dcl ops listed) {k : Nat} : ∀ (f j : Nat), reach ops f j k = true → (∀ o, ops[j]? = some o → ∀ e ∈ o.after, Region.binds .any e = true → listed.getD e.on false = true) → listed.getD k false = true
  | 0, _, h, _ => by simp [reach] at h
  | f + 1, j, h, hj => by
    unfold reach at h
    split at h
    · rename_i o ho
      rcases Bool.or_eq_true_iff.1 h with h | h
      · obtain ⟨e, he, hb⟩ := Array.any_eq_true'.1 h
        simp only [Bool.and_eq_true, beq_iff_eq] at hb
        have := hj o ho e he hb.1
        rwa [hb.2] at this
      · obtain ⟨e, he, hb⟩ := Array.any_eq_true'.1 h
        simp only [Bool.and_eq_true] at hb
        have hl := hj o ho e he hb.1
        exact reach_listed hd f e.on hb.2 fun o' ho' e' he' hb' => hd e.on o' hl ho' e' he' hb'
    · cases h

def dclB (ops : Array Oper) (listed : Array Bool) : Bool := (List.range ops.size).all fun k => !listed.getD k false || match ops[k]? with | some o => o.after.all fun e => !Region.binds .any e || listed.getD e.on false | none => true
theorem dclB_spec {listed : Array Bool} (h : dclB ops listed = true) : Dcl ops listed := fun k o hk ho e he hb => by
  have h1 := List.all_eq_true.1 h k (by simpa using (Array.getElem?_eq_some_iff.1 ho).1)
  simp only [hk, Bool.not_true, Bool.false_or, ho] at h1
  have h2 := Array.all_eq_true'.1 h1 e he
  simpa [hb] using h2

theorem Dcl.none (n : Nat) : Dcl ops (Array.replicate n false) := fun k o h => by
  rcases Nat.lt_or_ge k n with h' | h' <;> simp_all [Array.getD_eq_getD_getElem?]

theorem Dcl.set {listed : Array Bool} (hd : Dcl ops listed) {j : Nat} (hj : j ∈ Region.ready .any ops listed) : Dcl ops (listed.setIfInBounds j true) := fun k o h ho e he hb => by
  obtain ⟨_, oj, hoj, hall⟩ := mem_ready.1 hj
  by_cases hk : j = k
  · subst hk
    rw [hoj] at ho
    cases ho
    exact getD_set_true (hall e he hb)
  · rw [getD_set_ne false hk] at h
    exact getD_set_true (hd k o h ho e he hb)

/-- the operations from m on wait for all before -/
def tailB (m : Nat) (ops : Array Oper) : Bool := (List.range ops.size).all fun j => j < m || (List.range m).all fun k => reach ops ops.size j k

theorem tail_waits {m : Nat} (hB : tailB m ops = true) {listed : Array Bool} (hd : Dcl ops listed) {j : Nat} (hj : j ∈ Region.ready .any ops listed) (hm : m ≤ j) {k : Nat} (hk : k < m) : listed.getD k false = true := by
  obtain ⟨_, o, ho, hall⟩ := mem_ready.1 hj
  have h1 := List.all_eq_true.1 hB j (by simpa using (Array.getElem?_eq_some_iff.1 ho).1)
  simp only [Bool.or_eq_true, decide_eq_true_eq] at h1
  rcases h1 with h1 | h1
  · omega
  · have h2 := List.all_eq_true.1 h1 k (by simpa using hk)
    exact reach_listed hd _ _ h2 fun o' ho' e he hb => by rw [ho] at ho'; cases ho'; exact hall e he hb

/-- in this frame, in every world of D, operation o yields v, and the world has at most grown -/
def YS (P : Program) (ops : Array Oper) (D : World → Prop) (o : Oper) (v : Value) (a : Act) : Prop :=
  (Region.wanted o (yielded ops a.tmps) = true ∧ ∀ w, D w → o.quietAt P a (fun w' => Below w.heap.size w w') w v) ∨ (Region.wanted o (yielded ops a.tmps) = false ∧ v = undef)

theorem YS.of_same {D : World → Prop} {o : Oper} {v : Value} {a a' : Act} (h : YS P ops D o v a) (he : execOp a'.eval o = execOp a.eval o) (hw : Region.wanted o (yielded ops a'.tmps) = Region.wanted o (yielded ops a.tmps)) : YS P ops D o v a' := by
  unfold YS Oper.quietAt at *
  rw [he, hw]
  exact h

theorem YS.gOp {D : World → Prop} (hDu : ∀ w w', D w → Below w.heap.size w w' → D w') {i : Nat} {o : Oper} {v : Value} {a : Act} {w : World} {K : Act → World → Prop} (hi : ops[i]? = some o) (h : YS P ops D o v a) (hD : D w)
    (hK : ∀ w', Below w.heap.size w w' → D w' → K (a.put o.dst v) w') : Go.Q.gOp P ops i K a w := by
  unfold Go.Q.gOp
  simp only [hi]
  rcases h with ⟨hw, hq⟩ | ⟨hw, rfl⟩
  · rw [if_pos hw]
    have := hq w hD
    unfold Oper.quietAt at this
    generalize (execOp a.eval o).run P w = r at *
    cases r with
    | ok n w' =>
      cases n <;> simp only [Oper.quietUpon] at this <;> simp only
      case value u => obtain ⟨rfl, rfl⟩ := this; exact hK _ (Below.refl _ _) hD
      case skip => obtain ⟨rfl, rfl⟩ := this; exact hK _ (Below.refl _ _) hD
      case enter f args => obtain ⟨rfl, hc⟩ := this; exact hc.mono fun e w'' ⟨he, hb⟩ => ⟨v, he, hK _ hb (hDu _ _ hD hb)⟩
    | halt x w' => simp only [Oper.quietUpon] at this
  · rw [if_neg (by simp [hw])]
    exact hK _ (Below.refl _ _) hD

theorem gOp_put {D : World → Prop} {j : Nat} {oi oj : Oper} {v : Value} (hj : ops[j]? = some oj) (hap : oi.apart ops oj = true) (hsi : ∀ cs b, oi.op ≠ .select cs b) (hsj : ∀ cs b, oj.op ≠ .select cs b)
    {K : Act → World → Prop} {a : Act} {w : World} (hy : YS P ops D oi v a) (h : gOp P ops j K (a.put oi.dst v) w) :
    gOp P ops j (fun a' w' => YS P ops D oi v a' ∧ K (a'.put oi.dst v) w') a w := by
  obtain ⟨h1, h2, h3⟩ := Oper.apart_spec hap
  have keep : ∀ u, YS P ops D oi v (a.put oj.dst u) := fun u => hy.of_same (execOp_put oi hsi a oj.dst u h3) (wanted_put oi a oj.dst u h3)
  unfold gOp at *
  simp only [hj] at *
  rw [wanted_put oj a oi.dst v h1] at h
  split
  · rename_i hw
    rw [if_pos hw, execOp_put oj hsj a oi.dst v h1] at h
    generalize (execOp a.eval oj).run P w = r at *
    cases r with
    | ok n w' =>
      cases n <;> simp only at h ⊢
      case value u => exact ⟨keep u, by rw [← Act.put_comm a v u h2]; exact h⟩
      case skip => exact ⟨keep _, by rw [← Act.put_comm a v undef h2]; exact h⟩
      case enter f args => exact h.mono fun e w'' ⟨u, he, hk⟩ => ⟨u, he, keep u, by rw [← Act.put_comm a v u h2]; exact hk⟩
    | halt x w' => exact h
  · rename_i hw
    rw [if_neg hw] at h
    exact ⟨keep _, by rw [← Act.put_comm a v undef h2]; exact h⟩

/-- a quiet operation that may come up now may be taken first -/
theorem up_first {D : World → Prop} (hDu : ∀ w w', D w → Below w.heap.size w w' → D w') {m : Nat} (hB : tailB m ops = true) (hsel : ∀ (j : Nat) (o : Oper) cs b, ops[j]? = some o → o.op ≠ .select cs b)
    {i : Nat} {oi : Oper} {v : Value} (hi : ops[i]? = some oi) (him : i < m) :
    ∀ (f : Nat) (listed : Array Bool) (a : Act) (w : World), Dcl ops listed →
      (∀ j oj, ops[j]? = some oj → j ≠ i → listed.getD j true = false → (∀ e ∈ oj.after, Region.binds .any e = true → e.on ≠ i) → oi.apart ops oj = true) →
      i ∈ Region.ready .any ops listed → YS P ops D oi v a → UP Z.ro P ops Q D m f (listed.setIfInBounds i true) (a.put oi.dst v) w → UP Z.ro P ops Q D m (f + 1) listed a w := by
  intro f
  induction f with
  | zero =>
    intro listed a w hdc hfree hr hy H w' hw' hD'
    have hun : listed.getD i false = false := by
      have h0 := (mem_ready.1 hr).1
      rcases Nat.lt_or_ge i listed.size with h' | h' <;> simp_all [Array.getD_eq_getD_getElem?]
    have hnd : preDone m listed = false := by
      cases hp : preDone m listed with
      | false => rfl
      | true => have := List.all_eq_true.1 hp i (by simpa using him); simp [hun] at this
    rw [if_neg (by simp [hnd])]
    refine ⟨fun h => (by rw [h] at hr; cases hr), fun j hj => ?_⟩
    by_cases hji : j = i
    · subst hji
      exact ⟨him, hy.gOp hDu hi hD' fun w'' hb hd => ⟨hd, H.later (hw'.trans (hb.mono hw'.size))⟩⟩
    · have h2 := (H w' hw' hD').2
      have := ready_mono hj hji
      rw [h2.1] at this
      cases this
  | succ f ih =>
    intro listed a w hdc hfree hr hy H w' hw' hD'
    have hun : listed.getD i false = false := by
      have h0 := (mem_ready.1 hr).1
      rcases Nat.lt_or_ge i listed.size with h' | h' <;> simp_all [Array.getD_eq_getD_getElem?]
    have hnd : preDone m listed = false := by
      cases hp : preDone m listed with
      | false => rfl
      | true => have := List.all_eq_true.1 hp i (by simpa using him); simp [hun] at this
    rw [if_neg (by simp [hnd])]
    refine ⟨fun h => (by rw [h] at hr; cases hr), fun j hj => ?_⟩
    by_cases hji : j = i
    · subst hji
      exact ⟨him, hy.gOp hDu hi hD' fun w'' hb hd => ⟨hd, H.later (hw'.trans (hb.mono hw'.size))⟩⟩
    · have hjm : j < m := by
        rcases Nat.lt_or_ge j m with h' | h'
        · exact h'
        · have := tail_waits hB hdc hj h' him; rw [hun] at this; cases this
      refine ⟨hjm, ?_⟩
      have hrj := ready_mono hj hji
      have h2 := H w' hw' hD'
      have hnd2 : preDone m (listed.setIfInBounds i true) = false := by
        cases hp : preDone m (listed.setIfInBounds i true) with
        | false => rfl
        | true =>
          have := List.all_eq_true.1 hp j (by simpa using hjm)
          have hju := (mem_ready.1 hrj).1
          rcases Nat.lt_or_ge j (listed.setIfInBounds i true).size with h' | h' <;> simp_all [Array.getD_eq_getD_getElem?]
      rw [if_neg (by simp [hnd2])] at h2
      obtain ⟨_, hg⟩ := h2.2 j hrj
      obtain ⟨hjun, oj, hoj, hall⟩ := mem_ready.1 hj
      have hnot : ∀ e ∈ oj.after, Region.binds .any e = true → e.on ≠ i := fun e he hb heq => by
        have h1 := hall e he hb
        rw [heq, hun] at h1
        cases h1
      have h3 := gOp_put hoj (hfree j oj hoj hji hjun hnot) (fun cs b => hsel i oi cs b hi) (fun cs b => hsel j oj cs b hoj) hy hg
      have hfree' : ∀ k ok, ops[k]? = some ok → k ≠ i → (listed.setIfInBounds j true).getD k true = false → (∀ e ∈ ok.after, Region.binds .any e = true → e.on ≠ i) → oi.apart ops ok = true := fun k ok hk hki hun' hno => by
        refine hfree k ok hk hki ?_ hno
        by_cases hjk : j = k
        · subst hjk; exact hjun
        · rw [getD_set_ne true hjk] at hun'; exact hun'
      refine gOp_mono (fun a' w2 ⟨hy', hd, hu⟩ => ⟨hd, ih (listed.setIfInBounds j true) a' w2 (hdc.set hj) hfree' (ready_mono hr (Ne.symm hji)) hy' ?_⟩) h3
      rw [Array.setIfInBounds_comm _ _ hji]
      exact hu

/-! ### the judgement -/

def TU (P : Program) (Z : Env) (N : Nat) (L : List (Nat × Value)) (M0 M : Mem) (ops : Array Oper) (m f : Nat) (listed : Array Bool) (Q : Exit → Act → World → Prop) : Prop :=
  ∀ a w, Fr Z N L a → M.holds w → UP Z.ro P ops Q M0.holds m f listed a w

def lexPre (ops : Array Oper) : Nat → Nat → Array Bool → Bool
  | 0, _, _ => true
  | p + 1, k, listed => (Region.ready .any ops listed).contains k && Region.free .any ops listed k && lexPre ops p (k + 1) (listed.setIfInBounds k true)
def lexDone : Nat → Nat → Array Bool → Array Bool
  | 0, _, listed => listed
  | p + 1, k, listed => lexDone p (k + 1) (listed.setIfInBounds k true)

/-- quiet operations in the order of the text, then the rest -/
theorem up_lex {m : Nat} (hB : tailB m ops = true) (hs : Region.noSelect ops = true) (n : Nat) :
    ∀ (l : List Oper) (k : Nat) (listed : Array Bool) (a : Act) (w : World), Dcl ops listed → (∀ j, j < l.length → l[j]? = ops[k + j]?) → k + l.length ≤ m → lexPre ops l.length k listed = true →
      QS P ops M0 (fun a' => UP Z.ro P ops Q M0.holds m n (lexDone l.length k listed) a' w) l a → UP Z.ro P ops Q M0.holds m (n + l.length) listed a w
  | [], _, _, _, _, _, _, _, _, h => h
  | o :: l, k, listed, a, w, hdc, hl, hkm, hp, h => by
    have h0 : ops[k]? = some o := by have := (hl 0 (by simp)).symm; simpa using this
    simp only [List.length_cons] at hkm
    simp only [List.length_cons, lexPre, Bool.and_eq_true] at hp
    obtain ⟨⟨hr, hf⟩, hp'⟩ := hp
    have hl' : ∀ j, j < l.length → l[j]? = ops[k + 1 + j]? := fun j hj => by
      have := hl (j + 1) (by simpa using hj)
      simpa [Nat.add_assoc, Nat.add_comm 1 j] using this
    rw [List.length_cons, ← Nat.add_assoc]
    unfold QS at h
    split at h
    · rename_i hw
      obtain ⟨v, hq, hK⟩ := h
      exact up_first (fun _ _ hd hb => hd.ext hb) hB (Region.noSelect_spec hs) h0 (by omega) _ _ _ _ hdc (Region.free_spec h0 hf) (by simpa using hr) (.inl ⟨hw, hq⟩)
        (up_lex hB hs n l (k + 1) _ _ _ (hdc.set (by simpa using hr)) hl' (by omega) hp' hK)
    · rename_i hw
      exact up_first (fun _ _ hd hb => hd.ext hb) hB (Region.noSelect_spec hs) h0 (by omega) _ _ _ _ hdc (Region.free_spec h0 hf) (by simpa using hr) (.inr ⟨by simpa using hw, rfl⟩)
        (up_lex hB hs n l (k + 1) _ _ _ (hdc.set (by simpa using hr)) hl' (by omega) hp' h)

/-- a region: p quiet operations first, m operations ahead of the tail -/
theorem tc_drawU {id : Nat} {l : List Oper} (m p : Nat) (hm : P.follows .mixedOrders = true) (hB : (tailB m l.toArray && Region.noSelect l.toArray && lexPre l.toArray p 0 (Array.replicate l.length false) && decide (p ≤ m) && decide (p ≤ l.length)) = true)
    (h : TQ P Z N L M l.toArray (l.take p) (fun a => ∀ w, M.holds w → UP Z.ro P l.toArray Q M.holds m (l.length - p) (lexDone p 0 (Array.replicate l.length false)) a w)) : TC P Z N L M (.region id l.toArray true) Q := fun a w hf hM => by
  simp only [Bool.and_eq_true, decide_eq_true_eq] at hB
  obtain ⟨⟨⟨⟨h1, h2⟩, h3⟩, h4⟩, h5⟩ := hB
  refine wpIn_region_any hm ?_
  have hM' : M.holds { w with drawn := w.drawn + 1 } := hM.ext (below_drew' w)
  have hlen : (l.take p).length = p := by simp [h5]
  have := up_lex (P := P) (Q := Q) (M0 := M) h1 h2 (l.length - p) (l.take p) 0 (Array.replicate l.length false) a { w with drawn := w.drawn + 1 } (Dcl.none _) (fun j hj => by
      rw [hlen] at hj
      simp [hj]) (by omega) (by rw [hlen]; exact h3)
    (by rw [hlen]; exact (h a hf).mono fun a' hk => hk _ hM')
  rw [hlen, Nat.sub_add_cancel h5] at this
  simpa using this.any hM'
def drawB (ops : Array Oper) : Bool := tailB ops.size ops && Region.noSelect ops && lexPre ops ops.size 0 (Array.replicate ops.size false) && (Region.ready .any ops (lexDone ops.size 0 (Array.replicate ops.size false))).isEmpty && preDone ops.size (lexDone ops.size 0 (Array.replicate ops.size false))
/-- a region of quiet operations -/
theorem tc_draws {id : Nat} {l : List Oper} (hm : P.follows .mixedOrders = true) (hB : drawB l.toArray = true)
    (h : TQ P Z N L M l.toArray l (fun a => ∀ w, M.holds w → Q .normal a w)) : TC P Z N L M (.region id l.toArray true) Q := by
  simp only [drawB, Bool.and_eq_true, List.isEmpty_iff, List.size_toArray] at hB
  obtain ⟨⟨⟨⟨h1, h2⟩, h3⟩, h4⟩, h5⟩ := hB
  refine tc_drawU l.length l.length hm (by simp [h1, h2, h3]) ?_
  rw [List.take_length, Nat.sub_self]
  exact fun a hf => (h a hf).mono fun a' hk w hm' w' hb hD => ⟨h5, h4, hk w' hD⟩

theorem tq_up {m n : Nat} {listed : Array Bool} (h : TU P Z N L M M ops m n listed Q) : TQ P Z N L M ops [] (fun a => ∀ w, M.holds w → UP Z.ro P ops Q M.holds m n listed a w) :=
  fun a hf w hm => h a w hf hm

/-- operation number i of those that may come up now -/
def TG (P : Program) (Z : Env) (N : Nat) (L : List (Nat × Value)) (M0 M : Mem) (ops : Array Oper) (m f : Nat) (listed : Array Bool) (i : Nat) (Q : Exit → Act → World → Prop) : Prop :=
  ∀ a w, Fr Z N L a → M.holds w → gOp P ops i (fun a'' w'' => M0.holds w'' ∧ UP Z.ro P ops Q M0.holds m f (listed.setIfInBounds i true) a'' w'') a w

theorem tu_all {m f : Nat} {listed : Array Bool} (rs : List Nat) (hr : Region.ready .any ops listed = rs) (hne : rs ≠ []) (hd : preDone m listed = false) (hlt : rs.all (· < m) = true)
    (h : ∀ i ∈ rs, TG P Z N L M0 M ops m f listed i Q) : TU P Z N L M0 M ops m (f + 1) listed Q := fun a w hf hm w' hw' hD => by
  rw [if_neg (by simp [hd]), hr]
  exact ⟨hne, fun i hi => ⟨by simpa using List.all_eq_true.1 hlt i hi, h i hi a w' hf (hm.ext hw')⟩⟩
theorem tu_one {m f : Nat} {listed : Array Bool} (i : Nat) (h : TG P Z N L M0 M ops m f listed i Q) (hr : Region.ready .any ops listed = [i]) (hd : preDone m listed = false) (hlt : ([i] : List Nat).all (· < m) = true) : TU P Z N L M0 M ops m (f + 1) listed Q :=
  tu_all [i] hr (by simp) hd hlt (by simpa using h)

/-- a quiet operation that may come up now, taken first -/
theorem tu_take {m f i : Nat} {listed : Array Bool} {o : Oper} {d : Nat} {v : Value} (hq : Qv P Z N L M0 o v) (h : TU P Z N ((d, v) :: L) M0 M ops m f (listed.setIfInBounds i true) Q)
    (hB : (tailB m ops && Region.noSelect ops && (Region.ready .any ops listed).contains i && Region.free .any ops listed i && decide (i < m)) = true) (hdc : dclB ops listed = true)
    (ho : ops[i]? = some o := by rfl) (hg : o.guard = none := by rfl) (hd : o.dst = some d := by rfl) (hN : d < N := by decide) : TU P Z N L M0 M ops m (f + 1) listed Q := fun a w hf hm => by
  simp only [Bool.and_eq_true, decide_eq_true_eq] at hB
  obtain ⟨⟨⟨⟨h1, h2⟩, h3⟩, h4⟩, h5⟩ := hB
  refine up_first (fun _ _ hd hb => hd.ext hb) h1 (Region.noSelect_spec h2) ho h5 f listed a w (dclB_spec hdc) (Region.free_spec ho h4) (by simpa using h3) (.inl ⟨wanted_none hg _, fun w hw => hq a hf w hw⟩) (h _ _ (by rw [hd]; exact hf.put hN _) hm)

def chainB (ops : Array Oper) : Nat → Nat → Array Bool → Bool
  | 0, _, listed => (Region.ready .any ops listed).isEmpty
  | n + 1, k, listed => (Region.ready .any ops listed) == [k] && chainB ops n (k + 1) (listed.setIfInBounds k true)

theorem wpAny_chain {ro : Option Nat} : ∀ (l : List Oper) (k : Nat) (listed : Array Bool) (a : Act) (w : World), (∀ j, j < l.length → l[j]? = ops[k + j]?) → chainB ops l.length k listed = true → wpListIn (FW ro) 0 P ops Q l a w → wpAnyIn (FW ro) 0 P .any ops Q l.length listed a w
  | [], k, listed, a, w, _, hB, h => ⟨by simpa [chainB] using hB, h⟩
  | o :: l, k, listed, a, w, hl, hB, h => by
    have h0 : ops[k]? = some o := by have := (hl 0 (by simp)).symm; simpa using this
    simp only [List.length_cons, chainB, Bool.and_eq_true, beq_iff_eq] at hB
    have hl' : ∀ j, j < l.length → l[j]? = ops[k + 1 + j]? := fun j hj => by
      have := hl (j + 1) (by simpa using hj)
      simpa [Nat.add_assoc, Nat.add_comm 1 j] using this
    refine ⟨fun h' => (by rw [hB.1] at h'; cases h'), fun i hi => ?_⟩
    rw [hB.1] at hi
    obtain rfl : i = k := by simpa using hi
    unfold wpListIn at h
    unfold wpOpIn
    simp only [h0]
    split
    · rename_i hw
      rw [if_pos hw] at h
      exact Oper.wpIn_mono (fun a w h => wpAny_chain l (i + 1) _ a w hl' hB.2 h) h
    · rename_i hw
      rw [if_neg hw] at h
      exact ⟨h.1, wpAny_chain l (i + 1) _ _ w hl' hB.2 h.2⟩

/-- the tail, in its one order -/
theorem tu_tail {m f : Nat} {listed : Array Bool} {l : List Oper} (hd : preDone m listed = true) (hf : l.length = f) (hl2 : ops.toList.drop m = l) (hB : chainB ops f m listed = true) (h : TL P Z N L M ops l Q) : TU P Z N L M0 M ops m f listed Q := by
  subst hf
  have hidx : ∀ j, j < l.length → l[j]? = ops[m + j]? := fun j hj => by
    rw [← hl2]
    simp
  cases hl' : l.length with
  | zero =>
    intro a w hfr hm w' hw' hD
    refine ⟨hd, ?_⟩
    have := wpAny_chain (P := P) (Q := Q) l m listed a w' hidx hB (h a w' hfr (hm.ext hw'))
    rwa [hl'] at this
  | succ n =>
    intro a w hfr hm w' hw' hD
    rw [if_pos hd]
    have := wpAny_chain (P := P) (Q := Q) l m listed a w' hidx hB (h a w' hfr (hm.ext hw'))
    rwa [hl'] at this

/-- a new block -/
theorem tg_value {m f i : Nat} {listed : Array Bool} {o : Oper} {d : Nat} {val : Nat → Value} {obj : Obj} {B : World} {bs : List (Nat × Obj)} {ks : List Kp} {ms : List Nat} {rs : List (Option (Nat × Obj))} (ho : ops[i]? = some o) (hg : o.guard = none) (hd : o.dst = some d) (hN : d < N)
    (hr : ∀ a w, Fr Z N L a → Mem.holds ⟨B, bs, ks, ms, rs⟩ w → (execOp a.eval o).run P w = .ok (.value (val w.heap.size)) (w.alloc obj)) (hD : ∀ b w, Mem.holds ⟨B, (b, obj) :: bs, ks, ms, rs⟩ w → M0.holds w)
    (h : ∀ b, TU P Z N ((d, val b) :: L) M0 ⟨B, (b, obj) :: bs, ks, ms, rs⟩ ops m f (listed.setIfInBounds i true) Q) : TG P Z N L M0 ⟨B, bs, ks, ms, rs⟩ ops m f listed i Q := fun a w hf hm => by
  unfold gOp
  simp only [ho]
  rw [if_pos (wanted_none hg _), hr a w hf hm]
  have hm' := hm.alloc obj
  exact ⟨hD _ _ hm', h _ _ _ (by rw [hd]; exact hf.put hN _) hm'⟩

theorem tg_alloc {m f i : Nat} {listed : Array Bool} {d T : Nat} {ty : TypeId} {pos : String} {af : Array Edge} {cs : Array Value} {B : World} {bs : List (Nat × Obj)} {ks : List Kp} {ms : List Nat} {rs : List (Option (Nat × Obj))} (hz : Zero P T cs)
    (h : ∀ b, TU P Z N ((d, .pointer (some ⟨b, 0, none⟩)) :: L) M0 ⟨B, (b, .cells cs T (0, 0)) :: bs, ks, ms, rs⟩ ops m f (listed.setIfInBounds i true) Q)
    (hD : ∀ b w, Mem.holds ⟨B, (b, .cells cs T (0, 0)) :: bs, ks, ms, rs⟩ w → M0.holds w) (ho : ops[i]? = some ⟨some d, .alloc T, ty, pos, af, none⟩ := by rfl) (hN : d < N := by decide) : TG P Z N L M0 ⟨B, bs, ks, ms, rs⟩ ops m f listed i Q :=
  tg_value (val := fun b => .pointer (some ⟨b, 0, none⟩)) ho rfl rfl hN (fun a w hf hm => by
    obtain ⟨z, h1, h2⟩ := hz w
    subst h2
    simp [execOp, Instr.alloc, h1, newVar, newRow]) hD h

theorem tg_box {m f i : Nat} {listed : Array Bool} {d T : Nat} {ty : TypeId} {pos : String} {af : Array Edge} {x : Operand} {v : Value} {B : World} {bs : List (Nat × Obj)} {ks : List Kp} {ms : List Nat} {rs : List (Option (Nat × Obj))}
    (h : ∀ b, TU P Z N ((d, .pointer (some ⟨b, 0, none⟩)) :: L) M0 ⟨B, (b, .cells v.cells T (0, 0)) :: bs, ks, ms, rs⟩ ops m f (listed.setIfInBounds i true) Q)
    (hD : ∀ b w, Mem.holds ⟨B, (b, .cells v.cells T (0, 0)) :: bs, ks, ms, rs⟩ w → M0.holds w) (ho : ops[i]? = some ⟨some d, .box T x, ty, pos, af, none⟩ := by rfl) (hx : ev L x = some v := by rfl) (hN : d < N := by decide) : TG P Z N L M0 ⟨B, bs, ks, ms, rs⟩ ops m f listed i Q :=
  tg_value (val := fun b => .pointer (some ⟨b, 0, none⟩)) ho rfl rfl hN (fun a w hf hm => by
    simp [execOp, hf.eval hx, Instr.box, newVar, newRow]) hD h

/-- a call that hands back something new -/
theorem tg_callR {β : Type} {B : World} {bs : List (Nat × Obj)} {ks : List Kp} {ms : List Nat} {rs : List (Option (Nat × Obj))} {val : β → Value} {R : β → World → World → Prop} {m fu i : Nat} {listed : Array Bool} {d : Nat} {ty : TypeId} {pos : String} {af : Array Edge} {f : FuncId} {args : Array Operand} {at' : Array TypeId} {vs : List Value} (hF : IsFn P f)
    (hC : ∀ w, Mem.holds ⟨B, bs, ks, ms, rs⟩ w → Calls P f vs.toArray w fun e w' => ∃ r, e = .returned (val r) ∧ Below w.heap.size w w' ∧ R r w w')
    (h : ∀ r w1 w2, Mem.holds ⟨B, bs, ks, ms, rs⟩ w1 → Below w1.heap.size w1 w2 → R r w1 w2 → TU P Z N ((d, val r) :: L) M0 ⟨B, bs, Kin w2 w1.heap.size w2.heap.size :: ks, ms, rs⟩ ops m fu (listed.setIfInBounds i true) Q)
    (hD : ∀ w, Mem.holds ⟨B, bs, ks, ms, rs⟩ w → M0.holds w) (ho : ops[i]? = some ⟨some d, .call { callee := .value (.func f), args := args, argTypes := at' }, ty, pos, af, none⟩ := by rfl) (hvs : evs L args.toList = some vs := by rfl) (hN : d < N := by decide) : TG P Z N L M0 ⟨B, bs, ks, ms, rs⟩ ops m fu listed i Q := fun a w hf hm => by
  unfold gOp
  simp only [ho]
  rw [if_pos (wanted_none rfl _), run_call (caps := []) hf hF rfl hvs w]
  refine (show Calls P f (vs ++ []).toArray w _ by rw [List.append_nil]; exact hC w hm).mono ?_
  rintro e w' ⟨r, rfl, hb, hr⟩
  exact ⟨_, rfl, (hD w hm).ext hb, h r w w' hm hb hr _ _ (hf.put hN _) (hm.keep hb)⟩

/-- a quiet operation among those that may come up -/
theorem tg_q {m f i : Nat} {listed : Array Bool} {o : Oper} {d : Nat} {v : Value} (hq : Qv P Z N L M o v) (h : TU P Z N ((d, v) :: L) M0 M ops m f (listed.setIfInBounds i true) Q)
    (hD : ∀ w, M.holds w → M0.holds w) (ho : ops[i]? = some o := by rfl) (hg : o.guard = none := by rfl) (hd : o.dst = some d := by rfl) (hN : d < N := by decide) : TG P Z N L M0 M ops m f listed i Q := fun a w hf hm => by
  have hDu : ∀ w w', M.holds w → Below w.heap.size w w' → M.holds w' := fun _ _ h hb => h.ext hb
  exact YS.gOp hDu ho (.inl ⟨wanted_none hg _, fun w hw => hq a hf w hw⟩) hm fun w' hb hm' => ⟨hD _ hm', h _ _ (by rw [hd]; exact hf.put hN _) hm'⟩

theorem tu_2 {m f : Nat} {listed : Array Bool} (i1 i2 : Nat) (hr : Region.ready .any ops listed = [i1, i2]) (hd : preDone m listed = false) (hlt : ([i1, i2] : List Nat).all (· < m) = true) (hi1 : TG P Z N L M0 M ops m f listed i1 Q) (hi2 : TG P Z N L M0 M ops m f listed i2 Q) : TU P Z N L M0 M ops m (f + 1) listed Q :=
  tu_all [i1, i2] hr (by simp) hd hlt (by simpa using ⟨hi1, hi2⟩)
theorem tu_3 {m f : Nat} {listed : Array Bool} (i1 i2 i3 : Nat) (hr : Region.ready .any ops listed = [i1, i2, i3]) (hd : preDone m listed = false) (hlt : ([i1, i2, i3] : List Nat).all (· < m) = true) (hi1 : TG P Z N L M0 M ops m f listed i1 Q) (hi2 : TG P Z N L M0 M ops m f listed i2 Q) (hi3 : TG P Z N L M0 M ops m f listed i3 Q) : TU P Z N L M0 M ops m (f + 1) listed Q :=
  tu_all [i1, i2, i3] hr (by simp) hd hlt (by simpa using ⟨hi1, hi2, hi3⟩)
theorem hD_drop {B : World} {bs bs' : List (Nat × Obj)} {ks ks' : List Kp} {ms : List Nat} {rs : List (Option (Nat × Obj))} (h1 : bs'.drop (bs'.length - bs.length) = bs) (h2 : ks'.drop (ks'.length - ks.length) = ks) (w : World) (h : Mem.holds ⟨B, bs', ks', ms, rs⟩ w) : Mem.holds ⟨B, bs, ks, ms, rs⟩ w :=
  h.less (h1 ▸ List.drop_sublist _ _) (h2 ▸ List.drop_sublist _ _)

/-! ### in stages: quiet operations up to a cut, then some that go in the order of the text, and so on -/
def fst (n k : Nat) : Array Bool := lexDone k 0 (Array.replicate n false)
/-- the first k operations have come up; from here on in every order -/
def TA (P : Program) (Z : Env) (N : Nat) (L : List (Nat × Value)) (M : Mem) (ops : Array Oper) (k : Nat) (Q : Exit → Act → World → Prop) : Prop :=
  ∀ a w, Fr Z N L a → M.holds w → wpAnyIn (FW Z.ro) 0 P .any ops Q (ops.size - k) (fst ops.size k) a w

theorem tc_any {id : Nat} {ops : Array Oper} (hm : P.follows .mixedOrders = true) (h : TA P Z N L M ops 0 Q) : TC P Z N L M (.region id ops true) Q := fun a w hf hM =>
  wpIn_region_any hm (by have := h a { w with drawn := w.drawn + 1 } hf (hM.ext (below_drew' w)); simpa [fst, lexDone] using this)

def stageB (ops : Array Oper) (k m : Nat) : Bool := tailB m ops && Region.noSelect ops && dclB ops (fst ops.size k) && lexPre ops (m - k) k (fst ops.size k) && decide (k ≤ m) && decide (m ≤ ops.size) && preDone m (fst ops.size m)

theorem lexDone_add : ∀ (p k : Nat) (listed : Array Bool) (q : Nat), lexDone (p + q) k listed = lexDone q (k + p) (lexDone p k listed)
  | 0, k, listed, q => by simp [lexDone]
  | p + 1, k, listed, q => by
    rw [Nat.add_right_comm, lexDone, lexDone, lexDone_add p (k + 1), Nat.add_assoc, Nat.add_comm 1 p]

/-- the quiet operations k to m - 1 -/
theorem ta_lex {k : Nat} (m : Nat) (hB : stageB ops k m = true) (h : TQ P Z N L M ops ((ops.toList.drop k).take (m - k)) (fun a => ∀ w, M.holds w → wpAnyIn (FW Z.ro) 0 P .any ops Q (ops.size - m) (fst ops.size m) a w)) : TA P Z N L M ops k Q := fun a w hf hM => by
  simp only [stageB, Bool.and_eq_true, decide_eq_true_eq] at hB
  obtain ⟨⟨⟨⟨⟨⟨h1, h2⟩, h3⟩, h4⟩, h5⟩, h6⟩, h7⟩ := hB
  have hlen : ((ops.toList.drop k).take (m - k)).length = m - k := by simp; omega
  have hfst : lexDone (m - k) k (fst ops.size k) = fst ops.size m := by
    have := lexDone_add k 0 (Array.replicate ops.size false) (m - k)
    rw [Nat.add_sub_cancel' h5, Nat.zero_add] at this
    exact this.symm
  have := up_lex (P := P) (Q := Q) (M0 := M) h1 h2 (ops.size - m) ((ops.toList.drop k).take (m - k)) k (fst ops.size k) a w (dclB_spec h3) (fun j hj => by
      rw [hlen] at hj
      rw [List.getElem?_take_of_lt hj, List.getElem?_drop, Array.getElem?_toList]) (by rw [hlen]; omega) (by rw [hlen]; exact h4)
    (by
      rw [hlen, hfst]
      refine (h a hf).mono fun a' hk => ?_
      cases hn : ops.size - m with
      | zero => rw [hn] at hk; exact fun w' hb hD => ⟨h7, hk w' hD⟩
      | succ f =>
        rw [hn] at hk
        intro w' hb hD
        rw [if_pos h7]
        exact hk w' hD)
  rw [hlen] at this
  have e : ops.size - m + (m - k) = ops.size - k := by omega
  rw [e] at this
  exact this.any hM

theorem tq_any {m : Nat} (h : TA P Z N L M ops m Q) : TQ P Z N L M ops [] (fun a => ∀ w, M.holds w → wpAnyIn (FW Z.ro) 0 P .any ops Q (ops.size - m) (fst ops.size m) a w) :=
  fun a hf w hm => h a w hf hm

/-- what goes on behind operation k - 1 -/
def AnyK (P : Program) (ro : Option Nat) (ops : Array Oper) (k : Nat) (Q : Exit → Act → World → Prop) : Exit → Act → World → Prop :=
  Exit.then (fun a w => wpAnyIn (FW ro) 0 P .any ops Q (ops.size - k) (fst ops.size k) a w) Q

/-- operation k alone can come up -/
theorem ta_op {k : Nat} {o : Oper} (h : TL P Z N L M ops [o] (AnyK P Z.ro ops (k + 1) Q)) (hB : ((Region.ready .any ops (fst ops.size k)) == [k]) = true) (ho : ops[k]? = some o := by rfl) : TA P Z N L M ops k Q := fun a w hf hM => by
  have hk : k < ops.size := (Array.getElem?_eq_some_iff.1 ho).1
  have e : ops.size - k = (ops.size - (k + 1)) + 1 := by omega
  rw [e]
  have hB' := beq_iff_eq.1 hB
  have hset : (fst ops.size k).setIfInBounds k true = fst ops.size (k + 1) := by
    have := lexDone_add k 0 (Array.replicate ops.size false) 1
    rw [Nat.zero_add] at this
    exact this.symm
  refine ⟨fun h' => (by rw [hB'] at h'; cases h'), fun i hi => ?_⟩
  rw [hB'] at hi
  obtain rfl : i = k := by simpa using hi
  have h1 := h a w hf hM
  rw [hset]
  unfold wpListIn at h1
  unfold wpOpIn
  simp only [ho]
  split
  · rename_i hw
    rw [if_pos hw] at h1
    have h2 := h1.2
    refine ⟨h1.1, ?_⟩
    generalize (o.semAt (FW Z.ro).round a.eval).run P w = r at h2 ⊢
    cases r with
    | ok n w' =>
      cases n <;> simp only [Oper.uponIn] at h2 ⊢ <;>
        first
          | exact h2
          | exact ⟨h2.1, h2.2.mono fun e w'' he => by
              cases e <;> first | exact he | (obtain ⟨a', w', he⟩ := he; exact ⟨a', w', he⟩)⟩
    | halt x w' => cases x <;> simp only [Oper.uponIn] at h2 ⊢ <;> exact h2
  · rename_i hw
    rw [if_neg hw] at h1
    exact h1

theorem tp_any {k : Nat} (h : TA P Z N L M ops k Q) : TP Z N L M .normal (AnyK P Z.ro ops k Q) := h
theorem ta_nil {k : Nat} (hB : (Region.ready .any ops (fst ops.size k)).isEmpty = true) (h : TP Z N L M .normal Q) : TA P Z N L M ops k Q := fun a w hf hM =>
  wpAnyIn_done (by simpa using hB) (h a w hf hM) _
end
end Go.Q
