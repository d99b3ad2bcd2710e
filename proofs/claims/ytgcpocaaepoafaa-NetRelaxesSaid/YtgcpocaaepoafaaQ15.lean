/- What an argument that reads as data holds: slices of structs, slices of slices, as lists. -/
import Derived.Test.YtgcpocaaepoafaaQ14
import Derived.OpenShut
import Derived.WideShapes
import Derived.ChangeArms
set_option linter.unusedVariables false
set_option linter.unusedSimpArgs false
set_option linter.unusedSectionVars false
namespace Go.Q
open Go Go.RowKit Go.WideShapes

/-- the cells of type T that read as data are the cells of an x with ok -/
structure Opener (P : Program) (T n : Nat) {α : Type} (enc : α → List Value) (ok : World → α → Prop) : Prop where
  size : P.cellsOf T = n
  len : ∀ w x, ok w x → (enc x).length = n
  run : ∀ {H : Type} (e : TypeId × Value → H) (w : World) (base : Nat) (spare : Nat → Bool) (held : Bool) (fuel : Nat) (cs : List Value) (x : DataW H × List MemPlace), DataW.trod e P w base spare held fuel T cs = some x → ∃ a, cs = enc a ∧ ok w a

theorem exists_list {α : Type} {Q : Nat → α → Prop} : ∀ (n : Nat), (∀ i, i < n → ∃ a, Q i a) → ∃ l : List α, l.length = n ∧ ∀ i a, l[i]? = some a → Q i a
  | 0, _ => ⟨[], rfl, fun i a h => by simp at h⟩
  | n + 1, h => by
    obtain ⟨l, h1, h2⟩ := exists_list n (fun i hi => h i (by omega))
    obtain ⟨a, ha⟩ := h n (by omega)
    refine ⟨l ++ [a], by simp [h1], fun i b hb => ?_⟩
    rcases Nat.lt_or_ge i l.length with hi | hi
    · rw [List.getElem?_append_left hi] at hb; exact h2 i b hb
    · have hi' : i = n := by have := (List.getElem?_eq_some_iff.1 hb).1; simp at this; omega
      subst hi'
      rw [List.getElem?_append_right hi, h1] at hb
      simp at hb; subst hb; exact ha

variable {P : Program}
theorem addr_add {a : Addr} (hs : a.spot = none) (i j : Nat) : (a.add i).add j = ⟨a.block, a.off + i + j, none⟩ := by
  obtain ⟨b, o, s⟩ := a
  simp only at hs
  subst hs
  unfold Addr.add
  split <;> split <;> simp_all

theorem Opener.slice {T E n : Nat} {α : Type} {enc : α → List Value} {ok : World → α → Prop} (h : Opener P E n enc ok) (ht : P.underlying T = some (.slice E)) (hn : 0 < n)
    {H : Type} {e : TypeId × Value → H} {w : World} {base : Nat} {spare : Nat → Bool} {held : Bool} {fuel : Nat} {cs : List Value} {x : DataW H × List MemPlace} (hx : DataW.trod e P w base spare held fuel T cs = some x) :
    ∃ (a : Option Addr) (l : List α) (c : Nat), cs = [.slice a l.length c] ∧ SlIn w n enc a l ∧ (∀ y ∈ l, ok w y) ∧ l.length ≤ c := by
  rcases DataW.trod_slice ht hx with ⟨h1, _⟩ | ⟨a, len, cap, elems, rest, m, _, h1, _, _, h2, h3, h4, h5, _, _⟩
  · exact ⟨none, [], 0, h1, ⟨by simp, by simp, fun hn => absurd rfl hn, fun i j x v hx => by simp at hx⟩, by simp, by simp⟩
  · obtain ⟨l, h6, h7⟩ := exists_list (Q := fun i y => w.cells? base (a.add (i * n)) n = some (enc y) ∧ ok w y) len (fun i hi => by
      have h8 := h5 i hi
      rw [h.size, List.getElem?_eq_getElem (by omega)] at h8
      obtain ⟨cs', h9, h10⟩ := Option.bind_eq_some_iff.1 h8
      obtain ⟨y, rfl, hy⟩ := h.run e w base spare held m cs' _ h10
      exact ⟨y, h9, hy⟩)
    have hok : ∀ y ∈ l, ok w y := fun y hy => by
      obtain ⟨i, hi⟩ := List.getElem?_of_mem hy
      exact (h7 i y hi).2
    have hspot : l ≠ [] → a.spot = none ∧ a.block < w.heap.size := fun hne => by
      cases l with
      | nil => exact absurd rfl hne
      | cons y l =>
        have h8 := (h7 0 y (by simp)).1
        have h9 := (World.cells?_some h8).2.2 0 hn
        have hl := h.len w y (hok y (by simp))
        rw [List.getElem?_eq_getElem (by omega)] at h9
        have e1 : (a.add (0 * n)).add 0 = a := by simp [Addr.add]
        rw [e1] at h9
        refine ⟨World.cell?_spot h9, ?_⟩
        rcases Nat.lt_or_ge a.block w.heap.size with hlt | hge
        · exact hlt
        · simp [World.cell?, Array.getElem?_eq_none hge] at h9
    refine ⟨some a, l, cap, by rw [h1, h6], ⟨by omega, fun y hy => h.len w y (hok y hy), fun hne => ?_, fun i j y v hy hv => ?_⟩, hok, by omega⟩
    · obtain ⟨h8, h9⟩ := hspot hne
      refine ⟨?_, Nat.zero_le _, h9⟩
      obtain ⟨b, o, s⟩ := a
      simp only at h8
      subst h8
      rfl
    · have hne : l ≠ [] := fun h0 => by rw [h0] at hy; simp at hy
      have h8 := (World.cells?_some (h7 i y hy).1).2.2 j (by
        have := (List.getElem?_eq_some_iff.1 hv).1
        rwa [h.len w y (hok y (List.mem_of_getElem? hy))] at this)
      rw [addr_add (hspot hne).1, hv] at h8
      exact h8

theorem Opener.int {T : Nat} {k : IntKind} (ht : P.underlying T = some (.int k)) (hc : P.cellsOf T = 1) : Opener P T 1 (fun i : Int => [.int k i]) (fun _ i => (Lit.int k i).wf = true) where
  size := hc
  len := fun _ _ _ => rfl
  run := fun e w base spare held fuel cs x hx => by
    obtain ⟨n, h1, _, h2⟩ := DataW.trod_int ht hx
    exact ⟨n, h1, h2⟩

theorem parts_join {α : Type} : ∀ (n sz : Nat) (cs : List α), cs.length = n * sz → cs = (List.range n).flatMap (fun i => (cs.drop (i * sz)).take sz)
  | 0, sz, cs, h => by simp at h; simp [h]
  | n + 1, sz, cs, h => by
    rw [List.range_succ_eq_map, List.flatMap_cons, List.flatMap_map]
    have h1 : (cs.drop sz).length = n * sz := by rw [List.length_drop, h, Nat.succ_mul]; omega
    have h2 := parts_join n sz (cs.drop sz) h1
    have h3 : (List.range n).flatMap (fun i => ((cs.drop sz).drop (i * sz)).take sz) = (List.range n).flatMap (fun i => (cs.drop ((i + 1) * sz)).take sz) := by
      congr 1
      funext i
      rw [List.drop_drop, Nat.succ_mul, Nat.add_comm]
    rw [h3] at h2
    have h4 : cs = cs.take sz ++ cs.drop sz := (List.take_append_drop _ _).symm
    conv => lhs; rw [h4, h2]
    simp
theorem flatMap_cong {α β : Type} {f g : α → List β} : ∀ {l : List α}, (∀ x ∈ l, f x = g x) → l.flatMap f = l.flatMap g
  | [], _ => rfl
  | x :: l, h => by rw [List.flatMap_cons, List.flatMap_cons, h x (by simp), flatMap_cong fun y hy => h y (List.mem_cons_of_mem _ hy)]
theorem Opener.array {T E m n : Nat} {α : Type} {enc : α → List Value} {ok : World → α → Prop} (h : Opener P E n enc ok) (ht : P.underlying T = some (.array m E)) (hc : P.cellsOf T = m * n) : Opener P T (m * n) (fun l : List α => l.flatMap enc) (fun w l => l.length = m ∧ ∀ y ∈ l, ok w y) where
  size := hc
  len := fun w l hl => by
    have : ∀ (l : List α), (∀ y ∈ l, ok w y) → (l.flatMap enc).length = l.length * n := by
      intro l
      induction l with
      | nil => intro _; simp
      | cons y l ih => intro hy; rw [List.flatMap_cons, List.length_append, h.len w y (hy y (by simp)), ih (fun z hz => hy z (List.mem_cons_of_mem _ hz)), List.length_cons, Nat.succ_mul, Nat.add_comm]
    rw [this l hl.2, hl.1]
  run := fun e w base spare held fuel cs x hx => by
    obtain ⟨xs, n', _, _, h1, h2, h3⟩ := DataW.trod_array ht hx
    obtain ⟨l, h4, h5⟩ := exists_list (Q := fun i y => (cs.drop (i * n)).take n = enc y ∧ ok w y) m (fun i hi => by
      have h6 := h3 i hi
      rw [h.size, List.getElem?_eq_getElem (by omega)] at h6
      obtain ⟨y, h7, h8⟩ := h.run e w base spare held n' _ _ h6
      exact ⟨y, h7, h8⟩)
    have h6 := parts_join m n cs (by rw [h1, hc])
    refine ⟨l, ?_, h4, fun y hy => by obtain ⟨i, hi⟩ := List.getElem?_of_mem hy; exact (h5 i y hi).2⟩
    rw [h6]
    have h7 : (List.range m).flatMap (fun i => (cs.drop (i * n)).take n) = (List.range m).flatMap (fun i => match l[i]? with | some y => enc y | none => []) := by
      refine flatMap_cong fun i hi => ?_
      have hi' : i < l.length := by rw [h4]; simpa using hi
      rw [List.getElem?_eq_getElem hi']
      exact (h5 i _ (List.getElem?_eq_getElem hi')).1
    rw [h7, ← h4]
    clear h7 h6 h5 h4
    induction l with
    | nil => rfl
    | cons y l ih =>
      rw [List.length_cons, List.range_succ_eq_map, List.flatMap_cons, List.flatMap_map, List.flatMap_cons]
      simpa using ih

/-- the cells of one field of a struct -/
theorem Opener.field {T F n : Nat} {α : Type} {enc : α → List Value} {ok : World → α → Prop} (h : Opener P F n enc ok) {fs : Array Field} (ht : P.underlying T = some (.struct fs)) {H : Type} {e : TypeId × Value → H} {w : World} {base : Nat} {spare : Nat → Bool} {held : Bool} {fuel : Nat} {cs : List Value} {x : DataW H × List MemPlace}
    (hx : DataW.trod e P w base spare held fuel T cs = some x) (i : Nat) {f : Field} (hf : fs[i]? = some f) (hF : f.type = F) : cs.length = P.cellsOf T ∧ ∃ a, (cs.drop f.offset).take n = enc a ∧ ok w a := by
  obtain ⟨xs, n', _, _, h1, h2, h3⟩ := DataW.trod_struct ht hx
  have h4 := h3 i f hf
  have hi : i < xs.length := by rw [h2]; exact (Array.getElem?_eq_some_iff.1 hf).1
  rw [hF, h.size, List.getElem?_eq_getElem hi] at h4
  exact ⟨h1, h.run e w base spare held n' _ _ h4⟩

section
variable {Z : Env} {N : Nat} {L : List (Nat × Value)} {M : Mem} {d : Option Tmp} {x y : Operand} {T T' ty : TypeId} {pos : String} {af : Array Edge} {g : Option (Nat × Bool)}
theorem qv_eqSelf {k : IntKind} {i : Int} (hx : ev L x = some (.int k i)) (hy : ev L y = some (.int k i)) : Qv P Z N L M ⟨d, .binOp .eql T x y T', ty, pos, af, g⟩ (.bool true) := by
  have h := qv_eql (P := P) (Z := Z) (N := N) (L := L) (M := M) (d := d) (T := T) (T' := T') (ty := ty) (pos := pos) (af := af) (g := g) hx hy
  simpa using h
theorem qv_neSelf {k : IntKind} {i : Int} (hx : ev L x = some (.int k i)) (hy : ev L y = some (.int k i)) : Qv P Z N L M ⟨d, .binOp .neq T x y T', ty, pos, af, g⟩ (.bool false) := by
  have h := qv_neq (P := P) (Z := Z) (N := N) (L := L) (M := M) (d := d) (T := T) (T' := T') (ty := ty) (pos := pos) (af := af) (g := g) hx hy
  simpa using h
end
end Go.Q
