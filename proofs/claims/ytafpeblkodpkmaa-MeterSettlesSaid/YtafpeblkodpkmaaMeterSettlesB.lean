/- A part of the proof: see the last text. -/
import GoSem.Core.Value
import Derived.WalkKit
import Derived.Deep.Quiet
import Derived.KernelRfl
import Derived.RangeFuncNested
import Derived.RangeFuncCalls
import Derived.OrdersIn
import Derived.TacticsIn
import Derived.Maps.AppendAt
import Derived.OwnWalkIn
import Derived.Maps.RangeRun
import Derived.Laws.StructEq
import Derived.Shelf.SlSortCmp.InsertionK
import Derived.Sort.OwnSortedInts
import Derived.OpenShut
import Derived.WideShapes
import Derived.ChangeArms
import Derived.ChangeKeysEq
import Derived.Sort.Grow
import Derived.Deep.Draws
import Derived.Test.YtafpeblkodpkmaaProg
import Derived.Laws.MakeOwn
import Derived.Lib.BufferMore
import Derived.Shelf.SlSortCmp.NoneTotal
import Derived.Shelf.Small.Bits
import Derived.Test.YtafpeblkodpkmaaShelf
import Derived.Test.YtafpeblkodpkmaaMeterSettlesA
set_option linter.unusedVariables false
set_option linter.unusedSimpArgs false
set_option linter.unusedSectionVars false
namespace Go.Q
open Go
structure Tariff where
  keep : Int
  read : Int
  audit : Int
structure Use where
  kind : Int
  house : Int
  customer : Int
  bytes : Int
  since : Int
  till : Int
  count : Int
  sends : Hd
structure Rest where
  customer : Int
  house : Int
  kind : Int
  milli : Int
structure Posting where
  debit : Int
  credit : Int
  amount : Int
  tick : Int
  why : Int
  ref : Int
def encTar (t : Tariff) : List Value := [.int .i64 t.keep, .int .i64 t.read, .int .i64 t.audit]
def encUse (u : Use) : List Value := [.int .i64 u.kind, .int .i64 u.house, .int .i64 u.customer, .int .i64 u.bytes, .int .i64 u.since, .int .i64 u.till, .int .i64 u.count, .slice u.sends.a u.sends.l.length u.sends.c]
def encRest (r : Rest) : List Value := [.int .i64 r.customer, .int .i64 r.house, .int .i64 r.kind, .int .i64 r.milli]
def encPost (p : Posting) : List Value := [.int .i64 p.debit, .int .i64 p.credit, .int .i64 p.amount, .int .i64 p.tick, .int .i64 p.why, .int .i64 p.ref]
def inTo (n m : Int) : Prop := 0 ≤ n ∧ n ≤ m
instance (n m : Int) : Decidable (inTo n m) := by unfold inTo; infer_instance
def tarBad (t : Tariff) : Prop := ¬ inTo t.keep 1000 ∨ ¬ inTo t.read 1000 ∨ ¬ inTo t.audit 1000
instance (t : Tariff) : Decidable (tarBad t) := by unfold tarBad; infer_instance
def partyIs (t : List Tariff) (kind house customer : Int) : Prop := 1 ≤ kind ∧ kind ≤ 5 ∧ 0 ≤ house ∧ house < t.length ∧ 0 ≤ customer ∧ customer < 28
instance (t : List Tariff) (kind house customer : Int) : Decidable (partyIs t kind house customer) := by unfold partyIs; infer_instance
def useBad (u : Use) : Prop := (u.kind = 1 ∧ (¬ inTo u.bytes 16777216 ∨ ¬ inTo u.till 1000000 ∨ ¬ inTo u.since u.till)) ∨ ((u.kind = 3 ∨ u.kind = 4) ∧ ¬ inTo u.count 16777216) ∨ (u.kind = 5 ∧ ¬ inTo u.count 1073741824)
instance (u : Use) : Decidable (useBad u) := by unfold useBad; infer_instance
def useErr (t : List Tariff) (u : Use) : Int := if ¬ partyIs t u.kind u.house u.customer then 1 else if useBad u then 3 else 0
def useErrs (t : List Tariff) : List Use → Int
  | [] => 0
  | u :: r => if useErr t u = 0 then useErrs t r else useErr t u
def tarErrs : List Tariff → Int
  | [] => 0
  | x :: r => if tarBad x then 3 else tarErrs r
def meterCheck (t : List Tariff) (l : List Use) : Int := if 12 < t.length then 2 else if tarErrs t ≠ 0 then tarErrs t else if 200 < l.length then 2 else useErrs t l
theorem tarErrs_at {t : List Tariff} {k : Nat} {x : Tariff} (h : t[k]? = some x) : tarErrs (t.drop k) = if tarBad x then 3 else tarErrs (t.drop (k + 1)) := by rw [drop_of h, tarErrs]
theorem useErrs_at {t : List Tariff} {l : List Use} {k : Nat} {u : Use} (h : l[k]? = some u) : useErrs t (l.drop k) = if useErr t u = 0 then useErrs t (l.drop (k + 1)) else useErr t u := by rw [drop_of h, useErrs]
theorem tarErrs_zero : ∀ {t : List Tariff}, tarErrs t = 0 → ∀ x ∈ t, ¬ tarBad x
  | [], _, x, hx => by simp at hx
  | y :: r, h, x, hx => by
    rw [tarErrs] at h
    split at h
    · simp at h
    · rename_i hn
      rcases List.mem_cons.1 hx with rfl | hx
      · exact hn
      · exact tarErrs_zero h x hx
theorem useErrs_zero {t : List Tariff} : ∀ {l : List Use}, useErrs t l = 0 → ∀ u ∈ l, useErr t u = 0
  | [], _, x, hx => by simp at hx
  | y :: r, h, x, hx => by
    rw [useErrs] at h
    split at h
    · rename_i h0
      rcases List.mem_cons.1 hx with rfl | hx
      · exact h0
      · exact useErrs_zero h x hx
    · rename_i h0; exact absurd h h0
theorem useErr_zero {t : List Tariff} {u : Use} (h : useErr t u = 0) : partyIs t u.kind u.house u.customer ∧ ¬ useBad u := by
  unfold useErr at h
  split at h
  · simp at h
  · rename_i h1
    split at h
    · simp at h
    · rename_i h2; exact ⟨Classical.not_not.1 h1, h2⟩
structure Metered (t : List Tariff) (l : List Use) : Prop where
  tl : t.length ≤ 12
  tar : ∀ x ∈ t, ¬ tarBad x
  ll : l.length ≤ 200
  use : ∀ u ∈ l, partyIs t u.kind u.house u.customer ∧ ¬ useBad u
theorem meterCheck_zero {t : List Tariff} {l : List Use} (h : meterCheck t l = 0) : Metered t l := by
  unfold meterCheck at h
  split at h
  · simp at h
  · split at h
    · contradiction
    · rename_i h2
      split at h
      · simp at h
      · exact ⟨by omega, tarErrs_zero (by omega), by omega, fun u hu => useErr_zero (useErrs_zero h u hu)⟩
def tarOf (t : List Tariff) (house : Int) : Tariff := match t[house.toNat]? with | some x => x | none => ⟨0, 0, 0⟩
theorem tarOf_eq {t : List Tariff} {house : Int} {x : Tariff} (h : t[house.toNat]? = some x) : tarOf t house = x := by unfold tarOf; rw [h]
def charge (t : List Tariff) (n : Net) (u : Use) : Int × Int :=
  if meterCheck t [u] ≠ 0 then (0, meterCheck t [u])
  else if u.kind = 3 then (u.count * (tarOf t u.house).read, 0)
  else if u.kind = 4 then (u.count * (tarOf t u.house).audit, 0)
  else if u.kind = 5 then (u.count * 1000, 0)
  else if u.kind = 1 then (u.bytes * (u.till - u.since) * (tarOf t u.house).keep, 0)
  else if fits n u.sends.l ≠ 0 then (0, fits n u.sends.l)
  else if 1099511627776 < (cost n u.sends.l).1 then (0, 2)
  else (1000 * (cost n u.sends.l).1, 0)
end Go.Q
namespace Go.Q
open Go Go.RowKit
theorem eqFields_ints {P : Program} {I : TypeId} {d : Nat} (hI : P.underlying I = some (.int .i64)) (ha : ∀ w, (isAgg I).run P w = .ok false w) (a b : List Int) (w : World) : ∀ (fs : List Field) (k : Nat), fs.map (fun f => (f.name == "_", f.type, f.offset)) = (List.range' k fs.length).map (fun i => (false, I, i)) → a.length = k + fs.length → b.length = k + fs.length →
    (Op.eqFields (d + 1) (a.map (Value.int .i64)).toArray (b.map (Value.int .i64)).toArray fs).run P w = .ok (decide (a.drop k = b.drop k)) w
  | [], k, _, h1, h2 => by
    rw [List.drop_eq_nil_of_le (by simp at h1; omega), List.drop_eq_nil_of_le (by simp at h2; omega)]
    simp [Op.eqFields]
  | f :: fs, k, h, h1, h2 => by
    simp only [List.map_cons, List.length_cons, List.range'_succ, List.cons.injEq, Prod.mk.injEq] at h h1 h2
    obtain ⟨⟨n0, t0, o0⟩, hr⟩ := h
    have hn : f.name ≠ "_" := by simpa using n0
    have ka : k < a.length := by omega
    have kb : k < b.length := by omega
    have pa : (part I (a.map (Value.int .i64)).toArray f.offset).run P w = .ok (.int .i64 a[k]) w := by
      simp [part, o0, ha, ka]
    have pb : (part I (b.map (Value.int .i64)).toArray f.offset).run P w = .ok (.int .i64 b[k]) w := by
      simp [part, o0, ha, kb]
    have ih := eqFields_ints (d := d) hI ha a b w fs (k + 1) hr (by omega) (by omega)
    have ea : a.drop k = a[k] :: a.drop (k + 1) := List.drop_eq_getElem_cons ka
    have eb : b.drop k = b[k] :: b.drop (k + 1) := List.drop_eq_getElem_cons kb
    unfold Op.eqFields
    rw [if_pos hn]
    simp only [Sem.run_bind, pa, pb, Result.andThen_ok, t0, run_equalIn_int w d I .i64 .i64 _ _ hI]
    by_cases he : a[k] = b[k]
    · simp only [he, beq_self_eq_true, Bool.not_true, Bool.false_eq_true, if_false, ih, ea, eb, List.cons.injEq, true_and]
    · have : (a[k] == b[k]) = false := by simpa using he
      have e2 : decide (a.drop k = b.drop k) = false := decide_eq_false (fun e => by rw [ea, eb] at e; exact he (List.cons.inj e).1)
      simp only [this, Bool.not_false, if_true, Sem.run_pure, e2]
theorem eqStructN {P : Program} {T I : TypeId} {a b : List Int} {n : Nat} (hu : P.underlying T = some (.struct (P.fieldsOf T))) (hp : P.stoodInHeld T = false) (hI : P.underlying I = some (.int .i64)) (ha : ∀ w, (isAgg I).run P w = .ok false w) (hf : fieldSig P T = (List.range' 0 n).map (fun i => (false, I, i))) (h1 : a.length = n) (h2 : b.length = n) (w : World) :
    (Op.equal T (.agg (a.map (Value.int .i64)).toArray) (.agg (b.map (Value.int .i64)).toArray)).run P w = .ok (decide (a = b)) w := by
  have hl : (P.fieldsOf T).toList.length = n := by
    have := congrArg List.length hf
    simpa [fieldSig] using this
  simp only [Op.equal, Op.maxDepth]
  rw [run_equalIn_agg w 9999 T _ _ hu hp]
  have := eqFields_ints (P := P) (I := I) (d := 9998) hI ha a b w (P.fieldsOf T).toList 0 (by unfold fieldSig at hf; rw [hf, hl]) (by omega) (by omega)
  simpa using this
def intsP (p : Posting) : List Int := [p.debit, p.credit, p.amount, p.tick, p.why, p.ref]
def intsR (r : Rest) : List Int := [r.customer, r.house, r.kind, r.milli]
theorem intsP_inj {x y : Posting} : intsP x = intsP y ↔ x = y := by cases x; cases y; simp [intsP]
theorem intsR_inj {x y : Rest} : intsR x = intsR y ↔ x = y := by cases x; cases y; simp [intsR]
instance : DecidableEq Posting := fun _ _ => decidable_of_iff _ intsP_inj
instance : DecidableEq Rest := fun _ _ => decidable_of_iff _ intsR_inj
section
variable {P : Program} {Z : Env} {N : Nat} {L : List (Nat × Value)} {M : Mem} {d : Option Tmp} {T T' ty I : TypeId} {pos : String} {af : Array Edge} {g : Option (Nat × Bool)} {a b : Operand}
theorem qv_neInts {xs ys : List Int} {n : Nat} {p : Prop} [Decidable p] (hg : P.eqGuardType P.depth T = false) (hu : P.underlying T = some (.struct (P.fieldsOf T))) (hp : P.stoodInHeld T = false) (hI : P.underlying I = some (.int .i64)) (ha : ∀ w, (isAgg I).run P w = .ok false w) (hf : fieldSig P T = (List.range' 0 n).map (fun i => (false, I, i)))
    (h1 : xs.length = n) (h2 : ys.length = n) (hq : p ↔ ¬ xs = ys) (hx : ev L a = some (.agg (xs.map (Value.int .i64)).toArray)) (hy : ev L b = some (.agg (ys.map (Value.int .i64)).toArray)) : Qv P Z N L M ⟨d, .binOp .neq T a b T', ty, pos, af, g⟩ (.bool (decide p)) := by
  have h := qv_aggNe (P := P) (Z := Z) (N := N) (L := L) (M := M) (d := d) (T' := T') (ty := ty) (pos := pos) (af := af) (g := g) (T := T) hg hx hy (fun w => eqStructN hu hp hI ha hf h1 h2 w)
  rwa [show (!decide (xs = ys)) = decide p by rw [← decide_not]; exact decide_eq_decide.2 hq.symm] at h
end
end Go.Q
namespace Go.Q
open Go
theorem isum_add {α : Type} (f g : α → Int) : ∀ (l : List α), isum (fun x => f x + g x) l = isum f l + isum g l
  | [] => rfl
  | x :: l => by simp only [isum, isum_add f g l]; omega
theorem isum_sub {α : Type} (f g : α → Int) : ∀ (l : List α), isum (fun x => f x - g x) l = isum f l - isum g l
  | [] => rfl
  | x :: l => by simp only [isum, isum_sub f g l]; omega
theorem isum_congr {α : Type} {f g : α → Int} : ∀ {l : List α}, (∀ x ∈ l, f x = g x) → isum f l = isum g l
  | [], _ => rfl
  | x :: l, h => by rw [isum, isum, h x (by simp), isum_congr fun y hy => h y (List.mem_cons_of_mem _ hy)]
end Go.Q
namespace Go.Q
open Go
abbrev K3 := Int × Int × Int
def before3 (a b : K3) : Prop := a.1 < b.1 ∨ (a.1 = b.1 ∧ (a.2.1 < b.2.1 ∨ (a.2.1 = b.2.1 ∧ a.2.2 < b.2.2)))
instance (a b : K3) : Decidable (before3 a b) := by unfold before3; infer_instance
theorem before3_trans {a b c : K3} (h : before3 a b) (h' : before3 b c) : before3 a c := by unfold before3 at *; omega
theorem before3_irr (a : K3) : ¬ before3 a a := by unfold before3; omega
theorem before3_tri {a b : K3} (h : ¬ before3 a b) (h' : ¬ before3 b a) : a = b := by
  obtain ⟨a1, a2, a3⟩ := a
  obtain ⟨b1, b2, b3⟩ := b
  simp only [before3] at *
  have e1 : a1 = b1 := by omega
  have e2 : a2 = b2 := by omega
  have e3 : a3 = b3 := by omega
  rw [e1, e2, e3]
theorem filterMap_sub {β : Type} {f : K3 → Option β} : ∀ {b a : List K3}, a.Pairwise before3 → b.Pairwise before3 → (∀ x ∈ a, x ∈ b) → (∀ x ∈ b, x ∉ a → f x = none) → a.filterMap f = b.filterMap f := by
  intro b
  induction b with
  | nil =>
    intro a _ _ h _
    cases a with
    | nil => rfl
    | cons x a => exact absurd (h x (by simp)) (by simp)
  | cons y b ih =>
    intro a ha hb h hn
    obtain ⟨b1, b2⟩ := List.pairwise_cons.1 hb
    by_cases hy : y ∈ a
    · cases a with
      | nil => simp at hy
      | cons x a =>
        obtain ⟨a1, a2⟩ := List.pairwise_cons.1 ha
        have hxy : x = y := by
          rcases List.mem_cons.1 hy with e | hy
          · exact e.symm
          · rcases List.mem_cons.1 (h x (by simp)) with e | hx
            · exact e
            · exact absurd (before3_trans (a1 y hy) (b1 x hx)) (before3_irr x)
        subst hxy
        have e := ih (a := a) a2 b2 (fun z hz => by
          rcases List.mem_cons.1 (h z (List.mem_cons_of_mem _ hz)) with e | hz'
          · subst e; exact absurd (a1 z hz) (before3_irr z)
          · exact hz') (fun z hz hza => hn z (List.mem_cons_of_mem _ hz) (fun hc => by
            rcases List.mem_cons.1 hc with e | hc
            · subst e; exact absurd (b1 z hz) (before3_irr z)
            · exact hza hc))
        simp only [List.filterMap_cons, e]
    · rw [List.filterMap_cons, hn y (by simp) hy]
      exact ih ha b2 (fun z hz => by
        rcases List.mem_cons.1 (h z hz) with e | hz'
        · subst e; exact absurd hz hy
        · exact hz') (fun z hz hza => hn z (List.mem_cons_of_mem _ hz) hza)
def keyU (u : Use) : K3 := (u.customer, u.house, u.kind)
def keyR (r : Rest) : K3 := (r.customer, r.house, r.kind)
/-- the sum of a key -/
def totalOf (rests : List Rest) (t : List Tariff) (n : Net) (l : List Use) (k : K3) : Int := isum (fun r => if keyR r = k then r.milli else 0) rests + isum (fun u => if keyU u = k then (charge t n u).1 else 0) l
def postOf (tick : Int) (k : K3) (s : Int) : Posting := if k.2.2 = 5 then ⟨12 + k.1, k.2.1, s / 1000, tick, k.2.2, 0⟩ else ⟨k.2.1, 12 + k.1, s / 1000, tick, k.2.2, 0⟩
def postsOf (tick : Int) (f : K3 → Int) (ks : List K3) : List Posting := ks.filterMap fun k => if 0 < f k / 1000 then some (postOf tick k (f k)) else none
def leftsOf (f : K3 → Int) (ks : List K3) : List Rest := ks.filterMap fun k => if 0 < f k % 1000 then some ⟨k.1, k.2.1, k.2.2, f k % 1000⟩ else none
/-- all keys, in their order -/
def grid (t : List Tariff) : List K3 := (List.range 28).flatMap fun (c : Nat) => (List.range t.length).flatMap fun (h : Nat) => (List.range 5).map fun (k : Nat) => (((c : Int), (h : Int), (k : Int) + 1) : K3)
def chargeErrs (t : List Tariff) (n : Net) : List Use → Int
  | [] => 0
  | u :: r => if (charge t n u).2 = 0 then chargeErrs t n r else (charge t n u).2
def restBad (t : List Tariff) (p : Option Rest) (r : Rest) : Prop := ¬ partyIs t r.kind r.house r.customer ∨ r.milli < 1 ∨ 999 < r.milli ∨ ∃ q, p = some q ∧ ¬ before3 (keyR q) (keyR r)
instance (t : List Tariff) (p : Option Rest) (r : Rest) : Decidable (restBad t p r) := by
  unfold restBad
  cases p with
  | none => exact decidable_of_iff (¬ partyIs t r.kind r.house r.customer ∨ r.milli < 1 ∨ 999 < r.milli) (by simp)
  | some q => exact decidable_of_iff (¬ partyIs t r.kind r.house r.customer ∨ r.milli < 1 ∨ 999 < r.milli ∨ ¬ before3 (keyR q) (keyR r)) (by simp)
def restsBad (t : List Tariff) : Option Rest → List Rest → Bool
  | _, [] => false
  | p, r :: l => if restBad t p r then true else restsBad t (some r) l
def period (rests : List Rest) (t : List Tariff) (n : Net) (l : List Use) (tick : Int) : List Posting × List Rest × Int :=
  if meterCheck t l ≠ 0 then ([], [], meterCheck t l) else if ¬ inTo tick 1000000 then ([], [], 3) else if restsBad t none rests = true then ([], [], 1)
  else if chargeErrs t n l ≠ 0 then ([], [], chargeErrs t n l)
  else if ∃ k ∈ grid t, 1099511627776 < totalOf rests t n l k / 1000 then ([], [], 2)
  else (postsOf tick (totalOf rests t n l) (grid t), leftsOf (totalOf rests t n l) (grid t), 0)
theorem grid_mem {t : List Tariff} {k : K3} : k ∈ grid t ↔ 0 ≤ k.1 ∧ k.1 < 28 ∧ 0 ≤ k.2.1 ∧ k.2.1 < t.length ∧ 1 ≤ k.2.2 ∧ k.2.2 ≤ 5 := by
  obtain ⟨a, b, c⟩ := k
  simp only [grid, List.mem_flatMap, List.mem_map, List.mem_range]
  constructor
  · rintro ⟨x, hx, y, hy, z, hz, e⟩
    simp only [Prod.mk.injEq] at e
    omega
  · rintro ⟨h1, h2, h3, h4, h5, h6⟩
    exact ⟨a.toNat, by omega, b.toNat, by omega, (c - 1).toNat, by omega, by simp only [Prod.mk.injEq]; omega⟩
theorem pairwise_range {α : Type} {R : α → α → Prop} (f : Nat → α) (h : ∀ i j, i < j → R (f i) (f j)) : ∀ n, ((List.range n).map f).Pairwise R
  | 0 => by simp
  | n + 1 => by
    rw [List.range_succ, List.map_append, List.pairwise_append]
    refine ⟨pairwise_range f h n, by simp, fun a ha b hb => ?_⟩
    obtain ⟨i, hi, rfl⟩ := List.mem_map.1 ha
    simp at hb
    subst hb
    exact h i n (by simpa using hi)
theorem pairwise_flat {α : Type} {R : α → α → Prop} (f : Nat → List α) (h1 : ∀ i, (f i).Pairwise R) (h2 : ∀ i j, i < j → ∀ a ∈ f i, ∀ b ∈ f j, R a b) : ∀ n, ((List.range n).flatMap f).Pairwise R
  | 0 => by simp
  | n + 1 => by
    rw [List.range_succ, List.flatMap_append, List.pairwise_append]
    refine ⟨pairwise_flat f h1 h2 n, by simpa using h1 n, fun a ha b hb => ?_⟩
    obtain ⟨i, hi, ha⟩ := List.mem_flatMap.1 ha
    simp at hb
    exact h2 i n (by simpa using hi) a ha b hb
theorem grid_ord (t : List Tariff) : (grid t).Pairwise before3 := by
  refine pairwise_flat _ (fun c => pairwise_flat _ (fun h => pairwise_range _ (fun i j hij => ?_) 5) (fun i j hij a ha b hb => ?_) _) (fun i j hij a ha b hb => ?_) _
  · exact .inr ⟨rfl, .inr ⟨rfl, by show (i : Int) + 1 < (j : Int) + 1; omega⟩⟩
  · obtain ⟨x, _, rfl⟩ := List.mem_map.1 ha
    obtain ⟨y, _, rfl⟩ := List.mem_map.1 hb
    exact .inr ⟨rfl, .inl (by show (i : Int) < (j : Int); omega)⟩
  · obtain ⟨x, _, ha⟩ := List.mem_flatMap.1 ha
    obtain ⟨y, _, hb⟩ := List.mem_flatMap.1 hb
    obtain ⟨x2, _, rfl⟩ := List.mem_map.1 ha
    obtain ⟨y2, _, rfl⟩ := List.mem_map.1 hb
    exact .inl (by show (i : Int) < (j : Int); omega)
/-- over all keys, or over those that have a sum -/
theorem over_keys {β : Type} {t : List Tariff} {ks : List K3} {f : K3 → Option β} (ho : ks.Pairwise before3) (hs : ∀ k ∈ ks, k ∈ grid t) (hn : ∀ k, k ∉ ks → f k = none) : ks.filterMap f = (grid t).filterMap f :=
  filterMap_sub ho (grid_ord t) hs fun k _ h => hn k h
end Go.Q
namespace Go.Q
open Go
section
variable {κ : Type} [DecidableEq κ] {ω : Type}
theorem look_cons (p : κ × ω) (m : List (κ × ω)) (k : κ) (z : ω) : look (p :: m) k z = if p.1 = k then p.2 else look m k z := by
  unfold look
  rw [List.find?_cons]
  by_cases h : p.1 = k
  · simp [h]
  · simp [h]
theorem look_setAt (m : List (κ × ω)) (k k' : κ) (v z : ω) (h : k' ≠ k) : look (setAt m k v) k' z = look m k' z := by
  induction m with
  | nil => rfl
  | cons p m ih =>
    have e : setAt (p :: m) k v = (if p.1 = k then (k, v) else p) :: setAt m k v := rfl
    rw [e, look_cons, look_cons, ih]
    by_cases hp : p.1 = k
    · rw [if_pos hp, if_neg (fun e => h e.symm), if_neg (fun e => h (by rw [← e, hp]))]
    · rw [if_neg hp]
theorem putM_cons (p : κ × ω) (m : List (κ × ω)) (k : κ) (v : ω) : putM (p :: m) k v = if p.1 = k then (k, v) :: setAt m k v else p :: putM m k v := by
  unfold putM ensure
  by_cases h : p.1 = k
  · simp [h, setAt]
  · simp only [List.any_cons, h, decide_false, Bool.false_or, if_false]
    by_cases ha : (m.any fun p => decide (p.1 = k)) = true
    · rw [if_pos ha, if_pos ha]; simp [setAt, h]
    · rw [if_neg ha, if_neg ha]; simp [setAt, h]
theorem look_putM (m : List (κ × ω)) (k k' : κ) (v z : ω) : look (putM m k v) k' z = if k' = k then v else look m k' z := by
  induction m with
  | nil =>
    have e : putM ([] : List (κ × ω)) k v = [(k, v)] := by simp [putM, ensure, setAt]
    rw [e, look_cons]
    by_cases h : k' = k
    · rw [if_pos h, if_pos h.symm]
    · rw [if_neg h, if_neg (fun e => h e.symm)]
  | cons p m ih =>
    rw [putM_cons]
    by_cases hp : p.1 = k
    · rw [if_pos hp, look_cons]
      by_cases h : k' = k
      · rw [if_pos h.symm, if_pos h]
      · rw [if_neg (fun e => h e.symm), if_neg h, look_setAt _ _ _ _ _ h, look_cons, if_neg (fun e => h (by rw [← e, hp]))]
    · rw [if_neg hp, look_cons, ih, look_cons]
      by_cases h : p.1 = k'
      · rw [if_pos h, if_pos h, if_neg (fun e => hp (by rw [h, e]))]
      · rw [if_neg h, if_neg h]
theorem putM_keys {m : List (κ × ω)} {k : κ} {v : ω} {K : κ → Prop} (hm : ∀ p ∈ m, K p.1) (hk : K k) : ∀ p ∈ putM m k v, K p.1 := by
  unfold putM ensure setAt
  intro p hp
  obtain ⟨q, hq, rfl⟩ := List.mem_map.1 hp
  split
  · exact hk
  · split at hq
    · exact hm q hq
    · rcases List.mem_append.1 hq with hq | hq
      · exact hm q hq
      · simp at hq; subst hq; exact hk
end
/-- the map behind the rests, and behind the uses -/
def restM (rests : List Rest) : List (K3 × Int) := rests.foldl (fun m r => putM m (keyR r) r.milli) []
def useM (t : List Tariff) (n : Net) (m : List (K3 × Int)) (l : List Use) : List (K3 × Int) := l.foldl (fun m u => putM m (keyU u) (look m (keyU u) 0 + (charge t n u).1)) m
theorem restM_take {rests : List Rest} {k : Nat} {r : Rest} (h : rests[k]? = some r) : restM (rests.take (k + 1)) = putM (restM (rests.take k)) (keyR r) r.milli := by rw [take_of h, restM, List.foldl_append]; rfl
theorem useM_take {t : List Tariff} {n : Net} {m : List (K3 × Int)} {l : List Use} {k : Nat} {u : Use} (h : l[k]? = some u) : useM t n m (l.take (k + 1)) = putM (useM t n m (l.take k)) (keyU u) (look (useM t n m (l.take k)) (keyU u) 0 + (charge t n u).1) := by rw [take_of h, useM, List.foldl_append]; rfl
theorem useM_look (t : List Tariff) (n : Net) : ∀ (l : List Use) (m : List (K3 × Int)) (k : K3), look (useM t n m l) k 0 = look m k 0 + isum (fun u => if keyU u = k then (charge t n u).1 else 0) l
  | [], m, k => by simp [useM, isum]
  | u :: l, m, k => by
    have e : useM t n m (u :: l) = useM t n (putM m (keyU u) (look m (keyU u) 0 + (charge t n u).1)) l := rfl
    rw [e, useM_look t n l, look_putM, isum]
    by_cases h : k = keyU u
    · rw [if_pos h, if_pos h.symm, h]; omega
    · rw [if_neg h, if_neg (fun e => h e.symm)]; omega
/-- rests in strict order -/
def RestsOrd (rests : List Rest) : Prop := rests.Pairwise fun a b => before3 (keyR a) (keyR b)
theorem restM_look : ∀ (rests : List Rest) (m : List (K3 × Int)) (k : K3), RestsOrd rests → (∀ r ∈ rests, look m (keyR r) 0 = 0) → look (rests.foldl (fun m r => putM m (keyR r) r.milli) m) k 0 = look m k 0 + isum (fun r => if keyR r = k then r.milli else 0) rests
  | [], m, k, _, _ => by simp [isum]
  | r :: rests, m, k, ho, h0 => by
    obtain ⟨o1, o2⟩ := List.pairwise_cons.1 ho
    rw [List.foldl_cons, restM_look rests _ k o2 (fun q hq => by
      rw [look_putM, if_neg (fun e => before3_irr (keyR r) (by have := o1 q hq; rwa [e] at this))]
      exact h0 q (List.mem_cons_of_mem _ hq)), look_putM, isum]
    by_cases h : k = keyR r
    · rw [if_pos h, if_pos h.symm, h, h0 r (by simp)]; omega
    · rw [if_neg h, if_neg (fun e => h e.symm)]; omega
theorem sums_look {rests : List Rest} (t : List Tariff) (n : Net) (l : List Use) (ho : RestsOrd rests) (k : K3) : look (useM t n (restM rests) l) k 0 = totalOf rests t n l k := by
  rw [useM_look, restM, restM_look rests [] k ho (fun _ _ => rfl)]
  have : look ([] : List (K3 × Int)) k 0 = 0 := rfl
  rw [this]
  unfold totalOf
  omega
theorem foldl_keysM {α : Type} {K : K3 → Prop} (f : List (K3 × Int) → α → List (K3 × Int)) : ∀ (l : List α) (m : List (K3 × Int)), (∀ x ∈ l, ∀ m, (∀ p ∈ m, K p.1) → ∀ p ∈ f m x, K p.1) → (∀ p ∈ m, K p.1) → ∀ p ∈ l.foldl f m, K p.1
  | [], _, _, h => h
  | x :: l, m, hf, h => foldl_keysM f l (f m x) (fun y hy => hf y (List.mem_cons_of_mem _ hy)) (hf x (by simp) m h)
theorem sums_keys {rests : List Rest} {t : List Tariff} {n : Net} {l : List Use} (hr : ∀ r ∈ rests, partyIs t r.kind r.house r.customer) (hu : ∀ u ∈ l, partyIs t u.kind u.house u.customer) : ∀ p ∈ useM t n (restM rests) l, p.1 ∈ grid t :=
  foldl_keysM _ l _ (fun u hu' m hm => putM_keys hm (by have := hu u hu'; unfold partyIs at this; rw [grid_mem]; simp only [keyU]; omega))
    (foldl_keysM _ rests _ (fun r hr' m hm => putM_keys hm (by have := hr r hr'; unfold partyIs at this; rw [grid_mem]; simp only [keyR]; omega)) (by simp))
/-- what is laid over the sorted keys of the map, is laid over all keys -/
theorem over_map {β : Type} {t : List Tariff} {m : List (K3 × Int)} {tot : K3 → Int} (hl : ∀ k, look m k 0 = tot k) (hk : ∀ p ∈ m, p.1 ∈ grid t) {ks : List K3} (ho : ks.Pairwise before3) (hp : ks.Perm (m.map Prod.fst)) {f : K3 → Int → Option β} (h0 : ∀ k, f k 0 = none) :
    ks.filterMap (fun k => f k (look m k 0)) = (grid t).filterMap (fun k => f k (tot k)) := by
  have e : (fun k => f k (look m k 0)) = fun k => f k (tot k) := funext fun k => by rw [hl]
  rw [e]
  refine over_keys ho (fun k hk' => ?_) (fun k hk' => ?_)
  · obtain ⟨p, hpm, rfl⟩ := List.mem_map.1 (hp.mem_iff.1 hk')
    exact hk p hpm
  · have : look m k 0 = 0 := by
      unfold look
      rw [List.find?_eq_none.2 (fun p hpm => by
        simp only [decide_eq_true_eq]
        intro e
        exact hk' (hp.mem_iff.2 (List.mem_map.2 ⟨p, hpm, e⟩)))]
    rw [← hl, this, h0]
theorem over_limit {t : List Tariff} {m : List (K3 × Int)} {tot : K3 → Int} (hn : (m.map Prod.fst).Nodup) (hl : ∀ k, look m k 0 = tot k) (hk : ∀ p ∈ m, p.1 ∈ grid t) : (∃ p ∈ m, 1099511627776 < p.2 / 1000) ↔ ∃ k ∈ grid t, 1099511627776 < tot k / 1000 := by
  constructor
  · rintro ⟨p, hp, h⟩
    obtain ⟨i, hi⟩ := List.getElem?_of_mem hp
    have := look_at (z := 0) hn (k := p.1) (v := p.2) hi
    exact ⟨p.1, hk p hp, by rw [← hl, this]; exact h⟩
  · rintro ⟨k, _, h⟩
    rw [← hl] at h
    unfold look at h
    cases hf : m.find? (fun p => decide (p.1 = k)) with
    | none => rw [hf] at h; simp at h
    | some p => rw [hf] at h; exact ⟨p, List.mem_of_find?_eq_some hf, h⟩
end Go.Q
namespace Go.Q
open Go
section
variable {n : Net} {a b : List Send} {aa ba : Option Addr} {ac bc : Nat}
end
theorem cost_of {n : Net} {l : List Send} (h : right n l = 0) : cost n l = (costSum n l, 0) := by rw [cost, if_neg (by omega)]
theorem costSum_all {n : Net} {l : List Send} (h : right n l = 0) : 0 ≤ costSum n l ∧ costSum n l ≤ 1073741824000000 * 2000 := by
  have := costSum_bound (right_zero h) l.length
  rwa [List.take_length] at this
end Go.Q
namespace Go.Q
open Go
section
variable {n : Net} {l : List Send} {d : Demand} {m : Int}
end
structure Wider (n n2 : Net) : Prop where
  check : netCheck n2 = 0
  houses : n2.houses = n.houses
  len : n2.links.length = n.links.length
  src : ∀ k, srcOf n2 k = srcOf n k
  dst : ∀ k, dstOf n2 k = dstOf n k
  cap : ∀ k t, capOf n k t ≤ capOf n2 k t
theorem Wider.refl {n : Net} (h : netCheck n = 0) : Wider n n := ⟨h, rfl, rfl, fun _ => rfl, fun _ => rfl, fun _ _ => Int.le_refl _⟩
section
variable {n n2 : Net} {l : List Send} {d : Demand} {r : Int}
end
end Go.Q
namespace Go.Q
open Go
def checkFrom (t : List Tariff) (l : List Use) (k : Nat) : Int := if tarErrs (t.drop k) ≠ 0 then tarErrs (t.drop k) else if 200 < l.length then 2 else useErrs t l
theorem checkFrom_zero {t : List Tariff} {l : List Use} (h : ¬ 12 < t.length) : meterCheck t l = checkFrom t l 0 := by rw [meterCheck, if_neg h, checkFrom, List.drop_zero]
theorem checkFrom_bad {t : List Tariff} {l : List Use} {k : Nat} {x : Tariff} (hx : t[k]? = some x) (h : tarBad x) : checkFrom t l k = 3 := by rw [checkFrom, tarErrs_at hx, if_pos h]; rfl
theorem checkFrom_ok {t : List Tariff} {l : List Use} {k : Nat} {x : Tariff} (hx : t[k]? = some x) (h : ¬ tarBad x) : checkFrom t l k = checkFrom t l (k + 1) := by rw [checkFrom, tarErrs_at hx, if_neg h]; rfl
theorem checkFrom_end {t : List Tariff} {l : List Use} {k : Nat} (h : t.length ≤ k) : checkFrom t l k = if 200 < l.length then 2 else useErrs t l := by
  rw [checkFrom, List.drop_eq_nil_of_le h, if_neg (by simp [tarErrs])]
theorem useErrs_bad {t : List Tariff} {l : List Use} {k : Nat} {u : Use} (h : l[k]? = some u) (hu : useErr t u ≠ 0) : useErrs t (l.drop k) = useErr t u := by rw [useErrs_at h, if_neg hu]
theorem useErrs_ok {t : List Tariff} {l : List Use} {k : Nat} {u : Use} (h : l[k]? = some u) (hu : useErr t u = 0) : useErrs t (l.drop k) = useErrs t (l.drop (k + 1)) := by rw [useErrs_at h, if_pos hu]
theorem useErr_party {t : List Tariff} {u : Use} (h : ¬ partyIs t u.kind u.house u.customer) : useErr t u = 1 := by rw [useErr, if_pos h]
theorem useErr_bad {t : List Tariff} {u : Use} (h : partyIs t u.kind u.house u.customer) (hb : useBad u) : useErr t u = 3 := by rw [useErr, if_neg (fun hn => hn h), if_pos hb]
theorem useErr_ok {t : List Tariff} {u : Use} (h : partyIs t u.kind u.house u.customer) (hb : ¬ useBad u) : useErr t u = 0 := by rw [useErr, if_neg (fun hn => hn h), if_neg hb]
/-- the program's table of kinds; the functions by their numbers -/
structure Price where
  kind : Int
  most : Int
  fn : Nat
def encPrice (p : Price) : List Value := [.int .i64 p.kind, .int .i64 p.most, .func (.func p.fn) #[] #[]]
def pricesOf (a b c : Nat) : List Price := [⟨3, 16777216, a⟩, ⟨4, 16777216, b⟩, ⟨5, 1073741824, c⟩]
def eachOf (kind : Int) (x : Tariff) : Int := if kind = 3 then x.read else if kind = 4 then x.audit else 1000
theorem prices_at {a b c k : Nat} {p : Price} (h : (pricesOf a b c)[k]? = some p) : p = ⟨3, 16777216, a⟩ ∨ p = ⟨4, 16777216, b⟩ ∨ p = ⟨5, 1073741824, c⟩ := by
  have := List.mem_of_getElem? h
  simpa [pricesOf] using this
def priceBad (u : Use) (p : Price) : Prop := p.kind = u.kind ∧ ¬ inTo u.count p.most
theorem price_bad {a b c k : Nat} {p : Price} {u : Use} (h : (pricesOf a b c)[k]? = some p) (hb : priceBad u p) : useBad u := by
  obtain ⟨h1, h2⟩ := hb
  rcases prices_at h with rfl | rfl | rfl
  · exact .inr (.inl ⟨.inl h1.symm, h2⟩)
  · exact .inr (.inl ⟨.inr h1.symm, h2⟩)
  · exact .inr (.inr ⟨h1.symm, h2⟩)
theorem use_fine {a b c k : Nat} {u : Use} (h1 : ¬ (u.kind = 1 ∧ (¬ inTo u.bytes 16777216 ∨ ¬ inTo u.till 1000000 ∨ ¬ inTo u.since u.till))) (hk : 3 ≤ k) (h2 : ∀ (j : Nat) p, j < k → (pricesOf a b c)[j]? = some p → ¬ priceBad u p) : ¬ useBad u := by
  rintro (h | ⟨h | h, h3⟩ | ⟨h, h3⟩)
  · exact h1 h
  · exact h2 0 ⟨3, 16777216, a⟩ (by omega) rfl ⟨h.symm, h3⟩
  · exact h2 1 ⟨4, 16777216, b⟩ (by omega) rfl ⟨h.symm, h3⟩
  · exact h2 2 ⟨5, 1073741824, c⟩ (by omega) rfl ⟨h.symm, h3⟩
theorem mul_bd {a b A B : Int} (ha : 0 ≤ a ∧ a ≤ A) (hb : 0 ≤ b ∧ b ≤ B) : 0 ≤ a * b ∧ a * b ≤ A * B :=
  ⟨Int.mul_nonneg ha.1 hb.1, Int.mul_le_mul ha.2 hb.2 hb.1 (by omega)⟩
/-- a use that can be charged -/
structure Charged (t : List Tariff) (u : Use) : Prop where
  tl : t.length ≤ 12
  h0 : 0 ≤ u.house
  h1 : u.house < t.length
  k1 : 1 ≤ u.kind
  k5 : u.kind ≤ 5
  c0 : 0 ≤ u.customer
  c1 : u.customer < 28
  keep : 0 ≤ (tarOf t u.house).keep ∧ (tarOf t u.house).keep ≤ 1000
  read : 0 ≤ (tarOf t u.house).read ∧ (tarOf t u.house).read ≤ 1000
  audit : 0 ≤ (tarOf t u.house).audit ∧ (tarOf t u.house).audit ≤ 1000
  kept : u.kind = 1 → (0 ≤ u.bytes ∧ u.bytes ≤ 16777216) ∧ 0 ≤ u.since ∧ u.since ≤ u.till ∧ u.till ≤ 1000000
  count : 3 ≤ u.kind → 0 ≤ u.count ∧ u.count ≤ 1073741824
theorem charged {t : List Tariff} {u : Use} (h : meterCheck t [u] = 0) : Charged t u := by
  have hm := meterCheck_zero h
  obtain ⟨h1, h2⟩ := hm.use u (by simp)
  unfold partyIs at h1
  have h3 : tarOf t u.house ∈ t := by
    unfold tarOf
    rw [List.getElem?_eq_getElem (show u.house.toNat < t.length by omega)]
    exact List.getElem_mem _
  have h4 := hm.tar _ h3
  unfold tarBad inTo at h4
  unfold useBad inTo at h2
  exact ⟨hm.tl, by omega, by omega, by omega, by omega, by omega, by omega, by omega, by omega, by omega, fun hk => by omega, fun hk => by omega⟩
theorem charge_err {t : List Tariff} {n : Net} {u : Use} (h : ¬ meterCheck t [u] = 0) : charge t n u = (0, meterCheck t [u]) := by rw [charge, if_pos h]
theorem charge_price {a b c k : Nat} {p : Price} {t : List Tariff} {n : Net} {u : Use} (h : meterCheck t [u] = 0) (hp : (pricesOf a b c)[k]? = some p) (e : p.kind = u.kind) : charge t n u = (u.count * eachOf p.kind (tarOf t u.house), 0) := by
  rw [charge, if_neg (by omega), e]
  rcases prices_at hp with rfl | rfl | rfl <;> simp only at e <;> subst_vars <;> simp [eachOf, ← e]
theorem each_bd {a b c k : Nat} {p : Price} {t : List Tariff} {u : Use} (h : Charged t u) (hp : (pricesOf a b c)[k]? = some p) : 0 ≤ eachOf p.kind (tarOf t u.house) ∧ eachOf p.kind (tarOf t u.house) ≤ 1000 := by
  have h1 := h.read
  have h2 := h.audit
  unfold eachOf
  split
  · exact h1
  · split
    · exact h2
    · omega
theorem no_price {a b c k : Nat} {u : Use} (hk : 3 ≤ k) (h : ∀ (j : Nat) p, j < k → (pricesOf a b c)[j]? = some p → ¬ p.kind = u.kind) : u.kind ≠ 3 ∧ u.kind ≠ 4 ∧ u.kind ≠ 5 :=
  ⟨fun e => h 0 ⟨3, 16777216, a⟩ (by omega) rfl e.symm, fun e => h 1 ⟨4, 16777216, b⟩ (by omega) rfl e.symm, fun e => h 2 ⟨5, 1073741824, c⟩ (by omega) rfl e.symm⟩
theorem charge_keep {t : List Tariff} {n : Net} {u : Use} (h : meterCheck t [u] = 0) (hk : u.kind = 1) : charge t n u = (u.bytes * (u.till - u.since) * (tarOf t u.house).keep, 0) := by
  rw [charge, if_neg (by omega), if_neg (by omega), if_neg (by omega), if_neg (by omega), if_pos hk]
theorem charge_move {t : List Tariff} {n : Net} {u : Use} (h : meterCheck t [u] = 0) (h1 : u.kind ≠ 3) (h2 : u.kind ≠ 4) (h3 : u.kind ≠ 5) (h4 : u.kind ≠ 1) : charge t n u = if fits n u.sends.l ≠ 0 then (0, fits n u.sends.l) else if 1099511627776 < (cost n u.sends.l).1 then (0, 2) else (1000 * (cost n u.sends.l).1, 0) := by
  rw [charge, if_neg (by omega), if_neg h1, if_neg h2, if_neg h3, if_neg h4]
theorem charge_read {t : List Tariff} {n : Net} {u : Use} (h : meterCheck t [u] = 0) (hk : u.kind = 3) : charge t n u = (u.count * (tarOf t u.house).read, 0) := by rw [charge, if_neg (by omega), if_pos hk]
theorem charge_audit {t : List Tariff} {n : Net} {u : Use} (h : meterCheck t [u] = 0) (hk : u.kind = 4) : charge t n u = (u.count * (tarOf t u.house).audit, 0) := by rw [charge, if_neg (by omega), if_neg (by omega), if_pos hk]
theorem charge_fine {t : List Tariff} {n : Net} {u : Use} (h : meterCheck t [u] = 0) (hk : u.kind = 5) : charge t n u = (1000 * u.count, 0) := by rw [charge, if_neg (by omega), if_neg (by omega), if_neg (by omega), if_pos hk, Int.mul_comm]
theorem fits_cost {n : Net} {l : List Send} (h : fits n l = 0) : (cost n l).2 = 0 ∧ 0 ≤ (cost n l).1 ∧ (cost n l).1 ≤ 1073741824000000 * 2000 := by
  have h1 := (fits_zero.1 h).1
  rw [cost_of h1]
  have := costSum_all h1
  exact ⟨rfl, this.1, this.2⟩
theorem charge_bound (t : List Tariff) (n : Net) (u : Use) : 0 ≤ (charge t n u).1 ∧ (charge t n u).1 ≤ 16777216000000000 := by
  by_cases h : meterCheck t [u] = 0
  · have hc := charged h
    by_cases h1 : u.kind = 1
    · rw [charge_keep h h1]
      obtain ⟨h2, h3, h4, h5⟩ := hc.kept h1
      have := mul_bd (mul_bd h2 (show 0 ≤ u.till - u.since ∧ u.till - u.since ≤ 1000000 by omega)) hc.keep
      simp only; omega
    · by_cases h3 : u.kind = 3
      · rw [charge_read h h3]; have := mul_bd (hc.count (by omega)) hc.read; simp only; omega
      · by_cases h4 : u.kind = 4
        · rw [charge_audit h h4]; have := mul_bd (hc.count (by omega)) hc.audit; simp only; omega
        · by_cases h5 : u.kind = 5
          · rw [charge_fine h h5]; have := hc.count (by omega); simp only; omega
          · rw [charge_move h h3 h4 h5 h1]
            split
            · simp
            · rename_i hf
              have := fits_cost (show fits n u.sends.l = 0 by omega)
              split
              · simp
              · simp only; omega
  · rw [charge_err h]; simp
def few9 (n : Net) (l : List Use) : Prop := n.links.length ≤ 10 ∧ (l.length ≤ 20 ∨ 200 < l.length ∧ l.length ≤ 205) ∧ ∀ u ∈ l, u.sends.l.length ≤ 10
instance (n : Net) (l : List Use) : Decidable (few9 n l) := by unfold few9; infer_instance
theorem few9_all {n : Net} {l : List Use} {k : Nat} (h1 : n.links.length ≤ 10) (h2 : l.length ≤ 20 ∨ 200 < l.length ∧ l.length ≤ 205) (hk : l.length ≤ k) (h : ∀ (j : Nat) u, j < k → l[j]? = some u → ¬ 10 < u.sends.l.length) : few9 n l :=
  ⟨h1, h2, fun u hu => by obtain ⟨j, hj⟩ := List.getElem?_of_mem hu; have := h j u (by have := (List.getElem?_eq_some_iff.1 hj).1; omega) hj; omega⟩
/-- the same number at every hour -/
def alwaysL (v : Int) (k : Nat) : List Value := List.replicate k (.int .i64 v) ++ List.replicate (24 - k) (.int .i64 0)
theorem always_step {v : Int} {k : Nat} (h : k < 24) : (alwaysL v k).toArray.setIfInBounds k (.int .i64 v) = (alwaysL v (k + 1)).toArray := by
  apply Array.ext'
  simp only [Array.toList_setIfInBounds, alwaysL]
  rw [List.set_append_right _ _ (by simp), show 24 - k = (24 - (k + 1)) + 1 by omega, List.replicate_succ]
  simp [List.replicate_succ']
end Go.Q
namespace Go.D
open Go Go.RowKit
/-- as Go.Below, and the count of draws has not fallen -/
structure Below (B : Nat) (a w : World) : Prop where
  os : w.os = a.os
  tape : w.tape = a.tape
  output : w.output = a.output
  size : a.heap.size ≤ w.heap.size
  block : ∀ b, b < B → w.heap[b]? = a.heap[b]?
  drawn : a.drawn ≤ w.drawn
theorem Below.refl (B : Nat) (w : World) : Below B w w := ⟨rfl, rfl, rfl, Nat.le_refl _, fun _ _ => rfl, Nat.le_refl _⟩
theorem Below.trans {B : Nat} {a b c : World} (h : Below B a b) (h' : Below B b c) : Below B a c := ⟨h'.os.trans h.os, h'.tape.trans h.tape, h'.output.trans h.output, Nat.le_trans h.size h'.size, fun k hk => (h'.block k hk).trans (h.block k hk), Nat.le_trans h.drawn h'.drawn⟩
theorem Below.mono {B B' : Nat} {a w : World} (h : Below B a w) (hB : B' ≤ B) : Below B' a w := ⟨h.os, h.tape, h.output, h.size, fun k hk => h.block k (by omega), h.drawn⟩
theorem Below.drew {B : Nat} {a w : World} (h : Below B a w) : Below B a w.drew := ⟨h.os, h.tape, h.output, h.size, h.block, Nat.le_trans h.drawn (Nat.le_succ _)⟩
theorem Below.alloc {B : Nat} {a w : World} (h : Below B a w) (hB : B ≤ w.heap.size) (o : Obj) : Below B a (w.alloc o) := ⟨h.os, h.tape, h.output, by show a.heap.size ≤ (w.heap.push o).size; simp; have := h.size; omega, fun k hk => by show (w.heap.push o)[k]? = _; rw [Array.getElem?_push, if_neg (by omega)]; exact h.block k hk, h.drawn⟩
theorem Below.grow {w w' : World} (h : Below w.heap.size w w') : ∃ (n : Nat) (es : Array Obj), w' = { w with heap := w.heap ++ es, drawn := w.drawn + n } := by
  refine ⟨w'.drawn - w.drawn, w'.heap.extract w.heap.size w'.heap.size, ?_⟩
  obtain ⟨h1, h2, h3, h4, h5, h6⟩ := h
  obtain ⟨hp, tp, dr, o, out⟩ := w'
  simp only at h1 h2 h3 h4 h5 h6 ⊢
  subst h1 h2 h3
  have e1 : dr = w.drawn + (dr - w.drawn) := by omega
  have e2 : hp = w.heap ++ hp.extract w.heap.size hp.size := by
    apply Array.ext_getElem?
    intro i
    rw [Array.getElem?_append]
    split
    · rename_i hi; exact h5 i hi
    · rename_i hi
      rw [Array.getElem?_extract]
      split
      · congr 1; omega
      · rw [Array.getElem?_eq_none (by omega)]
  rw [← e1, ← e2]
/-- the frame of a function, or of a round of the loop with the record ro; ds: the blocks for the deferred calls of its loops' rounds -/
structure Env where
  ro : Option Nat
  ds : List Nat
def mk (D : Nat) : Deferred := { target := .collected D, args := #[] }
abbrev FW (ro : Option Nat) : Fence := { Fence.wide with round := ro }
/-- what is known of a frame: its size, its deferred calls, and the slots of the list (the first entry of a slot counts) -/
def Fr (Z : Env) (N : Nat) (L : List (Nat × Value)) (a : Act) : Prop :=
  a.tmps.size = N ∧ a.defers = Z.ds.map mk ∧ ∀ t v, L.lookup t = some v → a.tmps[t]? = some v
def ev (L : List (Nat × Value)) : Operand → Option Value
  | .tmp t => L.lookup t
  | .const v => some v
  | .global g => some (.pointer (some ⟨g, 0, none⟩))
  | .func f => some (.func (.func f) #[] #[])
theorem Fr.eval {Z : Env} {N : Nat} {L : List (Nat × Value)} {a : Act} (h : Fr Z N L a) {x : Operand} {v : Value} (hx : ev L x = some v) : a.eval x = v := by
  cases x with
  | tmp t =>
    have := h.2.2 t v hx
    simp [Act.eval, Array.getD_eq_getD_getElem?, this]
  | const c => simpa [ev, Act.eval] using hx
  | global g => simpa [ev, Act.eval] using hx
  | func f => simpa [ev, Act.eval] using hx
theorem Fr.put {Z : Env} {N : Nat} {L : List (Nat × Value)} {a : Act} (h : Fr Z N L a) {d : Nat} (hd : d < N) (v : Value) : Fr Z N ((d, v) :: L) (a.put (some d) v) := by
  refine ⟨by simp [Act.put, h.1], by simp [Act.put, h.2.1], fun t u hl => ?_⟩
  simp only [List.lookup_cons] at hl
  by_cases ht : t = d
  · subst ht
    simp at hl
    subst hl
    simp [Act.put, h.1, hd]
  · have : (t == d) = false := by simpa using ht
    rw [this] at hl
    simp only [Act.put]
    rw [Array.getElem?_setIfInBounds_ne (by omega)]
    exact h.2.2 t u hl
theorem Fr.put_none {Z : Env} {N : Nat} {L : List (Nat × Value)} {a : Act} (h : Fr Z N L a) (v : Value) : Fr Z N L (a.put none v) := by simpa [Act.put] using h
/-- the slots of L0 are among those of L -/
def Sub (L : List (Nat × Value)) : List (Nat × Value) → Prop
  | [] => True
  | (t, v) :: r => L.lookup t = some v ∧ Sub L r
theorem Sub.lookup {L : List (Nat × Value)} : ∀ {L0 : List (Nat × Value)}, Sub L L0 → ∀ t v, L0.lookup t = some v → L.lookup t = some v
  | [], _, t, v, h => by simp at h
  | (t', v') :: r, ⟨h1, h2⟩, t, v, h => by
    simp only [List.lookup_cons] at h
    by_cases ht : t = t'
    · subst ht
      simp at h
      subst h
      exact h1
    · have : (t == t') = false := by simpa using ht
      rw [this] at h
      exact Sub.lookup h2 t v h
theorem Fr.sub {Z : Env} {N : Nat} {L L0 : List (Nat × Value)} {a : Act} (h : Fr Z N L a) (hs : Sub L L0) : Fr Z N L0 a :=
  ⟨h.1, h.2.1, fun t v hl => h.2.2 t v (hs.lookup t v hl)⟩
/-- the blocks lo ≤ b < hi that on speaks of are as in w -/
structure Kp where
  w : World
  lo : Nat
  hi : Nat
  on : Nat → Prop
abbrev Kin (w : World) (lo hi : Nat) : Kp := ⟨w, lo, hi, fun _ => True⟩
structure Mem where
  base : World
  boxes : List (Nat × Obj)
  kept : List Kp
  marks : List Nat
  rows : List (Option (Nat × Obj))
def markBox (D : Nat) : Nat × Obj := (D, .deferred (some []))
def rbOf (rs : List (Option (Nat × Obj))) : List Nat := (rs.filterMap id).map Prod.fst
def Mem.rb (M : Mem) : List Nat := rbOf M.rows
def Mem.all (M : Mem) : List (Nat × Obj) := M.boxes ++ (M.rows.filterMap id ++ M.marks.map markBox)
structure Mem.holds (M : Mem) (w : World) : Prop where
  os : w.os = M.base.os
  tape : w.tape = M.base.tape
  output : w.output = M.base.output
  size : M.base.heap.size ≤ w.heap.size
  old : ∀ b, b < M.base.heap.size → w.heap[b]? = M.base.heap[b]?
  box : ∀ p ∈ M.all, M.base.heap.size ≤ p.1 ∧ w.heap[p.1]? = some p.2
  nodup : M.all.Pairwise (fun p q => p.1 ≠ q.1)
  kept : ∀ k ∈ M.kept, k.hi ≤ w.heap.size ∧ ∀ b, k.lo ≤ b → b < k.hi → k.on b → w.heap[b]? = k.w.heap[b]?
  apart : ∀ p ∈ M.all, ∀ k ∈ M.kept, p.1 < k.lo ∨ k.hi ≤ p.1 ∨ ¬ k.on p.1
  drawn : M.base.drawn ≤ w.drawn
def Mem.init (w : World) : Mem := ⟨w, [], [], [], []⟩
theorem Mem.init_holds (w : World) : (Mem.init w).holds w :=
  ⟨rfl, rfl, rfl, Nat.le_refl _, fun _ _ => rfl, fun _ h => by simp [Mem.init, Mem.all] at h, by simp [Mem.init, Mem.all], fun _ h => by simp [Mem.init] at h, fun _ h => by simp [Mem.init, Mem.all] at h, Nat.le_refl _⟩
theorem Mem.holds.below {M : Mem} {w : World} (h : M.holds w) : Below M.base.heap.size M.base w := ⟨h.os, h.tape, h.output, h.size, h.old, h.drawn⟩
theorem get_lt {w : World} {b : Nat} {o : Obj} (h : w.heap[b]? = some o) : b < w.heap.size := by
  rcases Nat.lt_or_ge b w.heap.size with h' | h'
  · exact h'
  · rw [Array.getElem?_eq_none h'] at h; cases h
theorem Mem.mem_all {M : Mem} {p : Nat × Obj} (h : p ∈ M.boxes) : p ∈ M.all := List.mem_append_left _ h
theorem Mem.holds.boxOf {M : Mem} {w : World} (h : M.holds w) {p : Nat × Obj} (hb : p ∈ M.boxes) : M.base.heap.size ≤ p.1 ∧ w.heap[p.1]? = some p.2 := h.box p (Mem.mem_all hb)
theorem Mem.holds.lt {M : Mem} {w : World} (h : M.holds w) {b : Nat} {o : Obj} (hb : (b, o) ∈ M.boxes) : b < w.heap.size := get_lt (h.boxOf hb).2
/-- a step that turns nothing that is there -/
theorem Mem.holds.ext {M : Mem} {w w' : World} (h : M.holds w) (hb : Below w.heap.size w w') : M.holds w' := by
  refine ⟨hb.os.trans h.os, hb.tape.trans h.tape, hb.output.trans h.output, Nat.le_trans h.size hb.size, fun b hlt => ?_, fun p hp => ?_, h.nodup, fun k hk => ?_, h.apart, Nat.le_trans h.drawn hb.drawn⟩
  · rw [hb.block b (Nat.lt_of_lt_of_le hlt h.size), h.old b hlt]
  · have := h.box p hp
    exact ⟨this.1, by rw [hb.block _ (get_lt this.2)]; exact this.2⟩
  · obtain ⟨h1, h2⟩ := h.kept k hk
    exact ⟨Nat.le_trans h1 hb.size, fun b hl hh ho => by rw [hb.block b (by omega)]; exact h2 b hl hh ho⟩
theorem Mem.holds.drew {M : Mem} {w : World} (h : M.holds w) : M.holds w.drew := h.ext ((Below.refl _ w).drew)
theorem below_drew' (w : World) : Below w.heap.size w { w with drawn := w.drawn + 1 } := ⟨rfl, rfl, rfl, Nat.le_refl _, fun _ _ => rfl, Nat.le_succ _⟩
/-- a new block -/
theorem Mem.holds.alloc {M : Mem} {w : World} (h : M.holds w) (o : Obj) : Mem.holds ⟨M.base, (w.heap.size, o) :: M.boxes, M.kept, M.marks, M.rows⟩ (w.alloc o) := by
  have he : M.holds (w.alloc o) := h.ext ((Below.refl _ w).alloc (Nat.le_refl _) o)
  refine ⟨he.os, he.tape, he.output, he.size, he.old, fun p hp => ?_, ?_, he.kept, fun p hp k hk => ?_, he.drawn⟩
  · rcases List.mem_cons.1 (show p ∈ (w.heap.size, o) :: M.all from hp) with rfl | hp
    · exact ⟨h.size, by show (w.heap.push o)[w.heap.size]? = _; simp⟩
    · exact he.box p hp
  · refine List.pairwise_cons.2 ⟨fun p hp => ?_, h.nodup⟩
    have := get_lt (h.box p hp).2
    simp only; omega
  · rcases List.mem_cons.1 (show p ∈ (w.heap.size, o) :: M.all from hp) with rfl | hp
    · exact .inr (.inl (h.kept k hk).1)
    · exact he.apart p hp k hk
/-- a call that hands back something new: its blocks stay as they are -/
theorem Mem.holds.keep {M : Mem} {w w' : World} (h : M.holds w) (hb : Below w.heap.size w w') : Mem.holds ⟨M.base, M.boxes, Kin w' w.heap.size w'.heap.size :: M.kept, M.marks, M.rows⟩ w' := by
  have he := h.ext hb
  refine ⟨he.os, he.tape, he.output, he.size, he.old, he.box, he.nodup, fun k hk => ?_, fun p hp k hk => ?_, he.drawn⟩
  · rcases List.mem_cons.1 hk with rfl | hk
    · exact ⟨Nat.le_refl _, fun _ _ _ _ => rfl⟩
    · exact he.kept k hk
  · rcases List.mem_cons.1 hk with rfl | hk
    · exact .inl (get_lt (h.box p hp).2)
    · exact he.apart p hp k hk
theorem Mem.holds.sub {M M' : Mem} {w : World} (h : M.holds w) (hB : M'.base = M.base) (h1 : M'.all.Sublist M.all) (h2 : M'.kept.Sublist M.kept) : M'.holds w :=
  ⟨hB ▸ h.os, hB ▸ h.tape, hB ▸ h.output, hB ▸ h.size, hB ▸ h.old, fun q hq => hB ▸ h.box q (h1.subset hq), h.nodup.sublist h1, fun k hk => h.kept k (h2.subset hk), fun q hq k hk => h.apart q (h1.subset hq) k (h2.subset hk), hB ▸ h.drawn⟩
/-- only some boxes and regions are remembered -/
theorem Mem.holds.less {B : World} {bs bs' : List (Nat × Obj)} {ks ks' : List Kp} {ms : List Nat} {rs : List (Option (Nat × Obj))} {w : World} (h : Mem.holds ⟨B, bs, ks, ms, rs⟩ w) (h1 : bs'.Sublist bs) (h2 : ks'.Sublist ks) : Mem.holds ⟨B, bs', ks', ms, rs⟩ w :=
  h.sub rfl (List.Sublist.append h1 (List.Sublist.refl _)) h2
theorem heap_setObj_ne {w : World} {b c : Nat} {o : Obj} (h : c ≠ b) : ({ w with heap := w.heap.setIfInBounds b o } : World).heap[c]? = w.heap[c]? := by
  simp [Ne.symm h]
/-- the world with one block written anew -/
def putBlock (w : World) (b : Nat) (o : Obj) : World := { w with heap := w.heap.setIfInBounds b o }
theorem setCell_eq {w : World} {b off : Nat} {cs : Array Value} {T : TypeId} {fz : Nat × Nat} (h : w.heap[b]? = some (.cells cs T fz)) (v : Value) :
    w.setCell ⟨b, off, none⟩ v = putBlock w b (.cells (cs.setIfInBounds off v) T fz) := by
  have hb := get_lt h
  have hg : w.heap[b] = .cells cs T fz := by simpa [Array.getElem?_eq_getElem hb] using h
  simp only [World.setCell, putBlock]
  congr 1
  apply Array.ext_getElem?
  intro i
  rw [Array.getElem?_modify, Array.getElem?_setIfInBounds]
  by_cases hi : b = i
  · subst hi
    rw [if_pos rfl, if_pos rfl, if_pos hb, h]
    rfl
  · rw [if_neg hi, if_neg hi]
theorem Mem.holds.putA {M : Mem} {w : World} (h : M.holds w) {i : Nat} {b : Nat} {o : Obj} (hi : M.all[i]? = some (b, o)) (o' : Obj) {M' : Mem} (hB : M'.base = M.base) (hA : M'.all = M.all.set i (b, o')) (hK : M'.kept = M.kept) :
    M'.holds (putBlock w b o') := by
  have hmem : (b, o) ∈ M.all := List.mem_of_getElem? hi
  have hbox := h.box _ hmem
  have hlt := get_lt hbox.2
  have hii : i < M.all.length := by
    rcases Nat.lt_or_ge i M.all.length with h' | h'
    · exact h'
    · rw [List.getElem?_eq_none h'] at hi; cases hi
  have hgi : M.all[i] = (b, o) := by simpa [List.getElem?_eq_getElem hii] using hi
  have keep : ∀ c, c ≠ b → (putBlock w b o').heap[c]? = w.heap[c]? := fun c hc => heap_setObj_ne hc
  refine ⟨by rw [hB]; exact h.os, by rw [hB]; exact h.tape, by rw [hB]; exact h.output, by rw [hB]; simpa [putBlock] using h.size, fun c hc => ?_, fun p hp => ?_, ?_, fun k hk => ?_, fun p hp k hk => ?_, by rw [hB]; exact h.drawn⟩
  · have h0 : M.base.heap.size ≤ b := hbox.1
    rw [hB] at hc ⊢
    rw [keep c (by omega)]; exact h.old c hc
  · rw [hA] at hp
    rw [hB]
    obtain ⟨j, hj, rfl⟩ := List.mem_iff_getElem.1 hp
    have hjl : j < M.all.length := by simpa using hj
    rw [List.getElem_set]
    split
    · exact ⟨hbox.1, by simp [putBlock, hlt]⟩
    · rename_i hne
      have hb := h.box _ (List.getElem_mem hjl)
      refine ⟨hb.1, ?_⟩
      rw [keep]
      · exact hb.2
      · have hp' := List.pairwise_iff_getElem.1 h.nodup
        rcases Nat.lt_or_ge i j with hij | hij
        · have := hp' i j hii hjl hij
          rw [hgi] at this; exact fun e => this e.symm
        · have := hp' j i hjl hii (by omega)
          rw [hgi] at this; exact this
  · rw [hA]
    have hp' := List.pairwise_iff_getElem.1 h.nodup
    refine List.pairwise_iff_getElem.2 fun j k hj hk hjk => ?_
    have h1 : j < M.all.length := by simpa using hj
    have h2 : k < M.all.length := by simpa using hk
    have := hp' j k h1 h2 hjk
    rw [List.getElem_set, List.getElem_set]
    split <;> split
    · omega
    · rename_i e _; subst e; rw [hgi] at this; exact this
    · rename_i _ e; subst e; rw [hgi] at this; exact this
    · exact this
  · rw [hK] at hk
    obtain ⟨h1, h2⟩ := h.kept k hk
    refine ⟨by simpa [putBlock] using h1, fun c hl hh ho => ?_⟩
    rw [keep c (by
      intro e
      subst e
      rcases h.apart _ hmem k hk with h3 | h3 | h3
      · exact absurd hl (by simp only at h3; omega)
      · exact absurd hh (by simp only at h3; omega)
      · exact h3 ho)]
    exact h2 c hl hh ho
  · rw [hA] at hp
    rw [hK] at hk
    obtain ⟨j, hj, rfl⟩ := List.mem_iff_getElem.1 hp
    have hjl : j < M.all.length := by simpa using hj
    rw [List.getElem_set]
    split
    · have := h.apart _ hmem k hk; simpa using this
    · exact h.apart _ (List.getElem_mem hjl) k hk
theorem Mem.holds.put {B : World} {bs : List (Nat × Obj)} {ks : List Kp} {ms : List Nat} {rs : List (Option (Nat × Obj))} {w : World} (h : Mem.holds ⟨B, bs, ks, ms, rs⟩ w) {i : Nat} {b : Nat} {o : Obj} (hi : bs[i]? = some (b, o)) (o' : Obj) :
    Mem.holds ⟨B, bs.set i (b, o'), ks, ms, rs⟩ (putBlock w b o') := by
  have hii : i < bs.length := by
    rcases Nat.lt_or_ge i bs.length with h' | h'
    · exact h'
    · rw [List.getElem?_eq_none h'] at hi; cases hi
  exact h.putA (i := i) (o := o) (by show (bs ++ _)[i]? = _; rw [List.getElem?_append_left hii]; exact hi) o' rfl (by show bs.set i (b, o') ++ _ = (bs ++ _).set i (b, o'); rw [List.set_append_left _ _ hii]) rfl
/-- the block for the rounds' deferred calls is shut: it is not spoken of any more -/
theorem Mem.holds.shut {B : World} {bs : List (Nat × Obj)} {ks : List Kp} {ms : List Nat} {rs : List (Option (Nat × Obj))} {D : Nat} {w : World} (h : Mem.holds ⟨B, bs, ks, D :: ms, rs⟩ w) (o' : Obj) : Mem.holds ⟨B, bs, ks, ms, rs⟩ (putBlock w D o') := by
  have hi : (Mem.mk B bs ks (D :: ms) rs).all[bs.length + (rs.filterMap id).length]? = some (markBox D) := by
    show (bs ++ (rs.filterMap id ++ (D :: ms).map markBox))[bs.length + (rs.filterMap id).length]? = _
    simp
  have h1 : Mem.holds ⟨B, bs ++ (rs.filterMap id ++ [(D, o')]), ks, ms, []⟩ (putBlock w D o') := h.putA (i := bs.length + (rs.filterMap id).length) (b := D) (o := .deferred (some [])) hi o' rfl (by
    show (bs ++ (rs.filterMap id ++ [(D, o')])) ++ ([] ++ ms.map markBox) = (bs ++ (rs.filterMap id ++ (D :: ms).map markBox)).set (bs.length + (rs.filterMap id).length) (D, o')
    simp [List.set_append_right]) rfl
  refine h1.sub rfl ?_ (List.Sublist.refl _)
  show (bs ++ (rs.filterMap id ++ ms.map markBox)).Sublist ((bs ++ (rs.filterMap id ++ [(D, o')])) ++ ([] ++ ms.map markBox))
  simp only [List.append_assoc, List.nil_append, List.cons_append]
  exact List.Sublist.append (List.Sublist.refl _) (List.Sublist.append (List.Sublist.refl _) (List.sublist_cons_self _ _))
end Go.D
namespace Go.D
open Go Go.RowKit
section
variable {P : Program} {Z : Env} {N : Nat} {L L' : List (Nat × Value)} {M M' : Mem} {Q : Exit → Act → World → Prop}
/-- code, from what is known of the frame and of memory -/
def TC (P : Program) (Z : Env) (N : Nat) (L : List (Nat × Value)) (M : Mem) (c : Code) (Q : Exit → Act → World → Prop) : Prop :=
  ∀ a w, Fr Z N L a → M.holds w → c.wpIn (FW Z.ro) 0 P Q a w
/-- an end, from what is known -/
def TP (Z : Env) (N : Nat) (L : List (Nat × Value)) (M : Mem) (e : Exit) (Q : Exit → Act → World → Prop) : Prop :=
  ∀ a w, Fr Z N L a → M.holds w → Q e a w
/-- operations from here on, in the order of the text -/
def TL (P : Program) (Z : Env) (N : Nat) (L : List (Nat × Value)) (M : Mem) (ops : Array Oper) (rest : List Oper) (Q : Exit → Act → World → Prop) : Prop :=
  ∀ a w, Fr Z N L a → M.holds w → wpListIn (FW Z.ro) 0 P ops Q rest a w
/-- quiet operations, one behind the other: each yields one value, and the world has at most grown -/
def QS (P : Program) (ops : Array Oper) (M : Mem) (K : Act → Prop) : List Oper → Act → Prop
  | [], a => K a
  | o :: rest, a => if Region.wanted o (yielded ops a.tmps) then ∃ v, (∀ w, M.holds w → o.quietAt P a (fun w' => Below w.heap.size w w') w v) ∧ QS P ops M K rest (a.put o.dst v)
    else QS P ops M K rest (a.put o.dst undef)
/-- quiet operations from here on -/
def TQ (P : Program) (Z : Env) (N : Nat) (L : List (Nat × Value)) (M : Mem) (ops : Array Oper) (rest : List Oper) (K : Act → Prop) : Prop :=
  ∀ a, Fr Z N L a → QS P ops M K rest a
/-- an operation yields a value, whatever the world -/
def Qv (P : Program) (Z : Env) (N : Nat) (L : List (Nat × Value)) (M : Mem) (o : Oper) (v : Value) : Prop :=
  ∀ a, Fr Z N L a → ∀ w, M.holds w → o.quietAt P a (fun w' => Below w.heap.size w w') w v
theorem tc_seq {x y : Code} (h : TC P Z N L M x (Exit.then (y.wpIn (FW Z.ro) 0 P Q) Q)) : TC P Z N L M (.seq x y) Q := fun a w hf hm => wpIn_seq (h a w hf hm)
theorem tc_skip (h : TP Z N L M .normal Q) : TC P Z N L M .skip Q := fun a w hf hm => wpIn_skip (h a w hf hm)
theorem tc_ret (h : TP Z N L M .ret Q) : TC P Z N L M .ret Q := fun a w hf hm => wpIn_ret (h a w hf hm)
theorem tc_exit {i : Nat} (h : TP Z N L M (.exit i) Q) : TC P Z N L M (.exit i) Q := fun a w hf hm => wpIn_exit (h a w hf hm)
theorem tc_block {i : Nat} {c : Code} (h : TC P Z N L M c (Exit.inBlock i Q)) : TC P Z N L M (.block i c) Q := fun a w hf hm => wpIn_block (h a w hf hm)
theorem tc_true {c : Operand} {x y : Code} (hc : ev L c = some (.bool true)) (h : TC P Z N L M x Q) : TC P Z N L M (.cond c x y) Q :=
  fun a w hf hm => wpIn_cond_true (hf.eval hc) (h a w hf hm)
theorem tc_false {c : Operand} {x y : Code} (hc : ev L c = some (.bool false)) (h : TC P Z N L M y Q) : TC P Z N L M (.cond c x y) Q :=
  fun a w hf hm => wpIn_cond_false (hf.eval hc) (h a w hf hm)
theorem TC.sub {c : Code} (hs : Sub L L') (h : TC P Z N L' M c Q) : TC P Z N L M c Q := fun a w hf hm => h a w (hf.sub hs) hm
theorem TC.less {B : World} {bs bs' : List (Nat × Obj)} {ks ks' : List Kp} {ms : List Nat} {rs : List (Option (Nat × Obj))} {c : Code} (h1 : bs'.Sublist bs) (h2 : ks'.Sublist ks) (h : TC P Z N L ⟨B, bs', ks', ms, rs⟩ c Q) : TC P Z N L ⟨B, bs, ks, ms, rs⟩ c Q :=
  fun a w hf hm => h a w hf (hm.less h1 h2)
theorem TC.mem {c : Code} (hm : ∀ w, M.holds w → M'.holds w) (h : TC P Z N L M' c Q) : TC P Z N L M c Q := fun a w hf h' => h a w hf (hm w h')
theorem TC.mono {c : Code} {Q' : Exit → Act → World → Prop} (h : TC P Z N L M c Q') (hq : ∀ e a w, Q' e a w → Q e a w) : TC P Z N L M c Q := fun a w hf hm => Go.wpIn_mono (h a w hf hm) hq
theorem tp_normal {y : Code} (h : TC P Z N L M y Q) : TP Z N L M .normal (Exit.then (y.wpIn (FW Z.ro) 0 P Q) Q) := h
theorem tp_then_ret {K : Act → World → Prop} (h : TP Z N L M .ret Q) : TP Z N L M .ret (Exit.then K Q) := h
theorem tp_then_exit {K : Act → World → Prop} {i : Nat} (h : TP Z N L M (.exit i) Q) : TP Z N L M (.exit i) (Exit.then K Q) := h
theorem tp_block_normal {i : Nat} (h : TP Z N L M .normal Q) : TP Z N L M .normal (Exit.inBlock i Q) := h
theorem tp_block_ret {i : Nat} (h : TP Z N L M .ret Q) : TP Z N L M .ret (Exit.inBlock i Q) := h
theorem tp_block_exit {i : Nat} (h : TP Z N L M .normal Q) : TP Z N L M (.exit i) (Exit.inBlock i Q) := fun a w hf hm => by
  simpa [Exit.inBlock] using h a w hf hm
theorem tc_loopZ {β : Type} {c : Code} (Zf : β → Env) (S : β → List (Nat × Value)) (Me : β → Mem) (I : β → Prop) (μ : β → Nat) (b₀ : β) (h0 : I b₀) (hro : ∀ b, (Zf b).ro = Z.ro) (hL : ∀ a, Fr Z N L a → Fr (Zf b₀) N (S b₀) a) (hM : ∀ w, M.holds w → (Me b₀).holds w)
    (round : ∀ b, I b → TC P (Zf b) N (S b) (Me b) c (Exit.then (fun a w => ∃ b', I b' ∧ μ b' < μ b ∧ Fr (Zf b') N (S b') a ∧ (Me b').holds w) Q)) : TC P Z N L M (.loop c) Q := by
  intro a w hf hm bf k cs hro' hb hr
  have key : ∀ n, ∀ b : β, μ b = n → I b → ∀ a w, Fr (Zf b) N (S b) a → (Me b).holds w →
      ∃ e a' w', Q e a' w' ∧ ArrivesIn (Machine.fenced P (FW Z.ro)) P (lone (bf.atR a (.code c :: .inLoop c :: k)) cs w) bf k cs e a' w' := by
    intro n
    induction n using Nat.strongRecOn with
    | _ n ih =>
      intro b hbn hI a w hf hm
      have hrd := round b hI a w hf hm
      rw [hro b] at hrd
      obtain ⟨e, a₁, w₁, hq, harr⟩ := hrd bf (.inLoop c :: k) cs hro' hb hr
      cases e with
      | normal =>
        obtain ⟨b', hI', hlt, hf', hm'⟩ := hq
        obtain ⟨e₂, a₂, w₂, hq₂, harr₂⟩ := ih (μ b') (by omega) b' rfl hI' a₁ w₁ hf' hm'
        exact ⟨e₂, a₂, w₂, hq₂, .of_steps (StepsIn.trans harr (.one (fenced_calm hb hr rfl) stepR_inLoop)) harr₂⟩
      | exit id => exact ⟨_, a₁, w₁, hq, .pass (x := .inLoop c) rfl (fun _ _ => .inl (by simp)) harr⟩
      | goto l => exact ⟨_, a₁, w₁, hq, .pass (x := .inLoop c) rfl (fun _ _ => .inl (by simp)) harr⟩
      | ret => exact ⟨_, a₁, w₁, hq, .pass (x := .inLoop c) rfl (fun _ _ => .inl (by simp)) harr⟩
      | panic ch => exact ⟨_, a₁, w₁, hq, .pass (x := .inLoop c) rfl (fun _ _ => .inl (by simp)) harr⟩
      | outgrown => exact ⟨_, a₁, w₁, hq, .pass (x := .inLoop c) rfl (fun _ _ => .inl (by simp)) harr⟩
  obtain ⟨e, a', w', hq, harr⟩ := key _ b₀ rfl h0 a w (hL a hf) (hM w hm)
  exact ⟨e, a', w', hq, .of_steps (.one (fenced_calm hb hr rfl) stepR_loop) harr⟩
/-- what is known at the head of a loop: the frame, the memory, by a ghost -/
theorem tc_loop {β : Type} {c : Code} (S : β → List (Nat × Value)) (Me : β → Mem) (I : β → Prop) (μ : β → Nat) (b₀ : β) (h0 : I b₀) (hL : ∀ a, Fr Z N L a → Fr Z N (S b₀) a) (hM : ∀ w, M.holds w → (Me b₀).holds w)
    (round : ∀ b, I b → TC P Z N (S b) (Me b) c (Exit.then (fun a w => ∃ b', I b' ∧ μ b' < μ b ∧ Fr Z N (S b') a ∧ (Me b').holds w) Q)) : TC P Z N L M (.loop c) Q :=
  tc_loopZ (fun _ => Z) S Me I μ b₀ h0 (fun _ => rfl) hL hM round
def argsL : Nat → List Value → List (Nat × Value)
  | _, [] => []
  | i, v :: vs => (i, v) :: argsL (i + 1) vs
theorem argsL_lookup : ∀ (vs : List Value) (i t : Nat) (v : Value), (argsL i vs).lookup t = some v → i ≤ t ∧ vs[t - i]? = some v
  | [], i, t, v, h => by simp [argsL] at h
  | x :: vs, i, t, v, h => by
    simp only [argsL, List.lookup_cons] at h
    by_cases ht : t = i
    · subst ht
      simp at h
      subst h
      simp
    · have hb : (t == i) = false := by simpa using ht
      rw [hb] at h
      obtain ⟨h1, h2⟩ := argsL_lookup vs (i + 1) t v h
      refine ⟨by omega, ?_⟩
      have : t - i = (t - (i + 1)) + 1 := by omega
      rw [this]
      simpa using h2
theorem fr_args {fn : Func} {vs : List Value} (hN : fn.ntmps = N) (hvs : vs.length ≤ N) : Fr ⟨none, []⟩ N (argsL 0 vs) { tmps := vs.toArray ++ Array.replicate (fn.ntmps - vs.toArray.size) undef, defers := [] } := by
  refine ⟨?_, rfl, ?_⟩
  · simp [hN]; omega
  · intro t v ht
    obtain ⟨_, h2⟩ := argsL_lookup vs 0 t v ht
    have h2' : vs[t]? = some v := by simpa using h2
    have hlt : t < vs.length := by
      rcases Nat.lt_or_ge t vs.length with h' | h'
      · exact h'
      · rw [List.getElem?_eq_none h'] at h2'; cases h2'
    simp only
    rw [Array.getElem?_append_left (by simpa using hlt)]
    simpa using h2'
theorem calls_of_tc {f : FuncId} {fn : Func} {c : Code} {vs : List Value} {w : World} {R : Ending → World → Prop} (hf : P.funcs[f]? = some fn) (hb : fn.body = some c) (hN : fn.ntmps = N) (hvs : vs.length ≤ N)
    (h : TC P ⟨none, []⟩ N (argsL 0 vs) (Mem.init w) c (bodyPost P fn R)) : Calls P f vs.toArray w R :=
  callsIn_wide.1 (callsIn_of_wp (F := Fence.wide) (n := 0) hf hb trivial (h _ _ (fr_args hN hvs) (Mem.init_holds w)))
/-- a function that ranges over a function -/
def bodyPostW (P : Program) (fn : Func) (R : Ending → World → Prop) : Exit → Act → World → Prop := bodyPostM (FW none) 0 P fn R
theorem calls_of_tcM {f : FuncId} {fn : Func} {c : Code} {vs : List Value} {w : World} {R : Ending → World → Prop} (hf : P.funcs[f]? = some fn) (hb : fn.body = some c) (hN : fn.ntmps = N) (hvs : vs.length ≤ N)
    (h : TC P ⟨none, []⟩ N (argsL 0 vs) (Mem.init w) c (bodyPostW P fn R)) : Calls P f vs.toArray w R :=
  callsIn_wide.1 (callsIn_of_wp_marks (F := Fence.wide) (n := 0) hf hb trivial (h _ _ (fr_args hN hvs) (Mem.init_holds w)))
theorem tp_end1 {ro : Option Nat} {fn : Func} {R : Ending → World → Prop} {t : Tmp} {v : Value} (hr : fn.results = #[.tmp t]) (hl : L.lookup t = some v) (h : ∀ w, M.holds w → R (.returned v) w) :
    TP ⟨ro, []⟩ N L M .ret (bodyPost P fn R) := fun a w hf hm =>
  ⟨hf.2.1, v, by rw [results_tmp hr]; simp [Array.getD_eq_getD_getElem?, hf.2.2 t v hl], h w hm⟩
theorem tp_end2 {ro : Option Nat} {fn : Func} {R : Ending → World → Prop} {t u : Tmp} {v x : Value} (hr : fn.results = #[.tmp t, .tmp u]) (hl : L.lookup t = some v) (hu : L.lookup u = some x) (h : ∀ w, M.holds w → R (.returned (.tuple #[v, x])) w) :
    TP ⟨ro, []⟩ N L M .ret (bodyPost P fn R) := fun a w hf hm =>
  ⟨hf.2.1, _, by rw [results_tmp2 hr]; simp [Array.getD_eq_getD_getElem?, hf.2.2 t v hl, hf.2.2 u x hu], h w hm⟩
theorem tp_end0 {ro : Option Nat} {fn : Func} {R : Ending → World → Prop} (hr : fn.results = #[]) (h : ∀ w, M.holds w → R (.returned (.tuple #[])) w) :
    TP ⟨ro, []⟩ N L M .ret (bodyPost P fn R) := fun a w hf hm => ⟨hf.2.1, _, by rw [results_none hr], h w hm⟩
theorem tp_end0n {ro : Option Nat} {fn : Func} {R : Ending → World → Prop} (hr : fn.results = #[]) (h : ∀ w, M.holds w → R (.returned (.tuple #[])) w) :
    TP ⟨ro, []⟩ N L M .normal (bodyPost P fn R) := fun a w hf hm => ⟨hf.2.1, _, by rw [results_none hr], h w hm⟩
theorem tc_region {id : Nat} {l : List Oper} (h : TL P Z N L M l.toArray l Q) : TC P Z N L M (.region id l.toArray false) Q :=
  fun a w hf hm => wpIn_region_lit (h a w hf hm)
theorem tl_nil {ops : Array Oper} (h : TP Z N L M .normal Q) : TL P Z N L M ops [] Q := h
theorem tq_nil {ops : Array Oper} (h : TP Z N L M .normal Q) : TQ P Z N L M ops [] (fun a => ∀ w, M.holds w → Q .normal a w) :=
  fun a hf w hm => h a w hf hm
section ops
variable {ops : Array Oper} {o : Oper} {rest : List Oper} {v : Value} {d : Nat}
theorem wanted_none (hg : o.guard = none) (t : Array Value) : Region.wanted o (yielded ops t) = true := by simp [Region.wanted, hg]
theorem wanted_some {j t : Nat} {want b : Bool} {a : Act} (hg : o.guard = some (j, want)) (hj : (ops[j]?).bind (·.dst) = some t) (hf : Fr Z N L a) (hl : L.lookup t = some (.bool b)) :
    Region.wanted o (yielded ops a.tmps) = (b == want) := by
  have := hf.2.2 t _ hl
  simp [Region.wanted, hg, yielded, hj, this]
def asks (u : Value) (want : Bool) : Bool := match u with | .bool b => b == want | _ => false
theorem wanted_any {j t : Nat} {want : Bool} {u : Value} {a : Act} (hg : o.guard = some (j, want)) (hj : (ops[j]?).bind (·.dst) = some t) (hf : Fr Z N L a) (hl : L.lookup t = some u) (hu : asks u want = false) :
    Region.wanted o (yielded ops a.tmps) = false := by
  have := hf.2.2 t _ hl
  cases u <;> simp_all [Region.wanted, yielded, asks]
theorem semAt_of {ro : Option Nat} {ρ : Operand → Value} {w w' : World} {n : Next} (h : (execOp ρ o).run P w = .ok n w') (hn : ∀ d, n ≠ .defer d) : (o.semAt ro ρ).run P w = .ok n w' := by
  rw [Oper.semAt_eq]
  · exact h
  · intro c hc
    unfold execOp at h
    simp only [hc] at h
    simp only [Sem.run_bind] at h
    cases hr : (resolve ρ c o.type).run P w with
    | ok d w2 =>
      rw [hr] at h
      simp only [Result.andThen_ok, Sem.run_pure] at h
      injection h with h1 h2
      exact hn _ h1.symm
    | halt x w2 => rw [hr] at h; simp [Result.andThen] at h
theorem calls_in {ro : Option Nat} {n : Nat} {f : FuncId} {args : Array Value} {w : World} {R : Ending → World → Prop} (h : Calls P f args w R) : CallsIn (FW ro) n P f args w R :=
  (callsIn_wide (n := n)).2 h
theorem wpIn_of {o : Oper} {a : Act} {w : World} {K : Act → World → Prop} {ro : Option Nat} (h : o.uponIn (FW ro) 0 P a K Q ((o.semAt ro a.eval).run P w)) : o.wpIn (FW ro) 0 P a w K Q := ⟨fun _ _ => trivial, h⟩
theorem wpIn_of_quietAt {a : Act} {w : World} {ro : Option Nat} {K : Act → World → Prop} (hm : M.holds w) (hq : o.quietAt P a (fun w' => Below w.heap.size w w') w v)
    (h : ∀ w', M.holds w' → K (a.put o.dst v) w') : o.wpIn (FW ro) 0 P a w K Q := by
  refine wpIn_of ?_
  unfold Oper.quietAt at hq
  cases hr : (execOp a.eval o).run P w with
  | ok n w' =>
    rw [hr] at hq
    cases n <;> simp only [Oper.quietUpon] at hq
    case value u =>
      obtain ⟨e1, e2⟩ := hq
      rw [semAt_of hr (by simp), e1, e2]
      exact h _ hm
    case skip =>
      obtain ⟨e1, e2⟩ := hq
      rw [semAt_of hr (by simp), e1]
      simp only [Oper.uponIn]
      rw [← e2]
      exact h _ hm
    case enter f args =>
      obtain ⟨e1, hc⟩ := hq
      rw [semAt_of hr (by simp), e1]
      exact ⟨fun hd => by simp [Fence.wide] at hd, calls_in (hc.mono fun e w'' ⟨he, hw''⟩ => by subst he; exact h _ (hm.ext hw''))⟩
  | halt x w' => rw [hr] at hq; simp only [Oper.quietUpon] at hq
theorem wpList_of_quietAt {a : Act} {w : World} {ro : Option Nat} (hm : M.holds w) (hwant : Region.wanted o (yielded ops a.tmps) = true) (hq : o.quietAt P a (fun w' => Below w.heap.size w w') w v)
    (h : ∀ w', M.holds w' → wpListIn (FW ro) 0 P ops Q rest (a.put o.dst v) w') : wpListIn (FW ro) 0 P ops Q (o :: rest) a w := by
  unfold wpListIn
  rw [if_pos hwant]
  exact wpIn_of_quietAt hm hq h
theorem wpList_skip' {a : Act} {w : World} {ro : Option Nat} (hw : Region.wanted o (yielded ops a.tmps) = false) (h : wpListIn (FW ro) 0 P ops Q rest (a.put o.dst undef) w) : wpListIn (FW ro) 0 P ops Q (o :: rest) a w := by
  unfold wpListIn
  rw [if_neg (by simp [hw])]
  exact ⟨fun _ _ => trivial, h⟩
theorem tl_step (hg : o.guard = none) (hd : o.dst = some d) (hN : d < N) (hq : Qv P Z N L M o v) (h : TL P Z N ((d, v) :: L) M ops rest Q) : TL P Z N L M ops (o :: rest) Q :=
  fun a w hf hm => wpList_of_quietAt hm (wanted_none hg _) (hq a hf w hm) (fun w' hm' => h _ w' (by rw [hd]; exact hf.put hN v) hm')
theorem tl_stepg {j t : Nat} {want : Bool} (hg : o.guard = some (j, want)) (hj : (ops[j]?).bind (·.dst) = some t) (hl : L.lookup t = some (.bool want)) (hd : o.dst = some d) (hN : d < N) (hq : Qv P Z N L M o v)
    (h : TL P Z N ((d, v) :: L) M ops rest Q) : TL P Z N L M ops (o :: rest) Q :=
  fun a w hf hm => wpList_of_quietAt hm (by rw [wanted_some hg hj hf hl]; simp) (hq a hf w hm) (fun w' hm' => h _ w' (by rw [hd]; exact hf.put hN v) hm')
theorem tl_skip {j t : Nat} {want : Bool} {u : Value} (hg : o.guard = some (j, want)) (hj : (ops[j]?).bind (·.dst) = some t) (hl : L.lookup t = some u) (hb : asks u want = false) (hd : o.dst = some d) (hN : d < N)
    (h : TL P Z N ((d, undef) :: L) M ops rest Q) : TL P Z N L M ops (o :: rest) Q := fun a w hf hm =>
  wpList_skip' (wanted_any hg hj hf hl hb) (h _ w (by rw [hd]; exact hf.put hN _) hm)
variable {K : Act → Prop}
theorem tq_step (hg : o.guard = none) (hd : o.dst = some d) (hN : d < N) (hq : Qv P Z N L M o v) (h : TQ P Z N ((d, v) :: L) M ops rest K) : TQ P Z N L M ops (o :: rest) K :=
  fun a hf => by
    unfold QS
    rw [if_pos (wanted_none hg _)]
    exact ⟨v, fun w hm => hq a hf w hm, h _ (by rw [hd]; exact hf.put hN v)⟩
theorem tq_stepg {j t : Nat} {want : Bool} (hg : o.guard = some (j, want)) (hj : (ops[j]?).bind (·.dst) = some t) (hl : L.lookup t = some (.bool want)) (hd : o.dst = some d) (hN : d < N) (hq : Qv P Z N L M o v)
    (h : TQ P Z N ((d, v) :: L) M ops rest K) : TQ P Z N L M ops (o :: rest) K :=
  fun a hf => by
    unfold QS
    rw [if_pos (by rw [wanted_some hg hj hf hl]; simp)]
    exact ⟨v, fun w hm => hq a hf w hm, h _ (by rw [hd]; exact hf.put hN v)⟩
theorem tq_skip {j t : Nat} {want : Bool} {u : Value} (hg : o.guard = some (j, want)) (hj : (ops[j]?).bind (·.dst) = some t) (hl : L.lookup t = some u) (hb : asks u want = false) (hd : o.dst = some d) (hN : d < N)
    (h : TQ P Z N ((d, undef) :: L) M ops rest K) : TQ P Z N L M ops (o :: rest) K := fun a hf => by
  unfold QS
  rw [if_neg (by rw [wanted_any hg hj hf hl hb]; simp)]
  exact h _ (by rw [hd]; exact hf.put hN _)
theorem TL.sub (hs : Sub L L') (h : TL P Z N L' M ops rest Q) : TL P Z N L M ops rest Q := fun a w hf hm => h a w (hf.sub hs) hm
theorem TQ.sub (hs : Sub L L') (h : TQ P Z N L' M ops rest K) : TQ P Z N L M ops rest K := fun a hf => h a (hf.sub hs)
end ops
end
end Go.D
namespace Go.D
open Go Go.RowKit
def Scalar (P : Program) (T : TypeId) : Prop := ∀ w, (isAgg T).run P w = .ok false w
def Agg (P : Program) (T : TypeId) (n : Nat) : Prop := ∀ w, (isAgg T).run P w = .ok true w ∧ (sizeOf T).run P w = .ok n w
def Size (P : Program) (T : TypeId) (n : Nat) : Prop := ∀ w, (sizeOf T).run P w = .ok n w
def FOff (P : Program) (S f off : Nat) : Prop := ∀ (b o : Nat) (w : World), (Instr.fieldAt S (.pointer (some ⟨b, o, none⟩)) f).run P w = .ok (.pointer (some ⟨b, o + off, none⟩)) w
def SliceTy (P : Program) (T sz : Nat) : Prop := ∃ E, P.underlying T = some (.slice E) ∧ Size P E sz
def ArrTy (P : Program) (T n sz : Nat) : Prop := ∃ E, P.underlying T = some (.array n E) ∧ Size P E sz
def Zero (P : Program) (T : TypeId) (cs : Array Value) : Prop := ∀ w, ∃ z, (zeroValue T).run P w = .ok z w ∧ z.cells = cs
def IsFn (P : Program) (f : FuncId) : Prop := ∀ args w, (callFunc f args).run P w = .ok (.enter f args) w
theorem isFn_of {P : Program} {f : FuncId} {fn : Func} (hf : P.funcs[f]? = some fn) (hn : (fn.name == "runtime.NumGoroutine") = false) (hb : fn.body.isNone = false) : IsFn P f := by
  intro args w
  simp only [callFunc, Sem.run_bind, run_program, Result.andThen_ok, hf]
  simp [hn, hb]
def Mem.has (M : Mem) (W : World) (lo hi : Nat) : Prop := ∀ w, M.holds w → hi ≤ w.heap.size ∧ ∀ b, lo ≤ b → b < hi → w.heap[b]? = W.heap[b]?
theorem Mem.has_base {B : World} {bs : List (Nat × Obj)} {ks : List Kp} {ms : List Nat} {rs : List (Option (Nat × Obj))} : Mem.has ⟨B, bs, ks, ms, rs⟩ B 0 B.heap.size := fun _ h => ⟨h.size, fun b _ hb => h.old b hb⟩
theorem Mem.has_kept {B : World} {bs : List (Nat × Obj)} {ks : List Kp} {ms : List Nat} {rs : List (Option (Nat × Obj))} {W : World} {lo hi : Nat} (h : Kin W lo hi ∈ ks) : Mem.has ⟨B, bs, ks, ms, rs⟩ W lo hi := fun _ hm => ⟨(hm.kept _ h).1, fun b h1 h2 => (hm.kept _ h).2 b h1 h2 trivial⟩
theorem add_none (b o n : Nat) : (⟨b, o, none⟩ : Addr).add n = ⟨b, o + n, none⟩ := by
  unfold Addr.add
  split
  · rename_i h; subst h; rfl
  · rfl
theorem cell_of {w : World} {b o : Nat} {cs : Array Value} {T : TypeId} {fz : Nat × Nat} {v : Value} (h : w.heap[b]? = some (.cells cs T fz)) (hv : cs[o]? = some v) : w.cell? ⟨b, o, none⟩ = some v := by
  simp [World.cell?, h, hv]
theorem cell_same {w w' : World} {b o : Nat} (h : w'.heap[b]? = w.heap[b]?) : w'.cell? ⟨b, o, none⟩ = w.cell? ⟨b, o, none⟩ := by simp [World.cell?, h]
def blk : Option Addr → Nat | some p => p.block | none => 0
def offs : Option Addr → Nat | some p => p.off | none => 0
structure SlAt {α : Type} (W : World) (lo hi sz : Nat) (enc : α → List Value) (a : Option Addr) (l : List α) : Prop where
  len : l.length ≤ maxLen
  szs : ∀ x ∈ l, (enc x).length = sz
  nz : l ≠ [] → a = some ⟨blk a, offs a, none⟩ ∧ lo ≤ blk a ∧ blk a < hi
  cell : ∀ i j x v, l[i]? = some x → (enc x)[j]? = some v → W.cell? ⟨blk a, offs a + i * sz + j, none⟩ = some v
def SlIn {α : Type} (w : World) (sz : Nat) (enc : α → List Value) (a : Option Addr) (l : List α) : Prop := SlAt w 0 w.heap.size sz enc a l
theorem SlAt.move {α : Type} {W w : World} {lo hi lo' hi' sz : Nat} {enc : α → List Value} {a : Option Addr} {l : List α} (h : SlAt W lo hi sz enc a l) (hk : ∀ b, lo ≤ b → b < hi → w.heap[b]? = W.heap[b]?)
    (h1 : lo' ≤ lo) (h2 : hi ≤ hi') : SlAt w lo' hi' sz enc a l := by
  refine ⟨h.len, h.szs, fun hn => ?_, fun i j x v hx hv => ?_⟩
  · obtain ⟨e, h3, h4⟩ := h.nz hn
    exact ⟨e, by omega, by omega⟩
  · have hn : l ≠ [] := fun e => by subst e; simp at hx
    obtain ⟨_, h3, h4⟩ := h.nz hn
    rw [cell_same (hk _ h3 h4)]
    exact h.cell i j x v hx hv
theorem SlAt.into {α : Type} {M : Mem} {W w : World} {lo hi sz : Nat} {enc : α → List Value} {a : Option Addr} {l : List α} (h : SlAt W lo hi sz enc a l) (hM : M.has W lo hi) (hm : M.holds w) : SlIn w sz enc a l :=
  h.move (hM w hm).2 (Nat.zero_le _) (hM w hm).1
theorem SlIn.ext {α : Type} {w w' : World} {sz : Nat} {enc : α → List Value} {a : Option Addr} {l : List α} (h : SlIn w sz enc a l) (hb : Below w.heap.size w w') : SlIn w' sz enc a l :=
  SlAt.move h (fun b _ hlt => hb.block b hlt) (Nat.le_refl _) hb.size
section
variable {P : Program} {Z : Env} {N : Nat} {L : List (Nat × Value)} {M : Mem} {d : Option Tmp} {ty : TypeId} {pos : String} {af : Array Edge} {g : Option (Nat × Bool)} {x y : Operand} {v : Value}
theorem qv_of {o : Oper} (h : ∀ a, Fr Z N L a → ∀ w, M.holds w → (execOp a.eval o).run P w = .ok (.value v) w) : Qv P Z N L M o v := fun a hf w hm => by
  unfold Oper.quietAt
  rw [h a hf w hm]
  exact ⟨rfl, rfl⟩
theorem qv_move (hx : ev L x = some v) : Qv P Z N L M ⟨d, .move x, ty, pos, af, g⟩ v := qv_of fun a hf w _ => by
  simp [execOp, hf.eval hx]
theorem qv_assign (hx : ev L x = some v) : Qv P Z N L M ⟨d, .assign x, ty, pos, af, g⟩ v := qv_of fun a hf w _ => by
  simp [execOp, hf.eval hx]
theorem qv_pickT {c : Operand} (hc : ev L c = some (.bool true)) (hx : ev L x = some v) : Qv P Z N L M ⟨d, .pick c x y, ty, pos, af, g⟩ v := qv_of fun a hf w _ => by
  simp [execOp, hf.eval hc, hf.eval hx, asBool]
theorem qv_pickF {c : Operand} (hc : ev L c = some (.bool false)) (hy : ev L y = some v) : Qv P Z N L M ⟨d, .pick c x y, ty, pos, af, g⟩ v := qv_of fun a hf w _ => by
  simp [execOp, hf.eval hc, hf.eval hy, asBool]
theorem qv_not {T : TypeId} {b : Bool} (hx : ev L x = some (.bool b)) : Qv P Z N L M ⟨d, .unOp .not T x, ty, pos, af, g⟩ (.bool (!b)) := qv_of fun a hf w _ => by
  simp [execOp, hf.eval hx, Op.unary]
theorem qv_neg {T : TypeId} {k : IntKind} {n : Int} (hx : ev L x = some (.int k n)) : Qv P Z N L M ⟨d, .unOp .neg T x, ty, pos, af, g⟩ (.int k (k.wrap (0 - n))) := qv_of fun a hf w _ => by
  simp [execOp, hf.eval hx, Op.unary, Op.intArith]
section ints
variable {T T' : TypeId} {k : IntKind} {m n : Int}
theorem qv_lss (hx : ev L x = some (.int k m)) (hy : ev L y = some (.int k n)) : Qv P Z N L M ⟨d, .binOp .lss T x y T', ty, pos, af, g⟩ (.bool (decide (m < n))) := qv_of fun a hf w _ => by
  simp [execOp, hf.eval hx, hf.eval hy, eqGuard, binOp, Op.intCmp]
theorem qv_leq (hx : ev L x = some (.int k m)) (hy : ev L y = some (.int k n)) : Qv P Z N L M ⟨d, .binOp .leq T x y T', ty, pos, af, g⟩ (.bool (decide (m ≤ n))) := qv_of fun a hf w _ => by
  simp [execOp, hf.eval hx, hf.eval hy, eqGuard, binOp, Op.intCmp]
theorem qv_gtr (hx : ev L x = some (.int k m)) (hy : ev L y = some (.int k n)) : Qv P Z N L M ⟨d, .binOp .gtr T x y T', ty, pos, af, g⟩ (.bool (decide (n < m))) := qv_of fun a hf w _ => by
  simp [execOp, hf.eval hx, hf.eval hy, eqGuard, binOp, Op.intCmp]
theorem qv_geq (hx : ev L x = some (.int k m)) (hy : ev L y = some (.int k n)) : Qv P Z N L M ⟨d, .binOp .geq T x y T', ty, pos, af, g⟩ (.bool (decide (n ≤ m))) := qv_of fun a hf w _ => by
  simp [execOp, hf.eval hx, hf.eval hy, eqGuard, binOp, Op.intCmp]
theorem qv_eql (hx : ev L x = some (.int k m)) (hy : ev L y = some (.int k n)) : Qv P Z N L M ⟨d, .binOp .eql T x y T', ty, pos, af, g⟩ (.bool (decide (m = n))) := qv_of fun a hf w _ => by
  have e : (m == n) = decide (m = n) := by rw [Bool.eq_iff_iff]; simp
  simp [execOp, hf.eval hx, hf.eval hy, eqGuard, binOp, Op.intCmp, e]
theorem qv_neq (hx : ev L x = some (.int k m)) (hy : ev L y = some (.int k n)) : Qv P Z N L M ⟨d, .binOp .neq T x y T', ty, pos, af, g⟩ (.bool (decide (m ≠ n))) := qv_of fun a hf w _ => by
  have e : (m != n) = decide (m ≠ n) := by rw [Bool.eq_iff_iff]; simp
  simp [execOp, hf.eval hx, hf.eval hy, eqGuard, binOp, Op.intCmp, e]
theorem qv_add (hx : ev L x = some (.int k m)) (hy : ev L y = some (.int k n)) : Qv P Z N L M ⟨d, .binOp .add T x y T', ty, pos, af, g⟩ (.int k (k.wrap (m + n))) := qv_of fun a hf w _ => by
  simp [execOp, hf.eval hx, hf.eval hy, eqGuard, binOp, Op.intArith]
theorem qv_sub (hx : ev L x = some (.int k m)) (hy : ev L y = some (.int k n)) : Qv P Z N L M ⟨d, .binOp .sub T x y T', ty, pos, af, g⟩ (.int k (k.wrap (m - n))) := qv_of fun a hf w _ => by
  simp [execOp, hf.eval hx, hf.eval hy, eqGuard, binOp, Op.intArith]
theorem qv_mul (hx : ev L x = some (.int k m)) (hy : ev L y = some (.int k n)) : Qv P Z N L M ⟨d, .binOp .mul T x y T', ty, pos, af, g⟩ (.int k (k.wrap (m * n))) := qv_of fun a hf w _ => by
  simp [execOp, hf.eval hx, hf.eval hy, eqGuard, binOp, Op.intArith]
theorem qv_quo (hx : ev L x = some (.int k m)) (hy : ev L y = some (.int k n)) (h0 : n ≠ 0) : Qv P Z N L M ⟨d, .binOp .quo T x y T', ty, pos, af, g⟩ (.int k (k.wrap (m.tdiv n))) := qv_of fun a hf w _ => by
  simp [execOp, hf.eval hx, hf.eval hy, eqGuard, binOp, Op.intDiv, h0]
theorem qv_rem (hx : ev L x = some (.int k m)) (hy : ev L y = some (.int k n)) (h0 : n ≠ 0) : Qv P Z N L M ⟨d, .binOp .rem T x y T', ty, pos, af, g⟩ (.int k (m.tmod n)) := qv_of fun a hf w _ => by
  simp [execOp, hf.eval hx, hf.eval hy, eqGuard, binOp, Op.intDiv, h0]
theorem wrap_in {n : Int} (h0 : -9223372036854775808 ≤ n) (h1 : n ≤ 9223372036854775807) : IntKind.i64.wrap n = n := IntWalk.i64_in n (by omega)
/-- sums that fit -/
theorem qv_addI (hx : ev L x = some (.int .i64 m)) (hy : ev L y = some (.int .i64 n)) (h : -9223372036854775808 ≤ m + n ∧ m + n ≤ 9223372036854775807) : Qv P Z N L M ⟨d, .binOp .add T x y T', ty, pos, af, g⟩ (.int .i64 (m + n)) := by
  have := qv_add (P := P) (Z := Z) (N := N) (M := M) (d := d) (ty := ty) (pos := pos) (af := af) (g := g) (T := T) (T' := T') hx hy
  rwa [wrap_in h.1 h.2] at this
theorem qv_subI (hx : ev L x = some (.int .i64 m)) (hy : ev L y = some (.int .i64 n)) (h : -9223372036854775808 ≤ m - n ∧ m - n ≤ 9223372036854775807) : Qv P Z N L M ⟨d, .binOp .sub T x y T', ty, pos, af, g⟩ (.int .i64 (m - n)) := by
  have := qv_sub (P := P) (Z := Z) (N := N) (M := M) (d := d) (ty := ty) (pos := pos) (af := af) (g := g) (T := T) (T' := T') hx hy
  rwa [wrap_in h.1 h.2] at this
theorem qv_mulI (hx : ev L x = some (.int .i64 m)) (hy : ev L y = some (.int .i64 n)) (h : -9223372036854775808 ≤ m * n ∧ m * n ≤ 9223372036854775807) : Qv P Z N L M ⟨d, .binOp .mul T x y T', ty, pos, af, g⟩ (.int .i64 (m * n)) := by
  have := qv_mul (P := P) (Z := Z) (N := N) (M := M) (d := d) (ty := ty) (pos := pos) (af := af) (g := g) (T := T) (T' := T') hx hy
  rwa [wrap_in h.1 h.2] at this
/-- a counter's next number -/
theorem qv_succ {i : Nat} (hx : ev L x = some (.int .i64 (i : Int))) (hy : ev L y = some (.int .i64 1)) (h : i < 9223372036854775807) : Qv P Z N L M ⟨d, .binOp .add T x y T', ty, pos, af, g⟩ (.int .i64 ((i + 1 : Nat) : Int)) := by
  exact qv_addI hx hy (by omega)
/-- remainders of numbers that are not negative -/
theorem qv_remI (hx : ev L x = some (.int k m)) (hy : ev L y = some (.int k n)) (h0 : 0 < n) (hm : 0 ≤ m) : Qv P Z N L M ⟨d, .binOp .rem T x y T', ty, pos, af, g⟩ (.int k (m % n)) := by
  have := qv_rem (P := P) (Z := Z) (N := N) (M := M) (d := d) (ty := ty) (pos := pos) (af := af) (g := g) (T := T) (T' := T') hx hy (by omega)
  rwa [Int.tmod_eq_emod_of_nonneg hm] at this
theorem qv_quoI (hx : ev L x = some (.int .i64 m)) (hy : ev L y = some (.int .i64 n)) (h0 : 0 < n) (hm : 0 ≤ m) (hb : m ≤ 9223372036854775807) : Qv P Z N L M ⟨d, .binOp .quo T x y T', ty, pos, af, g⟩ (.int .i64 (m / n)) := by
  have := qv_quo (P := P) (Z := Z) (N := N) (M := M) (d := d) (ty := ty) (pos := pos) (af := af) (g := g) (T := T) (T' := T') hx hy (by omega)
  rw [Int.tdiv_eq_ediv_of_nonneg hm] at this
  have h1 : 0 ≤ m / n := Int.ediv_nonneg hm (by omega)
  have h2 : m / n ≤ m := Int.ediv_le_self _ hm
  rwa [wrap_in (by omega) (by omega)] at this
theorem qv_min2 {at' : Array TypeId} (hx : ev L x = some (.int k m)) (hy : ev L y = some (.int k n)) : Qv P Z N L M ⟨d, .call { callee := .builtin .min, args := #[x, y], argTypes := at' }, ty, pos, af, g⟩ (.int k (if n < m then n else m)) := qv_of fun a hf w _ => by
  simp [execOp, resolve, invoke, builtin, Builtin.min_, Builtin.min2, hf.eval hx, hf.eval hy]
end ints
theorem qv_len {T : TypeId} {sz : Nat} {a : Option Addr} {n c : Nat} (hT : SliceTy P T sz) (hx : ev L x = some (.slice a n c)) : Qv P Z N L M ⟨d, .call { callee := .builtin .len, args := #[x], argTypes := #[T] }, ty, pos, af, g⟩ (.int .i64 (n : Int)) := qv_of fun a' hf w _ => by
  obtain ⟨E, hE, _⟩ := hT
  simp [execOp, resolve, invoke, builtin, Builtin.len_, hf.eval hx, run_underlying hE, goInt]
theorem qv_extract {i : Nat} {vs : Array Value} (hx : ev L x = some (.tuple vs)) (hi : vs[i]? = some v) : Qv P Z N L M ⟨d, .extract x i, ty, pos, af, g⟩ v := qv_of fun a hf w _ => by
  simp [execOp, Instr.extract, hf.eval hx, hi]
theorem qv_fa {S f off b o : Nat} (hF : FOff P S f off) (hx : ev L x = some (.pointer (some ⟨b, o, none⟩))) : Qv P Z N L M ⟨d, .fieldAddr S x f, ty, pos, af, g⟩ (.pointer (some ⟨b, o + off, none⟩)) := qv_of fun a hf w _ => by
  simp [execOp, hf.eval hx, hF b o w]
theorem qv_ia {α : Type} {T sz cap : Nat} {i : Int} {k : IntKind} {enc : α → List Value} {a : Option Addr} {l : List α} {W : World} {lo hi : Nat} (hT : SliceTy P T sz) (hs : SlAt W lo hi sz enc a l)
    (hx : ev L x = some (.slice a l.length cap)) (hy : ev L y = some (.int k i)) (h : 0 ≤ i ∧ i < l.length) : Qv P Z N L M ⟨d, .indexAddr T x y, ty, pos, af, g⟩ (.pointer (some ⟨blk a, offs a + i.toNat * sz, none⟩)) := qv_of fun a' hf w _ => by
  obtain ⟨E, hE, hsz⟩ := hT
  obtain ⟨e, _, _⟩ := hs.nz (fun e => by subst e; simp at h; omega)
  have : (Instr.indexAt T (.slice a l.length cap) (.int k i)).run P w = .ok (.pointer (some ⟨blk a, offs a + i.toNat * sz, none⟩)) w := by
    rw [e]
    simp [Instr.indexAt, asIntOf, run_underlying hE, h, hsz w, add_none, blk, offs]
  simp [execOp, hf.eval hx, hf.eval hy, this]
theorem qv_iaN {α : Type} {T sz cap : Nat} {i : Nat} {k : IntKind} {enc : α → List Value} {a : Option Addr} {l : List α} {W : World} {lo hi : Nat} (hT : SliceTy P T sz) (hs : SlAt W lo hi sz enc a l)
    (hx : ev L x = some (.slice a l.length cap)) (hy : ev L y = some (.int k (i : Int))) (h : i < l.length) : Qv P Z N L M ⟨d, .indexAddr T x y, ty, pos, af, g⟩ (.pointer (some ⟨blk a, offs a + i * sz, none⟩)) := by
  have := qv_ia (P := P) (Z := Z) (N := N) (M := M) (d := d) (ty := ty) (pos := pos) (af := af) (g := g) hT hs hx hy (by omega)
  simpa using this
/-- an element of an array behind a pointer -/
theorem qv_iA {T n sz b o : Nat} {i : Int} {k : IntKind} (hT : ArrTy P T n sz) (hx : ev L x = some (.pointer (some ⟨b, o, none⟩))) (hy : ev L y = some (.int k i)) (h : 0 ≤ i ∧ i < n) :
    Qv P Z N L M ⟨d, .indexAddr T x y, ty, pos, af, g⟩ (.pointer (some ⟨b, o + i.toNat * sz, none⟩)) := qv_of fun a' hf w _ => by
  obtain ⟨E, hE, hsz⟩ := hT
  have : (Instr.indexAt T (.pointer (some ⟨b, o, none⟩)) (.int k i)).run P w = .ok (.pointer (some ⟨b, o + i.toNat * sz, none⟩)) w := by
    simp [Instr.indexAt, asIntOf, run_underlying hE, h, hsz w, add_none, Instr.sureAddr]
  simp [execOp, hf.eval hx, hf.eval hy, this]
theorem qv_load {T : TypeId} {p : Addr} (hx : ev L x = some (.pointer (some p))) (h : ∀ w, M.holds w → (loadVar T p).run P w = .ok v w) : Qv P Z N L M ⟨d, .load T x, ty, pos, af, g⟩ v := qv_of fun a hf w hm => by
  simp [execOp, hf.eval hx, Instr.loadAt, Instr.sureAddr, h w hm]
theorem run_loadVar_scalar {T : TypeId} {p : Addr} {w : World} (hT : Scalar P T) (hc : w.cell? p = some v) : (loadVar T p).run P w = .ok v w := by
  simp [loadVar, hT w, hc]
theorem run_loadCellsFrom {w : World} {b o : Nat} (vs : List Value) : ∀ (i : Nat) (acc : Array Value), (∀ j, j < vs.length → w.cell? ⟨b, o + (i + j), none⟩ = vs[j]?) →
    (loadCellsFrom ⟨b, o, none⟩ i vs.length acc).run P w = .ok (acc ++ vs.toArray) w := by
  induction vs with
  | nil => intro i acc _; simp [loadCellsFrom]
  | cons v vs ih =>
    intro i acc h
    have h0 := h 0 (by simp)
    simp only [Nat.add_zero, List.getElem?_cons_zero] at h0
    simp only [List.length_cons, loadCellsFrom, Sem.run_bind, run_load, add_none, h0, Result.andThen_ok]
    rw [ih (i + 1) (acc.push v) (fun j hj => by
      have := h (j + 1) (by simpa using hj)
      rw [show o + (i + 1 + j) = o + (i + (j + 1)) by omega, this]
      simp)]
    simp
theorem run_loadVar_agg {T : TypeId} {w : World} {b o : Nat} {vs : List Value} (hT : Agg P T vs.length) (h : ∀ j, j < vs.length → w.cell? ⟨b, o + j, none⟩ = vs[j]?) :
    (loadVar T ⟨b, o, none⟩).run P w = .ok (.agg vs.toArray) w := by
  simp only [loadVar, Sem.run_bind, (hT w).1, Result.andThen_ok, (hT w).2, if_true, loadCells]
  rw [run_loadCellsFrom vs 0 #[] (fun j hj => by rw [Nat.zero_add]; exact h j hj)]
  simp
/-- out of a box -/
theorem qv_ldB {T : TypeId} {B : World} {bs : List (Nat × Obj)} {ks : List Kp} {ms : List Nat} {rs : List (Option (Nat × Obj))} {i b o : Nat} {cs : Array Value} {T0 : TypeId} {fz : Nat × Nat} (hT : Scalar P T) (hx : ev L x = some (.pointer (some ⟨b, o, none⟩)))
    (hi : bs[i]? = some (b, .cells cs T0 fz)) (ho : cs[o]? = some v) : Qv P Z N L ⟨B, bs, ks, ms, rs⟩ ⟨d, .load T x, ty, pos, af, g⟩ v :=
  qv_load hx fun w hm => run_loadVar_scalar hT (cell_of (hm.boxOf (List.mem_of_getElem? hi)).2 ho)
theorem qv_ldBA {T : TypeId} {B : World} {bs : List (Nat × Obj)} {ks : List Kp} {ms : List Nat} {rs : List (Option (Nat × Obj))} {i b o n : Nat} {cs : Array Value} {T0 : TypeId} {fz : Nat × Nat} {vs : List Value} (hT : Agg P T n) (hx : ev L x = some (.pointer (some ⟨b, o, none⟩)))
    (hi : bs[i]? = some (b, .cells cs T0 fz)) (hn : vs.length = n) (ho : ∀ j, j < n → cs[o + j]? = vs[j]?) : Qv P Z N L ⟨B, bs, ks, ms, rs⟩ ⟨d, .load T x, ty, pos, af, g⟩ (.agg vs.toArray) :=
  qv_load hx fun w hm => run_loadVar_agg (hn ▸ hT) fun j hj => by
    rw [← ho j (hn ▸ hj)]
    have hb := (hm.boxOf (List.mem_of_getElem? hi)).2
    simp [World.cell?, hb]
/-- a box as a whole -/
theorem qv_ldBW {T : TypeId} {B : World} {bs : List (Nat × Obj)} {ks : List Kp} {ms : List Nat} {rs : List (Option (Nat × Obj))} {i b n : Nat} {cs : Array Value} {T0 : TypeId} {fz : Nat × Nat} (hT : Agg P T n) (hx : ev L x = some (.pointer (some ⟨b, 0, none⟩)))
    (hi : bs[i]? = some (b, .cells cs T0 fz)) (hn : cs.size = n) : Qv P Z N L ⟨B, bs, ks, ms, rs⟩ ⟨d, .load T x, ty, pos, af, g⟩ (.agg cs) := by
  have := qv_ldBA (P := P) (Z := Z) (N := N) (B := B) (ks := ks) (ms := ms) (rs := rs) (d := d) (ty := ty) (pos := pos) (af := af) (g := g) (vs := cs.toList) hT hx hi (by simpa using hn) (fun j _ => by simp)
  simpa using this
/-- out of a block that lay before the call -/
theorem qv_ldO {T : TypeId} {b o : Nat} {cs : Array Value} {T0 : TypeId} {fz : Nat × Nat} (hT : Scalar P T) (hx : ev L x = some (.pointer (some ⟨b, o, none⟩)))
    (hi : M.base.heap[b]? = some (.cells cs T0 fz)) (ho : cs[o]? = some v) : Qv P Z N L M ⟨d, .load T x, ty, pos, af, g⟩ v :=
  qv_load hx fun w hm => run_loadVar_scalar hT (cell_of (by rw [hm.old b (get_lt hi)]; exact hi) ho)
section elems
variable {α : Type} {W : World} {lo hi sz : Nat} {enc : α → List Value} {a : Option Addr} {l : List α} {e : α}
/-- a part of an element of a slice -/
theorem qv_ldE {T : TypeId} {o i j : Nat} (hT : Scalar P T) (hs : SlAt W lo hi sz enc a l) (hM : M.has W lo hi) (hx : ev L x = some (.pointer (some ⟨blk a, o, none⟩))) (ho : o = offs a + i * sz + j)
    (he : l[i]? = some e) (hv : (enc e)[j]? = some v) : Qv P Z N L M ⟨d, .load T x, ty, pos, af, g⟩ v :=
  qv_load hx fun w hm => run_loadVar_scalar hT (by
    subst ho
    obtain ⟨_, h1, h2⟩ := hs.nz (fun e => by subst e; simp at he)
    rw [cell_same ((hM w hm).2 _ h1 h2)]
    exact hs.cell i j e v he hv)
/-- an element as a whole -/
theorem qv_ldEW {T : TypeId} {i : Nat} (hT : Agg P T sz) (hs : SlAt W lo hi sz enc a l) (hM : M.has W lo hi) (hx : ev L x = some (.pointer (some ⟨blk a, offs a + i * sz, none⟩)))
    (he : l[i]? = some e) : Qv P Z N L M ⟨d, .load T x, ty, pos, af, g⟩ (.agg (enc e).toArray) :=
  qv_load hx fun w hm => run_loadVar_agg (hs.szs e (List.mem_of_getElem? he) ▸ hT) fun j hj => by
    obtain ⟨_, h1, h2⟩ := hs.nz (fun e => by subst e; simp at he)
    rw [cell_same ((hM w hm).2 _ h1 h2), List.getElem?_eq_getElem hj]
    exact hs.cell i j e _ he (List.getElem?_eq_getElem hj)
end elems
def evs (L : List (Nat × Value)) : List Operand → Option (List Value)
  | [] => some []
  | o :: os => match ev L o, evs L os with
    | some v, some vs => some (v :: vs)
    | _, _ => none
theorem evs_map {a : Act} (hf : Fr Z N L a) : ∀ {l : List Operand} {vs : List Value}, evs L l = some vs → l.map a.eval = vs
  | [], vs, h => by simp [evs] at h; subst h; rfl
  | o :: os, vs, h => by
    simp only [evs] at h
    split at h
    · rename_i v us h1 h2
      cases h
      simp [hf.eval h1, evs_map hf h2]
    · cases h
theorem run_call {f : FuncId} {args : Array Operand} {at' : Array TypeId} {vs caps : List Value} {fo : Operand} {ac : Act} (hf : Fr Z N L ac) (hF : IsFn P f) (hfo : ev L fo = some (.func (.func f) #[] caps.toArray)) (hvs : evs L args.toList = some vs) (w : World) :
    (execOp ac.eval ⟨d, .call { callee := .value fo, args := args, argTypes := at' }, ty, pos, af, g⟩).run P w = .ok (.enter f (vs ++ caps).toArray) w := by
  have h1 : args.map ac.eval = vs.toArray := by
    apply Array.ext'
    simpa using evs_map hf hvs
  simp [execOp, resolve, hf.eval hfo, Deferred.ofValue, invoke, h1, hF _ w]
/-- a call that only reads, or makes new blocks; its result is a plain value -/
theorem qv_callV {f : FuncId} {args : Array Operand} {at' : Array TypeId} {vs caps : List Value} {fo : Operand} (hF : IsFn P f) (hfo : ev L fo = some (.func (.func f) #[] caps.toArray)) (hvs : evs L args.toList = some vs)
    (hC : ∀ w, M.holds w → Calls P f (vs ++ caps).toArray w fun e w' => e = .returned v ∧ Below w.heap.size w w') :
    Qv P Z N L M ⟨d, .call { callee := .value fo, args := args, argTypes := at' }, ty, pos, af, g⟩ v := fun ac hf w hm => by
  unfold Oper.quietAt
  rw [run_call hf hF hfo hvs w]
  exact ⟨rfl, hC w hm⟩
theorem qv_call {f : FuncId} {args : Array Operand} {at' : Array TypeId} {vs : List Value} (hF : IsFn P f) (hvs : evs L args.toList = some vs)
    (hC : ∀ w, M.holds w → Calls P f vs.toArray w fun e w' => e = .returned v ∧ Below w.heap.size w w') :
    Qv P Z N L M ⟨d, .call { callee := .value (.func f), args := args, argTypes := at' }, ty, pos, af, g⟩ v :=
  qv_callV (caps := []) hF rfl hvs (by simpa using hC)
end
section
variable {P : Program} {Z : Env} {N : Nat} {L : List (Nat × Value)} {M : Mem} {Q : Exit → Act → World → Prop} {ops : Array Oper} {rest : List Oper} {dd : Tmp} {ty : TypeId} {pos : String} {af : Array Edge} {x y : Operand} {v : Value}
theorem wpList_value {o : Oper} {a : Act} {w w' : World} {u : Value} {ro : Option Nat} (hg : o.guard = none) (hr : (execOp a.eval o).run P w = .ok (.value u) w') (h : wpListIn (FW ro) 0 P ops Q rest (a.put o.dst u) w') : wpListIn (FW ro) 0 P ops Q (o :: rest) a w := by
  unfold wpListIn
  rw [if_pos (by simp [Region.wanted, hg])]
  refine wpIn_of ?_
  rw [semAt_of hr (by simp)]
  exact h
theorem wpList_skipv {o : Oper} {a : Act} {w w' : World} {ro : Option Nat} (hg : o.guard = none) (hr : (execOp a.eval o).run P w = .ok .skip w') (h : wpListIn (FW ro) 0 P ops Q rest (a.put o.dst undef) w') : wpListIn (FW ro) 0 P ops Q (o :: rest) a w := by
  unfold wpListIn
  rw [if_pos (by simp [Region.wanted, hg])]
  refine wpIn_of ?_
  rw [semAt_of hr (by simp)]
  exact h
theorem wpList_enter {o : Oper} {a : Act} {w w' : World} {f : FuncId} {args : Array Value} {ro : Option Nat} (hg : o.guard = none) (hr : (execOp a.eval o).run P w = .ok (.enter f args) w') (h : Calls P f args w' fun e w'' => ∃ u, e = .returned u ∧ wpListIn (FW ro) 0 P ops Q rest (a.put o.dst u) w'') : wpListIn (FW ro) 0 P ops Q (o :: rest) a w := by
  unfold wpListIn
  rw [if_pos (by simp [Region.wanted, hg])]
  refine wpIn_of ?_
  rw [semAt_of hr (by simp)]
  exact ⟨fun hd => by simp [Fence.wide] at hd, calls_in (h.mono fun e w'' ⟨u, he, hk⟩ => by subst he; exact hk)⟩
theorem tl_box {T : TypeId} {B : World} {bs : List (Nat × Obj)} {ks : List Kp} {ms : List Nat} {rs : List (Option (Nat × Obj))} (hx : ev L x = some v) (hd : dd < N) (h : ∀ b, TL P Z N ((dd, .pointer (some ⟨b, 0, none⟩)) :: L) ⟨B, (b, .cells v.cells T (0, 0)) :: bs, ks, ms, rs⟩ ops rest Q) :
    TL P Z N L ⟨B, bs, ks, ms, rs⟩ ops (⟨some dd, .box T x, ty, pos, af, none⟩ :: rest) Q := fun a w hf hm =>
  wpList_value rfl (w' := w.alloc (.cells v.cells T)) (u := .pointer (some ⟨w.heap.size, 0, none⟩)) (by simp [execOp, hf.eval hx, Instr.box, newVar, newRow])
    (h w.heap.size _ _ (hf.put hd _) (hm.alloc _))
theorem tl_alloc {T : TypeId} {B : World} {bs : List (Nat × Obj)} {ks : List Kp} {ms : List Nat} {rs : List (Option (Nat × Obj))} {cs : Array Value} (hz : Zero P T cs) (hd : dd < N) (h : ∀ b, TL P Z N ((dd, .pointer (some ⟨b, 0, none⟩)) :: L) ⟨B, (b, .cells cs T (0, 0)) :: bs, ks, ms, rs⟩ ops rest Q) :
    TL P Z N L ⟨B, bs, ks, ms, rs⟩ ops (⟨some dd, .alloc T, ty, pos, af, none⟩ :: rest) Q := fun a w hf hm => by
  obtain ⟨z, h1, h2⟩ := hz w
  subst h2
  exact wpList_value rfl (w' := w.alloc (.cells z.cells T)) (u := .pointer (some ⟨w.heap.size, 0, none⟩)) (by simp [execOp, Instr.alloc, h1, newVar, newRow])
    (h w.heap.size _ _ (hf.put hd _) (hm.alloc _))
theorem putBlock_same {w : World} {b : Nat} {o : Obj} (h : w.heap[b]? = some o) : putBlock w b o = w := by
  have hb := get_lt h
  have : w.heap.setIfInBounds b o = w.heap := by
    apply Array.ext_getElem?
    intro i
    rw [Array.getElem?_setIfInBounds]
    split
    · rename_i e; subst e; exact h.symm
    · rfl
  unfold putBlock
  rw [this]
theorem run_storeCells {b o : Nat} {T : TypeId} (us : List Value) (hone : ∀ u ∈ us, u.oneCell' = true) : ∀ (i : Nat) (cs : Array Value) (w : World), w.heap[b]? = some (.cells cs T (0, 0)) → o + i + us.length ≤ cs.size →
    (storeCells ⟨b, o, none⟩ us i).run P w = .ok () (putBlock w b (.cells ((us.zipIdx i).foldl (fun c p => c.setIfInBounds (o + p.2) p.1) cs) T (0, 0))) := by
  induction us with
  | nil =>
    intro i cs w h _
    simp [storeCells, putBlock_same h]
  | cons u us ih =>
    intro i cs w h hsz
    simp only [List.length_cons] at hsz
    have hc : w.cell? ⟨b, o + i, none⟩ = some (cs[o + i]'(by omega)) := cell_of h (by simp)
    have hfz : w.frozen? ⟨b, o + i, none⟩ = false := by simp [World.frozen?, h]
    have hb := get_lt h
    simp only [storeCells, Sem.run_bind, add_none, run_store P w _ u .plain (hone u (by simp)), hc, hfz, Bool.false_eq_true, if_false, Result.andThen_ok, setCell_eq h]
    rw [ih (fun u hu => hone u (List.mem_cons_of_mem _ hu)) (i + 1) (cs.setIfInBounds (o + i) u) _ (by simp [putBlock, hb]) (by simp; omega)]
    simp [putBlock, List.zipIdx_cons]
theorem foldl_set_size (o : Nat) : ∀ (l : List (Value × Nat)) (cs : Array Value), (l.foldl (fun c p => c.setIfInBounds (o + p.2) p.1) cs).size = cs.size
  | [], cs => rfl
  | p :: l, cs => by rw [List.foldl_cons, foldl_set_size o l]; simp
theorem foldl_set_get (o : Nat) : ∀ (us : List Value) (i : Nat) (cs : Array Value) (j : Nat), j < cs.size → o + i + us.length ≤ cs.size →
    ((us.zipIdx i).foldl (fun c p => c.setIfInBounds (o + p.2) p.1) cs)[j]? = if o + i ≤ j ∧ j < o + i + us.length then us[j - (o + i)]? else cs[j]?
  | [], i, cs, j, _, _ => by simp; omega
  | u :: us, i, cs, j, hj, hs => by
    simp only [List.length_cons] at hs
    rw [List.zipIdx_cons, List.foldl_cons, foldl_set_get o us (i + 1) _ j (by simpa using hj) (by simp; omega)]
    simp only [List.length_cons]
    by_cases h1 : j = o + i
    · subst h1
      rw [if_neg (by omega), if_pos (by omega)]
      simp only [Nat.sub_self, List.getElem?_cons_zero]
      rw [Array.getElem?_setIfInBounds_self]
      simp [hj]
    · by_cases h2 : o + (i + 1) ≤ j ∧ j < o + (i + 1) + us.length
      · rw [if_pos h2, if_pos (by omega)]
        have : j - (o + i) = (j - (o + (i + 1))) + 1 := by omega
        rw [this]
        simp
      · rw [if_neg h2, if_neg (by omega), Array.getElem?_setIfInBounds_ne (by omega)]
/-- what a whole variable holds behind a store -/
theorem foldl_set_whole (us : List Value) (cs : Array Value) (h : cs.size = us.length) : (us.zipIdx 0).foldl (fun c p => c.setIfInBounds (0 + p.2) p.1) cs = us.toArray := by
  apply Array.ext_getElem?
  intro j
  by_cases hj : j < cs.size
  · rw [foldl_set_get 0 us 0 cs j hj (by omega), if_pos (by omega)]
    simp
  · rw [Array.getElem?_eq_none (by rw [foldl_set_size]; omega), Array.getElem?_eq_none (by simp; omega)]
/-- a store into a box, the whole of it -/
theorem tl_storeW {T : TypeId} {B : World} {bs : List (Nat × Obj)} {ks : List Kp} {ms : List Nat} {rs : List (Option (Nat × Obj))} {i b : Nat} {cs us : Array Value} {T0 : TypeId} (hS : Size P T us.size) (hx : ev L x = some (.pointer (some ⟨b, 0, none⟩))) (hy : ev L y = some v)
    (hi : bs[i]? = some (b, .cells cs T0 (0, 0))) (hu : v.cells = us) (hone : ∀ u ∈ us.toList, u.oneCell' = true) (hn : cs.size = us.size)
    (h : TL P Z N L ⟨B, bs.set i (b, .cells us T0 (0, 0)), ks, ms, rs⟩ ops rest Q) : TL P Z N L ⟨B, bs, ks, ms, rs⟩ ops (⟨none, .store T x y, ty, pos, af, none⟩ :: rest) Q := fun a w hf hm => by
  have hb := (hm.boxOf (List.mem_of_getElem? hi)).2
  refine wpList_skipv rfl (w' := putBlock w b (.cells us T0 (0, 0))) ?_ (h _ _ (hf.put_none _) (hm.put hi _))
  have hS' := hS w
  simp only [execOp, hf.eval hx, hf.eval hy, Instr.storeAt, Instr.sureAddr, storeVar, hu, Sem.run_bind, Sem.run_pure, Result.andThen_ok, hS', ne_eq, not_true_eq_false, if_false]
  rw [run_storeCells us.toList hone 0 cs w hb (by simp [hn])]
  rw [foldl_set_whole us.toList cs (by simpa using hn)]
  simp
/-- a store of one cell into a box -/
theorem tl_store1 {T : TypeId} {B : World} {bs : List (Nat × Obj)} {ks : List Kp} {ms : List Nat} {rs : List (Option (Nat × Obj))} {i b o : Nat} {cs : Array Value} {T0 : TypeId} (hS : Size P T 1) (hx : ev L x = some (.pointer (some ⟨b, o, none⟩))) (hy : ev L y = some v)
    (hi : bs[i]? = some (b, .cells cs T0 (0, 0))) (hu : v.cells = #[v]) (hone : v.oneCell' = true) (hn : o < cs.size)
    (h : TL P Z N L ⟨B, bs.set i (b, .cells (cs.setIfInBounds o v) T0 (0, 0)), ks, ms, rs⟩ ops rest Q) : TL P Z N L ⟨B, bs, ks, ms, rs⟩ ops (⟨none, .store T x y, ty, pos, af, none⟩ :: rest) Q := fun a w hf hm => by
  have hb := (hm.boxOf (List.mem_of_getElem? hi)).2
  refine wpList_skipv rfl (w' := putBlock w b (.cells (cs.setIfInBounds o v) T0 (0, 0))) ?_ (h _ _ (hf.put_none _) (hm.put hi _))
  have hS' := hS w
  simp only [execOp, hf.eval hx, hf.eval hy, Instr.storeAt, Instr.sureAddr, storeVar, hu, Sem.run_bind, Sem.run_pure, Result.andThen_ok, hS', ne_eq, List.size_toArray, List.length_cons, List.length_nil, Nat.zero_add, not_true_eq_false, if_false]
  rw [run_storeCells [v] (by simpa using hone) 0 cs w hb (by simp; omega)]
  simp
/-- a call that hands back something new -/
theorem tl_callR {β : Type} {B : World} {bs : List (Nat × Obj)} {ks : List Kp} {ms : List Nat} {rs : List (Option (Nat × Obj))} {val : β → Value} {R : β → World → World → Prop} {f : FuncId} {args : Array Operand} {at' : Array TypeId} {vs : List Value} (hF : IsFn P f) (hvs : evs L args.toList = some vs) (hd : dd < N)
    (hC : ∀ w, Mem.holds ⟨B, bs, ks, ms, rs⟩ w → Calls P f vs.toArray w fun e w' => ∃ r, e = .returned (val r) ∧ Below w.heap.size w w' ∧ R r w w')
    (h : ∀ r w1 w2, Mem.holds ⟨B, bs, ks, ms, rs⟩ w1 → Below w1.heap.size w1 w2 → R r w1 w2 → TL P Z N ((dd, val r) :: L) ⟨B, bs, Kin w2 w1.heap.size w2.heap.size :: ks, ms, rs⟩ ops rest Q) :
    TL P Z N L ⟨B, bs, ks, ms, rs⟩ ops (⟨some dd, .call { callee := .value (.func f), args := args, argTypes := at' }, ty, pos, af, none⟩ :: rest) Q := fun a w hf hm => by
  refine wpList_enter rfl (run_call (caps := []) hf hF rfl hvs w) ?_
  refine (show Calls P f (vs ++ []).toArray w _ by rw [List.append_nil]; exact hC w hm).mono ?_
  rintro e w' ⟨r, rfl, hb, hr⟩
  exact ⟨_, rfl, h r w w' hm hb hr _ _ (hf.put hd _) (hm.keep hb)⟩
end
end Go.D
namespace Go.D
open Go Go.RowKit
section
variable {P : Program} {Z : Env} {N : Nat} {L : List (Nat × Value)} {M : Mem} {Q : Exit → Act → World → Prop} {ops : Array Oper} {rest : List Oper} {o : Oper} {d : Nat} {K : Act → Prop}
theorem tl_bool {b : Bool} (hg : o.guard = none) (hd : o.dst = some d) (hN : d < N) (hq : Qv P Z N L M o (.bool b)) (ht : b = true → TL P Z N ((d, .bool true) :: L) M ops rest Q) (hf : b = false → TL P Z N ((d, .bool false) :: L) M ops rest Q) :
    TL P Z N L M ops (o :: rest) Q := by
  cases b
  · exact tl_step hg hd hN hq (hf rfl)
  · exact tl_step hg hd hN hq (ht rfl)
theorem tl_dec {p : Prop} [Decidable p] (hg : o.guard = none) (hd : o.dst = some d) (hN : d < N) (hq : Qv P Z N L M o (.bool (decide p))) (ht : p → TL P Z N ((d, .bool true) :: L) M ops rest Q) (hf : ¬ p → TL P Z N ((d, .bool false) :: L) M ops rest Q) :
    TL P Z N L M ops (o :: rest) Q := tl_bool hg hd hN hq (fun e => ht (by simpa using e)) (fun e => hf (by simpa using e))
theorem tl_boolg {j t : Nat} {want : Bool} {b : Bool} (hg : o.guard = some (j, want)) (hj : (ops[j]?).bind (·.dst) = some t) (hl : L.lookup t = some (.bool want)) (hd : o.dst = some d) (hN : d < N) (hq : Qv P Z N L M o (.bool b))
    (ht : b = true → TL P Z N ((d, .bool true) :: L) M ops rest Q) (hf : b = false → TL P Z N ((d, .bool false) :: L) M ops rest Q) :
    TL P Z N L M ops (o :: rest) Q := by
  cases b
  · exact tl_stepg hg hj hl hd hN hq (hf rfl)
  · exact tl_stepg hg hj hl hd hN hq (ht rfl)
theorem tl_decg {j t : Nat} {want : Bool} {p : Prop} [Decidable p] (hg : o.guard = some (j, want)) (hj : (ops[j]?).bind (·.dst) = some t) (hl : L.lookup t = some (.bool want)) (hd : o.dst = some d) (hN : d < N) (hq : Qv P Z N L M o (.bool (decide p)))
    (ht : p → TL P Z N ((d, .bool true) :: L) M ops rest Q) (hf : ¬ p → TL P Z N ((d, .bool false) :: L) M ops rest Q) :
    TL P Z N L M ops (o :: rest) Q := tl_boolg hg hj hl hd hN hq (fun e => ht (by simpa using e)) (fun e => hf (by simpa using e))
theorem tq_bool {b : Bool} (hg : o.guard = none) (hd : o.dst = some d) (hN : d < N) (hq : Qv P Z N L M o (.bool b)) (ht : b = true → TQ P Z N ((d, .bool true) :: L) M ops rest K) (hf : b = false → TQ P Z N ((d, .bool false) :: L) M ops rest K) :
    TQ P Z N L M ops (o :: rest) K := by
  cases b
  · exact tq_step hg hd hN hq (hf rfl)
  · exact tq_step hg hd hN hq (ht rfl)
theorem tq_dec {p : Prop} [Decidable p] (hg : o.guard = none) (hd : o.dst = some d) (hN : d < N) (hq : Qv P Z N L M o (.bool (decide p))) (ht : p → TQ P Z N ((d, .bool true) :: L) M ops rest K) (hf : ¬ p → TQ P Z N ((d, .bool false) :: L) M ops rest K) :
    TQ P Z N L M ops (o :: rest) K := tq_bool hg hd hN hq (fun e => ht (by simpa using e)) (fun e => hf (by simpa using e))
theorem tq_boolg {j t : Nat} {want : Bool} {b : Bool} (hg : o.guard = some (j, want)) (hj : (ops[j]?).bind (·.dst) = some t) (hl : L.lookup t = some (.bool want)) (hd : o.dst = some d) (hN : d < N) (hq : Qv P Z N L M o (.bool b))
    (ht : b = true → TQ P Z N ((d, .bool true) :: L) M ops rest K) (hf : b = false → TQ P Z N ((d, .bool false) :: L) M ops rest K) :
    TQ P Z N L M ops (o :: rest) K := by
  cases b
  · exact tq_stepg hg hj hl hd hN hq (hf rfl)
  · exact tq_stepg hg hj hl hd hN hq (ht rfl)
theorem tq_decg {j t : Nat} {want : Bool} {p : Prop} [Decidable p] (hg : o.guard = some (j, want)) (hj : (ops[j]?).bind (·.dst) = some t) (hl : L.lookup t = some (.bool want)) (hd : o.dst = some d) (hN : d < N) (hq : Qv P Z N L M o (.bool (decide p)))
    (ht : p → TQ P Z N ((d, .bool true) :: L) M ops rest K) (hf : ¬ p → TQ P Z N ((d, .bool false) :: L) M ops rest K) :
    TQ P Z N L M ops (o :: rest) K := tq_boolg hg hj hl hd hN hq (fun e => ht (by simpa using e)) (fun e => hf (by simpa using e))
theorem get_ex {α : Type} {l : List α} {i : Int} (h : 0 ≤ i ∧ i < l.length) : ∃ e, l[i.toNat]? = some e := ⟨_, List.getElem?_eq_getElem (by omega)⟩
theorem get_exN {α : Type} {l : List α} {i : Nat} (h : i < l.length) : ∃ e, l[i]? = some e := ⟨_, List.getElem?_eq_getElem h⟩
theorem Fr.vary {V : List (Nat × Value)} {a : Act} (h : Fr Z N L a) (hV : Sub L V) : Fr Z N (V ++ L) a := by
  refine ⟨h.1, h.2.1, fun t v hl => ?_⟩
  rw [List.lookup_append] at hl
  cases hv : V.lookup t with
  | none => rw [hv] at hl; exact h.2.2 t v (by simpa using hl)
  | some u =>
    rw [hv] at hl
    simp at hl
    subst hl
    exact h.2.2 t _ (hV.lookup t _ hv)
theorem lookup_take_drop (L : List (Nat × Value)) (m t : Nat) : L.lookup t = ((L.take m).lookup t).or ((L.drop m).lookup t) := by
  conv => lhs; rw [← List.take_append_drop m L]
  rw [List.lookup_append]
def hasKey (V : List (Nat × Value)) (t : Nat) : Bool := V.any (fun p => p.1 == t)
theorem lookup_none_of_hasKey {V : List (Nat × Value)} {t : Nat} : (V.lookup t = none) → hasKey V t = false := by
  induction V with
  | nil => intro _; rfl
  | cons p V ih =>
    obtain ⟨s, u⟩ := p
    intro h
    simp only [List.lookup_cons] at h
    by_cases e : t = s
    · subst e; simp at h
    · have hb : (t == s) = false := by simpa using e
      rw [hb] at h
      have := ih h
      simp only [hasKey, List.any_cons] at this ⊢
      rw [this]
      simpa using fun e' => e e'.symm
/-- the slots at a round's end: those that vary have their new values, the others their old ones -/
theorem Fr.again {Le V : List (Nat × Value)} {a : Act} (h : Fr Z N Le a) (hV : Sub Le V) (hE : Le.drop (Le.length - L.length) = L)
    (hk : (Le.take (Le.length - L.length)).all (fun p => hasKey V p.1 || (L.lookup p.1).isNone) = true) : Fr Z N (V ++ L) a := by
  refine ⟨h.1, h.2.1, fun t v hl => ?_⟩
  rw [List.lookup_append] at hl
  cases hv : V.lookup t with
  | some u =>
    rw [hv] at hl
    simp at hl
    subst hl
    exact h.2.2 t _ (hV.lookup t _ hv)
  | none =>
    rw [hv] at hl
    simp at hl
    refine h.2.2 t v ?_
    rw [lookup_take_drop Le (Le.length - L.length) t, hE]
    have : (Le.take (Le.length - L.length)).lookup t = none := by
      have hk' := List.all_eq_true.1 hk
      cases hx : (Le.take (Le.length - L.length)).lookup t with
      | none => rfl
      | some u =>
        have hmem : (t, u) ∈ Le.take (Le.length - L.length) := by
          clear hk' hk hE
          generalize Le.take (Le.length - L.length) = T at hx ⊢
          induction T with
          | nil => simp at hx
          | cons p T ih =>
            obtain ⟨s, u'⟩ := p
            simp only [List.lookup_cons] at hx
            by_cases e : t = s
            · subst e; simp at hx; subst hx; simp
            · have hb : (t == s) = false := by simpa using e
              rw [hb] at hx
              exact List.mem_cons_of_mem _ (ih hx)
        have := hk' _ hmem
        rw [lookup_none_of_hasKey hv, hl] at this
        simp at this
    rw [this]
    simpa using hl
/-- a loop by a ghost; V: the slots that vary -/
theorem tc_loopV {β : Type} {c : Code} (V : β → List (Nat × Value)) (Me : β → Mem) (I : β → Prop) (μ : β → Nat) (b₀ : β) (h0 : I b₀) (hL : Sub L (V b₀)) (hM : ∀ w, M.holds w → (Me b₀).holds w)
    (round : ∀ b, I b → TC P Z N (V b ++ L) (Me b) c (Exit.then (fun a w => ∃ b', I b' ∧ μ b' < μ b ∧ Fr Z N (V b' ++ L) a ∧ (Me b').holds w) Q)) : TC P Z N L M (.loop c) Q :=
  tc_loop (fun b => V b ++ L) Me I μ b₀ h0 (fun _ h => h.vary hL) hM round
/-- a loop that leaves the boxes as they are -/
theorem tc_loopS {β : Type} {c : Code} (V : β → List (Nat × Value)) (I : β → Prop) (μ : β → Nat) (b₀ : β) (h0 : I b₀) (hL : Sub L (V b₀))
    (round : ∀ b, I b → TC P Z N (V b ++ L) M c (Exit.then (fun a w => ∃ b', I b' ∧ μ b' < μ b ∧ Fr Z N (V b' ++ L) a ∧ M.holds w) Q)) : TC P Z N L M (.loop c) Q :=
  tc_loopV V (fun _ => M) I μ b₀ h0 hL (fun _ h => h) round
theorem tp_roundS {β : Type} {V : β → List (Nat × Value)} {I : β → Prop} {μ : β → Nat} {b : β} {Le : List (Nat × Value)} {B : World} {bs bs' : List (Nat × Obj)} {ks ks' : List Kp} {ms : List Nat} {rs : List (Option (Nat × Obj))} (b' : β) (hI : I b') (hμ : μ b' < μ b) (hV : Sub Le (V b')) (hE : Le.drop (Le.length - L.length) = L)
    (hk : (Le.take (Le.length - L.length)).all (fun p => hasKey (V b') p.1 || (L.lookup p.1).isNone) = true) (h1 : bs'.drop (bs'.length - bs.length) = bs) (h2 : ks'.drop (ks'.length - ks.length) = ks) :
    TP Z N Le ⟨B, bs', ks', ms, rs⟩ .normal (Exit.then (fun a w => ∃ b', I b' ∧ μ b' < μ b ∧ Fr Z N (V b' ++ L) a ∧ Mem.holds ⟨B, bs, ks, ms, rs⟩ w) Q) :=
  fun _ w hf hm => ⟨b', hI, hμ, hf.again hV hE hk, hm.less (h1 ▸ List.drop_sublist _ _) (h2 ▸ List.drop_sublist _ _)⟩
end
end Go.D
namespace Go.D
open Go Go.RowKit
section
variable {P : Program} {Z : Env} {N : Nat} {L : List (Nat × Value)} {M : Mem} {Q : Exit → Act → World → Prop} {ops : Array Oper} {rest : List Oper} {o : Oper} {d : Nat} {K : Act → Prop}
theorem s0 {v : Value} (hq : Qv P Z N L M o v) (h : TL P Z N ((d, v) :: L) M ops rest Q) (hg : o.guard = none := by rfl) (hd : o.dst = some d := by rfl) (hN : d < N := by decide) : TL P Z N L M ops (o :: rest) Q := tl_step hg hd hN hq h
theorem sb {b : Bool} (hq : Qv P Z N L M o (.bool b)) (ht : b = true → TL P Z N ((d, .bool true) :: L) M ops rest Q) (hf : b = false → TL P Z N ((d, .bool false) :: L) M ops rest Q) (hg : o.guard = none := by rfl) (hd : o.dst = some d := by rfl) (hN : d < N := by decide) : TL P Z N L M ops (o :: rest) Q := tl_bool hg hd hN hq ht hf
theorem sd {p : Prop} [Decidable p] (hq : Qv P Z N L M o (.bool (decide p))) (ht : p → TL P Z N ((d, .bool true) :: L) M ops rest Q) (hf : ¬ p → TL P Z N ((d, .bool false) :: L) M ops rest Q) (hg : o.guard = none := by rfl) (hd : o.dst = some d := by rfl) (hN : d < N := by decide) : TL P Z N L M ops (o :: rest) Q := tl_dec hg hd hN hq ht hf
theorem si {α : Type} {T sz cap : Nat} {k : IntKind} {enc : α → List Value} {a : Option Addr} {l : List α} {W : World} {lo hi : Nat} {x y : Operand} {ty : TypeId} {pos : String} {af : Array Edge} {i : Int} (hT : SliceTy P T sz) (hs : SlAt W lo hi sz enc a l) (hx : ev L x = some (.slice a l.length cap)) (hy : ev L y = some (.int k i)) (hb : 0 ≤ i ∧ i < l.length) (h : ∀ e, l[i.toNat]? = some e → TL P Z N ((d, .pointer (some ⟨blk a, offs a + i.toNat * sz, none⟩)) :: L) M ops rest Q) (hN : d < N := by decide) : TL P Z N L M ops (⟨some d, .indexAddr T x y, ty, pos, af, none⟩ :: rest) Q := by
  obtain ⟨e, he⟩ := get_ex hb
  exact tl_step rfl rfl hN (qv_ia hT hs hx hy hb) (h e he)
theorem sn {α : Type} {T sz cap : Nat} {k : IntKind} {enc : α → List Value} {a : Option Addr} {l : List α} {W : World} {lo hi : Nat} {x y : Operand} {ty : TypeId} {pos : String} {af : Array Edge} {i : Nat} (hT : SliceTy P T sz) (hs : SlAt W lo hi sz enc a l) (hx : ev L x = some (.slice a l.length cap)) (hy : ev L y = some (.int k (i : Int))) (hb : i < l.length) (h : ∀ e, l[i]? = some e → TL P Z N ((d, .pointer (some ⟨blk a, offs a + i * sz, none⟩)) :: L) M ops rest Q) (hN : d < N := by decide) : TL P Z N L M ops (⟨some d, .indexAddr T x y, ty, pos, af, none⟩ :: rest) Q := by
  obtain ⟨e, he⟩ := get_exN hb
  exact tl_step rfl rfl hN (qv_iaN hT hs hx hy hb) (h e he)
theorem s0g {j t : Nat} {want : Bool} {v : Value} (hq : Qv P Z N L M o v) (h : TL P Z N ((d, v) :: L) M ops rest Q) (hg : o.guard = some (j, want) := by rfl) (hj : (ops[j]?).bind (·.dst) = some t := by rfl) (hl : L.lookup t = some (.bool want) := by rfl) (hd : o.dst = some d := by rfl) (hN : d < N := by decide) : TL P Z N L M ops (o :: rest) Q := tl_stepg hg hj hl hd hN hq h
theorem sdg {j t : Nat} {want : Bool} {p : Prop} [Decidable p] (hq : Qv P Z N L M o (.bool (decide p))) (ht : p → TL P Z N ((d, .bool true) :: L) M ops rest Q) (hf : ¬ p → TL P Z N ((d, .bool false) :: L) M ops rest Q) (hg : o.guard = some (j, want) := by rfl) (hj : (ops[j]?).bind (·.dst) = some t := by rfl) (hl : L.lookup t = some (.bool want) := by rfl) (hd : o.dst = some d := by rfl) (hN : d < N := by decide) : TL P Z N L M ops (o :: rest) Q := tl_decg hg hj hl hd hN hq ht hf
theorem sk {j t : Nat} {want : Bool} {u : Value} (h : TL P Z N ((d, undef) :: L) M ops rest Q) (hg : o.guard = some (j, want) := by rfl) (hj : (ops[j]?).bind (·.dst) = some t := by rfl) (hl : L.lookup t = some u := by rfl) (hb : asks u want = false := by rfl) (hd : o.dst = some d := by rfl) (hN : d < N := by decide) : TL P Z N L M ops (o :: rest) Q := tl_skip hg hj hl hb hd hN h
theorem q0 {v : Value} (hq : Qv P Z N L M o v) (h : TQ P Z N ((d, v) :: L) M ops rest K) (hg : o.guard = none := by rfl) (hd : o.dst = some d := by rfl) (hN : d < N := by decide) : TQ P Z N L M ops (o :: rest) K := tq_step hg hd hN hq h
theorem qd {p : Prop} [Decidable p] (hq : Qv P Z N L M o (.bool (decide p))) (ht : p → TQ P Z N ((d, .bool true) :: L) M ops rest K) (hf : ¬ p → TQ P Z N ((d, .bool false) :: L) M ops rest K) (hg : o.guard = none := by rfl) (hd : o.dst = some d := by rfl) (hN : d < N := by decide) : TQ P Z N L M ops (o :: rest) K := tq_dec hg hd hN hq ht hf
theorem qi {α : Type} {T sz cap : Nat} {k : IntKind} {enc : α → List Value} {a : Option Addr} {l : List α} {W : World} {lo hi : Nat} {x y : Operand} {ty : TypeId} {pos : String} {af : Array Edge} {i : Int} (hT : SliceTy P T sz) (hs : SlAt W lo hi sz enc a l) (hx : ev L x = some (.slice a l.length cap)) (hy : ev L y = some (.int k i)) (hb : 0 ≤ i ∧ i < l.length) (h : ∀ e, l[i.toNat]? = some e → TQ P Z N ((d, .pointer (some ⟨blk a, offs a + i.toNat * sz, none⟩)) :: L) M ops rest K) (hN : d < N := by decide) : TQ P Z N L M ops (⟨some d, .indexAddr T x y, ty, pos, af, none⟩ :: rest) K := by
  obtain ⟨e, he⟩ := get_ex hb
  exact tq_step rfl rfl hN (qv_ia hT hs hx hy hb) (h e he)
theorem qn {α : Type} {T sz cap : Nat} {k : IntKind} {enc : α → List Value} {a : Option Addr} {l : List α} {W : World} {lo hi : Nat} {x y : Operand} {ty : TypeId} {pos : String} {af : Array Edge} {i : Nat} (hT : SliceTy P T sz) (hs : SlAt W lo hi sz enc a l) (hx : ev L x = some (.slice a l.length cap)) (hy : ev L y = some (.int k (i : Int))) (hb : i < l.length) (h : ∀ e, l[i]? = some e → TQ P Z N ((d, .pointer (some ⟨blk a, offs a + i * sz, none⟩)) :: L) M ops rest K) (hN : d < N := by decide) : TQ P Z N L M ops (⟨some d, .indexAddr T x y, ty, pos, af, none⟩ :: rest) K := by
  obtain ⟨e, he⟩ := get_exN hb
  exact tq_step rfl rfl hN (qv_iaN hT hs hx hy hb) (h e he)
theorem q0g {j t : Nat} {want : Bool} {v : Value} (hq : Qv P Z N L M o v) (h : TQ P Z N ((d, v) :: L) M ops rest K) (hg : o.guard = some (j, want) := by rfl) (hj : (ops[j]?).bind (·.dst) = some t := by rfl) (hl : L.lookup t = some (.bool want) := by rfl) (hd : o.dst = some d := by rfl) (hN : d < N := by decide) : TQ P Z N L M ops (o :: rest) K := tq_stepg hg hj hl hd hN hq h
theorem qdg {j t : Nat} {want : Bool} {p : Prop} [Decidable p] (hq : Qv P Z N L M o (.bool (decide p))) (ht : p → TQ P Z N ((d, .bool true) :: L) M ops rest K) (hf : ¬ p → TQ P Z N ((d, .bool false) :: L) M ops rest K) (hg : o.guard = some (j, want) := by rfl) (hj : (ops[j]?).bind (·.dst) = some t := by rfl) (hl : L.lookup t = some (.bool want) := by rfl) (hd : o.dst = some d := by rfl) (hN : d < N := by decide) : TQ P Z N L M ops (o :: rest) K := tq_decg hg hj hl hd hN hq ht hf
theorem qig {j t : Nat} {want : Bool} {α : Type} {T sz cap : Nat} {k : IntKind} {enc : α → List Value} {a : Option Addr} {l : List α} {W : World} {lo hi : Nat} {x y : Operand} {ty : TypeId} {pos : String} {af : Array Edge} {i : Int} (hT : SliceTy P T sz) (hs : SlAt W lo hi sz enc a l) (hx : ev L x = some (.slice a l.length cap)) (hy : ev L y = some (.int k i)) (hb : 0 ≤ i ∧ i < l.length) (h : ∀ e, l[i.toNat]? = some e → TQ P Z N ((d, .pointer (some ⟨blk a, offs a + i.toNat * sz, none⟩)) :: L) M ops rest K) (hj : (ops[j]?).bind (·.dst) = some t := by rfl) (hl : L.lookup t = some (.bool want) := by rfl) (hN : d < N := by decide) : TQ P Z N L M ops (⟨some d, .indexAddr T x y, ty, pos, af, some (j, want)⟩ :: rest) K := by
  obtain ⟨e, he⟩ := get_ex hb
  exact tq_stepg rfl hj hl rfl hN (qv_ia hT hs hx hy hb) (h e he)
theorem qng {j t : Nat} {want : Bool} {α : Type} {T sz cap : Nat} {k : IntKind} {enc : α → List Value} {a : Option Addr} {l : List α} {W : World} {lo hi : Nat} {x y : Operand} {ty : TypeId} {pos : String} {af : Array Edge} {i : Nat} (hT : SliceTy P T sz) (hs : SlAt W lo hi sz enc a l) (hx : ev L x = some (.slice a l.length cap)) (hy : ev L y = some (.int k (i : Int))) (hb : i < l.length) (h : ∀ e, l[i]? = some e → TQ P Z N ((d, .pointer (some ⟨blk a, offs a + i * sz, none⟩)) :: L) M ops rest K) (hj : (ops[j]?).bind (·.dst) = some t := by rfl) (hl : L.lookup t = some (.bool want) := by rfl) (hN : d < N := by decide) : TQ P Z N L M ops (⟨some d, .indexAddr T x y, ty, pos, af, some (j, want)⟩ :: rest) K := by
  obtain ⟨e, he⟩ := get_exN hb
  exact tq_stepg rfl hj hl rfl hN (qv_iaN hT hs hx hy hb) (h e he)
theorem qk {j t : Nat} {want : Bool} {u : Value} (h : TQ P Z N ((d, undef) :: L) M ops rest K) (hg : o.guard = some (j, want) := by rfl) (hj : (ops[j]?).bind (·.dst) = some t := by rfl) (hl : L.lookup t = some u := by rfl) (hb : asks u want = false := by rfl) (hd : o.dst = some d := by rfl) (hN : d < N := by decide) : TQ P Z N L M ops (o :: rest) K := tq_skip hg hj hl hb hd hN h
/-- two ways meet again: V: the slots that vary, by a ghost -/
def CutK {β : Type} (Z : Env) (N : Nat) (V : β → List (Nat × Value)) (I : β → Prop) (L : List (Nat × Value)) (M : Mem) : Act → World → Prop := fun a w => ∃ b, I b ∧ Fr Z N (V b ++ L) a ∧ M.holds w
theorem tc_cut {β : Type} {x y : Code} (V : β → List (Nat × Value)) (I : β → Prop) (hx : TC P Z N L M x (Exit.then (CutK Z N V I L M) Q)) (hy : ∀ b, I b → TC P Z N (V b ++ L) M y Q) : TC P Z N L M (.seq x y) Q :=
  fun a w hf hm => wpIn_seq (Go.wpIn_mono (hx a w hf hm) fun e a' w' h => by
    cases e with
    | normal => obtain ⟨b, hI, hf', hm'⟩ := h; exact hy b hI a' w' hf' hm'
    | _ => exact h)
theorem tp_cut {β : Type} {V : β → List (Nat × Value)} {I : β → Prop} {Le : List (Nat × Value)} {B : World} {bs bs' : List (Nat × Obj)} {ks ks' : List Kp} {ms : List Nat} {rs : List (Option (Nat × Obj))} (b : β) (hI : I b) (hV : Sub Le (V b)) (hE : Le.drop (Le.length - L.length) = L)
    (hk : (Le.take (Le.length - L.length)).all (fun p => hasKey (V b) p.1 || (L.lookup p.1).isNone) = true) (h1 : bs'.drop (bs'.length - bs.length) = bs) (h2 : ks'.drop (ks'.length - ks.length) = ks) :
    TP Z N Le ⟨B, bs', ks', ms, rs⟩ .normal (Exit.then (CutK Z N V I L ⟨B, bs, ks, ms, rs⟩) Q) :=
  fun _ _ hf hm => ⟨b, hI, hf.again hV hE hk, hm.less (h1 ▸ List.drop_sublist _ _) (h2 ▸ List.drop_sublist _ _)⟩
theorem qv_mk {fn : Fn} {cap : Array Operand} {vs : List Value} {dd : Option Tmp} {ty : TypeId} {pos : String} {af : Array Edge} {g : Option (Nat × Bool)} (hvs : evs L cap.toList = some vs) : Qv P Z N L M ⟨dd, .makeFunc fn #[] cap, ty, pos, af, g⟩ (.func fn #[] vs.toArray) := qv_of fun a hf w _ => by
  have : cap.map a.eval = vs.toArray := by
    apply Array.ext'
    simpa using evs_map hf hvs
  simp [execOp, Instr.makeFunc, this]
/-- a store of an element into a variable of its own -/
theorem tl_storeL {T n : Nat} {x y : Operand} {ty : TypeId} {pos : String} {af : Array Edge} {B : World} {bs : List (Nat × Obj)} {ks : List Kp} {ms : List Nat} {rs : List (Option (Nat × Obj))} {i b : Nat} {cs : Array Value} {us : List Value} {T0 : TypeId} (hS : Size P T n) (hlen : us.length = n) (hone : ∀ u ∈ us, u.oneCell' = true)
    (hx : ev L x = some (.pointer (some ⟨b, 0, none⟩))) (hy : ev L y = some (.agg us.toArray)) (hi : bs[i]? = some (b, .cells cs T0 (0, 0))) (hn : cs.size = n)
    (h : TL P Z N L ⟨B, bs.set i (b, .cells us.toArray T0 (0, 0)), ks, ms, rs⟩ ops rest Q) : TL P Z N L ⟨B, bs, ks, ms, rs⟩ ops (⟨none, .store T x y, ty, pos, af, none⟩ :: rest) Q :=
  tl_storeW (us := us.toArray) (by simpa [hlen] using hS) hx hy hi rfl (by simpa using hone) (by simp [hn, hlen]) h
end
end Go.D
namespace Go.D
open Go Go.RowKit
section
variable {P : Program} {Z : Env} {N : Nat} {L : List (Nat × Value)} {M M0 : Mem} {Q : Exit → Act → World → Prop} {ops : Array Oper}
/-- operation i is carried out: a value, or a call that returns -/
def gOp (P : Program) (ops : Array Oper) (i : Nat) (K : Act → World → Prop) (a : Act) (w : World) : Prop :=
  match ops[i]? with
  | none => False
  | some o =>
    if Region.wanted o (yielded ops a.tmps) then
      match (execOp a.eval o).run P w with
      | .ok (.value u) w' => K (a.put o.dst u) w'
      | .ok .skip w' => K (a.put o.dst undef) w'
      | .ok (.enter f args) w' => Calls P f args w' fun e w'' => ∃ u, e = .returned u ∧ K (a.put o.dst u) w''
      | _ => False
    else K (a.put o.dst undef) w
theorem gOp_mono {i : Nat} {K K' : Act → World → Prop} {a : Act} {w : World} (h : ∀ a w, K a w → K' a w) (hh : gOp P ops i K a w) : gOp P ops i K' a w := by
  unfold gOp at *
  split at hh
  · exact hh
  · split at hh
    · rename_i hw
      rw [if_pos hw]
      split at hh
      · exact h _ _ hh
      · exact h _ _ hh
      · exact hh.mono fun e w'' ⟨u, he, hk⟩ => ⟨u, he, h _ _ hk⟩
      · exact hh.elim
    · rename_i hw
      rw [if_neg hw]
      exact h _ _ hh
theorem wpOp_of_gOp {i : Nat} {K : Act → World → Prop} {a : Act} {w : World} {ro : Option Nat} (h : gOp P ops i K a w) : wpOpIn (FW ro) 0 P ops Q i K a w := by
  unfold gOp at h
  unfold wpOpIn
  cases ho : ops[i]? with
  | none => simp only [ho] at h
  | some o =>
    simp only [ho] at h ⊢
    split at h
    · rename_i hw
      rw [if_pos hw]
      refine wpIn_of ?_
      split at h
      · rename_i hr; rw [semAt_of hr (by simp)]; exact h
      · rename_i hr; rw [semAt_of hr (by simp)]; exact h
      · rename_i hr; rw [semAt_of hr (by simp)]; exact ⟨fun hd => by simp [Fence.wide] at hd, calls_in (h.mono fun e w'' ⟨u, he, hk⟩ => by subst he; exact hk)⟩
      · exact h.elim
    · rename_i hw
      rw [if_neg hw]
      exact ⟨fun _ _ => trivial, h⟩
theorem QS.mono {K K' : Act → Prop} (hK : ∀ a, K a → K' a) : ∀ {l : List Oper} {a : Act}, QS P ops M K l a → QS P ops M K' l a
  | [], _, h => hK _ h
  | o :: l, a, h => by
    unfold QS at h ⊢
    split
    · rename_i hw
      rw [if_pos hw] at h
      obtain ⟨v, h1, h2⟩ := h
      exact ⟨v, h1, QS.mono hK h2⟩
    · rename_i hw
      rw [if_neg hw] at h
      exact QS.mono hK h
def preDone (m : Nat) (listed : Array Bool) : Bool := (List.range m).all fun k => listed.getD k false
/-- from here on, in every order, also in every later world -/
def UP (ro : Option Nat) (P : Program) (ops : Array Oper) (Q : Exit → Act → World → Prop) (D : World → Prop) (m : Nat) : Nat → Array Bool → Act → World → Prop
  | 0, listed, a, w => ∀ w', Below w.heap.size w w' → D w' → preDone m listed = true ∧ wpAnyIn (FW ro) 0 P .any ops Q 0 listed a w'
  | f + 1, listed, a, w => ∀ w', Below w.heap.size w w' → D w' →
    if preDone m listed then wpAnyIn (FW ro) 0 P .any ops Q (f + 1) listed a w'
    else Region.ready .any ops listed ≠ [] ∧ ∀ i ∈ Region.ready .any ops listed, i < m ∧ gOp P ops i (fun a'' w'' => D w'' ∧ UP ro P ops Q D m f (listed.setIfInBounds i true) a'' w'') a w'
theorem UP.later {D : World → Prop} {m f : Nat} {listed : Array Bool} {a : Act} {w w1 : World} (h : UP Z.ro P ops Q D m f listed a w) (hb : Below w.heap.size w w1) : UP Z.ro P ops Q D m f listed a w1 := by
  cases f with
  | zero => exact fun w' hw' hD => h w' (hb.trans (hw'.mono hb.size)) hD
  | succ f => exact fun w' hw' hD => h w' (hb.trans (hw'.mono hb.size)) hD
theorem UP.any {D : World → Prop} {m : Nat} : ∀ {f : Nat} {listed : Array Bool} {a : Act} {w : World}, UP Z.ro P ops Q D m f listed a w → D w → wpAnyIn (FW Z.ro) 0 P .any ops Q f listed a w
  | 0, _, _, w, h, hD => (h w (Below.refl _ _) hD).2
  | f + 1, listed, a, w, h, hD => by
    have h' := h w (Below.refl _ _) hD
    split at h'
    · exact h'
    · exact ⟨fun h0 => absurd h0 h'.1, fun i hi => wpOp_of_gOp (gOp_mono (fun a'' w'' ⟨hd, hu⟩ => UP.any hu hd) (h'.2 i hi).2)⟩
/-- j waits for k, straight or through others -/
def reach (ops : Array Oper) : Nat → Nat → Nat → Bool
  | 0, _, _ => false
  | f + 1, j, k => match ops[j]? with
    | some o => o.after.any (fun e => Region.binds .any e && e.on == k) || o.after.any (fun e => Region.binds .any e && reach ops f e.on k)
    | none => false
/-- what has come up has come up behind what it waits for -/
def Dcl (ops : Array Oper) (listed : Array Bool) : Prop := ∀ k o, listed.getD k false = true → ops[k]? = some o → ∀ e ∈ o.after, Region.binds .any e = true → listed.getD e.on false = true
theorem reach_listed {listed : Array Bool} (hd : Dcl ops listed) {k : Nat} : ∀ (f j : Nat), reach ops f j k = true → (∀ o, ops[j]? = some o → ∀ e ∈ o.after, Region.binds .any e = true → listed.getD e.on false = true) → listed.getD k false = true
  | 0, _, h, _ => by simp [reach] at h
  | f + 1, j, h, hj => by
    unfold reach at h
    split at h
    · rename_i o ho
      rcases Bool.or_eq_true_iff.1 h with h | h
      · obtain ⟨e, he, hb⟩ := Array.any_eq_true'.1 h
        simp only [Bool.and_eq_true, beq_iff_eq] at hb
        have := hj o ho e he hb.1
        rwa [hb.2] at this
      · obtain ⟨e, he, hb⟩ := Array.any_eq_true'.1 h
        simp only [Bool.and_eq_true] at hb
        have hl := hj o ho e he hb.1
        exact reach_listed hd f e.on hb.2 fun o' ho' e' he' hb' => hd e.on o' hl ho' e' he' hb'
    · cases h
def dclB (ops : Array Oper) (listed : Array Bool) : Bool := (List.range ops.size).all fun k => !listed.getD k false || match ops[k]? with | some o => o.after.all fun e => !Region.binds .any e || listed.getD e.on false | none => true
theorem dclB_spec {listed : Array Bool} (h : dclB ops listed = true) : Dcl ops listed := fun k o hk ho e he hb => by
  have h1 := List.all_eq_true.1 h k (by simpa using (Array.getElem?_eq_some_iff.1 ho).1)
  simp only [hk, Bool.not_true, Bool.false_or, ho] at h1
  have h2 := Array.all_eq_true'.1 h1 e he
  simpa [hb] using h2
theorem Dcl.none (n : Nat) : Dcl ops (Array.replicate n false) := fun k o h => by
  rcases Nat.lt_or_ge k n with h' | h' <;> simp_all [Array.getD_eq_getD_getElem?]
theorem Dcl.set {listed : Array Bool} (hd : Dcl ops listed) {j : Nat} (hj : j ∈ Region.ready .any ops listed) : Dcl ops (listed.setIfInBounds j true) := fun k o h ho e he hb => by
  obtain ⟨_, oj, hoj, hall⟩ := mem_ready.1 hj
  by_cases hk : j = k
  · subst hk
    rw [hoj] at ho
    cases ho
    exact getD_set_true (hall e he hb)
  · rw [getD_set_ne false hk] at h
    exact getD_set_true (hd k o h ho e he hb)
/-- the operations from m on wait for all before -/
def tailB (m : Nat) (ops : Array Oper) : Bool := (List.range ops.size).all fun j => j < m || (List.range m).all fun k => reach ops ops.size j k
theorem tail_waits {m : Nat} (hB : tailB m ops = true) {listed : Array Bool} (hd : Dcl ops listed) {j : Nat} (hj : j ∈ Region.ready .any ops listed) (hm : m ≤ j) {k : Nat} (hk : k < m) : listed.getD k false = true := by
  obtain ⟨_, o, ho, hall⟩ := mem_ready.1 hj
  have h1 := List.all_eq_true.1 hB j (by simpa using (Array.getElem?_eq_some_iff.1 ho).1)
  simp only [Bool.or_eq_true, decide_eq_true_eq] at h1
  rcases h1 with h1 | h1
  · omega
  · have h2 := List.all_eq_true.1 h1 k (by simpa using hk)
    exact reach_listed hd _ _ h2 fun o' ho' e he hb => by rw [ho] at ho'; cases ho'; exact hall e he hb
/-- in this frame, in every world of D, operation o yields v, and the world has at most grown -/
def YS (P : Program) (ops : Array Oper) (D : World → Prop) (o : Oper) (v : Value) (a : Act) : Prop :=
  (Region.wanted o (yielded ops a.tmps) = true ∧ ∀ w, D w → o.quietAt P a (fun w' => Below w.heap.size w w') w v) ∨ (Region.wanted o (yielded ops a.tmps) = false ∧ v = undef)
theorem YS.of_same {D : World → Prop} {o : Oper} {v : Value} {a a' : Act} (h : YS P ops D o v a) (he : execOp a'.eval o = execOp a.eval o) (hw : Region.wanted o (yielded ops a'.tmps) = Region.wanted o (yielded ops a.tmps)) : YS P ops D o v a' := by
  unfold YS Oper.quietAt at *
  rw [he, hw]
  exact h
theorem YS.gOp {D : World → Prop} (hDu : ∀ w w', D w → Below w.heap.size w w' → D w') {i : Nat} {o : Oper} {v : Value} {a : Act} {w : World} {K : Act → World → Prop} (hi : ops[i]? = some o) (h : YS P ops D o v a) (hD : D w)
    (hK : ∀ w', Below w.heap.size w w' → D w' → K (a.put o.dst v) w') : Go.D.gOp P ops i K a w := by
  unfold Go.D.gOp
  simp only [hi]
  rcases h with ⟨hw, hq⟩ | ⟨hw, rfl⟩
  · rw [if_pos hw]
    have := hq w hD
    unfold Oper.quietAt at this
    generalize (execOp a.eval o).run P w = r at *
    cases r with
    | ok n w' =>
      cases n <;> simp only [Oper.quietUpon] at this <;> simp only
      case value u => obtain ⟨rfl, rfl⟩ := this; exact hK _ (Below.refl _ _) hD
      case skip => obtain ⟨rfl, rfl⟩ := this; exact hK _ (Below.refl _ _) hD
      case enter f args => obtain ⟨rfl, hc⟩ := this; exact hc.mono fun e w'' ⟨he, hb⟩ => ⟨v, he, hK _ hb (hDu _ _ hD hb)⟩
    | halt x w' => simp only [Oper.quietUpon] at this
  · rw [if_neg (by simp [hw])]
    exact hK _ (Below.refl _ _) hD
theorem gOp_put {D : World → Prop} {j : Nat} {oi oj : Oper} {v : Value} (hj : ops[j]? = some oj) (hap : oi.apart ops oj = true) (hsi : ∀ cs b, oi.op ≠ .select cs b) (hsj : ∀ cs b, oj.op ≠ .select cs b)
    {K : Act → World → Prop} {a : Act} {w : World} (hy : YS P ops D oi v a) (h : gOp P ops j K (a.put oi.dst v) w) :
    gOp P ops j (fun a' w' => YS P ops D oi v a' ∧ K (a'.put oi.dst v) w') a w := by
  obtain ⟨h1, h2, h3⟩ := Oper.apart_spec hap
  have keep : ∀ u, YS P ops D oi v (a.put oj.dst u) := fun u => hy.of_same (execOp_put oi hsi a oj.dst u h3) (wanted_put oi a oj.dst u h3)
  unfold gOp at *
  simp only [hj] at *
  rw [wanted_put oj a oi.dst v h1] at h
  split
  · rename_i hw
    rw [if_pos hw, execOp_put oj hsj a oi.dst v h1] at h
    generalize (execOp a.eval oj).run P w = r at *
    cases r with
    | ok n w' =>
      cases n <;> simp only at h ⊢
      case value u => exact ⟨keep u, by rw [← Act.put_comm a v u h2]; exact h⟩
      case skip => exact ⟨keep _, by rw [← Act.put_comm a v undef h2]; exact h⟩
      case enter f args => exact h.mono fun e w'' ⟨u, he, hk⟩ => ⟨u, he, keep u, by rw [← Act.put_comm a v u h2]; exact hk⟩
    | halt x w' => exact h
  · rename_i hw
    rw [if_neg hw] at h
    exact ⟨keep _, by rw [← Act.put_comm a v undef h2]; exact h⟩
/-- a quiet operation that may come up now may be taken first -/
theorem up_first {D : World → Prop} (hDu : ∀ w w', D w → Below w.heap.size w w' → D w') {m : Nat} (hB : tailB m ops = true) (hsel : ∀ (j : Nat) (o : Oper) cs b, ops[j]? = some o → o.op ≠ .select cs b)
    {i : Nat} {oi : Oper} {v : Value} (hi : ops[i]? = some oi) (him : i < m) :
    ∀ (f : Nat) (listed : Array Bool) (a : Act) (w : World), Dcl ops listed →
      (∀ j oj, ops[j]? = some oj → j ≠ i → listed.getD j true = false → (∀ e ∈ oj.after, Region.binds .any e = true → e.on ≠ i) → oi.apart ops oj = true) →
      i ∈ Region.ready .any ops listed → YS P ops D oi v a → UP Z.ro P ops Q D m f (listed.setIfInBounds i true) (a.put oi.dst v) w → UP Z.ro P ops Q D m (f + 1) listed a w := by
  intro f
  induction f with
  | zero =>
    intro listed a w hdc hfree hr hy H w' hw' hD'
    have hun : listed.getD i false = false := by
      have h0 := (mem_ready.1 hr).1
      rcases Nat.lt_or_ge i listed.size with h' | h' <;> simp_all [Array.getD_eq_getD_getElem?]
    have hnd : preDone m listed = false := by
      cases hp : preDone m listed with
      | false => rfl
      | true => have := List.all_eq_true.1 hp i (by simpa using him); simp [hun] at this
    rw [if_neg (by simp [hnd])]
    refine ⟨fun h => (by rw [h] at hr; cases hr), fun j hj => ?_⟩
    by_cases hji : j = i
    · subst hji
      exact ⟨him, hy.gOp hDu hi hD' fun w'' hb hd => ⟨hd, H.later (hw'.trans (hb.mono hw'.size))⟩⟩
    · have h2 := (H w' hw' hD').2
      have := ready_mono hj hji
      rw [h2.1] at this
      cases this
  | succ f ih =>
    intro listed a w hdc hfree hr hy H w' hw' hD'
    have hun : listed.getD i false = false := by
      have h0 := (mem_ready.1 hr).1
      rcases Nat.lt_or_ge i listed.size with h' | h' <;> simp_all [Array.getD_eq_getD_getElem?]
    have hnd : preDone m listed = false := by
      cases hp : preDone m listed with
      | false => rfl
      | true => have := List.all_eq_true.1 hp i (by simpa using him); simp [hun] at this
    rw [if_neg (by simp [hnd])]
    refine ⟨fun h => (by rw [h] at hr; cases hr), fun j hj => ?_⟩
    by_cases hji : j = i
    · subst hji
      exact ⟨him, hy.gOp hDu hi hD' fun w'' hb hd => ⟨hd, H.later (hw'.trans (hb.mono hw'.size))⟩⟩
    · have hjm : j < m := by
        rcases Nat.lt_or_ge j m with h' | h'
        · exact h'
        · have := tail_waits hB hdc hj h' him; rw [hun] at this; cases this
      refine ⟨hjm, ?_⟩
      have hrj := ready_mono hj hji
      have h2 := H w' hw' hD'
      have hnd2 : preDone m (listed.setIfInBounds i true) = false := by
        cases hp : preDone m (listed.setIfInBounds i true) with
        | false => rfl
        | true =>
          have := List.all_eq_true.1 hp j (by simpa using hjm)
          have hju := (mem_ready.1 hrj).1
          rcases Nat.lt_or_ge j (listed.setIfInBounds i true).size with h' | h' <;> simp_all [Array.getD_eq_getD_getElem?]
      rw [if_neg (by simp [hnd2])] at h2
      obtain ⟨_, hg⟩ := h2.2 j hrj
      obtain ⟨hjun, oj, hoj, hall⟩ := mem_ready.1 hj
      have hnot : ∀ e ∈ oj.after, Region.binds .any e = true → e.on ≠ i := fun e he hb heq => by
        have h1 := hall e he hb
        rw [heq, hun] at h1
        cases h1
      have h3 := gOp_put hoj (hfree j oj hoj hji hjun hnot) (fun cs b => hsel i oi cs b hi) (fun cs b => hsel j oj cs b hoj) hy hg
      have hfree' : ∀ k ok, ops[k]? = some ok → k ≠ i → (listed.setIfInBounds j true).getD k true = false → (∀ e ∈ ok.after, Region.binds .any e = true → e.on ≠ i) → oi.apart ops ok = true := fun k ok hk hki hun' hno => by
        refine hfree k ok hk hki ?_ hno
        by_cases hjk : j = k
        · subst hjk; exact hjun
        · rw [getD_set_ne true hjk] at hun'; exact hun'
      refine gOp_mono (fun a' w2 ⟨hy', hd, hu⟩ => ⟨hd, ih (listed.setIfInBounds j true) a' w2 (hdc.set hj) hfree' (ready_mono hr (Ne.symm hji)) hy' ?_⟩) h3
      rw [Array.setIfInBounds_comm _ _ hji]
      exact hu
def TU (P : Program) (Z : Env) (N : Nat) (L : List (Nat × Value)) (M0 M : Mem) (ops : Array Oper) (m f : Nat) (listed : Array Bool) (Q : Exit → Act → World → Prop) : Prop :=
  ∀ a w, Fr Z N L a → M.holds w → UP Z.ro P ops Q M0.holds m f listed a w
def lexPre (ops : Array Oper) : Nat → Nat → Array Bool → Bool
  | 0, _, _ => true
  | p + 1, k, listed => (Region.ready .any ops listed).contains k && Region.free .any ops listed k && lexPre ops p (k + 1) (listed.setIfInBounds k true)
def lexDone : Nat → Nat → Array Bool → Array Bool
  | 0, _, listed => listed
  | p + 1, k, listed => lexDone p (k + 1) (listed.setIfInBounds k true)
/-- quiet operations in the order of the text, then the rest -/
theorem up_lex {m : Nat} (hB : tailB m ops = true) (hs : Region.noSelect ops = true) (n : Nat) :
    ∀ (l : List Oper) (k : Nat) (listed : Array Bool) (a : Act) (w : World), Dcl ops listed → (∀ j, j < l.length → l[j]? = ops[k + j]?) → k + l.length ≤ m → lexPre ops l.length k listed = true →
      QS P ops M0 (fun a' => UP Z.ro P ops Q M0.holds m n (lexDone l.length k listed) a' w) l a → UP Z.ro P ops Q M0.holds m (n + l.length) listed a w
  | [], _, _, _, _, _, _, _, _, h => h
  | o :: l, k, listed, a, w, hdc, hl, hkm, hp, h => by
    have h0 : ops[k]? = some o := by have := (hl 0 (by simp)).symm; simpa using this
    simp only [List.length_cons] at hkm
    simp only [List.length_cons, lexPre, Bool.and_eq_true] at hp
    obtain ⟨⟨hr, hf⟩, hp'⟩ := hp
    have hl' : ∀ j, j < l.length → l[j]? = ops[k + 1 + j]? := fun j hj => by
      have := hl (j + 1) (by simpa using hj)
      simpa [Nat.add_assoc, Nat.add_comm 1 j] using this
    rw [List.length_cons, ← Nat.add_assoc]
    unfold QS at h
    split at h
    · rename_i hw
      obtain ⟨v, hq, hK⟩ := h
      exact up_first (fun _ _ hd hb => hd.ext hb) hB (Region.noSelect_spec hs) h0 (by omega) _ _ _ _ hdc (Region.free_spec h0 hf) (by simpa using hr) (.inl ⟨hw, hq⟩)
        (up_lex hB hs n l (k + 1) _ _ _ (hdc.set (by simpa using hr)) hl' (by omega) hp' hK)
    · rename_i hw
      exact up_first (fun _ _ hd hb => hd.ext hb) hB (Region.noSelect_spec hs) h0 (by omega) _ _ _ _ hdc (Region.free_spec h0 hf) (by simpa using hr) (.inr ⟨by simpa using hw, rfl⟩)
        (up_lex hB hs n l (k + 1) _ _ _ (hdc.set (by simpa using hr)) hl' (by omega) hp' h)
/-- a region: p quiet operations first, m operations ahead of the tail -/
theorem tc_drawU {id : Nat} {l : List Oper} (m p : Nat) (hm : P.follows .mixedOrders = true) (hB : (tailB m l.toArray && Region.noSelect l.toArray && lexPre l.toArray p 0 (Array.replicate l.length false) && decide (p ≤ m) && decide (p ≤ l.length)) = true)
    (h : TQ P Z N L M l.toArray (l.take p) (fun a => ∀ w, M.holds w → UP Z.ro P l.toArray Q M.holds m (l.length - p) (lexDone p 0 (Array.replicate l.length false)) a w)) : TC P Z N L M (.region id l.toArray true) Q := fun a w hf hM => by
  simp only [Bool.and_eq_true, decide_eq_true_eq] at hB
  obtain ⟨⟨⟨⟨h1, h2⟩, h3⟩, h4⟩, h5⟩ := hB
  refine wpIn_region_any hm ?_
  have hM' : M.holds { w with drawn := w.drawn + 1 } := hM.ext (below_drew' w)
  have hlen : (l.take p).length = p := by simp [h5]
  have := up_lex (P := P) (Q := Q) (M0 := M) h1 h2 (l.length - p) (l.take p) 0 (Array.replicate l.length false) a { w with drawn := w.drawn + 1 } (Dcl.none _) (fun j hj => by
      rw [hlen] at hj
      simp [hj]) (by omega) (by rw [hlen]; exact h3)
    (by rw [hlen]; exact (h a hf).mono fun a' hk => hk _ hM')
  rw [hlen, Nat.sub_add_cancel h5] at this
  simpa using this.any hM'
def drawB (ops : Array Oper) : Bool := tailB ops.size ops && Region.noSelect ops && lexPre ops ops.size 0 (Array.replicate ops.size false) && (Region.ready .any ops (lexDone ops.size 0 (Array.replicate ops.size false))).isEmpty && preDone ops.size (lexDone ops.size 0 (Array.replicate ops.size false))
/-- a region of quiet operations -/
theorem tc_draws {id : Nat} {l : List Oper} (hm : P.follows .mixedOrders = true) (hB : drawB l.toArray = true)
    (h : TQ P Z N L M l.toArray l (fun a => ∀ w, M.holds w → Q .normal a w)) : TC P Z N L M (.region id l.toArray true) Q := by
  simp only [drawB, Bool.and_eq_true, List.isEmpty_iff, List.size_toArray] at hB
  obtain ⟨⟨⟨⟨h1, h2⟩, h3⟩, h4⟩, h5⟩ := hB
  refine tc_drawU l.length l.length hm (by simp [h1, h2, h3]) ?_
  rw [List.take_length, Nat.sub_self]
  exact fun a hf => (h a hf).mono fun a' hk w hm' w' hb hD => ⟨h5, h4, hk w' hD⟩
theorem tq_up {m n : Nat} {listed : Array Bool} (h : TU P Z N L M M ops m n listed Q) : TQ P Z N L M ops [] (fun a => ∀ w, M.holds w → UP Z.ro P ops Q M.holds m n listed a w) :=
  fun a hf w hm => h a w hf hm
/-- operation number i of those that may come up now -/
def TG (P : Program) (Z : Env) (N : Nat) (L : List (Nat × Value)) (M0 M : Mem) (ops : Array Oper) (m f : Nat) (listed : Array Bool) (i : Nat) (Q : Exit → Act → World → Prop) : Prop :=
  ∀ a w, Fr Z N L a → M.holds w → gOp P ops i (fun a'' w'' => M0.holds w'' ∧ UP Z.ro P ops Q M0.holds m f (listed.setIfInBounds i true) a'' w'') a w
theorem tu_all {m f : Nat} {listed : Array Bool} (rs : List Nat) (hr : Region.ready .any ops listed = rs) (hne : rs ≠ []) (hd : preDone m listed = false) (hlt : rs.all (· < m) = true)
    (h : ∀ i ∈ rs, TG P Z N L M0 M ops m f listed i Q) : TU P Z N L M0 M ops m (f + 1) listed Q := fun a w hf hm w' hw' hD => by
  rw [if_neg (by simp [hd]), hr]
  exact ⟨hne, fun i hi => ⟨by simpa using List.all_eq_true.1 hlt i hi, h i hi a w' hf (hm.ext hw')⟩⟩
theorem tu_one {m f : Nat} {listed : Array Bool} (i : Nat) (h : TG P Z N L M0 M ops m f listed i Q) (hr : Region.ready .any ops listed = [i]) (hd : preDone m listed = false) (hlt : ([i] : List Nat).all (· < m) = true) : TU P Z N L M0 M ops m (f + 1) listed Q :=
  tu_all [i] hr (by simp) hd hlt (by simpa using h)
/-- a quiet operation that may come up now, taken first -/
theorem tu_take {m f i : Nat} {listed : Array Bool} {o : Oper} {d : Nat} {v : Value} (hq : Qv P Z N L M0 o v) (h : TU P Z N ((d, v) :: L) M0 M ops m f (listed.setIfInBounds i true) Q)
    (hB : (tailB m ops && Region.noSelect ops && (Region.ready .any ops listed).contains i && Region.free .any ops listed i && decide (i < m)) = true) (hdc : dclB ops listed = true)
    (ho : ops[i]? = some o := by rfl) (hg : o.guard = none := by rfl) (hd : o.dst = some d := by rfl) (hN : d < N := by decide) : TU P Z N L M0 M ops m (f + 1) listed Q := fun a w hf hm => by
  simp only [Bool.and_eq_true, decide_eq_true_eq] at hB
  obtain ⟨⟨⟨⟨h1, h2⟩, h3⟩, h4⟩, h5⟩ := hB
  refine up_first (fun _ _ hd hb => hd.ext hb) h1 (Region.noSelect_spec h2) ho h5 f listed a w (dclB_spec hdc) (Region.free_spec ho h4) (by simpa using h3) (.inl ⟨wanted_none hg _, fun w hw => hq a hf w hw⟩) (h _ _ (by rw [hd]; exact hf.put hN _) hm)
def chainB (ops : Array Oper) : Nat → Nat → Array Bool → Bool
  | 0, _, listed => (Region.ready .any ops listed).isEmpty
  | n + 1, k, listed => (Region.ready .any ops listed) == [k] && chainB ops n (k + 1) (listed.setIfInBounds k true)
theorem wpAny_chain {ro : Option Nat} : ∀ (l : List Oper) (k : Nat) (listed : Array Bool) (a : Act) (w : World), (∀ j, j < l.length → l[j]? = ops[k + j]?) → chainB ops l.length k listed = true → wpListIn (FW ro) 0 P ops Q l a w → wpAnyIn (FW ro) 0 P .any ops Q l.length listed a w
  | [], k, listed, a, w, _, hB, h => ⟨by simpa [chainB] using hB, h⟩
  | o :: l, k, listed, a, w, hl, hB, h => by
    have h0 : ops[k]? = some o := by have := (hl 0 (by simp)).symm; simpa using this
    simp only [List.length_cons, chainB, Bool.and_eq_true, beq_iff_eq] at hB
    have hl' : ∀ j, j < l.length → l[j]? = ops[k + 1 + j]? := fun j hj => by
      have := hl (j + 1) (by simpa using hj)
      simpa [Nat.add_assoc, Nat.add_comm 1 j] using this
    refine ⟨fun h' => (by rw [hB.1] at h'; cases h'), fun i hi => ?_⟩
    rw [hB.1] at hi
    obtain rfl : i = k := by simpa using hi
    unfold wpListIn at h
    unfold wpOpIn
    simp only [h0]
    split
    · rename_i hw
      rw [if_pos hw] at h
      exact Oper.wpIn_mono (fun a w h => wpAny_chain l (i + 1) _ a w hl' hB.2 h) h
    · rename_i hw
      rw [if_neg hw] at h
      exact ⟨h.1, wpAny_chain l (i + 1) _ _ w hl' hB.2 h.2⟩
/-- the tail, in its one order -/
theorem tu_tail {m f : Nat} {listed : Array Bool} {l : List Oper} (hd : preDone m listed = true) (hf : l.length = f) (hl2 : ops.toList.drop m = l) (hB : chainB ops f m listed = true) (h : TL P Z N L M ops l Q) : TU P Z N L M0 M ops m f listed Q := by
  subst hf
  have hidx : ∀ j, j < l.length → l[j]? = ops[m + j]? := fun j hj => by
    rw [← hl2]
    simp
  cases hl' : l.length with
  | zero =>
    intro a w hfr hm w' hw' hD
    refine ⟨hd, ?_⟩
    have := wpAny_chain (P := P) (Q := Q) l m listed a w' hidx hB (h a w' hfr (hm.ext hw'))
    rwa [hl'] at this
  | succ n =>
    intro a w hfr hm w' hw' hD
    rw [if_pos hd]
    have := wpAny_chain (P := P) (Q := Q) l m listed a w' hidx hB (h a w' hfr (hm.ext hw'))
    rwa [hl'] at this
/-- a new block -/
theorem tg_value {m f i : Nat} {listed : Array Bool} {o : Oper} {d : Nat} {val : Nat → Value} {obj : Obj} {B : World} {bs : List (Nat × Obj)} {ks : List Kp} {ms : List Nat} {rs : List (Option (Nat × Obj))} (ho : ops[i]? = some o) (hg : o.guard = none) (hd : o.dst = some d) (hN : d < N)
    (hr : ∀ a w, Fr Z N L a → Mem.holds ⟨B, bs, ks, ms, rs⟩ w → (execOp a.eval o).run P w = .ok (.value (val w.heap.size)) (w.alloc obj)) (hD : ∀ b w, Mem.holds ⟨B, (b, obj) :: bs, ks, ms, rs⟩ w → M0.holds w)
    (h : ∀ b, TU P Z N ((d, val b) :: L) M0 ⟨B, (b, obj) :: bs, ks, ms, rs⟩ ops m f (listed.setIfInBounds i true) Q) : TG P Z N L M0 ⟨B, bs, ks, ms, rs⟩ ops m f listed i Q := fun a w hf hm => by
  unfold gOp
  simp only [ho]
  rw [if_pos (wanted_none hg _), hr a w hf hm]
  have hm' := hm.alloc obj
  exact ⟨hD _ _ hm', h _ _ _ (by rw [hd]; exact hf.put hN _) hm'⟩
theorem tg_alloc {m f i : Nat} {listed : Array Bool} {d T : Nat} {ty : TypeId} {pos : String} {af : Array Edge} {cs : Array Value} {B : World} {bs : List (Nat × Obj)} {ks : List Kp} {ms : List Nat} {rs : List (Option (Nat × Obj))} (hz : Zero P T cs)
    (h : ∀ b, TU P Z N ((d, .pointer (some ⟨b, 0, none⟩)) :: L) M0 ⟨B, (b, .cells cs T (0, 0)) :: bs, ks, ms, rs⟩ ops m f (listed.setIfInBounds i true) Q)
    (hD : ∀ b w, Mem.holds ⟨B, (b, .cells cs T (0, 0)) :: bs, ks, ms, rs⟩ w → M0.holds w) (ho : ops[i]? = some ⟨some d, .alloc T, ty, pos, af, none⟩ := by rfl) (hN : d < N := by decide) : TG P Z N L M0 ⟨B, bs, ks, ms, rs⟩ ops m f listed i Q :=
  tg_value (val := fun b => .pointer (some ⟨b, 0, none⟩)) ho rfl rfl hN (fun a w hf hm => by
    obtain ⟨z, h1, h2⟩ := hz w
    subst h2
    simp [execOp, Instr.alloc, h1, newVar, newRow]) hD h
/-- a quiet operation among those that may come up -/
theorem tg_q {m f i : Nat} {listed : Array Bool} {o : Oper} {d : Nat} {v : Value} (hq : Qv P Z N L M o v) (h : TU P Z N ((d, v) :: L) M0 M ops m f (listed.setIfInBounds i true) Q)
    (hD : ∀ w, M.holds w → M0.holds w) (ho : ops[i]? = some o := by rfl) (hg : o.guard = none := by rfl) (hd : o.dst = some d := by rfl) (hN : d < N := by decide) : TG P Z N L M0 M ops m f listed i Q := fun a w hf hm => by
  have hDu : ∀ w w', M.holds w → Below w.heap.size w w' → M.holds w' := fun _ _ h hb => h.ext hb
  exact YS.gOp hDu ho (.inl ⟨wanted_none hg _, fun w hw => hq a hf w hw⟩) hm fun w' hb hm' => ⟨hD _ hm', h _ _ (by rw [hd]; exact hf.put hN _) hm'⟩
theorem tu_2 {m f : Nat} {listed : Array Bool} (i1 i2 : Nat) (hr : Region.ready .any ops listed = [i1, i2]) (hd : preDone m listed = false) (hlt : ([i1, i2] : List Nat).all (· < m) = true) (hi1 : TG P Z N L M0 M ops m f listed i1 Q) (hi2 : TG P Z N L M0 M ops m f listed i2 Q) : TU P Z N L M0 M ops m (f + 1) listed Q :=
  tu_all [i1, i2] hr (by simp) hd hlt (by simpa using ⟨hi1, hi2⟩)
theorem tu_3 {m f : Nat} {listed : Array Bool} (i1 i2 i3 : Nat) (hr : Region.ready .any ops listed = [i1, i2, i3]) (hd : preDone m listed = false) (hlt : ([i1, i2, i3] : List Nat).all (· < m) = true) (hi1 : TG P Z N L M0 M ops m f listed i1 Q) (hi2 : TG P Z N L M0 M ops m f listed i2 Q) (hi3 : TG P Z N L M0 M ops m f listed i3 Q) : TU P Z N L M0 M ops m (f + 1) listed Q :=
  tu_all [i1, i2, i3] hr (by simp) hd hlt (by simpa using ⟨hi1, hi2, hi3⟩)
theorem hD_drop {B : World} {bs bs' : List (Nat × Obj)} {ks ks' : List Kp} {ms : List Nat} {rs : List (Option (Nat × Obj))} (h1 : bs'.drop (bs'.length - bs.length) = bs) (h2 : ks'.drop (ks'.length - ks.length) = ks) (w : World) (h : Mem.holds ⟨B, bs', ks', ms, rs⟩ w) : Mem.holds ⟨B, bs, ks, ms, rs⟩ w :=
  h.less (h1 ▸ List.drop_sublist _ _) (h2 ▸ List.drop_sublist _ _)
def fst (n k : Nat) : Array Bool := lexDone k 0 (Array.replicate n false)
end
end Go.D
namespace Go.D
open Go Go.RowKit
theorem Below.grown {w w' : World} (h : Below w.heap.size w w') : ∃ q os', w' = Sort.grow (w.drewN q) os' := by
  obtain ⟨n, es, rfl⟩ := h.grow
  exact ⟨n, es, rfl⟩
def boxW (b : Nat) (o : Obj) : World := { (default : World) with heap := Array.replicate (b + 1) o }
theorem boxW_get (b : Nat) (o : Obj) : (boxW b o).heap[b]? = some o := by simp [boxW]
theorem Mem.has_box {B : World} {bs : List (Nat × Obj)} {ks : List Kp} {ms : List Nat} {rs : List (Option (Nat × Obj))} {b : Nat} {o : Obj} (h : (b, o) ∈ bs) : Mem.has ⟨B, bs, ks, ms, rs⟩ (boxW b o) b (b + 1) := fun w hm => by
  have hb := (hm.boxOf h).2
  refine ⟨get_lt hb, fun c h1 h2 => ?_⟩
  obtain rfl : c = b := by omega
  rw [hb, boxW_get]
theorem flatMap_get {α : Type} {enc : α → List Value} {sz : Nat} : ∀ {l : List α} {i j : Nat} {x : α}, (∀ y ∈ l, (enc y).length = sz) → l[i]? = some x → j < sz → (l.flatMap enc)[i * sz + j]? = (enc x)[j]?
  | [], i, j, x, _, hx, _ => by simp at hx
  | y :: l, 0, j, x, hk, hx, hj => by
    simp at hx
    subst hx
    rw [List.flatMap_cons, Nat.zero_mul, Nat.zero_add, List.getElem?_append_left (by rw [hk y (by simp)]; exact hj)]
  | y :: l, i + 1, j, x, hk, hx, hj => by
    rw [List.flatMap_cons, List.getElem?_append_right (by rw [hk y (by simp), Nat.succ_mul]; omega), hk y (by simp), Nat.succ_mul]
    have e : i * sz + sz + j - sz = i * sz + j := by omega
    rw [e]
    exact flatMap_get (fun z hz => hk z (List.mem_cons_of_mem _ hz)) (by simpa using hx) hj
theorem SlAt.ofBox {α : Type} {enc : α → List Value} {sz b E : Nat} {l : List α} (hl : l.length ≤ 1000000) (hk : ∀ x ∈ l, (enc x).length = sz) : SlAt (boxW b (.cells (l.flatMap enc).toArray E (0, 0))) b (b + 1) sz enc (some ⟨b, 0, Option.none⟩) l := by
  refine ⟨by simp only [maxLen]; omega, hk, fun _ => ⟨rfl, Nat.le_refl _, Nat.lt_succ_self _⟩, fun i j x v hx hv => ?_⟩
  have hj : j < sz := by have := (List.getElem?_eq_some_iff.1 hv).1; rwa [hk x (List.mem_of_getElem? hx)] at this
  refine cell_of (boxW_get _ _) ?_
  have := flatMap_get hk hx hj
  simpa [offs, hv] using this
section
variable {P : Program} {Z : Env} {N : Nat} {L : List (Nat × Value)} {M : Mem} {d : Option Tmp} {x y : Operand} {T T' ty : TypeId} {pos : String} {af : Array Edge} {g : Option (Nat × Bool)} {v : Value} {k : IntKind} {m : Int}
theorem qv_neSelf (hx : ev L x = some (.int k m)) (hy : ev L y = some (.int k m)) : Qv P Z N L M ⟨d, .binOp .neq T x y T', ty, pos, af, g⟩ (.bool false) := by
  have := qv_neq (P := P) (Z := Z) (N := N) (M := M) (d := d) (ty := ty) (pos := pos) (af := af) (g := g) (T := T) (T' := T') hx hy
  simpa using this
/-- the whole of an array in a variable, as a slice -/
theorem qv_sliceArr {T E n sz b : Nat} (hT : P.underlying T = some (.array n E)) (hS : Size P E sz) (hx : ev L x = some (.pointer (some ⟨b, 0, none⟩))) :
    Qv P Z N L M ⟨d, .slice T x none none none, ty, pos, af, g⟩ (.slice (some ⟨b, 0, none⟩) n n) := qv_of fun a' hf w _ => by
  have hS' := hS w
  have : (Instr.sliceAt T (.pointer (some ⟨b, 0, none⟩)) none none none).run P w = .ok (.slice (some ⟨b, 0, none⟩) n n) w := by
    simp [Instr.sliceAt, run_underlying hT, Instr.sliceBounds, Instr.sureAddr, hS', Addr.add]
  simp [execOp, hf.eval hx, this]
end
def encI (i : Int) : List Value := [.int .i64 i]
def cmpI (x y : Int) : Int := if x < y then -1 else if y < x then 1 else 0
def cmpL : List Int → List Int → Int
  | [], [] => 0
  | [], _ :: _ => -1
  | _ :: _, [] => 1
  | x :: a, y :: b => if cmpI x y ≠ 0 then cmpI x y else cmpL a b
theorem drop_of {α : Type} {l : List α} {k : Nat} {x : α} (h : l[k]? = some x) : l.drop k = x :: l.drop (k + 1) := by
  obtain ⟨hlt, hx⟩ := List.getElem?_eq_some_iff.1 h
  rw [List.drop_eq_getElem_cons hlt, hx]
theorem cmpL_at {a b : List Int} {k : Nat} {x y : Int} (hx : a[k]? = some x) (hy : b[k]? = some y) : cmpL (a.drop k) (b.drop k) = if cmpI x y ≠ 0 then cmpI x y else cmpL (a.drop (k + 1)) (b.drop (k + 1)) := by rw [drop_of hx, drop_of hy, cmpL]
theorem cmpL_long {a b : List Int} {k : Nat} {x : Int} (hx : a[k]? = some x) (hy : b.length ≤ k) : cmpL (a.drop k) (b.drop k) = 1 := by rw [drop_of hx, List.drop_eq_nil_of_le hy, cmpL]
theorem cmpL_short {a b : List Int} {k : Nat} (hx : a.length ≤ k) (h : a.length < b.length) (hk : k ≤ a.length) : cmpL (a.drop k) (b.drop k) = -1 := by
  rw [List.drop_eq_nil_of_le hx]
  have : b[k]? = some b[k] := List.getElem?_eq_getElem (by omega)
  rw [drop_of this, cmpL]
theorem cmpL_same {a b : List Int} {k : Nat} (hx : a.length ≤ k) (h : b.length ≤ k) : cmpL (a.drop k) (b.drop k) = 0 := by rw [List.drop_eq_nil_of_le hx, List.drop_eq_nil_of_le h, cmpL]
end Go.D
namespace Go.Q
open Go
def encK (k : K3) : List Value := [.int .i64 k.1, .int .i64 k.2.1, .int .i64 k.2.2]
def cmp3 (x y : K3) : Int := Go.D.cmpL [x.1, x.2.1, x.2.2] [y.1, y.2.1, y.2.2]
theorem cmp3_lt (x y : K3) : cmp3 x y < 0 ↔ before3 x y := by
  obtain ⟨a, b, c⟩ := x
  obtain ⟨d, e, f⟩ := y
  simp only [cmp3, Go.D.cmpL, Go.D.cmpI, before3]
  repeat' split
  all_goals omega
structure Sorted3 (l l' : List K3) : Prop where
  perm : l'.Perm l
  ord : l'.Pairwise (fun x y => ¬ before3 y x)
theorem sorted3_nil {l : List K3} (h : l = []) : Sorted3 l [] := by subst h; exact ⟨.refl _, .nil⟩
theorem Sorted3.strict {l l' : List K3} (h : Sorted3 l l') (hn : l.Nodup) : l'.Pairwise before3 := by
  have h2 : l'.Nodup := h.perm.nodup_iff.2 hn
  refine (h.ord.and h2).imp fun {a b} hab => ?_
  exact Classical.byContradiction fun hc => hab.2 (before3_tri hc hab.1)
end Go.Q
namespace Go.Q
open Go
def prevR (r : List Rest) : Nat → Option Rest
  | 0 => none
  | k + 1 => r[k]?
theorem prevR_at {r : List Rest} {k : Nat} {e : Rest} (hk : 0 < (k : Int)) (h : r[((k : Int) - 1).toNat]? = some e) : prevR r k = some e := by
  cases k with
  | zero => simp at hk
  | succ k => simpa [prevR] using h
theorem restsBad_stop {t : List Tariff} {r : List Rest} {k : Nat} {x : Rest} (hx : r[k]? = some x) (h : restBad t (prevR r k) x) : restsBad t (prevR r k) (r.drop k) = true := by rw [drop_of hx, restsBad, if_pos h]
theorem restsBad_step {t : List Tariff} {r : List Rest} {k : Nat} {x : Rest} (hx : r[k]? = some x) (h : ¬ restBad t (prevR r k) x) : restsBad t (prevR r k) (r.drop k) = restsBad t (prevR r (k + 1)) (r.drop (k + 1)) := by
  rw [drop_of hx, restsBad, if_neg h]
  show _ = restsBad t r[k]? _
  rw [hx]
theorem restsBad_end {t : List Tariff} {r : List Rest} {k : Nat} {p : Option Rest} (h : r.length ≤ k) : restsBad t p (r.drop k) = false := by rw [List.drop_eq_nil_of_le h, restsBad]
def RestOk (t : List Tariff) (x : Rest) : Prop := partyIs t x.kind x.house x.customer ∧ 1 ≤ x.milli ∧ x.milli ≤ 999
theorem rests_fine0 {t : List Tariff} : ∀ {r : List Rest} {p : Option Rest}, restsBad t p r = false → RestsOrd r ∧ (∀ x ∈ r, RestOk t x) ∧ ∀ q, p = some q → ∀ x ∈ r, before3 (keyR q) (keyR x)
  | [], _, _ => ⟨.nil, by simp, by simp⟩
  | x :: r, p, h => by
    rw [restsBad] at h
    split at h
    · cases h
    · rename_i hb
      obtain ⟨h1, h2, h3⟩ := rests_fine0 h
      have hx : RestOk t x := by unfold restBad at hb; exact ⟨Classical.byContradiction fun hc => hb (.inl hc), by omega, by omega⟩
      refine ⟨List.pairwise_cons.2 ⟨fun y hy => h3 x rfl y hy, h1⟩, fun y hy => ?_, fun q hq y hy => ?_⟩
      · rcases List.mem_cons.1 hy with rfl | hy
        · exact hx
        · exact h2 y hy
      · have hqx : before3 (keyR q) (keyR x) := Classical.byContradiction fun hc => hb (.inr (.inr (.inr ⟨q, hq, hc⟩)))
        rcases List.mem_cons.1 hy with rfl | hy
        · exact hqx
        · exact before3_trans hqx (h3 x rfl y hy)
theorem rests_fine {t : List Tariff} {r : List Rest} (h : restsBad t none r = false) : RestsOrd r ∧ ∀ x ∈ r, RestOk t x := ⟨(rests_fine0 h).1, (rests_fine0 h).2.1⟩
theorem chargeErrs_stop {t : List Tariff} {n : Net} {l : List Use} {k : Nat} {u : Use} (hu : l[k]? = some u) (h : ¬ (charge t n u).2 = 0) : chargeErrs t n (l.drop k) = (charge t n u).2 := by rw [drop_of hu, chargeErrs, if_neg h]
theorem chargeErrs_step {t : List Tariff} {n : Net} {l : List Use} {k : Nat} {u : Use} (hu : l[k]? = some u) (h : (charge t n u).2 = 0) : chargeErrs t n (l.drop k) = chargeErrs t n (l.drop (k + 1)) := by rw [drop_of hu, chargeErrs, if_pos h]
theorem chargeErrs_end {t : List Tariff} {n : Net} {l : List Use} {k : Nat} (h : l.length ≤ k) : chargeErrs t n (l.drop k) = 0 := by rw [List.drop_eq_nil_of_le h, chargeErrs]
def Vals (B : Int) (m : List (K3 × Int)) : Prop := ∀ p ∈ m, 0 ≤ p.2 ∧ p.2 ≤ B
theorem vals_put {B : Int} {m : List (K3 × Int)} {k : K3} {v : Int} (h : Vals B m) (hv : 0 ≤ v ∧ v ≤ B) : Vals B (putM m k v) := by
  intro p hp
  unfold putM setAt at hp
  obtain ⟨q, hq, rfl⟩ := List.mem_map.1 hp
  split
  · exact hv
  · unfold ensure at hq
    split at hq
    · exact h q hq
    · rcases List.mem_append.1 hq with hq | hq
      · exact h q hq
      · simp at hq; subst hq; exact hv
theorem vals_look {B : Int} {m : List (K3 × Int)} (h : Vals B m) (hB : 0 ≤ B) (k : K3) : 0 ≤ look m k 0 ∧ look m k 0 ≤ B := by
  unfold look
  cases hf : m.find? (fun p => decide (p.1 = k)) with
  | none => exact ⟨Int.le_refl _, hB⟩
  | some p => exact h p (List.mem_of_find?_eq_some hf)
theorem restM_vals {t : List Tariff} {r : List Rest} (h : ∀ x ∈ r, RestOk t x) : Vals 999 (restM r) := by
  have : ∀ (r : List Rest) (m : List (K3 × Int)), (∀ x ∈ r, RestOk t x) → Vals 999 m → Vals 999 (r.foldl (fun m r => putM m (keyR r) r.milli) m) := by
    intro r
    induction r with
    | nil => intro m _ h; exact h
    | cons x r ih =>
      intro m hr hm
      have := hr x (by simp)
      exact ih _ (fun y hy => hr y (List.mem_cons_of_mem _ hy)) (vals_put hm ⟨by have := this.2.1; omega, this.2.2⟩)
  exact this r [] h (fun p hp => by simp at hp)
theorem useM_vals {t : List Tariff} {n : Net} : ∀ {l : List Use} {m : List (K3 × Int)} {B : Int}, 0 ≤ B → Vals B m → Vals (B + 16777216000000000 * l.length) (useM t n m l)
  | [], m, B, _, h => by simpa [useM] using h
  | u :: l, m, B, hB, h => by
    have e : useM t n m (u :: l) = useM t n (putM m (keyU u) (look m (keyU u) 0 + (charge t n u).1)) l := rfl
    rw [e]
    have h1 := vals_look h hB (keyU u)
    have h2 := charge_bound t n u
    have h3 : Vals (B + 16777216000000000) (putM m (keyU u) (look m (keyU u) 0 + (charge t n u).1)) := vals_put (fun p hp => by have := h p hp; omega) (by omega)
    have h4 := useM_vals (t := t) (n := n) (l := l) (by omega) h3
    rw [show B + 16777216000000000 + 16777216000000000 * (l.length : Int) = B + 16777216000000000 * ((u :: l).length : Int) by simp only [List.length_cons]; omega] at h4
    exact h4
theorem sums_vals {t : List Tariff} {n : Net} {r : List Rest} {l : List Use} (h : ∀ x ∈ r, RestOk t x) (hl : l.length ≤ 200) : Vals 3355443200000000999 (useM t n (restM r) l) := fun p hp => by
  have h1 := useM_vals (t := t) (n := n) (l := l) (B := 999) (by omega) (restM_vals h) p hp
  omega
theorem sums_take {t : List Tariff} {n : Net} {r : List Rest} {l : List Use} (h : ∀ x ∈ r, RestOk t x) (hl : l.length ≤ 200) (j : Nat) (k : K3) : 0 ≤ look (useM t n (restM r) (l.take j)) k 0 ∧ look (useM t n (restM r) (l.take j)) k 0 ≤ 3355443200000000999 :=
  vals_look (sums_vals h (by have := List.length_take_le' j l; omega)) (by omega) k
theorem MapIs.nodup {κ ω : Type} [DecidableEq κ] {ek : κ → Value} {en : ω → Value} {m : List (κ × ω)} {o : Obj} (h : MapIs ek en m o) : (m.map Prod.fst).Nodup := by
  obtain ⟨_, _, _, h⟩ := h
  exact h.nodup
section
variable {t : List Tariff} {n : Net} {r : List Rest} {l : List Use} {tick : Int}
theorem period_check (h : ¬ meterCheck t l = 0) : period r t n l tick = ([], [], meterCheck t l) := by rw [period, if_pos h]
theorem period_tick (h : meterCheck t l = 0) (h2 : ¬ inTo tick 1000000) : period r t n l tick = ([], [], 3) := by rw [period, if_neg (by omega), if_pos h2]
theorem period_rest (h : meterCheck t l = 0) (h2 : inTo tick 1000000) (h3 : restsBad t none r = true) : period r t n l tick = ([], [], 1) := by rw [period, if_neg (by omega), if_neg (fun hn => hn h2), if_pos h3]
theorem period_charge (h : meterCheck t l = 0) (h2 : inTo tick 1000000) (h3 : restsBad t none r = false) (h4 : ¬ chargeErrs t n l = 0) : period r t n l tick = ([], [], chargeErrs t n l) := by
  rw [period, if_neg (by omega), if_neg (fun hn => hn h2), if_neg (by rw [h3]; decide), if_pos h4]
theorem use_parties (h : meterCheck t l = 0) : ∀ u ∈ l, partyIs t u.kind u.house u.customer := fun u hu => ((meterCheck_zero h).use u hu).1
theorem mm_keys (h : meterCheck t l = 0) (h3 : restsBad t none r = false) : ∀ p ∈ useM t n (restM r) l, p.1 ∈ grid t := sums_keys (fun x hx => ((rests_fine h3).2 x hx).1) (use_parties h)
theorem period_limit {o : Obj} {A B rest : List (K3 × Int)} {p : K3 × Int} (h : meterCheck t l = 0) (h2 : inTo tick 1000000) (h3 : restsBad t none r = false) (h4 : chargeErrs t n l = 0) (hm : MapIs encA3 (Value.int .i64) (useM t n (restM r) l) o)
    (h5 : (A ++ B).Perm (useM t n (restM r) l)) (h6 : B.Perm (p :: rest)) (h7 : 1099511627776 < p.2 / 1000) : period r t n l tick = ([], [], 2) := by
  have hp : p ∈ useM t n (restM r) l := h5.mem_iff.1 (List.mem_append_right _ (h6.mem_iff.2 (by simp)))
  rw [period, if_neg (by omega), if_neg (fun hn => hn h2), if_neg (by rw [h3]; decide), if_neg (by omega), if_pos ((over_limit hm.nodup (sums_look t n l (rests_fine h3).1) (mm_keys h h3)).1 ⟨p, hp, h7⟩)]
theorem period_ok {o : Obj} {A : List (K3 × Int)} {ks : List K3} (h : meterCheck t l = 0) (h2 : inTo tick 1000000) (h3 : restsBad t none r = false) (h4 : chargeErrs t n l = 0) (hm : MapIs encA3 (Value.int .i64) (useM t n (restM r) l) o)
    (h5 : (A ++ []).Perm (useM t n (restM r) l)) (h6 : ∀ p ∈ A, ¬ 1099511627776 < p.2 / 1000) (h7 : Sorted3 (A.map Prod.fst) ks) :
    period r t n l tick = (postsOf tick (fun k => look (useM t n (restM r) l) k 0) ks, leftsOf (fun k => look (useM t n (restM r) l) k 0) ks, 0) := by
  rw [List.append_nil] at h5
  have hl := sums_look t n l (rests_fine h3).1
  have hk := mm_keys (n := n) h h3
  have hperm : ks.Perm ((useM t n (restM r) l).map Prod.fst) := h7.perm.trans (h5.map Prod.fst)
  have ho : ks.Pairwise before3 := h7.strict ((h5.map Prod.fst).nodup_iff.2 hm.nodup)
  have hno : ¬ ∃ k ∈ grid t, 1099511627776 < totalOf r t n l k / 1000 := fun hx => by
    obtain ⟨p, hp, h8⟩ := (over_limit hm.nodup hl hk).2 hx
    exact h6 p (h5.mem_iff.2 hp) h8
  rw [period, if_neg (by omega), if_neg (fun hn => hn h2), if_neg (by rw [h3]; decide), if_neg (by omega), if_neg hno]
  have e1 := over_map hl hk ho hperm (f := fun k s => if 0 < s / 1000 then some (postOf tick k s) else none) (fun k => rfl)
  have e2 := over_map hl hk ho hperm (f := fun k s => if 0 < s % 1000 then some (⟨k.1, k.2.1, k.2.2, s % 1000⟩ : Rest) else none) (fun k => rfl)
  unfold postsOf leftsOf
  rw [e1, e2]
end
theorem postsOf_step {tick : Int} {f : K3 → Int} {ks : List K3} {k : Nat} {x : K3} (hx : ks[k]? = some x) : postsOf tick f (ks.take (k + 1)) = postsOf tick f (ks.take k) ++ if 0 < f x / 1000 then [postOf tick x (f x)] else [] := by
  rw [take_of hx, postsOf, List.filterMap_append]
  unfold postsOf
  congr 1
  by_cases h : 0 < f x / 1000 <;> simp [h]
theorem leftsOf_step {f : K3 → Int} {ks : List K3} {k : Nat} {x : K3} (hx : ks[k]? = some x) : leftsOf f (ks.take (k + 1)) = leftsOf f (ks.take k) ++ if 0 < f x % 1000 then [(⟨x.1, x.2.1, x.2.2, f x % 1000⟩ : Rest)] else [] := by
  rw [take_of hx, leftsOf, List.filterMap_append]
  unfold leftsOf
  congr 1
  by_cases h : 0 < f x % 1000 <;> simp [h]
theorem perm_len {α β : Type} {A B M : List (α × β)} (h : (A ++ B).Perm M) : A.length ≤ M.length := by have := h.length_eq; simp only [List.length_append] at this; omega
theorem nodup_sub_len {α : Type} [DecidableEq α] : ∀ {a b : List α}, a.Nodup → (∀ x ∈ a, x ∈ b) → a.length ≤ b.length
  | [], b, _, _ => by simp
  | x :: a, b, hn, h => by
    obtain ⟨h1, h2⟩ := List.nodup_cons.1 hn
    have hx := h x (by simp)
    have := nodup_sub_len (a := a) (b := b.erase x) h2 (fun y hy => (List.mem_erase_of_ne (fun e => h1 (by subst e; exact hy))).2 (h y (List.mem_cons_of_mem _ hy)))
    rw [List.length_erase_of_mem hx] at this
    have : 0 < b.length := List.length_pos_of_mem hx
    simp only [List.length_cons]; omega
theorem sum_same (c : Nat) : ∀ n : Nat, ((List.range n).map fun _ => c).sum = n * c
  | 0 => by simp
  | n + 1 => by rw [List.range_succ, List.map_append, List.sum_append, sum_same c n, Nat.succ_mul]; simp
theorem grid_len (t : List Tariff) : (grid t).length = 28 * (t.length * 5) := by
  simp only [grid, List.length_flatMap, List.length_map, List.length_range]
  rw [sum_same, sum_same]
theorem mm_len {t : List Tariff} {n : Net} {r : List Rest} {l : List Use} {o : Obj} (h : meterCheck t l = 0) (h3 : restsBad t none r = false) (hm : MapIs encA3 (Value.int .i64) (useM t n (restM r) l) o) : (useM t n (restM r) l).length ≤ 1680 := by
  have h1 := nodup_sub_len hm.nodup (b := grid t) (fun k hk => by
    obtain ⟨p, hp, rfl⟩ := List.mem_map.1 hk
    exact mm_keys h h3 p hp)
  rw [grid_len, List.length_map] at h1
  have := (meterCheck_zero h).tl
  omega
theorem postsOf_len (tick : Int) (f : K3 → Int) (ks : List K3) : (postsOf tick f ks).length ≤ ks.length := List.length_filterMap_le _ _
theorem leftsOf_len (f : K3 → Int) (ks : List K3) : (leftsOf f ks).length ≤ ks.length := List.length_filterMap_le _ _
section
variable {tick : Int} {f : K3 → Int} {ks : List K3} {k : Nat} {x : K3}
theorem postsOf_no (hx : ks[k]? = some x) (h : ¬ 0 < f x / 1000) : postsOf tick f (ks.take (k + 1)) = postsOf tick f (ks.take k) := by rw [postsOf_step hx, if_neg h, List.append_nil]
theorem postsOf_fine (hx : ks[k]? = some x) (h : 0 < f x / 1000) (hw : x.2.2 = 5) : postsOf tick f (ks.take (k + 1)) = postsOf tick f (ks.take k) ++ [(⟨12 + x.1, x.2.1, f x / 1000, tick, x.2.2, 0⟩ : Posting)] := by rw [postsOf_step hx, if_pos h, postOf, if_pos hw]
theorem postsOf_use (hx : ks[k]? = some x) (h : 0 < f x / 1000) (hw : ¬ x.2.2 = 5) : postsOf tick f (ks.take (k + 1)) = postsOf tick f (ks.take k) ++ [(⟨x.2.1, 12 + x.1, f x / 1000, tick, x.2.2, 0⟩ : Posting)] := by rw [postsOf_step hx, if_pos h, postOf, if_neg hw]
theorem leftsOf_no (hx : ks[k]? = some x) (h : ¬ 0 < f x % 1000) : leftsOf f (ks.take (k + 1)) = leftsOf f (ks.take k) := by rw [leftsOf_step hx, if_neg h, List.append_nil]
theorem leftsOf_yes (hx : ks[k]? = some x) (h : 0 < f x % 1000) : leftsOf f (ks.take (k + 1)) = leftsOf f (ks.take k) ++ [(⟨x.1, x.2.1, x.2.2, f x % 1000⟩ : Rest)] := by rw [leftsOf_step hx, if_pos h]
end
theorem prevR_zero {r : List Rest} {k : Nat} {Q : Rest → Prop} (h : ¬ 0 < (k : Int)) : ∀ q, prevR r k = some q → Q q := fun q hq => by
  obtain rfl : k = 0 := by omega
  cases hq
theorem prevR_all {r : List Rest} {k : Nat} {e : Rest} {Q : Rest → Prop} (hk : 0 < (k : Int)) (he : r[((k : Int) - 1).toNat]? = some e) (h : Q e) : ∀ q, prevR r k = some q → Q q := fun q hq => by
  rw [prevR_at hk he] at hq; cases hq; exact h
theorem rest_not_bad {t : List Tariff} {r : List Rest} {k : Nat} {x : Rest} (h1 : partyIs t x.kind x.house x.customer) (h2 : ¬ x.milli < 1) (h3 : ¬ 999 < x.milli) (h4 : ∀ q, prevR r k = some q → before3 (keyR q) (keyR x)) : ¬ restBad t (prevR r k) x := by
  rintro (h | h | h | ⟨q, hq, h⟩)
  · exact h h1
  · exact h2 h
  · exact h3 h
  · exact h (h4 q hq)
theorem cmp3_ge {x y : K3} (h : 0 ≤ cmp3 x y) : ¬ before3 x y := fun hb => by have := (cmp3_lt x y).2 hb; omega
theorem cmp3_not {x y : K3} (h : ¬ 0 ≤ cmp3 x y) : before3 x y := (cmp3_lt x y).1 (by omega)
theorem sorted_grid {t : List Tariff} {n : Net} {r : List Rest} {l : List Use} {A : List (K3 × Int)} {ks : List K3} {k : K3} (h : meterCheck t l = 0) (h3 : restsBad t none r = false) (h5 : (A ++ []).Perm (useM t n (restM r) l)) (h7 : Sorted3 (A.map Prod.fst) ks) (hk : k ∈ ks) : 0 ≤ k.1 ∧ k.1 < 28 ∧ 0 ≤ k.2.1 ∧ k.2.1 < t.length ∧ 1 ≤ k.2.2 ∧ k.2.2 ≤ 5 := by
  rw [List.append_nil] at h5
  obtain ⟨p, hp, rfl⟩ := List.mem_map.1 (h7.perm.mem_iff.1 hk)
  exact grid_mem.1 (mm_keys h h3 p (h5.mem_iff.1 hp))
end Go.Q
namespace Go.Q
open Go
section
variable {t : List Tariff} {n : Net} {r : List Rest} {l : List Use} {c h k j : Nat}
end
section
variable {t : List Tariff} {n : Net} {r : List Rest} {l : List Use} {tick : Int} {f : K3 → Int} {c h k : Nat}
def Fine (f : K3 → Int) (ks : List K3) : Prop := ∀ x ∈ ks, ¬ 1099511627776 < f x / 1000
theorem Fine.snoc {ks : List K3} {x : K3} (h : Fine f ks) (hx : ¬ 1099511627776 < f x / 1000) : Fine f (ks ++ [x]) := fun y hy => by
  rcases List.mem_append.1 hy with hy | hy
  · exact h y hy
  · simp at hy; subst hy; exact hx
theorem period_limR (h1 : meterCheck t l = 0) (h2 : inTo tick 1000000) (h3 : restsBad t none r = false) (h4 : chargeErrs t n l = 0) {x : K3} (hx : x ∈ grid t) (hl : 1099511627776 < totalOf r t n l x / 1000) : period r t n l tick = ([], [], 2) := by
  rw [period, if_neg (by omega), if_neg (fun hn => hn h2), if_neg (by rw [h3]; decide), if_neg (by omega), if_pos ⟨x, hx, hl⟩]
theorem period_okR (h1 : meterCheck t l = 0) (h2 : inTo tick 1000000) (h3 : restsBad t none r = false) (h4 : chargeErrs t n l = 0) (hl : Fine (totalOf r t n l) (grid t)) : period r t n l tick = (postsOf tick (totalOf r t n l) (grid t), leftsOf (totalOf r t n l) (grid t), 0) := by
  rw [period, if_neg (by omega), if_neg (fun hn => hn h2), if_neg (by rw [h3]; decide), if_neg (by omega), if_neg (fun ⟨x, hx, h⟩ => hl x hx h)]
end
end Go.Q
namespace Go.Q
open Go Go.RowKit
def flatP (a b c p : Int) (k : Nat) : Link := ⟨a, b, List.replicate k c ++ List.replicate (24 - k) 0, List.replicate k p ++ List.replicate (24 - k) 0⟩
def sanN : Net := ⟨3, [flatP 0 1 100 2 24, flatP 1 2 100 2 24, flatP 0 2 10 1 24]⟩
def sanL : List Send := [⟨0, 5, 100⟩, ⟨2, 5, 10⟩, ⟨1, 6, 100⟩, ⟨2, 6, 10⟩]
theorem sanOk : NetOk sanN := by
  intro x hx
  simp only [sanN, List.mem_cons, List.not_mem_nil, or_false] at hx
  rcases hx with rfl | rfl | rfl <;> exact ⟨rfl, rfl⟩
end Go.Q
namespace Go.Q
open Go
def noS : Hd := ⟨[], none, 0⟩
def sanT : List Tariff := [⟨2, 30, 500⟩, ⟨1, 10, 100⟩]
def sanK : Use := ⟨1, 0, 4, 100, 5, 10, 0, noS⟩
def sanRd : Use := ⟨3, 1, 4, 0, 0, 0, 7, noS⟩
def sanMv (a : Option Addr) : Use := ⟨2, 0, 0, 0, 0, 0, 0, ⟨sanL, a, 4⟩⟩
def sanFi : Use := ⟨5, 1, 0, 0, 0, 0, 3, noS⟩
def sanMo : Use := ⟨3, 1, 4, 0, 0, 0, 100, noS⟩
def sanRe : Rest := ⟨4, 1, 3, 70⟩
theorem san_c1 : charge sanT sanN sanK = (1000, 0) := by decide
theorem san_c2 : charge sanT sanN sanRd = (70, 0) := by decide
theorem san_c3 (a : Option Addr) : charge sanT sanN (sanMv a) = (420000, 0) := by rfl
theorem san_c4 : charge sanT sanN sanFi = (3000, 0) := by decide
theorem san_ck (a : Option Addr) : meterCheck sanT [sanK, sanRd, sanMv a, sanFi] = 0 := by rfl
set_option maxRecDepth 100000 in
theorem san_p1 : period [] sanT sanN [sanK, sanRd] 9 = ([⟨0, 16, 1, 9, 1, 0⟩], [sanRe], 0) := by decide +kernel
set_option maxRecDepth 100000 in
theorem san_p2 : period [sanRe] sanT sanN [sanMo] 10 = ([⟨1, 16, 1, 10, 3, 0⟩], [sanRe], 0) := by decide +kernel
set_option maxRecDepth 100000 in
theorem san_p3 : period [] sanT sanN [sanFi] 10 = ([⟨12, 1, 3, 10, 5, 0⟩], [], 0) := by decide +kernel
end Go.Q
namespace Go.Q
open Go
def uA (u : Use) (x0 : Int) : Use := ⟨u.kind, u.house, u.customer, u.bytes, u.since, u.since + x0 % (u.till - u.since + 1), u.count, u.sends⟩
def uB (u : Use) (x0 : Int) : Use := ⟨u.kind, u.house, u.customer, u.bytes, u.since + x0 % (u.till - u.since + 1), u.till, u.count, u.sends⟩
def uX (u : Use) (x1 : Int) : Use := ⟨u.kind, u.house, u.customer, x1 % (u.bytes + 1), u.since, u.till, u.count, u.sends⟩
def uY (u : Use) (x1 : Int) : Use := ⟨u.kind, u.house, u.customer, u.bytes - x1 % (u.bytes + 1), u.since, u.till, u.count, u.sends⟩
def parts (u : Use) (x0 x1 : Int) : List Use := [uA u x0, uB u x0, uX u x1, uY u x1]
end Go.Q
namespace Go.Q
open Go
section
variable {α : Type} (key : α → K3) (val : α → Int)
end
/-- a slice that a loop carries, with its region -/
structure SlG where
  W : World
  lo : Nat
  hi : Nat
  a : Option Addr
  c : Nat
structure PeriodOk (r : List Rest) (t : List Tariff) (n : Net) (l : List Use) (tick : Int) : Prop where
  check : meterCheck t l = 0
  tk : inTo tick 1000000
  rests : restsBad t none r = false
  charges : chargeErrs t n l = 0
  small : ∀ k ∈ grid t, ¬ 1099511627776 < totalOf r t n l k / 1000
theorem period_zero {r : List Rest} {t : List Tariff} {n : Net} {l : List Use} {tick : Int} (h : (period r t n l tick).2.2 = 0) : PeriodOk r t n l tick ∧ period r t n l tick = (postsOf tick (totalOf r t n l) (grid t), leftsOf (totalOf r t n l) (grid t), 0) := by
  by_cases h1 : meterCheck t l = 0
  · by_cases h2 : inTo tick 1000000
    · cases h3 : restsBad t none r
      · by_cases h4 : chargeErrs t n l = 0
        · by_cases h5 : ∃ k ∈ grid t, 1099511627776 < totalOf r t n l k / 1000
          · obtain ⟨k, hk, hl⟩ := h5
            rw [period_limR h1 h2 h3 h4 hk hl] at h; cases h
          · have h5' : ∀ k ∈ grid t, ¬ 1099511627776 < totalOf r t n l k / 1000 := fun k hk hl => h5 ⟨k, hk, hl⟩
            exact ⟨⟨h1, h2, h3, h4, h5'⟩, period_okR h1 h2 h3 h4 h5'⟩
        · rw [period_charge h1 h2 h3 h4] at h; exact absurd h h4
      · rw [period_rest h1 h2 h3] at h; cases h
    · rw [period_tick h1 h2] at h; cases h
  · rw [period_check h1] at h; exact absurd h h1
theorem postsOf_mem {tick : Int} {f : K3 → Int} {ks : List K3} {x : Posting} (h : x ∈ postsOf tick f ks) : ∃ k ∈ ks, x = postOf tick k (f k) ∧ 0 < f k / 1000 := by
  obtain ⟨k, hk, he⟩ := List.mem_filterMap.1 h
  split at he
  · cases he; exact ⟨k, hk, rfl, ‹_›⟩
  · cases he
section
variable (per : List Int) (t : List Tariff) (n : Net) (l : List Use)
end
section
variable {per : List Int} {t : List Tariff} {n : Net} {l : List Use}
end
end Go.Q
namespace Go.Q
open Go
structure Book where
  accounts : Int
  posts : List Posting
def bookA (b : Book) (a : Option Addr) (c : Nat) : Array Value := #[.int .i64 b.accounts, .slice a b.posts.length c]
def noBook : Book := ⟨0, []⟩
def inFrom (n lo hi : Int) : Prop := lo ≤ n ∧ n ≤ hi
instance (n lo hi : Int) : Decidable (inFrom n lo hi) := by unfold inFrom; infer_instance
def isAcc (n k : Int) : Prop := 0 ≤ k ∧ k < n
instance (n k : Int) : Decidable (isAcc n k) := by unfold isAcc; infer_instance
def postErr (acc : Int) (p : Posting) : Int :=
  if ¬ isAcc acc p.debit ∨ ¬ isAcc acc p.credit ∨ p.debit = p.credit then 1
  else if ¬ inFrom p.amount 1 1099511627776 ∨ ¬ inFrom p.tick 0 1000000 ∨ ¬ inFrom p.why 1 7 ∨ ¬ inFrom p.ref 0 1099511627776 then 3 else 0
def postsErr (acc : Int) : Int → List Posting → Int
  | _, [] => 0
  | last, p :: r => if postErr acc p ≠ 0 then postErr acc p else if p.tick < last then 15 else postsErr acc p.tick r
def bookErr (b : Book) : Int := if b.accounts < 1 ∨ 40 < b.accounts then 3 else if 10000 < b.posts.length then 13 else postsErr b.accounts 0 b.posts
def lastT (ps : List Posting) : Nat → Int
  | 0 => 0
  | k + 1 => match ps[k]? with | some p => p.tick | none => 0
theorem lastT_at {ps : List Posting} {k : Nat} {p : Posting} (h : ps[k]? = some p) : lastT ps (k + 1) = p.tick := by simp [lastT, h]
theorem lastT_prev {ps : List Posting} {k : Nat} {e : Posting} (hk : 0 < (k : Int)) (h : ps[((k : Int) - 1).toNat]? = some e) : lastT ps k = e.tick := by
  obtain ⟨j, rfl⟩ : ∃ j, k = j + 1 := ⟨k - 1, by omega⟩
  rw [show (((j + 1 : Nat) : Int) - 1).toNat = j by omega] at h
  exact lastT_at h
theorem one_flat {α : Type} {enc : α → List Value} (h : ∀ x, ∀ u ∈ enc x, u.oneCell' = true) (l : List α) : ∀ u ∈ l.flatMap enc, u.oneCell' = true := fun u hu => by
  obtain ⟨x, _, hx⟩ := List.mem_flatMap.1 hu
  exact h x u hx
theorem SlAt.nil_of_none {α : Type} {W : World} {lo hi sz : Nat} {enc : α → List Value} {a : Option Addr} {l : List α} (h : SlAt W lo hi sz enc a l) (ha : a.isNone = true) : l = [] := by
  cases l with
  | nil => rfl
  | cons x l => have := (h.nz (by simp)).1; rw [this] at ha; cases ha
theorem none_not {α : Type} {a : Option Addr} {l : List α} (h : a.isNone = false) (h2 : a = none) : l = [] := by subst h2; cases h
theorem postsErr_bad {ps : List Posting} {acc last : Int} {k : Nat} {p : Posting} (h : ps[k]? = some p) (he : postErr acc p ≠ 0) : postsErr acc last (ps.drop k) = postErr acc p := by rw [drop_of h, postsErr, if_pos he]
theorem postsErr_stale {ps : List Posting} {acc last : Int} {k : Nat} {p : Posting} (h : ps[k]? = some p) (he : postErr acc p = 0) (hl : p.tick < last) : postsErr acc last (ps.drop k) = 15 := by rw [drop_of h, postsErr, if_neg (by omega), if_pos hl]
theorem postsErr_ok {ps : List Posting} {acc last : Int} {k : Nat} {p : Posting} (h : ps[k]? = some p) (he : postErr acc p = 0) (hl : ¬ p.tick < last) : postsErr acc last (ps.drop k) = postsErr acc (lastT ps (k + 1)) (ps.drop (k + 1)) := by rw [drop_of h, postsErr, if_neg (by omega), if_neg hl, lastT_at h]
theorem postsErr_end {ps : List Posting} {acc last : Int} {k : Nat} (h : ps.length ≤ k) : postsErr acc last (ps.drop k) = 0 := by rw [List.drop_eq_nil_of_le h]; rfl
theorem postErr_arg {acc : Int} {p : Posting} (h : ¬ isAcc acc p.debit ∨ ¬ isAcc acc p.credit ∨ p.debit = p.credit) : postErr acc p = 1 := by rw [postErr, if_pos h]
theorem postErr_range {acc : Int} {p : Posting} (h : ¬ (¬ isAcc acc p.debit ∨ ¬ isAcc acc p.credit ∨ p.debit = p.credit)) (h2 : ¬ inFrom p.amount 1 1099511627776 ∨ ¬ inFrom p.tick 0 1000000 ∨ ¬ inFrom p.why 1 7 ∨ ¬ inFrom p.ref 0 1099511627776) : postErr acc p = 3 := by rw [postErr, if_neg h, if_pos h2]
theorem postErr_ok {acc : Int} {p : Posting} (h : ¬ (¬ isAcc acc p.debit ∨ ¬ isAcc acc p.credit ∨ p.debit = p.credit)) (h2 : ¬ (¬ inFrom p.amount 1 1099511627776 ∨ ¬ inFrom p.tick 0 1000000 ∨ ¬ inFrom p.why 1 7 ∨ ¬ inFrom p.ref 0 1099511627776)) : postErr acc p = 0 := by rw [postErr, if_neg h, if_neg h2]
theorem bookErr_acc {b : Book} (h : b.accounts < 1 ∨ 40 < b.accounts) : bookErr b = 3 := by rw [bookErr, if_pos h]
theorem bookErr_full {b : Book} (h : ¬ (b.accounts < 1 ∨ 40 < b.accounts)) (h2 : 10000 < b.posts.length) : bookErr b = 13 := by rw [bookErr, if_neg h, if_pos h2]
theorem bookErr_posts {b : Book} (h : ¬ (b.accounts < 1 ∨ 40 < b.accounts)) (h2 : ¬ 10000 < b.posts.length) : bookErr b = postsErr b.accounts (lastT b.posts 0) (b.posts.drop 0) := by rw [bookErr, if_neg h, if_neg h2]; rfl
structure PostOk (acc : Int) (p : Posting) : Prop where
  d0 : 0 ≤ p.debit
  d1 : p.debit < acc
  c0 : 0 ≤ p.credit
  c1 : p.credit < acc
  ne : p.debit ≠ p.credit
  a0 : 1 ≤ p.amount
  a1 : p.amount ≤ 1099511627776
  t0 : 0 ≤ p.tick
  t1 : p.tick ≤ 1000000
  w0 : 1 ≤ p.why
  w1 : p.why ≤ 7
  r0 : 0 ≤ p.ref
  r1 : p.ref ≤ 1099511627776
theorem postErr_zero {acc : Int} {p : Posting} (h : postErr acc p = 0) : PostOk acc p := by
  unfold postErr at h
  split at h
  · cases h
  · split at h
    · cases h
    · rename_i h1 h2
      simp only [isAcc, inFrom] at h1 h2
      constructor <;> omega
theorem PostOk.zero {acc : Int} {p : Posting} (h : PostOk acc p) : postErr acc p = 0 := by
  obtain ⟨_, _, _, _, _, _, _, _, _, _, _, _, _⟩ := h
  unfold postErr isAcc inFrom
  rw [if_neg (by omega), if_neg (by omega)]
structure BookOk (b : Book) : Prop where
  acc1 : 1 ≤ b.accounts
  acc2 : b.accounts ≤ 40
  len : b.posts.length ≤ 10000
  posts : ∀ p ∈ b.posts, PostOk b.accounts p
  ord : b.posts.Pairwise fun p q => p.tick ≤ q.tick
theorem postsErr_zero {acc : Int} : ∀ {ps : List Posting} {last : Int}, postsErr acc last ps = 0 → (∀ p ∈ ps, PostOk acc p ∧ last ≤ p.tick) ∧ ps.Pairwise fun p q => p.tick ≤ q.tick
  | [], _, _ => ⟨fun _ h => by simp at h, .nil⟩
  | p :: r, last, h => by
    rw [postsErr] at h
    by_cases h1 : postErr acc p = 0
    · rw [if_neg (by omega)] at h
      by_cases h2 : p.tick < last
      · rw [if_pos h2] at h; cases h
      · rw [if_neg h2] at h
        obtain ⟨h3, h4⟩ := postsErr_zero h
        refine ⟨fun q hq => ?_, List.pairwise_cons.2 ⟨fun q hq => (h3 q hq).2, h4⟩⟩
        rcases List.mem_cons.1 hq with rfl | hq
        · exact ⟨postErr_zero h1, by omega⟩
        · have := h3 q hq; exact ⟨this.1, by omega⟩
    · rw [if_pos h1] at h; exact absurd h h1
theorem bookErr_zero {b : Book} (h : bookErr b = 0) : BookOk b := by
  unfold bookErr at h
  split at h
  · cases h
  · split at h
    · cases h
    · obtain ⟨h1, h2⟩ := postsErr_zero h
      exact ⟨by omega, by omega, by omega, fun p hp => (h1 p hp).1, h2⟩
theorem postsErr_ok0 {acc : Int} : ∀ {ps : List Posting} {last : Int}, (∀ p ∈ ps, PostOk acc p ∧ last ≤ p.tick) → (ps.Pairwise fun p q => p.tick ≤ q.tick) → postsErr acc last ps = 0
  | [], _, _, _ => rfl
  | p :: r, last, h, ho => by
    rw [List.pairwise_cons] at ho
    have h1 := h p (by simp)
    rw [postsErr, if_neg (by rw [h1.1.zero]; decide), if_neg (by omega)]
    exact postsErr_ok0 (fun q hq => ⟨(h q (List.mem_cons_of_mem _ hq)).1, ho.1 q hq⟩) ho.2
theorem BookOk.zero {b : Book} (h : BookOk b) : bookErr b = 0 := by
  rw [bookErr, if_neg (by have := h.acc1; have := h.acc2; omega), if_neg (by have := h.len; omega)]
  exact postsErr_ok0 (fun p hp => ⟨h.posts p hp, (h.posts p hp).t0⟩) h.ord
def addPost (b : Book) (p : Posting) : Book := ⟨b.accounts, b.posts ++ [p]⟩
def post (b : Book) (p : Posting) : Book × Int := if bookErr b ≠ 0 then (noBook, bookErr b) else if bookErr (addPost b p) ≠ 0 then (noBook, bookErr (addPost b p)) else (addPost b p, 0)
theorem post_err {b : Book} {p : Posting} (h : ¬ bookErr b = 0) : post b p = (noBook, bookErr b) := by rw [post, if_pos h]
theorem post_bad {b : Book} {p : Posting} (h : bookErr b = 0) (h2 : ¬ bookErr (addPost b p) = 0) : post b p = (noBook, bookErr (addPost b p)) := by rw [post, if_neg (by omega), if_pos h2]
theorem post_ok {b : Book} {p : Posting} (h : bookErr b = 0) (h2 : bookErr (addPost b p) = 0) : post b p = (addPost b p, 0) := by rw [post, if_neg (by omega), if_neg (by omega)]
/-- one posting behind the other, from a book without an error -/
def settleB (b : Book) : List Posting → Book × Int
  | [] => (b, 0)
  | p :: r => if bookErr (addPost b p) ≠ 0 then (noBook, bookErr (addPost b p)) else settleB (addPost b p) r
def settle (b : Book) (l : List Posting) : Book × Int := if bookErr b ≠ 0 then (noBook, bookErr b) else settleB b l
def addPosts (b : Book) (l : List Posting) (k : Nat) : Book := ⟨b.accounts, b.posts ++ l.take k⟩
theorem addPosts_zero (b : Book) (l : List Posting) : addPosts b l 0 = b := by simp [addPosts]
theorem addPosts_step {b : Book} {l : List Posting} {k : Nat} {p : Posting} (h : l[k]? = some p) : addPosts b l (k + 1) = addPost (addPosts b l k) p := by
  rw [addPosts, addPost, addPosts, take_of h]; simp
theorem settle_err {b : Book} {l : List Posting} (h : ¬ bookErr b = 0) : settle b l = (noBook, bookErr b) := by rw [settle, if_pos h]
theorem settle_from {b : Book} {l : List Posting} (h : bookErr b = 0) : settle b l = settleB (addPosts b l 0) (l.drop 0) := by rw [settle, if_neg (by omega), addPosts_zero]; rfl
theorem settleB_bad {b : Book} {l : List Posting} {k : Nat} {p : Posting} (h : l[k]? = some p) (h2 : ¬ bookErr (addPosts b l (k + 1)) = 0) : settleB (addPosts b l k) (l.drop k) = (noBook, bookErr (addPosts b l (k + 1))) := by
  rw [addPosts_step h] at h2 ⊢
  rw [drop_of h, settleB, if_pos h2]
theorem settleB_ok {b : Book} {l : List Posting} {k : Nat} {p : Posting} (h : l[k]? = some p) (h2 : bookErr (addPosts b l (k + 1)) = 0) : settleB (addPosts b l k) (l.drop k) = settleB (addPosts b l (k + 1)) (l.drop (k + 1)) := by
  rw [addPosts_step h] at h2 ⊢
  rw [drop_of h, settleB, if_neg (by omega)]
theorem settleB_end {b : Book} {l : List Posting} {k : Nat} (h : l.length ≤ k) : settleB (addPosts b l k) (l.drop k) = (addPosts b l k, 0) := by rw [List.drop_eq_nil_of_le h]; rfl
theorem settleB_zero : ∀ {l : List Posting} {b : Book}, bookErr b = 0 → (settleB b l).2 = 0 → (settleB b l).1 = ⟨b.accounts, b.posts ++ l⟩ ∧ bookErr (settleB b l).1 = 0
  | [], b, h, _ => by obtain ⟨a, p⟩ := b; simpa [settleB] using h
  | p :: r, b, h, h0 => by
    rw [settleB] at h0 ⊢
    by_cases h1 : bookErr (addPost b p) = 0
    · rw [if_neg (by omega)] at h0 ⊢
      obtain ⟨h2, h3⟩ := settleB_zero h1 h0
      exact ⟨by rw [h2]; simp [addPost], h3⟩
    · rw [if_pos h1] at h0; exact absurd h0 h1
theorem settle_zero {l : List Posting} {b : Book} (h0 : (settle b l).2 = 0) : (settle b l).1 = ⟨b.accounts, b.posts ++ l⟩ ∧ BookOk b ∧ BookOk ⟨b.accounts, b.posts ++ l⟩ := by
  by_cases h : bookErr b = 0
  · rw [settle, if_neg (by omega)] at h0 ⊢
    obtain ⟨h1, h2⟩ := settleB_zero h h0
    exact ⟨h1, bookErr_zero h, h1 ▸ bookErr_zero h2⟩
  · rw [settle_err h] at h0; exact absurd h0 h
def got (p : Posting) (k : Int) : Int := (if p.debit = k then p.amount else 0) - (if p.credit = k then p.amount else 0)
/-- what bill.of yields: indices, and what the account gets -/
def ofL (acc before : Int) : Nat → List Posting → List (Int × Int)
  | _, [] => []
  | k, p :: r => if before ≤ p.tick then [] else (if p.debit = acc then [((k : Int), p.amount)] else []) ++ (if p.credit = acc then [((k : Int), -p.amount)] else []) ++ ofL acc before (k + 1) r
def encPair (x : Int × Int) : List Value := [.int .i64 x.1, .int .i64 x.2]
/-- the first k postings are before the tick -/
def Early (ps : List Posting) (before : Int) (k : Nat) : Prop := ∀ (j : Nat) p, j < k → ps[j]? = some p → ¬ before ≤ p.tick
theorem ofL_append {acc before : Int} : ∀ {a b : List Posting} {k : Nat}, (∀ p ∈ a, ¬ before ≤ p.tick) → ofL acc before k (a ++ b) = ofL acc before k a ++ ofL acc before (k + a.length) b
  | [], b, k, _ => by simp [ofL]
  | p :: a, b, k, h => by
    rw [List.cons_append, ofL, ofL, if_neg (h p (by simp)), if_neg (h p (by simp)), ofL_append fun q hq => h q (List.mem_cons_of_mem _ hq)]
    simp only [List.append_assoc, List.length_cons]
    rw [show k + 1 + a.length = k + (a.length + 1) by omega]
theorem early_mem {ps : List Posting} {before : Int} {k : Nat} (h : Early ps before k) : ∀ p ∈ ps.take k, ¬ before ≤ p.tick := fun p hp => by
  obtain ⟨j, hj⟩ := List.getElem?_of_mem hp
  rw [List.getElem?_take] at hj
  split at hj
  · exact h j p (by assumption) hj
  · cases hj
theorem ofL_at {acc before : Int} {ps : List Posting} {k : Nat} {p : Posting} (h : Early ps before k) (hp : ps[k]? = some p) : ofL acc before 0 ps = ofL acc before 0 (ps.take k) ++ ofL acc before k (ps.drop k) := by
  have hk : k < ps.length := (List.getElem?_eq_some_iff.1 hp).1
  have := ofL_append (acc := acc) (b := ps.drop k) (k := 0) (early_mem h)
  rw [List.take_append_drop, List.length_take, Nat.zero_add, Nat.min_eq_left (by omega)] at this
  exact this
theorem ofL_stop {acc before : Int} {ps : List Posting} {k : Nat} {p : Posting} (h : Early ps before k) (hp : ps[k]? = some p) (hb : before ≤ p.tick) : ofL acc before 0 ps = ofL acc before 0 (ps.take k) := by
  rw [ofL_at h hp, drop_of hp, ofL, if_pos hb, List.append_nil]
theorem ofL_take {acc before : Int} {ps : List Posting} {k : Nat} {p : Posting} (h : Early ps before k) (hp : ps[k]? = some p) (hb : ¬ before ≤ p.tick) : ofL acc before 0 (ps.take (k + 1)) = ofL acc before 0 (ps.take k) ++ ((if p.debit = acc then [((k : Int), p.amount)] else []) ++ (if p.credit = acc then [((k : Int), -p.amount)] else [])) := by
  have hk : k < ps.length := (List.getElem?_eq_some_iff.1 hp).1
  rw [take_of hp, ofL_append (early_mem h), List.length_take, Nat.zero_add, Nat.min_eq_left (by omega)]
  simp only [ofL, if_neg hb, List.append_nil]
theorem ofL_here {acc before : Int} {ps : List Posting} {k : Nat} {p : Posting} (h : Early ps before k) (hp : ps[k]? = some p) (hb : ¬ before ≤ p.tick) : ofL acc before 0 ps = ofL acc before 0 (ps.take k) ++ (((if p.debit = acc then [((k : Int), p.amount)] else []) ++ (if p.credit = acc then [((k : Int), -p.amount)] else [])) ++ ofL acc before (k + 1) (ps.drop (k + 1))) := by
  rw [ofL_at h hp, drop_of hp, ofL, if_neg hb]
theorem ofL_end {acc before : Int} {ps : List Posting} {k : Nat} (h : ps.length ≤ k) : ofL acc before 0 (ps.take k) = ofL acc before 0 ps := by rw [List.take_of_length_le h]
theorem Early.step {ps : List Posting} {before : Int} {k : Nat} {p : Posting} (h : Early ps before k) (hp : ps[k]? = some p) (hb : ¬ before ≤ p.tick) : Early ps before (k + 1) := fun j q hj hq => by
  rcases Nat.lt_or_ge j k with h' | h'
  · exact h j q h' hq
  · obtain rfl : j = k := by omega
    rw [hp] at hq; cases hq; exact hb
/-- over the postings before a tick -/
def overP (f : Posting → Int) (ps : List Posting) (before : Int) : Int := isum (fun p => if p.tick < before then f p else 0) ps
/-- a sum over what is yielded, by the posting -/
theorem ofL_sum {acc before : Int} {h : Posting → Prop} [DecidablePred h] (q : Nat → Posting → Prop) (F : Int × Int → Int) : ∀ (ps : List Posting) (k : Nat), (ps.Pairwise fun p q => p.tick ≤ q.tick) →
    (∀ i p, ps[i]? = some p → ∀ a : Int, F (((k + i : Nat) : Int), a) = if h p then a else 0) → isum F (ofL acc before k ps) = overP (fun p => if h p then got p acc else 0) ps before
  | [], k, _, _ => rfl
  | p :: r, k, ho, hF => by
    rw [List.pairwise_cons] at ho
    rw [ofL, overP, isum]
    by_cases hb : before ≤ p.tick
    · rw [if_pos hb, if_neg (by omega)]
      have hz : isum (fun p => if p.tick < before then if h p then got p acc else 0 else 0) r = 0 := isum_zero fun q hq => by
        have := ho.1 q hq
        rw [if_neg (by omega)]
      rw [hz]; rfl
    · rw [if_neg hb, if_pos (show p.tick < before by omega), isum_append, isum_append]
      have ih := ofL_sum (acc := acc) (before := before) (h := h) q F r (k + 1) ho.2 fun i p' hp' a => by
        have := hF (i + 1) p' (by simpa using hp') a
        rwa [show k + (i + 1) = k + 1 + i by omega] at this
      have h0 := hF 0 p rfl
      rw [Nat.add_zero] at h0
      rw [ih]
      unfold overP
      by_cases hh : h p <;> by_cases h1 : p.debit = acc <;> by_cases h2 : p.credit = acc <;> simp [isum, h0, hh, h1, h2, got] <;> omega
def balB (b : Book) (acc before : Int) : Int := isum (fun x => x.2) (ofL acc before 0 b.posts)
theorem balB_eq {b : Book} (h : BookOk b) (acc before : Int) : balB b acc before = overP (fun p => got p acc) b.posts before := by
  have := ofL_sum (acc := acc) (before := before) (h := fun _ => True) (fun _ _ => True) (fun x => x.2) b.posts 0 h.ord (fun i p _ a => by simp)
  unfold balB
  simpa using this
theorem gotP_bd {acc : Int} {p : Posting} (h : PostOk acc p) (k : Int) : -1099511627776 ≤ got p k ∧ got p k ≤ 1099511627776 := by
  have := h.a0; have := h.a1; have := h.ne
  unfold got; split <;> split <;> omega
/-- what is yielded is small -/
theorem ofL_mem {acc before : Int} : ∀ {ps : List Posting} {k : Nat} {x : Int × Int}, x ∈ ofL acc before k ps → ∃ (i : Nat) (p : Posting), ps[i]? = some p ∧ x.1 = ((k + i : Nat) : Int) ∧ (x.2 = p.amount ∨ x.2 = -p.amount) ∧ p.tick < before
  | [], k, x, h => by simp [ofL] at h
  | p :: r, k, x, h => by
    rw [ofL] at h
    split at h
    · simp at h
    · rename_i hb
      simp only [List.mem_append] at h
      rcases h with (h | h) | h
      · split at h <;> simp at h
        subst h; exact ⟨0, p, rfl, rfl, .inl rfl, by omega⟩
      · split at h <;> simp at h
        subst h; exact ⟨0, p, rfl, rfl, .inr rfl, by omega⟩
      · obtain ⟨i, q, h1, h2, h3, h4⟩ := ofL_mem h
        exact ⟨i + 1, q, by simpa using h1, by rw [h2]; congr 1; omega, h3, h4⟩
theorem ofL_len {acc before : Int} : ∀ (ps : List Posting) (k : Nat), (ofL acc before k ps).length ≤ 2 * ps.length
  | [], k => by simp [ofL]
  | p :: r, k => by
    have ih := ofL_len (acc := acc) (before := before) r (k + 1)
    rw [ofL]
    split
    · simp
    · simp only [List.length_append, List.length_cons]
      have h1 : (if p.debit = acc then [((k : Int), p.amount)] else []).length ≤ 1 := by split <;> simp
      have h2 : (if p.credit = acc then [((k : Int), -p.amount)] else []).length ≤ 1 := by split <;> simp
      omega
theorem of_bd {b : Book} (h : BookOk b) {acc before : Int} {x : Int × Int} (hx : x ∈ ofL acc before 0 b.posts) : 0 ≤ x.1 ∧ x.1 < b.posts.length ∧ -1099511627776 ≤ x.2 ∧ x.2 ≤ 1099511627776 := by
  obtain ⟨i, p, h1, h2, h3, _⟩ := ofL_mem hx
  have hp := h.posts p (List.mem_of_getElem? h1)
  have := (List.getElem?_eq_some_iff.1 h1).1
  have := hp.a0; have := hp.a1
  omega
theorem of_sum_bd {b : Book} (h : BookOk b) {acc before : Int} {pre post : List (Int × Int)} {x : Int × Int} (hx : ofL acc before 0 b.posts = pre ++ x :: post) (F : Int × Int → Int) (hF : ∀ y ∈ ofL acc before 0 b.posts, -1099511627776 ≤ F y ∧ F y ≤ 1099511627776) : -21990232555520000 ≤ isum F pre ∧ isum F pre ≤ 21990232555520000 := by
  have h1 := isum_bound (f := F) (l := pre) (lo := -1099511627776) (hi := 1099511627776) fun y hy => hF y (by rw [hx]; exact List.mem_append_left _ hy)
  have h2 := ofL_len (acc := acc) (before := before) b.posts 0
  rw [hx] at h2
  have := h.len
  simp only [List.length_append, List.length_cons] at h2
  omega
def balance (b : Book) (k tick : Int) : Int × Int := if bookErr b ≠ 0 then (0, bookErr b) else if ¬ isAcc b.accounts k then (0, 8) else (balB b k ((if 1000000 < tick then 1000000 else tick) + 1), 0)
theorem balance_err {b : Book} {k tick : Int} (h : ¬ bookErr b = 0) : balance b k tick = (0, bookErr b) := by rw [balance, if_pos h]
theorem balance_none {b : Book} {k tick : Int} (h : bookErr b = 0) (h2 : ¬ isAcc b.accounts k) : balance b k tick = (0, 8) := by rw [balance, if_neg (by omega), if_pos h2]
theorem balance_ok {b : Book} {k tick : Int} (h : bookErr b = 0) (h2 : isAcc b.accounts k) : balance b k tick = (balB b k ((if 1000000 < tick then 1000000 else tick) + 1), 0) := by rw [balance, if_neg (by omega), if_neg (fun hn => hn h2)]
/-- the balance, posting by posting -/
def balT (b : Book) (k tick : Int) : Int := isum (fun p => if p.tick ≤ tick then got p k else 0) b.posts
theorem balance_eq {b : Book} (h : BookOk b) {k tick : Int} (hk : isAcc b.accounts k) : balance b k tick = (balT b k tick, 0) := by
  rw [balance_ok h.zero hk, balB_eq h]
  congr 1
  unfold overP balT
  refine isum_congr fun p hp => ?_
  have := (h.posts p hp).t1
  by_cases h1 : p.tick ≤ tick
  · rw [if_pos h1, if_pos (by split <;> omega)]
  · rw [if_neg h1, if_neg (by split <;> omega)]
theorem balT_bd {b : Book} (h : BookOk b) (k tick : Int) : -10995116277760000 ≤ balT b k tick ∧ balT b k tick ≤ 10995116277760000 := by
  have h1 := isum_bound (f := fun p : Posting => if p.tick ≤ tick then got p k else 0) (lo := -1099511627776) (hi := 1099511627776) (l := b.posts) fun p hp => by
    have := gotP_bd (h.posts p hp) k; split <;> omega
  have := h.len
  unfold balT; omega
def spanErr (b : Book) (k from_ to : Int) : Int := if bookErr b ≠ 0 then bookErr b else if ¬ isAcc b.accounts k then 8 else if from_ < 0 ∨ to < from_ ∨ 1000001 < to then 1 else 0
theorem span_err {b : Book} {k f t : Int} (h : ¬ bookErr b = 0) : spanErr b k f t = bookErr b := by rw [spanErr, if_pos h]
theorem span_none {b : Book} {k f t : Int} (h : bookErr b = 0) (h2 : ¬ isAcc b.accounts k) : spanErr b k f t = 8 := by rw [spanErr, if_neg (by omega), if_pos h2]
theorem span_arg {b : Book} {k f t : Int} (h : bookErr b = 0) (h2 : isAcc b.accounts k) (h3 : f < 0 ∨ t < f ∨ 1000001 < t) : spanErr b k f t = 1 := by rw [spanErr, if_neg (by omega), if_neg (fun hn => hn h2), if_pos h3]
theorem span_ok {b : Book} {k f t : Int} (h : bookErr b = 0) (h2 : isAcc b.accounts k) (h3 : ¬ (f < 0 ∨ t < f ∨ 1000001 < t)) : spanErr b k f t = 0 := by rw [spanErr, if_neg (by omega), if_neg (fun hn => hn h2), if_neg h3]
theorem span_zero {b : Book} {k f t : Int} (h : spanErr b k f t = 0) : BookOk b ∧ isAcc b.accounts k ∧ 0 ≤ f ∧ f ≤ t ∧ t ≤ 1000001 := by
  unfold spanErr at h
  by_cases h1 : bookErr b = 0
  · rw [if_neg (by omega)] at h
    by_cases h2 : isAcc b.accounts k
    · rw [if_neg (fun hn => hn h2)] at h
      by_cases h3 : f < 0 ∨ t < f ∨ 1000001 < t
      · rw [if_pos h3] at h; cases h
      · exact ⟨bookErr_zero h1, h2, by omega, by omega, by omega⟩
    · rw [if_pos h2] at h; cases h
  · rw [if_pos h1] at h; exact absurd h h1
def pwB (ps : List Posting) (from_ : Int) (i : Nat) (y : Int) : Bool := match ps[i]? with | some p => decide (from_ ≤ p.tick ∧ p.why = y) | none => false
/-- the sums by reason, of what is yielded -/
def tot8 (ps : List Posting) (from_ : Int) (xs : List (Int × Int)) : List Int := (List.range 8).map fun (y : Nat) => isum (fun x => if pwB ps from_ x.1.toNat (y : Int) then x.2 else 0) xs
theorem tot8_len (ps : List Posting) (from_ : Int) (xs : List (Int × Int)) : (tot8 ps from_ xs).length = 8 := by simp [tot8]
theorem tot8_at (ps : List Posting) (from_ : Int) (xs : List (Int × Int)) {y : Nat} (hy : y < 8) : (tot8 ps from_ xs)[y]? = some (isum (fun x => if pwB ps from_ x.1.toNat (y : Int) then x.2 else 0) xs) := by simp [tot8, hy]
theorem tot8_skip {ps : List Posting} {from_ : Int} {pre : List (Int × Int)} {x : Int × Int} {p : Posting} (hp : ps[x.1.toNat]? = some p) (h : ¬ from_ ≤ p.tick) : tot8 ps from_ (pre ++ [x]) = tot8 ps from_ pre := by
  unfold tot8
  refine List.map_congr_left fun y _ => ?_
  rw [isum_append]
  have : pwB ps from_ x.1.toNat (y : Int) = false := by unfold pwB; rw [hp]; simp; intro h'; exact absurd h' h
  simp [isum, this]
theorem tot8_add {ps : List Posting} {from_ : Int} {pre : List (Int × Int)} {x : Int × Int} {p : Posting} {e : Int} {w : Nat} (hp : ps[x.1.toNat]? = some p) (h : from_ ≤ p.tick) (hw : p.why = (w : Int)) (hw8 : w < 8) (he : (tot8 ps from_ pre)[w]? = some e) : tot8 ps from_ (pre ++ [x]) = (tot8 ps from_ pre).set w (e + x.2) := by
  rw [tot8_at _ _ _ hw8] at he
  cases he
  unfold tot8
  refine List.ext_getElem? fun i => ?_
  rw [List.getElem?_set]
  simp only [List.getElem?_map, List.length_map, List.length_range]
  by_cases hi : i < 8
  · rw [List.getElem?_range hi]
    simp only [Option.map_some]
    have hpw : pwB ps from_ x.1.toNat (i : Int) = decide ((w : Int) = (i : Int)) := by unfold pwB; rw [hp]; simp [h, hw]
    rw [isum_append]
    by_cases hwi : w = i
    · subst hwi
      rw [if_pos rfl, if_pos hw8]
      simp [isum, hpw]
    · rw [if_neg hwi]
      have : ¬ (w : Int) = (i : Int) := by omega
      simp [isum, hpw, this]
  · rw [List.getElem?_eq_none (by simpa using hi)]
    rw [if_neg (by omega)]
    rfl
def totalsL (b : Book) (k from_ to : Int) : List Int := tot8 b.posts from_ (ofL k to 0 b.posts)
def totals (b : Book) (k from_ to : Int) : List Int × Int := if spanErr b k from_ to ≠ 0 then ([], spanErr b k from_ to) else (totalsL b k from_ to, 0)
theorem totalsL_at {b : Book} (h : BookOk b) (k from_ to : Int) {y : Nat} (hy : y < 8) : (totalsL b k from_ to)[y]? = some (isum (fun p => if p.tick < to ∧ from_ ≤ p.tick ∧ p.why = (y : Int) then got p k else 0) b.posts) := by
  rw [totalsL, tot8_at _ _ _ hy]
  congr 1
  rw [ofL_sum (h := fun p => from_ ≤ p.tick ∧ p.why = (y : Int)) (fun _ _ => True) _ b.posts 0 h.ord (fun i p hp a => by
    simp only [Nat.zero_add, Int.toNat_natCast, pwB, hp, decide_eq_true_eq])]
  unfold overP
  refine isum_congr fun p _ => ?_
  by_cases h1 : p.tick < to
  · simp [h1]
  · simp [h1]
theorem post_step {b : Book} {l : List Posting} {k : Nat} {p : Posting} (h0 : bookErr (addPosts b l k) = 0) (he : l[k]? = some p) : (post (addPosts b l k) p).2 = bookErr (addPosts b l (k + 1)) ∧ ((post (addPosts b l k) p).2 = 0 → (post (addPosts b l k) p).1 = addPosts b l (k + 1)) := by
  rw [addPosts_step he]
  by_cases h : bookErr (addPost (addPosts b l k) p) = 0
  · rw [post_ok h0 h, h]; exact ⟨rfl, fun _ => rfl⟩
  · rw [post_bad h0 h]; exact ⟨rfl, fun h' => absurd h' h⟩
instance : DecidableEq Book := fun a b => decidable_of_iff (a.accounts = b.accounts ∧ a.posts = b.posts) (by cases a; cases b; simp)
theorem book_ne {a b : Book} (h : a.accounts ≠ b.accounts ∨ a.posts ≠ b.posts) : ¬ a = b := fun e => by subst e; rcases h with h | h <;> exact h rfl
theorem book_eq {a b : Book} (h : a.accounts = b.accounts) (h2 : a.posts = b.posts) : a = b := by cases a; cases b; simp_all
end Go.Q
namespace Go.Q
open Go Go.Proofs Go.RowKit Go.WideShapes Go.ChangeShapes
theorem okWide_both {P : Program} {w : World} {r : Reach} {base : Nat} {t : TypeId} {v : Value} (ht : (∃ fs, P.underlying t = some (.struct fs)) ∨ ∃ n e, P.underlying t = some (.array n e)) (h : Value.okWide P w r base t v) : ∃ cs, v = .agg cs := by
  rcases ht with ⟨fs, ht⟩ | ⟨n, e, ht⟩ <;> simp only [Value.okWide, ht] at h <;> obtain ⟨cs, h1, _, _⟩ := h <;> exact ⟨cs, h1⟩
theorem op_int : Opener Try.prog 3 1 (fun i : Int => [.int .i64 i]) (fun _ i => (Lit.int .i64 i).wf = true) := Opener.int Try.underlying3 (by kernel_rfl)
theorem op_arr : Opener Try.prog 114 (24 * 1) (fun l : List Int => l.flatMap (fun i : Int => [.int .i64 i])) (fun _ l => l.length = 24 ∧ ∀ y ∈ l, (Lit.int .i64 y).wf = true) := op_int.array Try.underlying114 (by kernel_rfl)
theorem flat_ints : ∀ (l : List Int), l.flatMap (fun i : Int => [Value.int .i64 i]) = l.map (Value.int .i64)
  | [] => rfl
  | x :: l => by rw [List.flatMap_cons, flat_ints l]; rfl
theorem op_link : Opener Try.prog 117 50 encLink (fun _ x => LinkOk x) where
  size := by kernel_rfl
  len := fun w x h => by simp [encLink, h.1, h.2]
  run := fun e w base spare held fuel cs x hx => by
    obtain ⟨h1, a, ha, _⟩ := op_int.field Try.underlying117 hx 0 rfl rfl
    obtain ⟨_, b, hb, _⟩ := op_int.field Try.underlying117 hx 1 rfl rfl
    obtain ⟨_, c, hc, hcl, _⟩ := op_arr.field Try.underlying117 hx 2 rfl rfl
    obtain ⟨_, p, hp, hpl, _⟩ := op_arr.field Try.underlying117 hx 3 rfl rfl
    rw [show (Try.prog).cellsOf 117 = 50 by kernel_rfl] at h1
    refine ⟨⟨a, b, c, p⟩, ?_, hcl, hpl⟩
    rw [flat_ints] at hc hp
    have e1 : cs = (cs.drop 0).take 1 ++ ((cs.drop 1).take 1 ++ ((cs.drop 2).take (24 * 1) ++ (cs.drop 26).take (24 * 1))) := by
      have e2 : (cs.drop 26).take (24 * 1) = cs.drop 26 := List.take_of_length_le (by rw [List.length_drop]; omega)
      have e3 : (cs.drop 2).take (24 * 1) ++ cs.drop 26 = cs.drop 2 := by
        have := List.take_append_drop (24 * 1) (cs.drop 2)
        rwa [List.drop_drop] at this
      have e4 : (cs.drop 1).take 1 ++ cs.drop 2 = cs.drop 1 := by
        have := List.take_append_drop 1 (cs.drop 1)
        rwa [List.drop_drop] at this
      have e5 : (cs.drop 0).take 1 ++ cs.drop 1 = cs := by simpa using List.take_append_drop 1 cs
      rw [e2, e3, e4, e5]
    have ha' : (cs.drop 0).take 1 = [.int .i64 a] := ha
    have hb' : (cs.drop 1).take 1 = [.int .i64 b] := hb
    have hc' : (cs.drop 2).take (24 * 1) = c.map (Value.int .i64) := hc
    have hp' : (cs.drop 26).take (24 * 1) = p.map (Value.int .i64) := hp
    rw [e1, ha', hb', hc', hp']
    rfl
theorem op_send : Opener Try.prog 119 3 encSend (fun _ _ => True) where
  size := by kernel_rfl
  len := fun w x h => rfl
  run := fun e w base spare held fuel cs x hx => by
    obtain ⟨h1, a, ha, _⟩ := op_int.field Try.underlying119 hx 0 rfl rfl
    obtain ⟨_, b, hb, _⟩ := op_int.field Try.underlying119 hx 1 rfl rfl
    obtain ⟨_, c, hc, _⟩ := op_int.field Try.underlying119 hx 2 rfl rfl
    rw [show (Try.prog).cellsOf 119 = 3 by kernel_rfl] at h1
    match cs, h1 with
    | [u, v, t], _ =>
      simp at ha hb hc
      subst ha hb hc
      exact ⟨⟨a, b, c⟩, rfl, trivial⟩
theorem op_sends : Opener Try.prog 32 1 encHd (fun w h => SlIn w 3 encSend h.a h.l ∧ h.l.length ≤ h.c) where
  size := by kernel_rfl
  len := fun w x h => rfl
  run := fun e w base spare held fuel cs x hx => by
    obtain ⟨a, l, c, h1, h2, _, h3⟩ := op_send.slice Try.underlying32 (by decide) hx
    exact ⟨⟨l, a, c⟩, h1, h2, h3⟩
structure NetH where
  n : Net
  a : Option Addr
  c : Nat
theorem op_net : Opener Try.prog 26 2 (fun h : NetH => (netA h.n h.a h.c).toList) (fun w h => SlIn w 50 encLink h.a h.n.links ∧ NetOk h.n ∧ h.n.links.length ≤ h.c) where
  size := by kernel_rfl
  len := fun w x h => rfl
  run := fun e w base spare held fuel cs x hx => by
    have op_links : Opener Try.prog 24 1 (fun h : NetH => [.slice h.a h.n.links.length h.c]) (fun w h => SlIn w 50 encLink h.a h.n.links ∧ NetOk h.n ∧ h.n.links.length ≤ h.c) := {
      size := by kernel_rfl
      len := fun w x h => rfl
      run := fun e w base spare held fuel cs x hx => by
        obtain ⟨a, l, c, h1, h2, h3, h4⟩ := op_link.slice Try.underlying24 (by decide) hx
        exact ⟨⟨⟨0, l⟩, a, c⟩, h1, h2, h3, h4⟩ }
    obtain ⟨h1, a, ha, _⟩ := op_int.field Try.underlying26 hx 0 rfl rfl
    obtain ⟨_, b, hb, hb2⟩ := op_links.field Try.underlying26 hx 1 rfl rfl
    rw [show (Try.prog).cellsOf 26 = 2 by kernel_rfl] at h1
    match cs, h1 with
    | [u, v], _ =>
      simp at ha hb
      subst ha hb
      exact ⟨⟨⟨a, b.n.links⟩, b.a, b.c⟩, rfl, hb2⟩
theorem op_tar : Opener Try.prog 113 3 encTar (fun _ _ => True) where
  size := by kernel_rfl
  len := fun w x h => rfl
  run := fun e w base spare held fuel cs x hx => by
    obtain ⟨h1, a0, ha0, _⟩ := op_int.field Try.underlying113 hx 0 rfl rfl
    obtain ⟨_, a1, ha1, _⟩ := op_int.field Try.underlying113 hx 1 rfl rfl
    obtain ⟨_, a2, ha2, _⟩ := op_int.field Try.underlying113 hx 2 rfl rfl
    rw [show (Try.prog).cellsOf 113 = 3 by kernel_rfl] at h1
    match cs, h1 with
    | [u0, u1, u2], _ =>
      simp at ha0 ha1 ha2
      subst ha0 ha1 ha2
      exact ⟨⟨a0, a1, a2⟩, rfl, trivial⟩
theorem op_post : Opener Try.prog 54 6 encPost (fun _ _ => True) where
  size := by kernel_rfl
  len := fun w x h => rfl
  run := fun e w base spare held fuel cs x hx => by
    obtain ⟨h1, a0, ha0, _⟩ := op_int.field Try.underlying54 hx 0 rfl rfl
    obtain ⟨_, a1, ha1, _⟩ := op_int.field Try.underlying54 hx 1 rfl rfl
    obtain ⟨_, a2, ha2, _⟩ := op_int.field Try.underlying54 hx 2 rfl rfl
    obtain ⟨_, a3, ha3, _⟩ := op_int.field Try.underlying54 hx 3 rfl rfl
    obtain ⟨_, a4, ha4, _⟩ := op_int.field Try.underlying54 hx 4 rfl rfl
    obtain ⟨_, a5, ha5, _⟩ := op_int.field Try.underlying54 hx 5 rfl rfl
    rw [show (Try.prog).cellsOf 54 = 6 by kernel_rfl] at h1
    match cs, h1 with
    | [u0, u1, u2, u3, u4, u5], _ =>
      simp at ha0 ha1 ha2 ha3 ha4 ha5
      subst ha0 ha1 ha2 ha3 ha4 ha5
      exact ⟨⟨a0, a1, a2, a3, a4, a5⟩, rfl, trivial⟩
structure BookH where
  b : Book
  a : Option Addr
  c : Nat
theorem op_book : Opener Try.prog 80 2 (fun h : BookH => (bookA h.b h.a h.c).toList) (fun w h => SlIn w 6 encPost h.a h.b.posts ∧ h.b.posts.length ≤ h.c) where
  size := by kernel_rfl
  len := fun w x h => rfl
  run := fun e w base spare held fuel cs x hx => by
    have op_posts : Opener Try.prog 40 1 (fun h : BookH => [.slice h.a h.b.posts.length h.c]) (fun w h => SlIn w 6 encPost h.a h.b.posts ∧ h.b.posts.length ≤ h.c) := {
      size := by kernel_rfl
      len := fun w x h => rfl
      run := fun e w base spare held fuel cs x hx => by
        obtain ⟨a, l, c, h1, h2, h3, h4⟩ := op_post.slice Try.underlying40 (by decide) hx
        exact ⟨⟨⟨0, l⟩, a, c⟩, h1, h2, h4⟩ }
    obtain ⟨h1, a, ha, _⟩ := op_int.field Try.underlying80 hx 0 rfl rfl
    obtain ⟨_, b, hb, hb2⟩ := op_posts.field Try.underlying80 hx 1 rfl rfl
    rw [show (Try.prog).cellsOf 80 = 2 by kernel_rfl] at h1
    match cs, h1 with
    | [u, v], _ =>
      simp at ha hb
      subst ha hb
      exact ⟨⟨⟨a, b.b.posts⟩, b.a, b.c⟩, rfl, hb2⟩
theorem op_use : Opener Try.prog 34 8 encUse (fun w u => SlIn w 3 encSend u.sends.a u.sends.l ∧ u.sends.l.length ≤ u.sends.c) where
  size := by kernel_rfl
  len := fun w x h => rfl
  run := fun e w base spare held fuel cs x hx => by
    obtain ⟨h1, a0, ha0, _⟩ := op_int.field Try.underlying34 hx 0 rfl rfl
    obtain ⟨_, a1, ha1, _⟩ := op_int.field Try.underlying34 hx 1 rfl rfl
    obtain ⟨_, a2, ha2, _⟩ := op_int.field Try.underlying34 hx 2 rfl rfl
    obtain ⟨_, a3, ha3, _⟩ := op_int.field Try.underlying34 hx 3 rfl rfl
    obtain ⟨_, a4, ha4, _⟩ := op_int.field Try.underlying34 hx 4 rfl rfl
    obtain ⟨_, a5, ha5, _⟩ := op_int.field Try.underlying34 hx 5 rfl rfl
    obtain ⟨_, a6, ha6, _⟩ := op_int.field Try.underlying34 hx 6 rfl rfl
    obtain ⟨_, b, hb, hb2⟩ := op_sends.field Try.underlying34 hx 7 rfl rfl
    rw [show (Try.prog).cellsOf 34 = 8 by kernel_rfl] at h1
    match cs, h1 with
    | [u0, u1, u2, u3, u4, u5, u6, u7], _ =>
      simp [encHd] at ha0 ha1 ha2 ha3 ha4 ha5 ha6 hb
      subst ha0 ha1 ha2 ha3 ha4 ha5 ha6 hb
      exact ⟨⟨a0, a1, a2, a3, a4, a5, a6, b⟩, rfl, hb2⟩
end Go.Q
namespace Go.Q
open Go
/-- groups that together have the numbers, each with the sum 0 -/
structure Split (vs : List Int) (gs : List (List Int)) : Prop where
  perm : gs.flatten.Perm vs
  zero : ∀ g ∈ gs, g.sum = 0
  full : ∀ g ∈ gs, g ≠ []
def MaxSplit (vs : List Int) (m : Nat) : Prop := (∃ gs, Split vs gs ∧ gs.length = m) ∧ ∀ gs, Split vs gs → gs.length ≤ m
theorem MaxSplit.unique {vs : List Int} {m n : Nat} (h : MaxSplit vs m) (h' : MaxSplit vs n) : m = n := by
  obtain ⟨g, hg, rfl⟩ := h.1
  obtain ⟨g', hg', rfl⟩ := h'.1
  exact Nat.le_antisymm (h'.2 _ hg) (h.2 _ hg')
theorem sum_flatten_zero : ∀ {gs : List (List Int)}, (∀ g ∈ gs, g.sum = 0) → gs.flatten.sum = 0
  | [], _ => rfl
  | g :: gs, h => by
    rw [List.flatten_cons, List.sum_append, h g (by simp), sum_flatten_zero fun g hg => h g (List.mem_cons_of_mem _ hg)]
    rfl
theorem perm_sum {a b : List Int} (h : a.Perm b) : a.sum = b.sum := by
  induction h with
  | nil => rfl
  | cons x _ ih => simp [ih]
  | swap x y l => simp; omega
  | trans _ _ i j => exact i.trans j
theorem Split.sum {vs : List Int} {gs : List (List Int)} (h : Split vs gs) : vs.sum = 0 := by rw [← perm_sum h.perm, sum_flatten_zero h.zero]
end Go.Q
namespace Go.Q
open Go
def acc40 (b : Book) : Book := ⟨40, b.posts⟩
def tickOf (ps : List Posting) (x : Int) : Int := match ps.getLast? with | some p => x + p.tick | none => x
theorem tickOf_last {ps : List Posting} {x : Int} {e : Posting} (h0 : 0 < (ps.length : Int)) (h : ps[((ps.length : Int) - 1).toNat]? = some e) : tickOf ps x = x + e.tick := by
  rw [show ((ps.length : Int) - 1).toNat = ps.length - 1 by omega] at h
  rw [tickOf, List.getLast?_eq_getElem?, h]
theorem tickOf_nil {ps : List Posting} {x : Int} (h0 : ¬ 0 < (ps.length : Int)) : tickOf ps x = x := by
  have : ps = [] := List.eq_nil_of_length_eq_zero (by omega)
  subst this; rfl
theorem tickOf_ge {b : Book} (hb : BookOk b) {x : Int} : ∀ p ∈ b.posts, x + p.tick ≤ tickOf b.posts x := by
  intro p hp
  rcases hl : b.posts.getLast? with _ | q
  · rw [List.getLast?_eq_none_iff] at hl; rw [hl] at hp; simp at hp
  · rw [tickOf, hl]
    simp only
    obtain ⟨i, hi⟩ := List.getElem?_of_mem hp
    rw [List.getLast?_eq_getElem?] at hl
    have h1 := (List.getElem?_eq_some_iff.1 hi).1
    rcases Nat.lt_or_ge i (b.posts.length - 1) with h | h
    · have := List.pairwise_iff_getElem.1 hb.ord i (b.posts.length - 1) h1 (by omega) h
      rw [List.getElem?_eq_getElem h1] at hi
      rw [List.getElem?_eq_getElem (by omega)] at hl
      cases hi; cases hl; omega
    · obtain rfl : i = b.posts.length - 1 := by omega
      rw [hi] at hl; cases hl; omega
def gotSum (ps : List Posting) (k : Int) (j : Nat) : Int := isum (fun p => got p k) (ps.take j)
def gainL (ps : List Posting) (k : Int) (j : Nat) : List Int := (List.range 8).map fun (y : Nat) => isum (fun p => if p.why = (y : Int) then got p k else 0) (ps.take j)
theorem gotSum_step {ps : List Posting} {k : Int} {j : Nat} {p : Posting} (h : ps[j]? = some p) : gotSum ps k (j + 1) = gotSum ps k j + got p k := isum_take h
theorem gainL_at (ps : List Posting) (k : Int) (j : Nat) {y : Nat} (hy : y < 8) : (gainL ps k j)[y]? = some (isum (fun p => if p.why = (y : Int) then got p k else 0) (ps.take j)) := by simp [gainL, hy]
theorem gainL_set {ps : List Posting} {k : Int} {j w : Nat} {p : Posting} {e v : Int} (h : ps[j]? = some p) (hw : p.why = (w : Int)) (hw8 : w < 8) (he : (gainL ps k j)[w]? = some e) (hv : got p k = v) : gainL ps k (j + 1) = (gainL ps k j).set w (e + v) := by
  rw [gainL_at _ _ _ hw8] at he
  cases he
  unfold gainL
  refine List.ext_getElem? fun i => ?_
  rw [List.getElem?_set]
  simp only [List.getElem?_map, List.length_map, List.length_range]
  by_cases hi : i < 8
  · rw [List.getElem?_range hi]
    simp only [Option.map_some]
    rw [isum_take h]
    by_cases hwi : w = i
    · subst hwi
      rw [if_pos rfl, if_pos hw8, if_pos hw, hv]
    · rw [if_neg hwi, if_neg (by omega), Int.add_zero]
  · rw [List.getElem?_eq_none (by simpa using hi)]
    rw [if_neg (by omega)]; rfl
theorem gainL_same {ps : List Posting} {k : Int} {j : Nat} {p : Posting} (h : ps[j]? = some p) (h0 : got p k = 0) : gainL ps k (j + 1) = gainL ps k j := by
  unfold gainL
  refine List.map_congr_left fun y _ => ?_
  rw [isum_take h]
  split <;> omega
theorem gain_bd {ps : List Posting} (hl : ps.length ≤ 1680) (hp : ∀ p ∈ ps, 1 ≤ p.amount ∧ p.amount ≤ 1099511627776) (k : Int) (j : Nat) : (-1847179534663680 ≤ gotSum ps k j ∧ gotSum ps k j ≤ 1847179534663680) ∧ ∀ (y : Nat) e, (gainL ps k j)[y]? = some e → -1847179534663680 ≤ e ∧ e ≤ 1847179534663680 := by
  have hle := List.length_take_le' j ps
  have hg : ∀ p ∈ ps.take j, -1099511627776 ≤ got p k ∧ got p k ≤ 1099511627776 := fun p h => by
    have := hp p (List.mem_of_mem_take h); unfold got; split <;> split <;> omega
  refine ⟨?_, fun y e he => ?_⟩
  · have := isum_bound (f := fun p : Posting => got p k) (l := ps.take j) hg
    unfold gotSum; omega
  · have hy : y < 8 := by have := (List.getElem?_eq_some_iff.1 he).1; simpa [gainL] using this
    rw [gainL_at _ _ _ hy] at he
    cases he
    have := isum_bound (f := fun p : Posting => if p.why = (y : Int) then got p k else 0) (lo := -1099511627776) (hi := 1099511627776) (l := ps.take j) fun p h => by have := hg p h; split <;> omega
    omega
theorem got_d {p : Posting} {k : Int} (h : p.debit = k) (h2 : ¬ p.credit = k) : got p k = p.amount := by unfold got; rw [if_pos h, if_neg h2]; omega
theorem got_c {p : Posting} {k : Int} (h : ¬ p.debit = k) (h2 : p.credit = k) : got p k = 0 - p.amount := by unfold got; rw [if_neg h, if_pos h2]
theorem got_0 {p : Posting} {k : Int} (h : ¬ p.debit = k) (h2 : ¬ p.credit = k) : got p k = 0 := by unfold got; rw [if_neg h, if_neg h2]; rfl
structure SettleOk (b : Book) (ps : List Posting) (tick : Int) : Prop where
  old : BookOk (acc40 b)
  new : BookOk ⟨40, b.posts ++ ps⟩
  tk : ∀ p ∈ ps, p.tick = tick
  len : ps.length ≤ 1680
theorem period_ticks {t : List Tariff} {n : Net} {l : List Use} {tick : Int} {r : List Rest} (h : (period r t n l tick).2.2 = 0) : 0 ≤ tick ∧ tick ≤ 1000000 ∧ (∀ p ∈ (period r t n l tick).1, p.tick = tick) ∧ (period r t n l tick).1.length ≤ 1680 := by
  obtain ⟨h1, h2⟩ := period_zero h
  refine ⟨h1.tk.1, h1.tk.2, fun p hp => ?_, ?_⟩
  · rw [h2] at hp
    obtain ⟨k, _, rfl, _⟩ := postsOf_mem hp
    unfold postOf; split <;> rfl
  · rw [h2]
    have := postsOf_len tick (totalOf r t n l) (grid t)
    rw [grid_len] at this
    have := (meterCheck_zero h1.check).tl
    simp only; omega
theorem settleOk_of {b : Book} {t : List Tariff} {n : Net} {l : List Use} {tick : Int} (h : (period [] t n l tick).2.2 = 0) (h2 : (settle (acc40 b) (period [] t n l tick).1).2 = 0) : SettleOk b (period [] t n l tick).1 tick ∧ (settle (acc40 b) (period [] t n l tick).1).1 = ⟨40, b.posts ++ (period [] t n l tick).1⟩ := by
  obtain ⟨h3, h4, h5⟩ := settle_zero h2
  obtain ⟨_, _, h6, h7⟩ := period_ticks h
  exact ⟨⟨h4, h5, h6, h7⟩, h3⟩
section
variable {b : Book} {ps : List Posting} {tick : Int}
theorem SettleOk.post (h : SettleOk b ps tick) {p : Posting} (hp : p ∈ ps) : PostOk 40 p := h.new.posts p (List.mem_append_right _ hp)
theorem SettleOk.bal (h : SettleOk b ps tick) (k : Int) : balT ⟨40, b.posts ++ ps⟩ k 1000000 = balT (acc40 b) k 1000000 + gotSum ps k ps.length := by
  unfold balT gotSum
  simp only [isum_append]
  congr 1
  rw [List.take_of_length_le (Nat.le_refl _)]
  exact isum_congr fun p hp => by rw [if_pos (h.post hp).t1]
theorem SettleOk.kinds (h : SettleOk b ps tick) {x : Int} (hx : 0 < x) (ht : tick = tickOf b.posts x) (k : Int) {y : Nat} (hy : y < 8) : (totalsL ⟨40, b.posts ++ ps⟩ k tick (tick + 1))[y]? = (gainL ps k ps.length)[y]? := by
  rw [totalsL_at h.new _ _ _ hy, gainL_at _ _ _ hy, List.take_of_length_le (Nat.le_refl _)]
  congr 1
  simp only [isum_append]
  rw [isum_zero, Int.zero_add]
  · refine isum_congr fun p hp => ?_
    have := h.tk p hp
    by_cases hw : p.why = (y : Int)
    · rw [if_pos hw, if_pos ⟨by omega, by omega, hw⟩]
    · rw [if_neg hw, if_neg (fun hh => hw hh.2.2)]
  · intro p hp
    have := tickOf_ge h.old (x := x) p hp
    rw [if_neg]
    intro hh
    have h1 := hh.2.1
    rw [ht] at h1
    change x + p.tick ≤ tickOf b.posts x at this
    omega
end
theorem isum_swapL {α β : Type} (F : α → β → Int) (bs : List β) : ∀ l : List α, isum (fun a => isum (fun b => F a b) bs) l = isum (fun b => isum (fun a => F a b) l) bs
  | [] => by simp only [isum]; rw [isum_zero]; exact fun _ _ => rfl
  | a :: l => by
    simp only [isum]
    rw [isum_swapL F bs l, ← isum_add]
theorem isum_pickL (d v : Int) : ∀ n : Nat, isum (fun a : Nat => if d = (a : Int) then v else 0) (List.range n) = if 0 ≤ d ∧ d < n then v else 0
  | 0 => by simp [isum]; omega
  | n + 1 => by
    rw [List.range_succ, isum_append, isum_pickL d v n]
    simp only [isum]
    by_cases h : d = (n : Int)
    · rw [if_neg (by omega), if_pos h, if_pos (by omega)]; omega
    · rw [if_neg h]
      by_cases h2 : 0 ≤ d ∧ d < n
      · rw [if_pos h2, if_pos (by omega)]; omega
      · rw [if_neg h2, if_neg (by omega)]; omega
def sumBal (X : Book) (k : Nat) : Int := isum (fun a : Nat => balT X (a : Int) 1000000) (List.range k)
theorem sumBal_step (X : Book) (k : Nat) : sumBal X (k + 1) = sumBal X k + balT X (k : Int) 1000000 := by
  rw [sumBal, List.range_succ, isum_append]; simp [isum, sumBal]
theorem sumBal_bd {X : Book} (h : BookOk X) (k : Nat) (hk : k ≤ 40) : -439804651110400000 ≤ sumBal X k ∧ sumBal X k ≤ 439804651110400000 := by
  have := isum_bound (f := fun a : Nat => balT X (a : Int) 1000000) (lo := -10995116277760000) (hi := 10995116277760000) (l := List.range k) fun a _ => balT_bd h _ _
  rw [List.length_range] at this
  unfold sumBal; omega
theorem sumBal_zero {X : Book} (h : BookOk X) (ha : X.accounts = 40) : sumBal X 40 = 0 := by
  unfold sumBal balT
  rw [isum_swapL]
  refine isum_zero fun p hp => ?_
  have hp' := h.posts p hp
  have h1 := hp'.t1
  have e : (fun a : Nat => if p.tick ≤ 1000000 then got p (a : Int) else 0) = fun a : Nat => (if p.debit = (a : Int) then p.amount else 0) - (if p.credit = (a : Int) then p.amount else 0) := by
    funext a; rw [if_pos h1]; rfl
  rw [e, isum_sub, isum_pickL, isum_pickL]
  have := hp'.d0; have := hp'.d1; have := hp'.c0; have := hp'.c1
  rw [ha] at *
  rw [if_pos (by omega), if_pos (by omega)]
  omega
theorem totals_good {b : Book} {k f t : Int} (h : BookOk b) (hk : isAcc b.accounts k) (h1 : 0 ≤ f) (h2 : f ≤ t) (h3 : t ≤ 1000001) : totals b k f t = (totalsL b k f t, 0) := by
  rw [totals, span_ok h.zero hk (by omega)]; rfl
theorem totalsL_len (b : Book) (k f t : Int) : (totalsL b k f t).length = 8 := tot8_len _ _ _
end Go.Q
namespace Go.Q
open Go Go.RowKit
section
variable {P : Program} {Z : Env} {N : Nat} {L : List (Nat × Value)} {M : Mem} {Q : Exit → Act → World → Prop}
variable {B : World} {bs : List (Nat × Obj)} {ks : List Kp} {ms : List Nat} {rs : List (Option (Nat × Obj))}
def AgainG {β : Type} (Z : Env) (N : Nat) (L : List (Nat × Value)) (B : World) (bs : List (Nat × Obj)) (VB : β → List (Nat × Nat × Obj)) (KS : β → List Kp) (ks : List Kp) (ms : List Nat) (RS : β → List (Option (Nat × Obj))) (V : β → List (Nat × Value)) (I : β → Prop) (μ : β → Nat) (b : β) : Act → World → Prop :=
  fun a w => ∃ b' : β, I b' ∧ μ b' < μ b ∧ Fr Z N (V b' ++ L) a ∧ Mem.holds ⟨B, setB bs (VB b'), KS b' ++ ks, ms, RS b'⟩ w
theorem tc_loopG {β : Type} {c : Code} (V : β → List (Nat × Value)) (VB : β → List (Nat × Nat × Obj)) (KS : β → List Kp) (RS : β → List (Option (Nat × Obj))) (I : β → Prop) (μ : β → Nat) (b₀ : β) (h0 : I b₀) (hL : Sub L (V b₀)) (hB : setB bs (VB b₀) = bs)
    (hK : ∀ w, Mem.holds ⟨B, bs, ks, ms, rs⟩ w → Mem.holds ⟨B, bs, KS b₀ ++ ks, ms, rs⟩ w) (hR : RS b₀ = rs)
    (round : ∀ b, I b → TC P Z N (V b ++ L) ⟨B, setB bs (VB b), KS b ++ ks, ms, RS b⟩ c (Exit.then (AgainG Z N L B bs VB KS ks ms RS V I μ b) Q)) : TC P Z N L ⟨B, bs, ks, ms, rs⟩ (.loop c) Q :=
  tc_loopV V (fun b => ⟨B, setB bs (VB b), KS b ++ ks, ms, RS b⟩) I μ b₀ h0 hL (fun w h => by have h1 := hK w h; rw [hB, hR]; exact h1) round
theorem tp_roundG {β : Type} {V : β → List (Nat × Value)} {VB : β → List (Nat × Nat × Obj)} {KS : β → List Kp} {RS : β → List (Option (Nat × Obj))} {I : β → Prop} {μ : β → Nat} {b : β} {Le : List (Nat × Value)} {bs' : List (Nat × Obj)} {ks' : List Kp} {rs' : List (Option (Nat × Obj))} (b' : β) (hI : I b') (hμ : μ b' < μ b) (hV : Sub Le (V b'))
    (hE : Le.drop (Le.length - L.length) = L) (hk : (Le.take (Le.length - L.length)).all (fun p => hasKey (V b') p.1 || (L.lookup p.1).isNone) = true) (h1 : bs'.drop (bs'.length - bs.length) = setB bs (VB b')) (h2 : (KS b' ++ ks).Sublist ks') (h3 : ((RS b').filterMap id).Sublist (rs'.filterMap id)) :
    TP Z N Le ⟨B, bs', ks', ms, rs'⟩ .normal (Exit.then (AgainG Z N L B bs VB KS ks ms RS V I μ b) Q) :=
  fun _ _ hf hm => ⟨b', hI, hμ, hf.again hV hE hk, hm.sub rfl (List.Sublist.append (h1 ▸ List.drop_sublist _ _) (List.Sublist.append h3 (List.Sublist.refl _))) h2⟩
theorem hK_same {k : Kp} (hk : k ∈ ks) (w : World) (h : Mem.holds ⟨B, bs, ks, ms, rs⟩ w) : Mem.holds ⟨B, bs, [k] ++ ks, ms, rs⟩ w :=
  ⟨h.os, h.tape, h.output, h.size, h.old, h.box, h.nodup, fun q hq => by rcases List.mem_cons.1 (show q ∈ k :: ks from hq) with rfl | hq; exact h.kept _ hk; exact h.kept _ hq, fun p hp q hq => by rcases List.mem_cons.1 (show q ∈ k :: ks from hq) with rfl | hq; exact h.apart _ hp _ hk; exact h.apart _ hp _ hq⟩
end
end Go.Q
namespace Go.Q
open Go Go.RowKit
/-- a block whose first cells are those of the elements of l -/
structure LBox {α : Type} (enc : α → List Value) (sz E n : Nat) (l : List α) (o : Obj) : Prop where
  ex : ∃ cur, o = .cells cur E (0, 0) ∧ cur.toList.take (n * sz) = l.flatMap enc ∧ n * sz ≤ cur.size
  len : l.length = n
  max : n ≤ maxLen
  szs : ∀ x ∈ l, (enc x).length = sz
abbrev encZ (i : Int) : List Value := [.int .i64 i]
section
variable {α : Type} {enc : α → List Value} {sz E n : Nat} {l : List α} {o : Obj}
theorem LBox.get (h : LBox enc sz E n l o) {i j : Nat} {x : α} {v : Value} (hx : l[i]? = some x) (hv : (enc x)[j]? = some v) : ∃ cur, o = .cells cur E (0, 0) ∧ cur[i * sz + j]? = some v := by
  obtain ⟨cur, rfl, ht, hs⟩ := h.ex
  have hj : j < sz := by have := (List.getElem?_eq_some_iff.1 hv).1; rwa [h.szs x (List.mem_of_getElem? hx)] at this
  refine ⟨cur, rfl, ?_⟩
  have h1 := flatMap_get h.szs hx hj
  rw [← ht, List.getElem?_take] at h1
  have hi : i < n := by have := (List.getElem?_eq_some_iff.1 hx).1; rw [h.len] at this; exact this
  have h2 : i * sz + j < n * sz := by have : (i + 1) * sz ≤ n * sz := Nat.mul_le_mul_right sz hi; rw [Nat.succ_mul] at this; omega
  rw [if_pos h2, hv] at h1
  simpa using h1
theorem LBox.sl (h : LBox enc sz E n l o) (b : Nat) : SlAt (boxW b o) b (b + 1) sz enc (some ⟨b, 0, none⟩) l := by
  obtain ⟨cur, rfl, ht, hs⟩ := h.ex
  exact SlAt.ofBoxP (by rw [h.len]; exact h.max) h.szs (by rw [h.len]; exact ht)
/-- a box of integers, known cell by cell -/
theorem LBox.ofInts {T : Nat} {l : List Int} (h : l.length ≤ 1000000) : LBox encZ 1 T l.length l (.cells (l.map (Value.int .i64)).toArray T (0, 0)) :=
  ⟨⟨_, rfl, by rw [List.take_of_length_le (by simp)]; simp only [List.toList_toArray]; induction l with | nil => rfl | cons x l ih => simp only [List.map_cons, List.flatMap_cons, ih (by simp at h; omega)]; rfl, by simp⟩, rfl, by unfold maxLen; omega, fun _ _ => rfl⟩
theorem LBox.at (h : LBox enc sz E n l o) {i : Nat} (hi : i < n) : ∃ x, l[i]? = some x := ⟨_, List.getElem?_eq_getElem (by rw [h.len]; exact hi)⟩
end
section
variable {P : Program} {Z : Env} {N : Nat} {L : List (Nat × Value)} {M : Mem} {Q : Exit → Act → World → Prop} {ops : Array Oper} {rest : List Oper} {ty : TypeId} {pos : String} {af : Array Edge} {x y : Operand} {v : Value} {d : Option Tmp} {g : Option (Nat × Bool)} {dd : Nat}
variable {B : World} {bs : List (Nat × Obj)} {ks : List Kp} {ms : List Nat} {rs : List (Option (Nat × Obj))}
theorem qv_ldLB {α : Type} {enc : α → List Value} {sz E n : Nat} {l : List α} {o : Obj} {T : TypeId} {b p i j : Nat} {e : α} (k : Nat) (hT : Scalar P T) (hb : bs[k]? = some (b, o)) (hL : LBox enc sz E n l o) (hx : ev L x = some (.pointer (some ⟨b, p, none⟩))) (hp : p = i * sz + j) (he : l[i]? = some e) (hv : (enc e)[j]? = some v) : Qv P Z N L ⟨B, bs, ks, ms, rs⟩ ⟨d, .load T x, ty, pos, af, g⟩ v := by
  obtain ⟨cur, rfl, hc⟩ := hL.get he hv
  subst hp
  exact qv_ldB hT hx hb hc
/-- a store into element i, at off -/
theorem tl_storeLB {α : Type} {enc : α → List Value} {sz T i off j b E n p : Nat} {l : List α} {x0 : α} {us : List Value} {o : Obj} (x' : α) (hS : Size P T us.length) (hL : LBox enc sz E n l o) (h0 : 0 < sz) (hk' : (enc x').length = sz) (hl : l[i]? = some x0) (hsp : ∀ j, j < sz → (enc x')[j]? = if off ≤ j ∧ j < off + us.length then us[j - off]? else (enc x0)[j]?) (hoff : off + us.length ≤ sz) (hone : ∀ u ∈ us, u.oneCell' = true)
    (hj : bs[j]? = some (b, o)) (hx : ev L x = some (.pointer (some ⟨b, p, none⟩))) (hp : p = i * sz + off) (hy : ev L y = some v) (hu : v.cells.toList = us)
    (h : ∀ o', LBox enc sz E n (l.set i x') o' → TL P Z N L ⟨B, bs.set j (b, o'), ks, ms, rs⟩ ops rest Q) : TL P Z N L ⟨B, bs, ks, ms, rs⟩ ops (⟨none, .store T x y, ty, pos, af, none⟩ :: rest) Q := by
  obtain ⟨cur, rfl, ht, hs⟩ := hL.ex
  refine tl_storeSp (enc := enc) x' hS hL.szs hk' h0 hl (by rw [hL.len]; exact ht) (by rw [hL.len]; exact hs) hsp hoff hone hj hx hp hy hu fun cur' h1 h2 => h _ ⟨⟨cur', rfl, by rw [← hL.len]; exact h1, by rw [h2]; exact hs⟩, by rw [List.length_set]; exact hL.len, hL.max, fun z hz => ?_⟩
  rcases set_mem hz with hz | rfl
  · exact hL.szs z hz
  · exact hk'
/-- .. where elements have one cell -/
theorem tl_storeL1 {α : Type} {f : α → Value} {T i j b E n p : Nat} {l : List α} {x0 : α} {o : Obj} (x' : α) (hS : Size P T 1) (hL : LBox (fun a => [f a]) 1 E n l o) (hl : l[i]? = some x0) (hj : bs[j]? = some (b, o)) (hx : ev L x = some (.pointer (some ⟨b, p, none⟩))) (hp : p = i) (hy : ev L y = some (f x')) (hu : (f x').cells.toList = [f x']) (hone : (f x').oneCell' = true)
    (h : ∀ o', LBox (fun a => [f a]) 1 E n (l.set i x') o' → TL P Z N L ⟨B, bs.set j (b, o'), ks, ms, rs⟩ ops rest Q) : TL P Z N L ⟨B, bs, ks, ms, rs⟩ ops (⟨none, .store T x y, ty, pos, af, none⟩ :: rest) Q :=
  tl_storeLB (us := [f x']) (off := 0) (i := i) x' hS hL (by decide) rfl hl (fun j hj => by
    have : j = 0 := by omega
    subst this; simp) (by simp) (by simpa using hone) hj hx (by omega) hy hu h
theorem Mem.holds.rowNew {w w' : World} {i : Nat} (h : Mem.holds ⟨B, bs, ks, ms, rs⟩ w) (hb : Below w.heap.size w w') {ob : Option (Nat × Obj)} (ho : ∀ p, ob = some p → w.heap.size ≤ p.1 ∧ w'.heap[p.1]? = some p.2) : Mem.holds ⟨B, bs, ks, ms, rs.set i ob⟩ w' := by
  have he := h.ext hb
  have hmem : ∀ p ∈ (Mem.mk B bs ks ms (rs.set i ob)).all, p ∈ (Mem.mk B bs ks ms rs).all ∨ ob = some p := by
    intro p hp
    simp only [Mem.all, List.mem_append, List.mem_filterMap, id] at hp ⊢
    rcases hp with hp | ⟨q, hq, rfl⟩ | hp
    · exact .inl (.inl hp)
    · rcases set_mem hq with hq | hq
      · exact .inl (.inr (.inl ⟨_, hq, rfl⟩))
      · exact .inr hq.symm
    · exact .inl (.inr (.inr hp))
  refine ⟨he.os, he.tape, he.output, he.size, he.old, fun p hp => ?_, ?_, he.kept, fun p hp k hk => ?_⟩
  · rcases hmem p hp with hp | hp
    · exact he.box p hp
    · exact ⟨Nat.le_trans h.size (ho p hp).1, (ho p hp).2⟩
  · -- different blocks
    have hnd := h.nodup
    rcases hi : rs[i]? with _ | o0
    · rwa [show rs.set i ob = rs from List.set_eq_of_length_le (by simpa using hi)]
    · obtain ⟨A, C, e1, e2⟩ := set_filterMap rs i o0 ob hi
      have lt : ∀ p ∈ (Mem.mk B bs ks ms rs).all, p.1 < w.heap.size := fun p hp => get_lt (h.box p hp).2
      simp only [Mem.all] at hnd lt ⊢
      rw [e1] at hnd lt
      rw [e2]
      cases ob with
      | none =>
        simp only [Option.toList_none, List.append_nil]
        refine hnd.sublist ?_
        refine List.Sublist.append (List.Sublist.refl _) (List.Sublist.append (List.Sublist.append ?_ (List.Sublist.refl _)) (List.Sublist.refl _))
        simp
      | some p =>
        have hp := (ho p rfl).1
        have hsub : (bs ++ (A ++ C ++ List.map markBox ms)).Sublist (bs ++ (A ++ o0.toList ++ C ++ List.map markBox ms)) := by
          refine List.Sublist.append (List.Sublist.refl _) (List.Sublist.append (List.Sublist.append ?_ (List.Sublist.refl _)) (List.Sublist.refl _))
          simp
        have hnd2 := hnd.sublist hsub
        have hperm : (bs ++ (A ++ (some p).toList ++ C ++ List.map markBox ms)).Perm (p :: (bs ++ (A ++ C ++ List.map markBox ms))) := by
          simp only [Option.toList_some, List.append_assoc, List.cons_append, List.nil_append]
          rw [← List.append_assoc, ← List.append_assoc bs A]
          exact List.perm_middle
        refine (hperm.pairwise_iff (fun h e => h e.symm)).2 (List.pairwise_cons.2 ⟨fun q hq => ?_, hnd2⟩)
        have := lt q (hsub.subset hq)
        omega
  · rcases hmem p hp with hp | hp
    · exact he.apart p hp k hk
    · exact .inr (.inl (Nat.le_trans (h.kept k hk).1 (ho p hp).1))
/-- what a call that hands back a row promises -/
def RowBack {α : Type} (E sz : Nat) (enc : α → List Value) (l : List α) (w : World) : Ending → World → Prop := fun e w' => ∃ v ob, e = .returned v ∧ Below w.heap.size w w' ∧ RowOf E sz enc v l ob ∧ ∀ p, ob = some p → w.heap.size ≤ p.1 ∧ w'.heap[p.1]? = some p.2
theorem tl_callRow {α : Type} {E sz : Nat} {enc : α → List Value} {l : List α} (i : Nat) {f : FuncId} {args : Array Operand} {at' : Array TypeId} {vs : List Value} (hF : IsFn P f) (hC : ∀ w, Mem.holds ⟨B, bs, ks, ms, rs⟩ w → Calls P f vs.toArray w (RowBack E sz enc l w))
    (h : ∀ v ob, RowOf E sz enc v l ob → TL P Z N ((dd, v) :: L) ⟨B, bs, ks, ms, rs.set i ob⟩ ops rest Q) (hvs : evs L args.toList = some vs := by rfl) (hd : dd < N := by decide) :
    TL P Z N L ⟨B, bs, ks, ms, rs⟩ ops (⟨some dd, .call { callee := .value (.func f), args := args, argTypes := at' }, ty, pos, af, none⟩ :: rest) Q := fun a w hf hm => by
  refine wpList_enter rfl (run_call (caps := []) hf hF rfl hvs w) ?_
  refine (show Calls P f (vs ++ []).toArray w _ by rw [List.append_nil]; exact hC w hm).mono ?_
  rintro e w' ⟨v, ob, rfl, hb, hr, ho⟩
  exact ⟨_, rfl, h v ob hr _ _ (hf.put hd _) (hm.rowNew hb ho)⟩
theorem tg_callRow {α : Type} {M0 : Mem} {m fu k : Nat} {listed : Array Bool} {E sz : Nat} {enc : α → List Value} {l : List α} (i : Nat) {f : FuncId} {args : Array Operand} {at' : Array TypeId} {vs : List Value} (hF : IsFn P f) (hC : ∀ w, Mem.holds ⟨B, bs, ks, ms, rs⟩ w → Calls P f vs.toArray w (RowBack E sz enc l w))
    (h : ∀ v ob, RowOf E sz enc v l ob → TU P Z N ((dd, v) :: L) M0 ⟨B, bs, ks, ms, rs.set i ob⟩ ops m fu (listed.setIfInBounds k true) Q) (hD : ∀ ob w, Mem.holds ⟨B, bs, ks, ms, rs.set i ob⟩ w → M0.holds w)
    (ho : ops[k]? = some ⟨some dd, .call { callee := .value (.func f), args := args, argTypes := at' }, ty, pos, af, none⟩ := by rfl) (hvs : evs L args.toList = some vs := by rfl) (hd : dd < N := by decide) : TG P Z N L M0 ⟨B, bs, ks, ms, rs⟩ ops m fu listed k Q := fun a w hf hm => by
  unfold gOp
  rw [ho]
  simp only [Region.wanted, if_true]
  rw [run_call (caps := []) hf hF rfl hvs w]
  simp only
  refine (show Calls P f (vs ++ []).toArray w _ by rw [List.append_nil]; exact hC w hm).mono ?_
  rintro e w' ⟨v, ob, rfl, hb, hr, ho⟩
  have hm' := hm.rowNew (i := i) hb ho
  exact ⟨_, rfl, hD _ _ hm', h v ob hr _ _ (hf.put hd _) hm'⟩
/-- a row as a result -/
theorem rowBack_of {α : Type} {E sz : Nat} {enc : α → List Value} {l : List α} {i : Nat} {ob : Option (Nat × Obj)} {w w' : World} (hr : RowOf E sz enc v l ob) (hB : M.base = w) (hi : M.rows[i]? = some ob) (hm : M.holds w') : RowBack E sz enc l w (.returned v) w' := by
  subst hB
  refine ⟨v, ob, rfl, hm.below, hr, fun p hp => hm.box p ?_⟩
  subst hp
  exact List.mem_append_right _ (List.mem_append_left _ (List.mem_filterMap.2 ⟨_, List.mem_of_getElem? hi, rfl⟩))
theorem rowBack_nil {α : Type} {E sz : Nat} {enc : α → List Value} {w w' : World} (hB : M.base = w) (hm : M.holds w') : RowBack E sz enc ([] : List α) w (.returned (.slice none 0 0)) w' := by
  subst hB
  exact ⟨_, none, rfl, hm.below, RowOf.nil _ _ _, fun p hp => by cases hp⟩
/-- .. read from then on -/
theorem RowBack.read {α : Type} {E sz : Nat} {enc : α → List Value} {l : List α} {w : World} (hsz : ∀ x, (enc x).length = sz) {e : Ending} {w' : World} (h : RowBack E sz enc l w e w') : ∃ r : Option Addr × Nat, e = .returned (.slice r.1 l.length r.2) ∧ Below w.heap.size w w' ∧ (l.length ≤ r.2 ∧ SlAt w' w.heap.size w'.heap.size sz enc r.1 l) := by
  obtain ⟨v, ob, rfl, hb, hr, ho⟩ := h
  have hm : Mem.holds ⟨w, [], [], [], [ob]⟩ w' := (Mem.holds.rowNew (i := 0) (rs := [none]) (w := w) ((Mem.init_holds w).sub rfl (by simp [Mem.all, Mem.init]) (List.Sublist.refl _)) hb ho)
  obtain ⟨a, c, h1, h2, h3⟩ := hr.sl hm (fun p hp => by subst hp; simp [Mem.all]) hsz
  exact ⟨(a, c), by rw [h1], hb, h2, h3⟩
theorem tc_rowKeepL {α : Type} {e sz : Nat} {enc : α → List Value} {l : List α} {ob : Option (Nat × Obj)} {c : Code} (i : Nat) (hrow : RowOf e sz enc v l ob) (hsz : ∀ x, (enc x).length = sz)
    (h : ∀ (W : World) (lo hi : Nat) (a : Option Addr) (cap : Nat), v = .slice a l.length cap → l.length ≤ cap → B.heap.size ≤ lo → SlAt W lo hi sz enc a l → TC P Z N L ⟨B, bs, Kin W lo hi :: ks, ms, rs.set i none⟩ c Q) (hi : rs[i]? = some ob := by rfl) : TC P Z N L ⟨B, bs, ks, ms, rs⟩ c Q := fun a w hf hm => by
  rcases hrow.alt with ⟨h1, h2, h3⟩ | ⟨g, cap, cur, h1, h2, h3, h4, h5, h6⟩
  · subst h3
    have hl : l = [] := List.eq_nil_of_length_eq_zero h2
    subst hl
    exact h B B.heap.size B.heap.size none 0 h1 (by simp) (Nat.le_refl _) ⟨by simp, fun x hx => by simp at hx, fun hn => absurd rfl hn, fun i j x v hx => by simp at hx⟩ a w hf (by rw [set_self hi]; exact hm.nilK B)
  · subst h2
    have hg := (hm.box (g, .cells cur e (0, 0)) (List.mem_append_right _ (List.mem_append_left _ (List.mem_filterMap.2 ⟨_, List.mem_of_getElem? hi, rfl⟩)))).1
    exact h _ g (g + 1) (some ⟨g, 0, none⟩) cap h1 h3 hg (SlAt.ofBoxP (by omega) (fun x _ => hsz x) h6) a w hf (holds_rowKeep hi hm)
/-- the memory of the caller is kept, too -/
theorem hK_base (w : World) (h : Mem.holds ⟨B, bs, ks, ms, rs⟩ w) : Mem.holds ⟨B, bs, [Kin B 0 B.heap.size] ++ ks, ms, rs⟩ w :=
  ⟨h.os, h.tape, h.output, h.size, h.old, h.box, h.nodup, fun q hq => by
    rcases List.mem_cons.1 (show q ∈ Kin B 0 B.heap.size :: ks from hq) with rfl | hq
    · exact ⟨h.size, fun b _ h2 _ => h.old b h2⟩
    · exact h.kept _ hq, fun p hp q hq => by
    rcases List.mem_cons.1 (show q ∈ Kin B 0 B.heap.size :: ks from hq) with rfl | hq
    · exact .inr (.inl (h.box p hp).1)
    · exact h.apart _ hp _ hq⟩
/-- a slice that lies in a kept region, or in the caller's memory -/
theorem tc_keepOr {α : Type} {sz lo1 hi1 : Nat} {W1 : World} {enc : α → List Value} {a : Option Addr} {l : List α} {c : Code} (hk : Kin W1 lo1 hi1 ∈ ks) (h : SlAt W1 lo1 hi1 sz enc a l ∨ SlAt B 0 B.heap.size sz enc a l)
    (hc : ∀ W lo hi, SlAt W lo hi sz enc a l → TC P Z N L ⟨B, bs, Kin W lo hi :: ks, ms, rs⟩ c Q) : TC P Z N L ⟨B, bs, ks, ms, rs⟩ c Q := by
  rcases h with h | h
  · exact TC.mem (fun w hm => hK_same hk w hm) (hc _ _ _ h)
  · exact TC.mem (fun w hm => hK_base w hm) (hc _ _ _ h)
theorem qv_eqlNil {T T' E n c : Nat} {a : Option Addr} (hT : P.underlying T = some (.slice E)) (hx : ev L x = some (.slice a n c)) (hy : ev L y = some (.slice none 0 0)) : Qv P Z N L M ⟨d, .binOp .eql T x y T', ty, pos, af, g⟩ (.bool a.isNone) := qv_of fun ac hf w _ => by
  have : (binOp .eql T (.slice a n c) (.slice none 0 0)).run P w = .ok (.bool a.isNone) w := by
    cases a with
    | none => exact Lib.run_eql_slice_nil_nil w n c hT
    | some p => exact Lib.run_eql_slice_some_nil w p n c hT
  simp [execOp, hf.eval hx, hf.eval hy, eqGuard, this]
theorem tp_endCT {ro : Option Nat} {fn : Func} {R : Ending → World → Prop} {t u T n : Nat} {i b : Nat} {cs : Array Value} {T0 : TypeId} {fz : Nat × Nat} {z : Value} (hr : fn.results = #[.cell t T, .tmp u]) (hl : L.lookup t = some (.pointer (some ⟨b, 0, none⟩))) (hu : L.lookup u = some z)
    (hT : Agg P T n) (hi : bs[i]? = some (b, .cells cs T0 fz)) (hn : cs.size = n) (h : ∀ w, Mem.holds ⟨B, bs, ks, ms, rs⟩ w → R (.returned (.tuple #[.agg cs, z])) w) : TP ⟨ro, []⟩ N L ⟨B, bs, ks, ms, rs⟩ .ret (bodyPost P fn R) := fun a w hf hm =>
  ⟨hf.2.1, .tuple #[.agg cs, z], by
    have hb := (hm.boxOf (List.mem_of_getElem? hi)).2
    have hld : (loadVar T ⟨b, 0, none⟩).run P w = .ok (.agg cs.toList.toArray) w := run_loadVar_agg (by simpa [hn] using hT) fun j hj => by simp [World.cell?, hb]
    have ht := hf.2.2 t _ hl
    have ht2 := hf.2.2 u _ hu
    simp only [Array.toArray_toList] at hld
    simp [results, hr, Array.getD_eq_getD_getElem?, ht, ht2, asAddr, hld], h w hm⟩
theorem qv_sliceArr {T E n sz b : Nat} (hT : P.underlying T = some (.array n E)) (hS : Size P E sz) (hx : ev L x = some (.pointer (some ⟨b, 0, none⟩))) :
    Qv P Z N L M ⟨d, .slice T x none none none, ty, pos, af, g⟩ (.slice (some ⟨b, 0, none⟩) n n) := qv_of fun a' hf w _ => by
  have hS' := hS w
  have : (Instr.sliceAt T (.pointer (some ⟨b, 0, none⟩)) none none none).run P w = .ok (.slice (some ⟨b, 0, none⟩) n n) w := by
    simp [Instr.sliceAt, run_underlying hT, Instr.sliceBounds, Instr.sureAddr, hS', Addr.add]
  simp [execOp, hf.eval hx, this]
end
end Go.Q
namespace Go.D
open Go Go.Proofs Go.RowKit
theorem mixed : Try.prog.follows .mixedOrders = true := by kernel_rfl
theorem fn_130 : IsFn Try.prog 130 := isFn_of Try.func130 (by kernel_rfl) rfl
theorem st_71 : SliceTy Try.prog 71 1 := ⟨3, by kernel_rfl, fun w => by kernel_rfl⟩
theorem sc_3 : Scalar Try.prog 3 := fun w => by kernel_rfl
theorem fn_102 : IsFn Try.prog 102 := isFn_of Try.func102 (by kernel_rfl) rfl
theorem sz_3 : Size Try.prog 3 1 := fun w => by kernel_rfl
theorem fn_65 : IsFn Try.prog 65 := isFn_of Try.func65 (by kernel_rfl) rfl
set_option maxRecDepth 100000 in
theorem isNaN_calls (w : World) (x : Int)  :
    Calls Try.prog 130 #[.int .i64 x] w (fun e w' => e = .returned (.bool false) ∧ Below w.heap.size w w') := by
  refine calls_of_tc (N := 6) (vs := [.int .i64 x]) Try.func130 rfl rfl (Nat.le_of_ble_eq_true rfl) ?_
  refine tc_seq ?_
  refine tc_region ?_
  refine s0 (qv_assign rfl) ?_
  refine tl_nil (tp_normal ?_)
  refine tc_seq ?_
  refine tc_region ?_
  refine s0 (qv_move rfl) ?_
  refine s0 (qv_move rfl) ?_
  refine s0 (qv_neSelf rfl rfl) ?_
  refine s0 (qv_assign rfl) ?_
  refine tl_nil (tp_normal ?_)
  refine tc_ret (tp_end1 rfl rfl ?_)
  intro w' hm
  exact ⟨rfl, hm.below⟩
set_option maxRecDepth 100000 in
theorem cmpI_calls (w : World) (x y : Int)  :
    Calls Try.prog 102 #[.int .i64 x, .int .i64 y] w (fun e w' => e = .returned (.int .i64 (cmpI x y)) ∧ Below w.heap.size w w') := by
  refine calls_of_tc (N := 20) (vs := [.int .i64 x, .int .i64 y]) Try.func102 rfl rfl (Nat.le_of_ble_eq_true rfl) ?_
  refine tc_seq ?_
  refine tc_region ?_
  refine s0 (qv_assign rfl) ?_
  refine tl_nil (tp_normal ?_)
  refine tc_seq ?_
  refine tc_region ?_
  refine s0 (qv_move rfl) ?_
  refine s0 (qv_call fn_130 rfl (fun w hm => isNaN_calls w x)) ?_
  refine s0 (qv_assign rfl) ?_
  refine tl_nil (tp_normal ?_)
  refine tc_seq ?_
  refine tc_region ?_
  refine s0 (qv_move rfl) ?_
  refine s0 (qv_call fn_130 rfl (fun w hm => isNaN_calls w y)) ?_
  refine s0 (qv_assign rfl) ?_
  refine tl_nil (tp_normal ?_)
  refine tc_seq ?_
  refine tc_seq ?_
  refine tc_region ?_
  refine s0 (qv_move rfl) ?_
  refine tl_nil (tp_normal ?_)
  refine tc_false rfl ?_
  refine tc_skip (tp_normal ?_)
  refine tc_seq ?_
  refine tc_seq ?_
  refine tc_region ?_
  refine s0 (qv_move rfl) ?_
  refine tl_nil (tp_normal ?_)
  refine tc_false rfl ?_
  refine tc_skip (tp_normal ?_)
  refine tc_seq ?_
  refine tc_seq ?_
  refine tc_region ?_
  refine s0 (qv_move rfl) ?_
  refine s0 (qv_move rfl) ?_
  refine sd (qv_lss rfl rfl) (fun c16 => ?_) (fun c16 => ?_)
  ·
    refine tl_nil (tp_normal ?_)
    refine tc_true rfl ?_
    refine tc_seq ?_
    refine tc_region ?_
    refine s0 (qv_assign rfl) ?_
    refine tl_nil (tp_normal ?_)
    refine tc_ret (tp_then_ret (tp_end1 rfl rfl ?_))
    intro w' hm
    exact ⟨by rw [cmpI, if_pos c16], hm.below⟩
  ·
    refine tl_nil (tp_normal ?_)
    refine tc_false rfl ?_
    refine tc_skip (tp_normal ?_)
    refine tc_seq ?_
    refine tc_seq ?_
    refine tc_region ?_
    refine s0 (qv_move rfl) ?_
    refine s0 (qv_move rfl) ?_
    refine sd (qv_gtr rfl rfl) (fun c19 => ?_) (fun c19 => ?_)
    ·
      refine tl_nil (tp_normal ?_)
      refine tc_true rfl ?_
      refine tc_seq ?_
      refine tc_region ?_
      refine s0 (qv_assign rfl) ?_
      refine tl_nil (tp_normal ?_)
      refine tc_ret (tp_then_ret (tp_end1 rfl rfl ?_))
      intro w' hm
      exact ⟨by rw [cmpI, if_neg c16, if_pos c19], hm.below⟩
    ·
      refine tl_nil (tp_normal ?_)
      refine tc_false rfl ?_
      refine tc_skip (tp_normal ?_)
      refine tc_seq ?_
      refine tc_region ?_
      refine s0 (qv_assign rfl) ?_
      refine tl_nil (tp_normal ?_)
      refine tc_ret (tp_end1 rfl rfl ?_)
      intro w' hm
      exact ⟨by rw [cmpI, if_neg c16, if_neg c19], hm.below⟩
set_option maxRecDepth 100000 in
theorem cmpL_calls (w : World) (a : List Int) (aa : Option Addr) (ac : Nat) (b : List Int) (ba : Option Addr) (bc : Nat) (ha : SlIn w 1 encI aa a) (hb : SlIn w 1 encI ba b) :
    Calls Try.prog 65 #[.slice aa a.length ac, .slice ba b.length bc] w (fun e w' => e = .returned (.int .i64 (cmpL a b)) ∧ Below w.heap.size w w') := by
  have hlen := ha.len
  have hlen2 := hb.len
  simp only [maxLen] at hlen hlen2
  refine calls_of_tc (N := 36) (vs := [.slice aa a.length ac, .slice ba b.length bc]) Try.func65 rfl rfl (Nat.le_of_ble_eq_true rfl) ?_
  refine tc_seq ?_
  refine tc_region ?_
  refine s0 (qv_assign rfl) ?_
  refine tl_nil (tp_normal ?_)
  refine tc_seq ?_
  refine tc_seq ?_
  refine tc_region ?_
  refine s0 (qv_move rfl) ?_
  refine s0 (qv_len st_71 rfl) ?_
  refine s0 (qv_move rfl) ?_
  refine tl_nil (tp_normal ?_)
  refine tc_block (tc_loopS (fun (k : Nat) => [(11, .int .i64 (k : Int))]) (fun (k : Nat) => k ≤ a.length ∧ cmpL a b = cmpL (a.drop k) (b.drop k)) (fun (k : Nat) => a.length - k) (0) ⟨Nat.zero_le _, rfl⟩ ⟨rfl, trivial⟩ ?_)
  rintro k hI
  refine tc_seq ?_
  refine tc_region ?_
  refine sd (qv_lss rfl rfl) (fun c12 => ?_) (fun c12 => ?_)
  ·
    refine tl_nil (tp_normal ?_)
    refine tc_seq ?_
    refine tc_true rfl ?_
    refine tc_skip (tp_normal ?_)
    refine tc_seq ?_
    refine tc_block ?_
    refine tc_seq ?_
    refine tc_region ?_
    refine s0 (qv_move rfl) ?_
    refine sn st_71 ha rfl rfl (by omega) (fun e14 he14 => ?_)
    refine s0 (qv_ldE (j := 0) sc_3 ha Mem.has_base rfl rfl he14 rfl) ?_
    refine s0 (qv_assign rfl) ?_
    refine s0 (qv_assign rfl) ?_
    refine tl_nil (tp_normal ?_)
    refine tc_seq ?_
    refine tc_seq ?_
    refine tc_region ?_
    refine s0 (qv_move rfl) ?_
    refine s0 (qv_move rfl) ?_
    refine s0 (qv_len st_71 rfl) ?_
    refine sd (qv_geq rfl rfl) (fun c19 => ?_) (fun c19 => ?_)
    ·
      refine tl_nil (tp_normal ?_)
      refine tc_true rfl ?_
      refine tc_seq ?_
      refine tc_region ?_
      refine s0 (qv_assign rfl) ?_
      refine tl_nil (tp_normal ?_)
      refine tc_ret (tp_then_ret (tp_block_ret (tp_then_ret (tp_then_ret (tp_block_ret (tp_then_ret (tp_end1 rfl rfl ?_)))))))
      intro w' hm
      exact ⟨by rw [hI.2, cmpL_long he14 (by omega)], hm.below⟩
    ·
      refine tl_nil (tp_normal ?_)
      refine tc_false rfl ?_
      refine tc_skip (tp_normal ?_)
      refine tc_seq ?_
      refine tc_region ?_
      refine s0 (qv_move rfl) ?_
      refine s0 (qv_move rfl) ?_
      refine sn st_71 hb rfl rfl (by omega) (fun e22 he22 => ?_)
      refine s0 (qv_ldE (j := 0) sc_3 hb Mem.has_base rfl rfl he22 rfl) ?_
      refine s0 (qv_assign rfl) ?_
      refine tl_nil (tp_normal ?_)
      refine tc_seq ?_
      refine tc_region ?_
      refine s0 (qv_move rfl) ?_
      refine s0 (qv_move rfl) ?_
      refine s0 (qv_call fn_102 rfl (fun w hm => cmpI_calls w e14 e22)) ?_
      refine s0 (qv_assign rfl) ?_
      refine tl_nil (tp_normal ?_)
      refine tc_seq ?_
      refine tc_region ?_
      refine s0 (qv_move rfl) ?_
      refine sd (qv_neq rfl rfl) (fun c28 => ?_) (fun c28 => ?_)
      ·
        refine tl_nil (tp_normal ?_)
        refine tc_true rfl ?_
        refine tc_seq ?_
        refine tc_region ?_
        refine s0 (qv_move rfl) ?_
        refine s0 (qv_assign rfl) ?_
        refine tl_nil (tp_normal ?_)
        refine tc_ret (tp_block_ret (tp_then_ret (tp_then_ret (tp_block_ret (tp_then_ret (tp_end1 rfl rfl ?_))))))
        intro w' hm
        exact ⟨by rw [hI.2, cmpL_at he14 he22, if_pos c28], hm.below⟩
      ·
        refine tl_nil (tp_normal ?_)
        refine tc_false rfl ?_
        refine tc_skip (tp_block_normal (tp_normal ?_))
        refine tc_region ?_
        refine s0 (qv_succ rfl rfl (by omega)) ?_
        refine s0 (qv_move rfl) ?_
        exact tl_nil (tp_roundS (k + 1) ⟨by omega, by rw [hI.2, cmpL_at he14 he22, if_neg (by omega)]⟩ (by omega) ⟨rfl, trivial⟩ rfl rfl rfl rfl)
  ·
    refine tl_nil (tp_normal ?_)
    refine tc_seq ?_
    refine tc_false rfl ?_
    refine tc_exit (tp_then_exit (tp_then_exit (tp_block_exit (tp_normal ?_))))
    refine tc_seq ?_
    refine tc_seq ?_
    refine tc_region ?_
    refine s0 (qv_move rfl) ?_
    refine s0 (qv_len st_71 rfl) ?_
    refine s0 (qv_move rfl) ?_
    refine s0 (qv_len st_71 rfl) ?_
    refine sd (qv_lss rfl rfl) (fun c35 => ?_) (fun c35 => ?_)
    ·
      refine tl_nil (tp_normal ?_)
      refine tc_true rfl ?_
      refine tc_seq ?_
      refine tc_region ?_
      refine s0 (qv_assign rfl) ?_
      refine tl_nil (tp_normal ?_)
      refine tc_ret (tp_then_ret (tp_end1 rfl rfl ?_))
      intro w' hm
      exact ⟨by rw [hI.2, cmpL_short (by omega) (by omega) hI.1], hm.below⟩
    ·
      refine tl_nil (tp_normal ?_)
      refine tc_false rfl ?_
      refine tc_skip (tp_normal ?_)
      refine tc_seq ?_
      refine tc_region ?_
      refine s0 (qv_assign rfl) ?_
      refine tl_nil (tp_normal ?_)
      refine tc_ret (tp_end1 rfl rfl ?_)
      intro w' hm
      exact ⟨by rw [hI.2, cmpL_same (by omega) (by omega)], hm.below⟩
set_option maxRecDepth 100000 in
theorem order_calls (w : World) (a1 a2 a3 b1 b2 b3 : Int)  :
    Calls Try.prog 56 #[.agg #[.int .i64 a1, .int .i64 a2, .int .i64 a3], .agg #[.int .i64 b1, .int .i64 b2, .int .i64 b3]] w (fun e w' => e = .returned (.int .i64 (cmpL [a1, a2, a3] [b1, b2, b3])) ∧ Below w.heap.size w w') := by
  refine calls_of_tc (N := 8) (vs := [.agg #[.int .i64 a1, .int .i64 a2, .int .i64 a3], .agg #[.int .i64 b1, .int .i64 b2, .int .i64 b3]]) Try.func56 rfl rfl (Nat.le_of_ble_eq_true rfl) ?_
  refine tc_seq ?_
  refine tc_region ?_
  refine tl_box rfl (by decide) (fun b2_0 => ?_)
  refine tl_box rfl (by decide) (fun b3_1 => ?_)
  refine s0 (qv_assign rfl) ?_
  refine tl_nil (tp_normal ?_)
  refine tc_seq ?_
  refine tc_draws mixed (by kernel_rfl) ?_
  have hs5 := SlAt.ofBox (enc := encI) (sz := 1) (b := b2_0) (E := 133) (l := [a1, a2, a3]) (Nat.le_of_ble_eq_true rfl) (fun _ _ => rfl)
  refine q0 (qv_sliceArr Try.underlying133 sz_3 rfl) ?_
  have hs6 := SlAt.ofBox (enc := encI) (sz := 1) (b := b3_1) (E := 133) (l := [b1, b2, b3]) (Nat.le_of_ble_eq_true rfl) (fun _ _ => rfl)
  refine q0 (qv_sliceArr Try.underlying133 sz_3 rfl) ?_
  refine q0 (qv_call fn_65 rfl (fun w hm => cmpL_calls w [a1, a2, a3] (some ⟨b2_0, 0, none⟩) 3 [b1, b2, b3] (some ⟨b3_1, 0, none⟩) 3 (hs5.into (Mem.has_box (by repeat (first | exact List.Mem.head _ | refine List.Mem.tail _ ?_))) hm) (hs6.into (Mem.has_box (by repeat (first | exact List.Mem.head _ | refine List.Mem.tail _ ?_))) hm))) ?_
  refine q0 (qv_assign rfl) ?_
  refine tq_nil (tp_normal ?_)
  refine tc_ret (tp_end1 rfl rfl ?_)
  intro w' hm
  exact ⟨rfl, hm.below⟩
end Go.D
namespace Go.Q
open Go Go.Proofs Go.RowKit
theorem aggI (w : World) : (isAgg 3).run Try.prog w = .ok false w := by kernel_rfl
theorem key_133 : KeyTy Try.prog 133 encA3 := keyArr3 Try.underlying133 (Option.some_get (by kernel_rfl : (Try.prog.info? 3).isSome = true)).symm (by kernel_rfl) Try.underlying3 aggI
end Go.Q
namespace Go.Proofs
open Go.Shelf Go.RowKit Go.Lib Go.Sort Go.Q
theorem lt3 (x y : K3) : ltOf cmp3 x y = decide (before3 x y) := by
  unfold ltOf
  rw [decide_eq_decide]
  exact cmp3_lt x y
theorem swo3 : SWO (ltOf cmp3) where
  irrefl x := by rw [lt3]; exact decide_eq_false (before3_irr x)
  trans x y z h1 h2 := by rw [lt3] at *; simp only [decide_eq_true_eq] at *; exact before3_trans h1 h2
  ntrans x y z h1 h2 := by rw [lt3] at *; simp only [decide_eq_false_iff_not] at *; unfold before3 at *; omega
theorem cmpLays3 (blk off size : Nat) (w : World) : CmpLays Try.prog 56 #[] encK 3 cmp3 blk off size w := fun _ _ _ _ x y => (Go.D.order_calls _ x.1 x.2.1 x.2.2 y.1 y.2.1 y.2.2).mono fun e w' ⟨he, hb⟩ => ⟨he, hb.grown⟩
theorem sort3_none (p : Option Addr) (cap : Nat) (fv : Value) (w : World) : Calls Try.prog 58 #[.slice p 0 cap, fv] w fun e w' => e = .returned (.tuple #[]) ∧ w' = w := AnyF.slices_SortFunc_none Try.sortA3 p cap fv w
theorem sort3_some {l : List K3} (hsz : l.length < 1000000000) (blk cap : Nat) (w : World) (hH : HoldsK encK 3 w blk 0 l.toArray) (hb : blk < w.heap.size) :
    Calls Try.prog 58 #[.slice (some ⟨blk, 0, none⟩) l.length cap, .func (.func 56) #[] #[]] w fun e w' => e = .returned (.tuple #[]) ∧ ∃ (l' : List K3) (n : Nat) (os : Array Obj), l'.length = l.length ∧ Sorted3 l l' ∧ w' = sortWorldK encK 3 w blk 0 n l'.toArray os := by
  have h := AnyQ.slices_SortFunc Try.sortA3 3 (fun w => by kernel_rfl) (fun w => by kernel_rfl) encK (fun _ => rfl) (fun x v hv => by simp [encK] at hv; rcases hv with rfl | rfl | rfl <;> rfl) cmp3 swo3 56 #[] blk 0 cap l.toArray w (enters_of Try.func56 (by kernel_rfl) rfl) (cmpLays3 blk 0 _ w) hH hb (by simp; omega)
  have e : l.toArray.size = l.length := by simp
  rw [e] at h
  refine h.mono fun e w' ⟨he, d', n, os, h1, h2, h3⟩ => ⟨he, d'.toList, n, os, ?_, ⟨?_, ?_⟩, ?_⟩
  · have := h1.1; simpa using this
  · have h4 := h1.2.2
    have e1 : d'.extract 0 l.length = d' := by have := h1.1; rw [show l.length = d'.size by simpa using this.symm]; simp
    rw [e1] at h4
    simpa using h4
  · refine List.pairwise_iff_getElem.2 fun i j hi hj hij => ?_
    have hs : d'.size = l.length := by have := h1.1; simpa using this
    have h4 := h2 i j (Nat.zero_le _) hij (by rw [← hs]; simpa using hj)
    rw [lt3, getElem!_pos d' i (by simpa using hi), getElem!_pos d' j (by simpa using hj)] at h4
    simpa using h4
  · rw [h3]
end Go.Proofs
