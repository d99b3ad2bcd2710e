/- Layer 15 in plain Lean: what is in the houses together; no stock is negative; cuts. -/
import Derived.Test.YtgcpocaaepoafaaS15b
set_option linter.unusedVariables false
set_option linter.unusedSimpArgs false
set_option linter.unusedSectionVars false
namespace Go.Q
open Go

theorem isum_le {α : Type} {f g : α → Int} : ∀ {l : List α}, (∀ x ∈ l, f x ≤ g x) → isum f l ≤ isum g l
  | [], _ => Int.le_refl _
  | x :: l, h => by
    have h1 := h x (by simp)
    have h2 := isum_le (l := l) fun y hy => h y (List.mem_cons_of_mem _ hy)
    simp only [isum]; omega
theorem isum_add {α : Type} (f g : α → Int) : ∀ (l : List α), isum (fun x => f x + g x) l = isum f l + isum g l
  | [] => rfl
  | x :: l => by simp only [isum, isum_add f g l]; omega
theorem isum_sub {α : Type} (f g : α → Int) : ∀ (l : List α), isum (fun x => f x - g x) l = isum f l - isum g l
  | [] => rfl
  | x :: l => by simp only [isum, isum_sub f g l]; omega
theorem isum_congr {α : Type} {f g : α → Int} : ∀ {l : List α}, (∀ x ∈ l, f x = g x) → isum f l = isum g l
  | [], _ => rfl
  | x :: l, h => by rw [isum, isum, h x (by simp), isum_congr fun y hy => h y (List.mem_cons_of_mem _ hy)]
theorem isum_swap {α β : Type} (f : α → β → Int) : ∀ (l : List α) (m : List β), isum (fun x => isum (f x) m) l = isum (fun y => isum (fun x => f x y) l) m
  | [], m => by rw [isum, isum_zero]; intro y _; rfl
  | x :: l, m => by
    rw [isum, isum_swap f l m, ← isum_add]
    rfl
theorem isum_nonneg {α : Type} {f : α → Int} : ∀ {l : List α}, (∀ x ∈ l, 0 ≤ f x) → 0 ≤ isum f l
  | [], _ => Int.le_refl _
  | x :: l, h => by
    have h1 := h x (by simp)
    have h2 := isum_nonneg (l := l) fun y hy => h y (List.mem_cons_of_mem _ hy)
    simp only [isum]; omega
theorem isum_pick (a c : Int) : ∀ (K : Nat), 0 ≤ a → isum (fun j : Nat => if (j : Int) = a then c else 0) (List.range K) = if a < K then c else 0
  | 0, h => by rw [if_neg (by omega)]; rfl
  | K + 1, h => by
    rw [List.range_succ, isum_append, isum_pick a c K h]
    simp only [isum]
    by_cases h1 : a < K
    · rw [if_pos h1, if_neg (by omega), if_pos (by omega)]; omega
    · by_cases h2 : (K : Int) = a
      · rw [if_neg h1, if_pos h2, if_pos (by omega)]; omega
      · rw [if_neg h1, if_neg h2, if_neg (by omega)]; omega
theorem max_of {α : Type} (f : α → Int) (p : α → Prop) : ∀ (l : List α), (∃ x ∈ l, p x) → ∃ x ∈ l, p x ∧ ∀ y ∈ l, p y → f y ≤ f x
  | [], h => by simp at h
  | z :: l, h => by
    by_cases ht : ∃ x ∈ l, p x
    · obtain ⟨x, h1, h2, h3⟩ := max_of f p l ht
      by_cases hz : p z ∧ f x < f z
      · exact ⟨z, by simp, hz.1, fun y hy hp => by
          rcases List.mem_cons.1 hy with rfl | hy
          · omega
          · have := h3 y hy hp; omega⟩
      · exact ⟨x, List.mem_cons_of_mem _ h1, h2, fun y hy hp => by
          rcases List.mem_cons.1 hy with rfl | hy
          · have : ¬ f x < f y := fun h => hz ⟨hp, h⟩
            omega
          · exact h3 y hy hp⟩
    · obtain ⟨x, hx, hp⟩ := h
      rcases List.mem_cons.1 hx with rfl | hx
      · exact ⟨x, by simp, hp, fun y hy hq => by
          rcases List.mem_cons.1 hy with rfl | hy
          · omega
          · exact absurd ⟨y, hy, hq⟩ ht⟩
      · exact absurd ⟨x, hx, hp⟩ ht

/-- what one send does to a house's stock at a tick -/
def gain (n : Net) (a t : Int) (x : Send) : Int := if x.tick < t then (if dstOf n x.link = a then x.bytes else 0) - (if srcOf n x.link = a then x.bytes else 0) else 0
theorem chgSum_gain (n : Net) (a t : Int) : ∀ (l : List Send), chgSum a t (changesOf n l) = isum (gain n a t) l
  | [] => rfl
  | x :: l => by
    have ih := chgSum_gain n a t l
    have e : changesOf n (x :: l) = [(x.tick, srcOf n x.link, -x.bytes), (x.tick, dstOf n x.link, x.bytes)] ++ changesOf n l := by simp [changesOf]
    rw [e, chgSum, isum_append, isum]
    unfold chgSum at ih
    rw [ih]
    simp only [isum, gain]
    by_cases h1 : x.tick < t <;> by_cases h2 : srcOf n x.link = a <;> by_cases h3 : dstOf n x.link = a <;> simp [h1, h2, h3] <;> omega
theorem have_gain (n : Net) (l : List Send) (d : Demand) (a t : Int) : have' n l d a t = have0 d a t + isum (gain n a t) l := by rw [have_eq, chgSum_gain]

theorem have_nonneg {n : Net} {l : List Send} {d : Demand} (hs : serves n l d = 0) (a t : Int) : 0 ≤ have' n l d a t := by
  obtain ⟨h1, h2, _, h4, _⟩ := serves_zero hs
  have hg := right_zero h1
  have hb := dem_bytes h2
  by_cases hex : ∃ x ∈ l, srcOf n x.link = a ∧ x.tick < t
  · obtain ⟨x, hx, ⟨hx1, hx2⟩, hmax⟩ := max_of (fun x : Send => x.tick) (fun x => srcOf n x.link = a ∧ x.tick < t) l hex
    have hnb := h4 x hx
    unfold bad at hnb
    rw [hx1, have_gain] at hnb
    rw [have_gain]
    have h0 : have0 d a x.tick ≤ have0 d a t := by unfold have0; split <;> split <;> omega
    have hle : isum (fun y => gain n a x.tick y - (if y.tick = x.tick ∧ srcOf n y.link = a then y.bytes else 0)) l ≤ isum (gain n a t) l := isum_le fun y hy => by
      have hy1 := (hg.send y hy).b0
      have hm := hmax y hy
      simp only [gain]
      repeat' split
      all_goals omega
    rw [isum_sub] at hle
    unfold outOf at hnb
    omega
  · rw [have_gain]
    have h0 := have0_bound hb a t
    have : 0 ≤ isum (gain n a t) l := isum_nonneg fun y hy => by
      have hy1 := (hg.send y hy).b0
      unfold gain
      by_cases c4 : y.tick < t
      · have c5 : ¬ srcOf n y.link = a := fun c => hex ⟨y, hy, c, c4⟩
        rw [if_pos c4, if_neg c5]; split <;> omega
      · rw [if_neg c4]; omega
    omega

/-- the stocks of the houses of a set together -/
def sumSet (n : Net) (l : List Send) (d : Demand) (t : Int) (p : Int → Bool) (K : Nat) : Int := isum (fun j : Nat => if p j then have' n l d j t else 0) (List.range K)
theorem sumSet_succ (n : Net) (l : List Send) (d : Demand) (t : Int) (p : Int → Bool) (K : Nat) : sumSet n l d t p (K + 1) = sumSet n l d t p K + if p K then have' n l d K t else 0 := by
  rw [sumSet, List.range_succ, isum_append]; simp [isum, sumSet]
theorem pick_set (p : Int → Bool) (a c : Int) {K : Nat} (h : 0 ≤ a ∧ a < K) : isum (fun j : Nat => if p j then (if (j : Int) = a then c else 0) else 0) (List.range K) = if p a then c else 0 := by
  have e : isum (fun j : Nat => if p j then (if (j : Int) = a then c else 0) else 0) (List.range K) = isum (fun j : Nat => if (j : Int) = a then (if p a then c else 0) else 0) (List.range K) := isum_congr fun j _ => by
    by_cases h1 : (j : Int) = a
    · rw [h1]; simp
    · simp [h1]
  rw [e, isum_pick a _ K h.1, if_pos h.2]
/-- over a cut -/
def across (n : Net) (p : Int → Bool) (t : Int) (x : Send) : Int := if x.tick < t then (if p (dstOf n x.link) then x.bytes else 0) - (if p (srcOf n x.link) then x.bytes else 0) else 0
theorem link_houses {n : Net} (hn : NetGood n) {x : Send} (hx : SendGood n x) : isHouse n (srcOf n x.link) ∧ isHouse n (dstOf n x.link) := by
  have h1 := hx.l0
  have h2 := hx.l1
  have h3 : n.links[x.link.toNat]? = some (n.links[x.link.toNat]'(by omega)) := List.getElem?_eq_getElem (by omega)
  have h4 := hn.link _ (List.mem_of_getElem? h3)
  rw [srcOf_eq h3, dstOf_eq h3]
  exact ⟨h4.src, h4.dst⟩
theorem sumSet_eq {n : Net} {l : List Send} {d : Demand} (hg : Sched n l) (hd : demanded n d) (t : Int) (p : Int → Bool) : sumSet n l d t p n.houses.toNat = (if p d.src ∧ d.ready ≤ t then d.bytes else 0) + isum (across n p t) l := by
  have hh : ∀ a, isHouse n a → 0 ≤ a ∧ a < (n.houses.toNat : Int) := fun a ha => by unfold isHouse at ha; omega
  have e : sumSet n l d t p n.houses.toNat = isum (fun j : Nat => (if p j then have0 d j t else 0) + isum (fun x => if p j then gain n j t x else 0) l) (List.range n.houses.toNat) := isum_congr fun j _ => by
    cases hp : p j with
    | true => simp [have_gain]
    | false =>
      have : isum (fun _ : Send => (0 : Int)) l = 0 := isum_zero fun x _ => rfl
      simp [this]
  rw [e, isum_add, isum_swap]
  congr 1
  · have e2 : isum (fun j : Nat => if p j then have0 d j t else 0) (List.range n.houses.toNat) = isum (fun j : Nat => if p j then (if (j : Int) = d.src then (if d.ready ≤ t then d.bytes else 0) else 0) else 0) (List.range n.houses.toNat) := isum_congr fun j _ => by
      unfold have0
      by_cases h1 : (j : Int) = d.src <;> by_cases h2 : d.ready ≤ t <;> simp [h1, h2]
    rw [e2, pick_set p _ _ (hh _ hd.1)]
    by_cases h1 : p d.src = true <;> by_cases h2 : d.ready ≤ t <;> simp [h1, h2]
  · refine isum_congr fun x hx => ?_
    obtain ⟨h1, h2⟩ := link_houses hg.net (hg.send x hx)
    unfold across
    by_cases ht : x.tick < t
    · rw [if_pos ht]
      have e3 : isum (fun j : Nat => if p j then gain n j t x else 0) (List.range n.houses.toNat) = isum (fun j : Nat => (if p j then (if (j : Int) = dstOf n x.link then x.bytes else 0) else 0) - (if p j then (if (j : Int) = srcOf n x.link then x.bytes else 0) else 0)) (List.range n.houses.toNat) := isum_congr fun j _ => by
        unfold gain
        rw [if_pos ht]
        by_cases c1 : p j = true
        · simp only [c1, if_true, eq_comm]
        · simp [c1]
      rw [e3, isum_sub, pick_set p _ _ (hh _ h2), pick_set p _ _ (hh _ h1)]
    · rw [if_neg ht]
      refine isum_zero fun j _ => ?_
      unfold gain
      rw [if_neg ht]; simp
/-- all houses -/
def sumTo (n : Net) (l : List Send) (d : Demand) (t : Int) (K : Nat) : Int := sumSet n l d t (fun _ => true) K
theorem sumTo_succ (n : Net) (l : List Send) (d : Demand) (t : Int) (K : Nat) : sumTo n l d t (K + 1) = sumTo n l d t K + have' n l d K t := by rw [sumTo, sumSet_succ]; simp [sumTo]
theorem sumTo_zero (n : Net) (l : List Send) (d : Demand) (t : Int) : sumTo n l d t 0 = 0 := rfl
theorem conserve {n : Net} {l : List Send} {d : Demand} (hs : serves n l d = 0) (t : Int) : sumTo n l d t n.houses.toNat = if d.ready ≤ t then d.bytes else 0 := by
  obtain ⟨h1, h2, _, _, _⟩ := serves_zero hs
  rw [sumTo, sumSet_eq (right_zero h1) h2]
  have : isum (across n (fun _ => true) t) l = 0 := isum_zero fun x _ => by unfold across; split <;> simp
  rw [this]; simp
theorem sumSet_mono {n : Net} {l : List Send} {d : Demand} (hs : serves n l d = 0) (t : Int) (p q : Int → Bool) (h : ∀ a, p a = true → q a = true) (K : Nat) : sumSet n l d t p K ≤ sumSet n l d t q K := isum_le fun j _ => by
  have := have_nonneg hs j t
  cases hp : p j with
  | true => simp [h _ hp]
  | false => simp only [Bool.false_eq_true, if_false]; split <;> omega
theorem sumTo_bound {n : Net} {l : List Send} {d : Demand} (hs : serves n l d = 0) (t : Int) {K : Nat} (hK : (K : Int) ≤ n.houses) : 0 ≤ sumTo n l d t K ∧ sumTo n l d t K ≤ 1099511627776 := by
  have hb := dem_bytes (serves_zero hs).2.1
  have h1 := conserve hs t
  have h2 : ∀ a b, a ≤ b → sumTo n l d t a ≤ sumTo n l d t b := fun a b hab => by
    induction b with
    | zero => rw [show a = 0 by omega]; omega
    | succ b ih =>
      rcases Nat.lt_or_ge b a with h | h
      · rw [show a = b + 1 by omega]; omega
      · have := ih h; have := have_nonneg hs b t; rw [sumTo_succ]; omega
  have h3 := h2 0 K (Nat.zero_le _)
  have h4 := h2 K n.houses.toNat (by omega)
  rw [sumTo_zero] at h3
  rw [h1] at h4
  refine ⟨h3, Int.le_trans h4 ?_⟩
  split <;> omega
/-- nothing is anywhere ahead of Ready -/
theorem none_early {n : Net} {l : List Send} {d : Demand} (hs : serves n l d = 0) {x : Send} (hx : x ∈ l) : d.ready ≤ x.tick := by
  obtain ⟨h1, h2, _, h4, _⟩ := serves_zero hs
  have hg := right_zero h1
  rcases Int.lt_or_le x.tick d.ready with hlt | hle
  · exfalso
    have hc := conserve hs x.tick
    rw [if_neg (by omega)] at hc
    have hb := h4 x hx
    unfold bad at hb
    have hsrc := (link_houses hg.net (hg.send x hx)).1
    have hx0 := (hg.send x hx).b0
    have hin : have' n l d (srcOf n x.link) x.tick ≤ sumTo n l d x.tick n.houses.toNat := by
      have := isum_le (l := List.range n.houses.toNat) (f := fun j : Nat => if (j : Int) = srcOf n x.link then have' n l d (srcOf n x.link) x.tick else 0) (g := fun j : Nat => if true = true then have' n l d j x.tick else 0) (fun j _ => by
        have hj := have_nonneg hs j x.tick
        by_cases c : (j : Int) = srcOf n x.link
        · simp [c]
        · simp only [c, if_false, if_true]; omega)
      rw [isum_pick _ _ _ hsrc.1, if_pos (by unfold isHouse at hsrc; omega)] at this
      exact this
    have hout : x.bytes ≤ outOf n l (srcOf n x.link) x.tick := by
      obtain ⟨k, hk⟩ := List.getElem?_of_mem hx
      have hm := outOf_mono hg (srcOf n x.link) x.tick (k + 1)
      have hb2 := (outOf_bound hg (srcOf n x.link) x.tick k).1
      have e : outOf n (l.take (k + 1)) (srcOf n x.link) x.tick = outOf n (l.take k) (srcOf n x.link) x.tick + if x.tick = x.tick ∧ srcOf n x.link = srcOf n x.link then x.bytes else 0 := isum_take hk
      rw [if_pos ⟨rfl, rfl⟩] at e
      omega
    omega
  · exact hle
/-- a cut -/
theorem cut {n : Net} {l : List Send} {d : Demand} (hs : serves n l d = 0) (p : Int → Bool) (h1 : p d.src = true) (h2 : p d.dst = false) : isum (across n p d.due) l = -d.bytes := by
  obtain ⟨g1, g2, _, _, g5⟩ := serves_zero hs
  have hg := right_zero g1
  have hrd : d.ready ≤ d.due := by unfold demanded at g2; omega
  have e := sumSet_eq hg g2 d.due p
  rw [if_pos ⟨h1, hrd⟩] at e
  have hc := conserve hs d.due
  rw [if_pos hrd] at hc
  have hnn : 0 ≤ sumSet n l d d.due p n.houses.toNat := isum_nonneg fun j _ => by have := have_nonneg hs j d.due; split <;> omega
  have hdst := g2.2.1
  have hle : sumSet n l d d.due p n.houses.toNat + have' n l d d.dst d.due ≤ sumTo n l d d.due n.houses.toNat := by
    have e1 := isum_pick d.dst (have' n l d d.dst d.due) n.houses.toNat hdst.1
    rw [if_pos (by unfold isHouse at hdst; omega)] at e1
    rw [← e1, sumSet, ← isum_add]
    refine isum_le fun j _ => ?_
    have hj := have_nonneg hs j d.due
    by_cases c : (j : Int) = d.dst
    · simp [c, h2]
    · simp only [c, if_false, if_true]
      split <;> omega
  omega
end Go.Q
