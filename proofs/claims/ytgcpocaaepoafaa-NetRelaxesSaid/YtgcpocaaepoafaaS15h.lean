/- Layer 15: schedules that are later; nets with more capacity, demands that are ready earlier. -/
import Derived.Test.YtgcpocaaepoafaaS15g
set_option linter.unusedVariables false
set_option linter.unusedSimpArgs false
set_option linter.unusedSectionVars false
namespace Go.Q
open Go

def lateS (b : Int) (x : Send) : Send := ⟨x.link, x.tick + b, x.bytes⟩
def laterL (l : List Send) (b : Int) : List Send := l.map (lateS b)
def shiftD (d : Demand) (b : Int) : Demand := ⟨d.src, d.dst, d.bytes, d.ready + b, d.due + b⟩
theorem isum_map {α β : Type} (f : β → Int) (g : α → β) : ∀ (l : List α), isum f (l.map g) = isum (fun x => f (g x)) l
  | [] => rfl
  | x :: l => by rw [List.map_cons, isum, isum, isum_map f g l]
theorem serves_of {n : Net} {l : List Send} {d : Demand} (h1 : right n l = 0) (h2 : demanded n d) (h3 : fits n l = 0) (h4 : ∀ x ∈ l, ¬ bad n l d x) (h5 : d.bytes ≤ have' n l d d.dst d.due) : serves n l d = 0 := by
  rw [serves, if_neg (by omega), if_neg (not_not_intro h2), if_neg (by omega), if_neg (by rintro ⟨x, hx, hb⟩; exact h4 x hx hb), late, if_neg (by omega)]
theorem arriveFrom_range {n : Net} {l : List Send} {d : Demand} (hd : d.ready ≤ d.due) : ∀ (r : List Send), d.ready ≤ arriveFrom n l d r ∧ arriveFrom n l d r ≤ d.due
  | [] => ⟨hd, Int.le_refl _⟩
  | x :: r => by
    rw [arriveFrom]
    split
    · rename_i h; unfold atOk at h; omega
    · exact arriveFrom_range hd r
theorem arriveTick_range {n : Net} {l : List Send} {d : Demand} (hd : d.ready ≤ d.due) : d.ready ≤ arriveTick n l d ∧ arriveTick n l d ≤ d.due := by
  unfold arriveTick
  split
  · omega
  · exact arriveFrom_range hd l
theorem arrives_of {n : Net} {l : List Send} {d : Demand} (h : serves n l d = 0) : arrives n l d = (arriveTick n l d, 0) := arrives_ok (by omega)

section
variable {n : Net} {l : List Send} {d : Demand} {m : Int}
theorem mod_day (t m : Int) : (t + 24 * m) % 24 = t % 24 := by omega
theorem cap_day (link t m : Int) : capOf n link (t + 24 * m) = capOf n link t := by unfold capOf; rw [mod_day]
theorem price_day (link t m : Int) : priceOf n link (t + 24 * m) = priceOf n link t := by unfold priceOf; rw [mod_day]
theorem later_gain (a t b : Int) : isum (gain n a (t + b)) (laterL l b) = isum (gain n a t) l := by
  rw [laterL, isum_map]
  refine isum_congr fun x _ => ?_
  have e : (lateS b x).tick < t + b ↔ x.tick < t := by simp only [lateS]; omega
  unfold gain
  by_cases h : x.tick < t
  · rw [if_pos (e.2 h), if_pos h]; rfl
  · rw [if_neg (fun h' => h (e.1 h')), if_neg h]
theorem later_have (a t b : Int) : have' n (laterL l b) (shiftD d b) a (t + b) = have' n l d a t := by
  rw [have_gain, have_gain, later_gain]
  have : have0 (shiftD d b) a (t + b) = have0 d a t := by
    have e : (a = (shiftD d b).src ∧ (shiftD d b).ready ≤ t + b) ↔ (a = d.src ∧ d.ready ≤ t) := by simp only [shiftD]; omega
    unfold have0
    by_cases h : a = d.src ∧ d.ready ≤ t
    · rw [if_pos (e.2 h), if_pos h]; rfl
    · rw [if_neg (fun h' => h (e.1 h')), if_neg h]
  rw [this]
theorem later_out (a t b : Int) : outOf n (laterL l b) a (t + b) = outOf n l a t := by
  rw [outOf, laterL, isum_map]
  refine isum_congr fun x _ => ?_
  have e : ((lateS b x).tick = t + b ∧ srcOf n (lateS b x).link = a) ↔ (x.tick = t ∧ srcOf n x.link = a) := by simp only [lateS]; omega
  by_cases h : x.tick = t ∧ srcOf n x.link = a
  · rw [if_pos (e.2 h), if_pos h]; rfl
  · rw [if_neg (fun h' => h (e.1 h')), if_neg h]
theorem later_right (h : right n l = 0) (hm : 0 ≤ m) (hb : ∀ x ∈ l, x.tick + 1 + 24 * m ≤ 1000000) : right n (laterL l (24 * m)) = 0 := by
  have hg := right_zero h
  have hc : netCheck n = 0 := by
    unfold right at h
    by_cases hc : netCheck n = 0
    · exact hc
    · rw [if_pos hc] at h; exact h
  refine right_of hc (by simp [laterL]; exact hg.len) (fun x hx => ?_) (List.pairwise_map.2 (hg.ord.imp fun {a b} hab => by unfold Before at *; simp only [lateS]; omega))
  obtain ⟨y, hy, rfl⟩ := List.mem_map.1 hx
  have h1 := hg.send y hy
  have h2 := hb y hy
  exact ⟨h1.l0, h1.l1, by have := h1.t0; simp only [lateS]; omega, by simp only [lateS]; omega, h1.b0, h1.b1⟩
theorem later_serves (h : serves n l d = 0) (hm : 0 ≤ m) (hb : ∀ x ∈ l, x.tick + 1 + 24 * m ≤ 1000000) (hd : d.due + 24 * m ≤ 1000000) : serves n (laterL l (24 * m)) (shiftD d (24 * m)) = 0 := by
  obtain ⟨h1, h2, h3, h4, h5⟩ := serves_zero h
  refine serves_of (later_right h1 hm hb) ?_ ?_ (fun x hx => ?_) ?_
  · unfold demanded at *; simp only [shiftD]; unfold isHouse at *; omega
  · refine fits_zero.2 ⟨later_right h1 hm hb, fun x hx => ?_⟩
    obtain ⟨y, hy, rfl⟩ := List.mem_map.1 hx
    simp only [lateS]
    rw [cap_day]
    exact (fits_zero.1 h3).2 y hy
  · obtain ⟨y, hy, rfl⟩ := List.mem_map.1 hx
    have := h4 y hy
    unfold bad at *
    simp only [lateS]
    rw [later_have, later_out]
    exact this
  · show d.bytes ≤ have' n (laterL l (24 * m)) (shiftD d (24 * m)) d.dst (d.due + 24 * m)
    rw [later_have]; exact h5
theorem later_at (b t : Int) : atOk n (laterL l b) (shiftD d b) (t + b) ↔ atOk n l d t := by
  unfold atOk
  show d.ready + b ≤ t + b ∧ t + b ≤ d.due + b ∧ d.bytes ≤ have' n (laterL l b) (shiftD d b) d.dst (t + b) ↔ _
  rw [later_have]; omega
theorem later_from (b : Int) : ∀ (r : List Send), arriveFrom n (laterL l b) (shiftD d b) (laterL r b) = arriveFrom n l d r + b
  | [] => rfl
  | x :: r => by
    have e : laterL (x :: r) b = lateS b x :: laterL r b := rfl
    rw [e, arriveFrom, arriveFrom, later_from b r]
    have e2 : (lateS b x).tick + 1 = (x.tick + 1) + b := by simp only [lateS]; omega
    rw [e2]
    by_cases h : atOk n l d (x.tick + 1)
    · rw [if_pos h, if_pos ((later_at b _).2 h)]
    · rw [if_neg h, if_neg (fun h' => h ((later_at b _).1 h'))]
theorem later_arrive (b : Int) : arriveTick n (laterL l b) (shiftD d b) = arriveTick n l d + b := by
  unfold arriveTick
  have e : (shiftD d b).ready = d.ready + b := rfl
  rw [e]
  by_cases h : atOk n l d d.ready
  · rw [if_pos h, if_pos ((later_at b _).2 h)]
  · rw [if_neg h, if_neg (fun h' => h ((later_at b _).1 h')), later_from]
theorem later_cost (m : Int) : costSum n (laterL l (24 * m)) = costSum n l := by
  rw [costSum, laterL, isum_map]
  refine isum_congr fun x _ => ?_
  simp only [lateS]
  rw [price_day]
end

/-! ### more capacity -/
structure Wider (n n2 : Net) : Prop where
  check : netCheck n2 = 0
  houses : n2.houses = n.houses
  len : n2.links.length = n.links.length
  src : ∀ k, srcOf n2 k = srcOf n k
  dst : ∀ k, dstOf n2 k = dstOf n k
  cap : ∀ k t, capOf n k t ≤ capOf n2 k t
theorem Wider.refl {n : Net} (h : netCheck n = 0) : Wider n n := ⟨h, rfl, rfl, fun _ => rfl, fun _ => rfl, fun _ _ => Int.le_refl _⟩
theorem hours_of {x : Link} : ∀ (d j : Nat), (∀ i, j ≤ i → i < j + d → ¬ hourBad x i) → hoursFrom x d j = 0
  | 0, _, _ => rfl
  | d + 1, j, h => by
    rw [hoursFrom, if_neg (h j (Nat.le_refl _) (by omega))]
    exact hours_of d (j + 1) fun i h1 h2 => h i (by omega) (by omega)
theorem checkLinks_of {n : Net} : ∀ (l : List Link), (∀ x ∈ l, LinkGood n x) → checkLinks n l = 0
  | [], _ => rfl
  | x :: l, h => by
    have hx := h x (by simp)
    have e : checkLink n x = 0 := by
      rw [checkLink_hours hx.src hx.dst hx.ne]
      exact hours_of 24 0 fun i _ h2 => by have := hx.hour i (by omega); unfold hourBad; omega
    rw [checkLinks, if_pos e]
    exact checkLinks_of l fun y hy => h y (List.mem_cons_of_mem _ hy)
theorem netCheck_of {n : Net} (h : NetGood n) : netCheck n = 0 := by
  have h0 := h.h0
  have h1 := h.h1
  have h2 := h.len
  rw [netCheck, if_neg (by omega)]
  exact checkLinks_of _ h.link
def capAt (x : Link) (h : Nat) : Link := ⟨x.src, x.dst, x.cap.set h 1073741824, x.price⟩
theorem capAt_get (x : Link) (h j : Nat) : x.cap.getD j 0 ≤ 1073741824 → x.cap.getD j 0 ≤ (capAt x h).cap.getD j 0 ∧ (0 ≤ x.cap.getD j 0 → 0 ≤ (capAt x h).cap.getD j 0 ∧ (capAt x h).cap.getD j 0 ≤ 1073741824) := by
  intro hc
  simp only [capAt, List.getD_eq_getElem?_getD] at *
  by_cases e : h = j
  · subst e
    by_cases hl : h < x.cap.length
    · rw [List.getElem?_set_self hl]; simp only [Option.getD_some]; omega
    · rw [List.set_eq_of_length_le (by omega)]; omega
  · rw [List.getElem?_set_ne e]; omega
theorem wider_of {n : Net} {i h : Nat} {x : Link} (hn : netCheck n = 0) (hx : n.links[i]? = some x) : Wider n ⟨n.houses, n.links.set i (capAt x h)⟩ := by
  have hg := netCheck_zero hn
  have hil := (List.getElem?_eq_some_iff.1 hx).1
  have get : ∀ k, (n.links.set i (capAt x h))[k]? = if k = i then some (capAt x h) else n.links[k]? := fun k => by
    by_cases e : k = i
    · rw [e, if_pos rfl, List.getElem?_set_self hil]
    · rw [if_neg e, List.getElem?_set_ne (Ne.symm e)]
  refine ⟨netCheck_of ⟨hg.h0, hg.h1, by simp only [List.length_set]; exact hg.len, fun y hy => ?_⟩, rfl, by simp, fun k => ?_, fun k => ?_, fun k t => ?_⟩
  · obtain ⟨j, hj⟩ := List.getElem?_of_mem hy
    have hj' : (n.links.set i (capAt x h))[j]? = some y := hj
    rw [get] at hj'
    split at hj'
    · cases hj'
      have hl := hg.link x (List.mem_of_getElem? hx)
      exact ⟨hl.src, hl.dst, hl.ne, fun q hq => by
        have h1 := hl.hour q hq
        have h2 := (capAt_get x h q h1.2.1).2 h1.1
        exact ⟨h2.1, h2.2, h1.2.2⟩⟩
    · have hl := hg.link y (List.mem_of_getElem? hj')
      exact ⟨hl.src, hl.dst, hl.ne, hl.hour⟩
  · unfold srcOf
    show (match (n.links.set i (capAt x h))[k.toNat]? with | some x => x.src | none => 0) = _
    rw [get]
    by_cases e : k.toNat = i
    · rw [if_pos e, e, hx]; rfl
    · rw [if_neg e]; rfl
  · unfold dstOf
    show (match (n.links.set i (capAt x h))[k.toNat]? with | some x => x.dst | none => 0) = _
    rw [get]
    by_cases e : k.toNat = i
    · rw [if_pos e, e, hx]; rfl
    · rw [if_neg e]; rfl
  · unfold capOf
    show _ ≤ (match (n.links.set i (capAt x h))[k.toNat]? with | some x => x.cap.getD (t % 24).toNat 0 | none => 0)
    rw [get]
    by_cases e : k.toNat = i
    · rw [if_pos e, e, hx]
      have hl := (hg.link x (List.mem_of_getElem? hx)).hour (t % 24).toNat (by omega)
      exact (capAt_get x h _ hl.2.1).1
    · rw [if_neg e]; exact Int.le_refl _
/-- the same demand, ready earlier -/
def readyAt (d : Demand) (r : Int) : Demand := ⟨d.src, d.dst, d.bytes, r, d.due⟩
section
variable {n n2 : Net} {l : List Send} {d : Demand} {r : Int}
theorem wider_gain (hw : Wider n n2) (a t : Int) : isum (gain n2 a t) l = isum (gain n a t) l := isum_congr fun x _ => by unfold gain; rw [hw.src, hw.dst]
theorem wider_have (hw : Wider n n2) (hr : r ≤ d.ready) (hb : 0 ≤ d.bytes) (a t : Int) : have' n l d a t ≤ have' n2 l (readyAt d r) a t := by
  rw [have_gain, have_gain, wider_gain hw]
  have : have0 d a t ≤ have0 (readyAt d r) a t := by
    have e : (a = d.src ∧ d.ready ≤ t) → (a = (readyAt d r).src ∧ (readyAt d r).ready ≤ t) := by simp only [readyAt]; omega
    have eb : (readyAt d r).bytes = d.bytes := rfl
    unfold have0
    rw [eb]
    by_cases h1 : a = d.src ∧ d.ready ≤ t
    · rw [if_pos h1, if_pos (e h1)]; omega
    · rw [if_neg h1]; split <;> omega
  omega
theorem wider_serves (hs : serves n l d = 0) (hw : Wider n n2) (h0 : 0 ≤ r) (hr : r ≤ d.ready) : serves n2 l (readyAt d r) = 0 := by
  obtain ⟨h1, h2, h3, h4, h5⟩ := serves_zero hs
  have hg := right_zero h1
  have hb := dem_bytes h2
  have hright : right n2 l = 0 := right_of hw.check hg.len (fun x hx => by
    have := hg.send x hx
    exact ⟨this.l0, by rw [hw.len]; exact this.l1, this.t0, this.t1, this.b0, this.b1⟩) hg.ord
  refine serves_of hright ?_ (fits_zero.2 ⟨hright, fun x hx => Int.le_trans ((fits_zero.1 h3).2 x hx) (hw.cap _ _)⟩) (fun x hx => ?_) (Int.le_trans h5 (wider_have hw hr hb.1 _ _))
  · unfold demanded isHouse at *; rw [hw.houses]; simp only [readyAt]; omega
  · have h6 := h4 x hx
    unfold bad at *
    rw [hw.src]
    have h7 := wider_have (l := l) hw hr hb.1 (srcOf n x.link) x.tick
    have h8 : outOf n2 l (srcOf n x.link) x.tick = outOf n l (srcOf n x.link) x.tick := isum_congr fun y _ => by rw [hw.src]
    omega
theorem from_le {d : Demand} {x : Send} : ∀ (q : List Send), q.Pairwise Before → x ∈ q → atOk n l d (x.tick + 1) → arriveFrom n l d q ≤ x.tick + 1
  | [], _, hx, _ => by simp at hx
  | y :: q, ho, hx, ha => by
    obtain ⟨o1, o2⟩ := List.pairwise_cons.1 ho
    rw [arriveFrom]
    rcases List.mem_cons.1 hx with rfl | hx
    · rw [if_pos ha]; omega
    · split
      · have := o1 x hx; unfold Before at this; omega
      · exact from_le q o2 hx ha
theorem from_hit {d : Demand} : ∀ (q : List Send), arriveFrom n l d q = d.due ∨ ∃ x ∈ q, atOk n l d (x.tick + 1) ∧ arriveFrom n l d q = x.tick + 1
  | [] => .inl rfl
  | y :: q => by
    rw [arriveFrom]
    split
    · rename_i h; exact .inr ⟨y, by simp, h, rfl⟩
    · rcases from_hit (d := d) q with h | ⟨x, hx, h⟩
      · exact .inl h
      · exact .inr ⟨x, List.mem_cons_of_mem _ hx, h⟩
theorem wider_arrive (hs : serves n l d = 0) (hw : Wider n n2) (h0 : 0 ≤ r) (hr : r ≤ d.ready) : arriveTick n2 l (readyAt d r) ≤ arriveTick n l d := by
  obtain ⟨h1, h2, h3, h4, h5⟩ := serves_zero hs
  have hg := right_zero h1
  have hb := dem_bytes h2
  have h2' := h2
  unfold demanded at h2'
  have hrange := arriveTick_range (n := n2) (l := l) (d := readyAt d r) (by simp only [readyAt]; omega)
  have hmore : ∀ t, atOk n l d t → atOk n2 l (readyAt d r) t := fun t h => by
    unfold atOk at *
    have := wider_have (l := l) hw hr hb.1 d.dst t
    simp only [readyAt] at *
    exact ⟨by omega, h.2.1, by omega⟩
  unfold arriveTick at hrange ⊢
  by_cases hc : atOk n2 l (readyAt d r) (readyAt d r).ready
  · rw [if_pos hc]
    have := arriveTick_range (n := n) (l := l) (d := d) (by omega)
    unfold arriveTick at this
    have e : (readyAt d r).ready = r := rfl
    omega
  · rw [if_neg hc] at hrange ⊢
    by_cases ha : atOk n l d d.ready
    · exfalso
      apply hc
      have hz : isum (gain n d.dst d.ready) l = 0 := isum_zero fun x hx => by
        have := none_early hs hx
        unfold gain; rw [if_neg (by omega)]
      have ha2 := ha.2.2
      rw [have_gain, hz] at ha2
      have hsd : d.dst = d.src := by
        by_cases e : d.dst = d.src
        · exact e
        · rw [have0_neg (fun h => e h.1)] at ha2; omega
      have hz2 : isum (gain n d.dst r) l = 0 := isum_zero fun x hx => by
        have := none_early hs hx
        unfold gain; rw [if_neg (by omega)]
      refine ⟨Int.le_refl _, by simp only [readyAt]; omega, ?_⟩
      show d.bytes ≤ have' n2 l (readyAt d r) d.dst r
      rw [have_gain, wider_gain hw, hz2]
      have : have0 (readyAt d r) d.dst r = d.bytes := by
        unfold have0; rw [if_pos ⟨hsd, Int.le_refl _⟩]; rfl
      omega
    · rw [if_neg ha]
      rcases from_hit (n := n) (l := l) (d := d) l with h | ⟨x, hx, h, e⟩
      · rw [h]; exact hrange.2
      · rw [e]; exact from_le l hg.ord hx (hmore _ h)
end
end Go.Q
