/- Layer 15 in plain Lean: nets, schedules, demands. No program in sight but for the form of values. -/
import GoSem.Core.Value
set_option linter.unusedVariables false
set_option linter.unusedSimpArgs false
set_option linter.unusedSectionVars false
namespace Go.Q
open Go

structure Link where
  src : Int
  dst : Int
  cap : List Int
  price : List Int

structure Net where
  houses : Int
  links : List Link

structure Send where
  link : Int
  tick : Int
  bytes : Int

structure Demand where
  src : Int
  dst : Int
  bytes : Int
  ready : Int
  due : Int

def i64 (n : Int) : Value := .int .i64 n
def encLink (x : Link) : List Value := .int .i64 x.src :: .int .i64 x.dst :: (x.cap.map (Value.int .i64) ++ x.price.map (Value.int .i64))
def encSend (x : Send) : List Value := [.int .i64 x.link, .int .i64 x.tick, .int .i64 x.bytes]
def netA (n : Net) (a : Option Addr) (c : Nat) : Array Value := #[.int .i64 n.houses, .slice a n.links.length c]
def demA (d : Demand) : Array Value := #[.int .i64 d.src, .int .i64 d.dst, .int .i64 d.bytes, .int .i64 d.ready, .int .i64 d.due]

def LinkOk (x : Link) : Prop := x.cap.length = 24 ∧ x.price.length = 24
def NetOk (n : Net) : Prop := ∀ x ∈ n.links, LinkOk x

theorem box_cap {x : Link} {j : Nat} (h : LinkOk x) (hj : j < 24) : (encLink x).toArray[0 + 2 + (j : Int).toNat * 1]? = some (.int .i64 (x.cap.getD j 0)) := by
  simp only [List.getElem?_toArray, Int.toNat_natCast, Nat.mul_one]
  rw [show 0 + 2 + j = j + 1 + 1 by omega]
  simp only [encLink, List.getElem?_cons_succ]
  rw [List.getElem?_append_left (by simp [h.1]; omega)]
  simp [h.1, hj]
theorem box_price {x : Link} {j : Nat} (h : LinkOk x) (hj : j < 24) : (encLink x).toArray[0 + 26 + (j : Int).toNat * 1]? = some (.int .i64 (x.price.getD j 0)) := by
  simp only [List.getElem?_toArray, Int.toNat_natCast, Nat.mul_one]
  rw [show 0 + 26 + j = (24 + j) + 1 + 1 by omega]
  simp only [encLink, List.getElem?_cons_succ]
  rw [List.getElem?_append_right (by simp [h.1])]
  simp [h.1, h.2, hj]
theorem enc_cap {x : Link} {i : Int} (h : LinkOk x) (h0 : 0 ≤ i) (hj : i < 24) : (encLink x)[2 + i.toNat * 1]? = some (.int .i64 (x.cap.getD i.toNat 0)) := by
  have := box_cap (j := i.toNat) h (by omega)
  simp only [List.getElem?_toArray, Int.toNat_natCast] at this
  rwa [show 0 + 2 + i.toNat * 1 = 2 + i.toNat * 1 by omega] at this
theorem enc_price {x : Link} {i : Int} (h : LinkOk x) (h0 : 0 ≤ i) (hj : i < 24) : (encLink x)[26 + i.toNat * 1]? = some (.int .i64 (x.price.getD i.toNat 0)) := by
  have := box_price (j := i.toNat) h (by omega)
  simp only [List.getElem?_toArray, Int.toNat_natCast] at this
  rwa [show 0 + 26 + i.toNat * 1 = 26 + i.toNat * 1 by omega] at this

/-! ### Check -/
def isHouse (n : Net) (h : Int) : Prop := 0 ≤ h ∧ h < n.houses
instance (n : Net) (h : Int) : Decidable (isHouse n h) := by unfold isHouse; infer_instance
def hourBad (x : Link) (j : Nat) : Prop := x.cap.getD j 0 < 0 ∨ 1073741824 < x.cap.getD j 0 ∨ x.price.getD j 0 < 0 ∨ 1000000 < x.price.getD j 0
instance (x : Link) (j : Nat) : Decidable (hourBad x j) := by unfold hourBad; infer_instance
/-- the first error of the hours from j on -/
def hoursFrom (x : Link) : (d j : Nat) → Int
  | 0, _ => 0
  | d + 1, j => if hourBad x j then 3 else hoursFrom x d (j + 1)
def checkLink (n : Net) (x : Link) : Int := if ¬ isHouse n x.src ∨ ¬ isHouse n x.dst ∨ x.src = x.dst then 1 else hoursFrom x 24 0
def checkLinks (n : Net) : List Link → Int
  | [] => 0
  | x :: r => if checkLink n x = 0 then checkLinks n r else checkLink n x
def netCheck (n : Net) : Int := if n.houses < 1 ∨ 12 < n.houses ∨ 60 < n.links.length then 2 else checkLinks n n.links

theorem drop_of {α : Type} {l : List α} {k : Nat} {x : α} (h : l[k]? = some x) : l.drop k = x :: l.drop (k + 1) := by
  obtain ⟨hlt, hx⟩ := List.getElem?_eq_some_iff.1 h
  rw [List.drop_eq_getElem_cons hlt, hx]

theorem hoursFrom_bad {x : Link} {j : Nat} (h : j < 24) (hb : hourBad x j) : hoursFrom x (24 - j) j = 3 := by
  rw [show 24 - j = (23 - j) + 1 by omega, hoursFrom, if_pos hb]
theorem hoursFrom_ok {x : Link} {j : Nat} (h : j < 24) (hb : ¬ hourBad x j) : hoursFrom x (24 - j) j = hoursFrom x (24 - (j + 1)) (j + 1) := by
  rw [show 24 - j = (23 - j) + 1 by omega, hoursFrom, if_neg hb, show 24 - (j + 1) = 23 - j by omega]
theorem checkLink_arg {n : Net} {x : Link} (h : ¬ isHouse n x.src ∨ ¬ isHouse n x.dst ∨ x.src = x.dst) : checkLink n x = 1 := by rw [checkLink, if_pos h]
theorem checkLink_hours {n : Net} {x : Link} (h1 : isHouse n x.src) (h2 : isHouse n x.dst) (h3 : ¬ x.src = x.dst) : checkLink n x = hoursFrom x 24 0 := by
  rw [checkLink, if_neg]
  simp [h1, h2, h3]
theorem checkLinks_at {n : Net} {k : Nat} {x : Link} (h : n.links[k]? = some x) : checkLinks n (n.links.drop k) = if checkLink n x = 0 then checkLinks n (n.links.drop (k + 1)) else checkLink n x := by
  rw [drop_of h, checkLinks]
theorem netCheck_limit {n : Net} (h : n.houses < 1 ∨ 12 < n.houses ∨ 60 < n.links.length) : netCheck n = 2 := by rw [netCheck, if_pos h]
theorem netCheck_links {n : Net} (h1 : ¬ n.houses < 1) (h2 : ¬ 12 < n.houses) (h3 : ¬ 60 < (n.links.length : Int)) : netCheck n = checkLinks n n.links := by
  rw [netCheck, if_neg]
  omega

theorem hoursFrom_val (x : Link) : ∀ d j, hoursFrom x d j = 0 ∨ hoursFrom x d j = 3
  | 0, _ => .inl rfl
  | d + 1, j => by rw [hoursFrom]; split; exact .inr rfl; exact hoursFrom_val x d (j + 1)
theorem hoursFrom_zero {x : Link} : ∀ {d j : Nat}, hoursFrom x d j = 0 → ∀ i, j ≤ i → i < j + d → ¬ hourBad x i
  | 0, j, _, i, h1, h2 => by omega
  | d + 1, j, h, i, h1, h2 => by
    rw [hoursFrom] at h
    split at h
    · simp at h
    · rename_i hn
      rcases Nat.eq_or_lt_of_le h1 with rfl | hlt
      · exact hn
      · exact hoursFrom_zero h i hlt (by omega)
structure LinkGood (n : Net) (x : Link) : Prop where
  src : isHouse n x.src
  dst : isHouse n x.dst
  ne : x.src ≠ x.dst
  hour : ∀ j, j < 24 → 0 ≤ x.cap.getD j 0 ∧ x.cap.getD j 0 ≤ 1073741824 ∧ 0 ≤ x.price.getD j 0 ∧ x.price.getD j 0 ≤ 1000000
theorem checkLink_zero {n : Net} {x : Link} (h : checkLink n x = 0) : LinkGood n x := by
  unfold checkLink at h
  split at h
  · simp at h
  · rename_i hn
    refine ⟨?_, ?_, ?_, fun j hj => ?_⟩
    · exact Classical.not_not.1 fun h => hn (.inl h)
    · exact Classical.not_not.1 fun h => hn (.inr (.inl h))
    · exact fun h => hn (.inr (.inr h))
    · have := hoursFrom_zero h j (Nat.zero_le _) (by omega)
      simp only [hourBad] at this
      omega
theorem checkLinks_zero {n : Net} : ∀ {l : List Link}, checkLinks n l = 0 → ∀ x ∈ l, LinkGood n x
  | [], _, x, hx => by simp at hx
  | y :: r, h, x, hx => by
    rw [checkLinks] at h
    split at h
    · rename_i h0
      rcases List.mem_cons.1 hx with rfl | hx
      · exact checkLink_zero h0
      · exact checkLinks_zero h x hx
    · rename_i h0; exact absurd h h0
structure NetGood (n : Net) : Prop where
  h0 : 1 ≤ n.houses
  h1 : n.houses ≤ 12
  len : n.links.length ≤ 60
  link : ∀ x ∈ n.links, LinkGood n x
theorem netCheck_zero {n : Net} (h : netCheck n = 0) : NetGood n := by
  unfold netCheck at h
  split at h
  · simp at h
  · exact ⟨by omega, by omega, by omega, checkLinks_zero h⟩

/-! ### Right -/
def sendErr (n : Net) (p : Option Send) (x : Send) : Int :=
  if x.link < 0 ∨ (n.links.length : Int) ≤ x.link then 1
  else if x.tick < 0 ∨ 1000000 ≤ x.tick ∨ x.bytes < 1 ∨ 1073741824 < x.bytes then 3
  else match p with
    | none => 0
    | some p => if x.tick < p.tick ∨ (x.tick = p.tick ∧ x.link ≤ p.link) then 1 else 0
def rightFrom (n : Net) : Option Send → List Send → Int
  | _, [] => 0
  | p, x :: r => if sendErr n p x = 0 then rightFrom n (some x) r else sendErr n p x
def right (n : Net) (l : List Send) : Int := if netCheck n ≠ 0 then netCheck n else if 2000 < l.length then 2 else rightFrom n none l
def prevAt (l : List Send) : Nat → Option Send
  | 0 => none
  | k + 1 => l[k]?
theorem rightFrom_at {n : Net} {l : List Send} {k : Nat} {x : Send} (h : l[k]? = some x) :
    rightFrom n (prevAt l k) (l.drop k) = if sendErr n (prevAt l k) x = 0 then rightFrom n (prevAt l (k + 1)) (l.drop (k + 1)) else sendErr n (prevAt l k) x := by
  rw [drop_of h, rightFrom, prevAt, h]
theorem right_check {n : Net} {l : List Send} (h : netCheck n ≠ 0) : right n l = netCheck n := by rw [right, if_pos h]
theorem right_limit {n : Net} {l : List Send} (h : ¬ netCheck n ≠ 0) (h2 : 2000 < (l.length : Int)) : right n l = 2 := by rw [right, if_neg h, if_pos (by omega)]
theorem right_from {n : Net} {l : List Send} (h : ¬ netCheck n ≠ 0) (h2 : ¬ 2000 < (l.length : Int)) : right n l = rightFrom n none l := by rw [right, if_neg h, if_neg (by omega)]
theorem sendErr_link {n : Net} {p : Option Send} {x : Send} (h : x.link < 0 ∨ (n.links.length : Int) ≤ x.link) : sendErr n p x = 1 := by unfold sendErr; rw [if_pos h]
theorem sendErr_range {n : Net} {p : Option Send} {x : Send} (h0 : ¬ x.link < 0) (h1 : ¬ (n.links.length : Int) ≤ x.link) (h : x.tick < 0 ∨ 1000000 ≤ x.tick ∨ x.bytes < 1 ∨ 1073741824 < x.bytes) : sendErr n p x = 3 := by
  unfold sendErr; rw [if_neg (by omega), if_pos h]
theorem sendErr_order {n : Net} {p x : Send} (h0 : ¬ x.link < 0) (h1 : ¬ (n.links.length : Int) ≤ x.link) (h2 : ¬ x.tick < 0) (h3 : ¬ 1000000 ≤ x.tick) (h4 : ¬ x.bytes < 1) (h5 : ¬ 1073741824 < x.bytes)
    (h : x.tick < p.tick ∨ (x.tick = p.tick ∧ x.link ≤ p.link)) : sendErr n (some p) x = 1 := by
  unfold sendErr; rw [if_neg (by omega), if_neg (by omega)]; simp [h]
theorem sendErr_ok {n : Net} {p x : Send} (h0 : ¬ x.link < 0) (h1 : ¬ (n.links.length : Int) ≤ x.link) (h2 : ¬ x.tick < 0) (h3 : ¬ 1000000 ≤ x.tick) (h4 : ¬ x.bytes < 1) (h5 : ¬ 1073741824 < x.bytes)
    (h : ¬ (x.tick < p.tick ∨ (x.tick = p.tick ∧ x.link ≤ p.link))) : sendErr n (some p) x = 0 := by
  unfold sendErr; rw [if_neg (by omega), if_neg (by omega)]; simp [h]
theorem sendErr_first {n : Net} {x : Send} (h0 : ¬ x.link < 0) (h1 : ¬ (n.links.length : Int) ≤ x.link) (h2 : ¬ x.tick < 0) (h3 : ¬ 1000000 ≤ x.tick) (h4 : ¬ x.bytes < 1) (h5 : ¬ 1073741824 < x.bytes) : sendErr n none x = 0 := by
  unfold sendErr; rw [if_neg (by omega), if_neg (by omega)]
structure SendGood (n : Net) (x : Send) : Prop where
  l0 : 0 ≤ x.link
  l1 : x.link < n.links.length
  t0 : 0 ≤ x.tick
  t1 : x.tick < 1000000
  b0 : 1 ≤ x.bytes
  b1 : x.bytes ≤ 1073741824
/-- before, in a schedule -/
def Before (p x : Send) : Prop := p.tick < x.tick ∨ (p.tick = x.tick ∧ p.link < x.link)
theorem Before.trans {a b c : Send} (h : Before a b) (h' : Before b c) : Before a c := by unfold Before at *; omega
theorem sendErr_zero {n : Net} {p : Option Send} {x : Send} (h : sendErr n p x = 0) : SendGood n x ∧ ∀ q, p = some q → Before q x := by
  unfold sendErr at h
  split at h
  · simp at h
  · split at h
    · simp at h
    · refine ⟨⟨by omega, by omega, by omega, by omega, by omega, by omega⟩, fun q hq => ?_⟩
      subst hq
      simp only at h
      split at h
      · simp at h
      · unfold Before; omega
theorem rightFrom_zero {n : Net} : ∀ {l : List Send} {p : Option Send}, rightFrom n p l = 0 → (∀ x ∈ l, SendGood n x) ∧ l.Pairwise Before ∧ ∀ q, p = some q → ∀ x ∈ l, Before q x
  | [], p, _ => ⟨fun _ h => by simp at h, .nil, fun _ _ _ h => by simp at h⟩
  | x :: r, p, h => by
    rw [rightFrom] at h
    split at h
    · rename_i h0
      obtain ⟨h1, h2⟩ := sendErr_zero h0
      obtain ⟨h3, h4, h5⟩ := rightFrom_zero h
      refine ⟨fun y hy => ?_, List.pairwise_cons.2 ⟨fun y hy => h5 x rfl y hy, h4⟩, fun q hq y hy => ?_⟩
      · rcases List.mem_cons.1 hy with rfl | hy
        · exact h1
        · exact h3 y hy
      · rcases List.mem_cons.1 hy with rfl | hy
        · exact h2 q hq
        · exact (h2 q hq).trans (h5 x rfl y hy)
    · rename_i h0; exact absurd h h0
structure Sched (n : Net) (l : List Send) : Prop where
  net : NetGood n
  len : l.length ≤ 2000
  send : ∀ x ∈ l, SendGood n x
  ord : l.Pairwise Before
theorem right_zero {n : Net} {l : List Send} (h : right n l = 0) : Sched n l := by
  unfold right at h
  split at h
  · rename_i h0; exact absurd h h0
  · rename_i h0
    split at h
    · simp at h
    · obtain ⟨h1, h2, _⟩ := rightFrom_zero h
      exact ⟨netCheck_zero (by omega), by omega, h1, h2⟩

/-! ### capacity, Fits, Cost, Left -/
def capOf (n : Net) (link tick : Int) : Int := match n.links[link.toNat]? with | some x => x.cap.getD (tick % 24).toNat 0 | none => 0
def priceOf (n : Net) (link tick : Int) : Int := match n.links[link.toNat]? with | some x => x.price.getD (tick % 24).toNat 0 | none => 0
theorem NetGood.cap {n : Net} (h : NetGood n) (link tick : Int) : 0 ≤ capOf n link tick ∧ capOf n link tick ≤ 1073741824 := by
  unfold capOf
  split
  · rename_i x hx
    have := (h.link x (List.mem_of_getElem? hx)).hour (tick % 24).toNat (by omega)
    omega
  · omega
theorem NetGood.price {n : Net} (h : NetGood n) (link tick : Int) : 0 ≤ priceOf n link tick ∧ priceOf n link tick ≤ 1000000 := by
  unfold priceOf
  split
  · rename_i x hx
    have := (h.link x (List.mem_of_getElem? hx)).hour (tick % 24).toNat (by omega)
    omega
  · omega
def isum {α : Type} (f : α → Int) : List α → Int
  | [] => 0
  | x :: r => f x + isum f r
theorem isum_append {α : Type} (f : α → Int) : ∀ (a b : List α), isum f (a ++ b) = isum f a + isum f b
  | [], b => by simp [isum]
  | x :: a, b => by simp only [List.cons_append, isum, isum_append f a b]; omega
theorem take_of {α : Type} {l : List α} {k : Nat} {x : α} (h : l[k]? = some x) : l.take (k + 1) = l.take k ++ [x] := by
  obtain ⟨hlt, hx⟩ := List.getElem?_eq_some_iff.1 h
  rw [List.take_succ_eq_append_getElem hlt, hx]
theorem isum_take {α : Type} {f : α → Int} {l : List α} {k : Nat} {x : α} (h : l[k]? = some x) : isum f (l.take (k + 1)) = isum f (l.take k) + f x := by
  rw [take_of h, isum_append]; simp [isum]
theorem isum_bound {α : Type} {f : α → Int} {lo hi : Int} : ∀ {l : List α}, (∀ x ∈ l, lo ≤ f x ∧ f x ≤ hi) → lo * l.length ≤ isum f l ∧ isum f l ≤ hi * l.length
  | [], _ => by simp [isum]
  | x :: r, h => by
    have h1 := h x (by simp)
    have h2 := isum_bound (l := r) (fun y hy => h y (List.mem_cons_of_mem _ hy))
    simp only [isum, List.length_cons]
    rw [show ((r.length + 1 : Nat) : Int) = (r.length : Int) + 1 by omega, Int.mul_add, Int.mul_add]
    omega
theorem mem_take {α : Type} {l : List α} {k : Nat} {x : α} (h : x ∈ l.take k) : x ∈ l := List.mem_of_mem_take h
def fitsFrom (n : Net) : List Send → Int
  | [] => 0
  | x :: r => if capOf n x.link x.tick < x.bytes then 13 else fitsFrom n r
def fits (n : Net) (l : List Send) : Int := if right n l ≠ 0 then right n l else fitsFrom n l
theorem fitsFrom_at {n : Net} {l : List Send} {k : Nat} {x : Send} (h : l[k]? = some x) : fitsFrom n (l.drop k) = if capOf n x.link x.tick < x.bytes then 13 else fitsFrom n (l.drop (k + 1)) := by
  rw [drop_of h, fitsFrom]
theorem fitsFrom_zero {n : Net} : ∀ {l : List Send}, fitsFrom n l = 0 ↔ ∀ x ∈ l, x.bytes ≤ capOf n x.link x.tick
  | [] => by simp [fitsFrom]
  | x :: r => by
    rw [fitsFrom]
    split
    · rename_i h
      constructor
      · intro h'; simp at h'
      · intro h'; have := h' x (by simp); omega
    · rename_i h
      rw [fitsFrom_zero]
      constructor
      · intro h' y hy
        rcases List.mem_cons.1 hy with rfl | hy
        · omega
        · exact h' y hy
      · intro h' y hy; exact h' y (List.mem_cons_of_mem _ hy)
theorem fits_zero {n : Net} {l : List Send} : fits n l = 0 ↔ right n l = 0 ∧ ∀ x ∈ l, x.bytes ≤ capOf n x.link x.tick := by
  unfold fits
  split
  · rename_i h; exact ⟨fun h' => absurd h' h, fun h' => absurd h'.1 h⟩
  · rename_i h; rw [fitsFrom_zero]; exact ⟨fun h' => ⟨by omega, h'⟩, fun h' => h'.2⟩
def costSum (n : Net) (l : List Send) : Int := isum (fun x => x.bytes * priceOf n x.link x.tick) l
def cost (n : Net) (l : List Send) : Int × Int := if right n l ≠ 0 then (0, right n l) else (costSum n l, 0)
theorem send_cost {n : Net} {x : Send} (hn : NetGood n) (h : SendGood n x) : 0 ≤ x.bytes * priceOf n x.link x.tick ∧ x.bytes * priceOf n x.link x.tick ≤ 1073741824000000 := by
  have h1 := hn.price x.link x.tick
  refine ⟨Int.mul_nonneg (by have := h.b0; omega) h1.1, ?_⟩
  calc x.bytes * priceOf n x.link x.tick ≤ 1073741824 * 1000000 := Int.mul_le_mul h.b1 h1.2 h1.1 (by omega)
    _ = 1073741824000000 := by decide
theorem costSum_bound {n : Net} {l : List Send} (h : Sched n l) (k : Nat) : 0 ≤ costSum n (l.take k) ∧ costSum n (l.take k) ≤ 1073741824000000 * 2000 := by
  have := isum_bound (f := fun x : Send => x.bytes * priceOf n x.link x.tick) (l := l.take k) (lo := 0) (hi := 1073741824000000) (fun x hx => send_cost h.net (h.send x (mem_take hx)))
  have hl : (l.take k).length ≤ 2000 := by have := h.len; have := List.length_take_le' k l; omega
  unfold costSum
  omega
/-- the bytes over a link in a tick -/
def sentOver (l : List Send) (link tick : Int) : Int := isum (fun x => if x.link = link ∧ x.tick = tick then x.bytes else 0) l
def left (n : Net) (l : List Send) (link tick : Int) : Int × Int :=
  if right n l ≠ 0 then (0, right n l)
  else if link < 0 ∨ (n.links.length : Int) ≤ link ∨ tick < 0 ∨ 1000000 ≤ tick then (0, 1)
  else (capOf n link tick - sentOver l link tick, 0)
theorem sentOver_bound {n : Net} {l : List Send} (h : Sched n l) (link tick : Int) (k : Nat) : 0 ≤ sentOver (l.take k) link tick ∧ sentOver (l.take k) link tick ≤ 1073741824 * 2000 := by
  have := isum_bound (f := fun x : Send => if x.link = link ∧ x.tick = tick then x.bytes else 0) (l := l.take k) (lo := 0) (hi := 1073741824) (fun x hx => by
    have := h.send x (mem_take hx)
    have := this.b0
    have := (h.send x (mem_take hx)).b1
    split <;> omega)
  have hl : (l.take k).length ≤ 2000 := by have := h.len; have := List.length_take_le' k l; omega
  unfold sentOver
  omega
/-- a right demand -/
def demanded (n : Net) (d : Demand) : Prop := isHouse n d.src ∧ isHouse n d.dst ∧ 1 ≤ d.bytes ∧ d.bytes ≤ 1099511627776 ∧ 0 ≤ d.ready ∧ d.ready ≤ d.due ∧ d.due ≤ 1000000
instance (n : Net) (d : Demand) : Decidable (demanded n d) := by unfold demanded; infer_instance

theorem prevAt_pos {l : List Send} {k : Nat} {p : Send} (h : 0 < (k : Int)) (he : l[((k : Int) - 1).toNat]? = some p) : prevAt l k = some p := by
  cases k with
  | zero => simp at h
  | succ k =>
    rw [show (((k + 1 : Nat) : Int) - 1).toNat = k by omega] at he
    exact he
theorem right_next {n : Net} {l : List Send} {k : Nat} {x : Send} (he : l[k]? = some x) (h0 : ¬ x.link < 0) (h1 : ¬ (n.links.length : Int) ≤ x.link) (h2 : ¬ x.tick < 0) (h3 : ¬ 1000000 ≤ x.tick) (h4 : ¬ x.bytes < 1) (h5 : ¬ 1073741824 < x.bytes)
    (h6 : 0 < (k : Int) → ∀ p, l[((k : Int) - 1).toNat]? = some p → ¬ (x.tick < p.tick ∨ (x.tick = p.tick ∧ x.link ≤ p.link))) :
    rightFrom n (prevAt l k) (l.drop k) = rightFrom n (prevAt l (k + 1)) (l.drop (k + 1)) := by
  rw [rightFrom_at he, if_pos]
  cases k with
  | zero => exact sendErr_first h0 h1 h2 h3 h4 h5
  | succ k =>
    have hlt := (List.getElem?_eq_some_iff.1 he).1
    have hp : l[k]? = some l[k] := List.getElem?_eq_getElem (by omega)
    rw [prevAt, hp]
    refine sendErr_ok h0 h1 h2 h3 h4 h5 (h6 (by omega) _ ?_)
    rw [show (((k + 1 : Nat) : Int) - 1).toNat = k by omega, hp]
theorem right_stop {n : Net} {l : List Send} {k : Nat} {x : Send} {e : Int} (he : l[k]? = some x) (h : sendErr n (prevAt l k) x = e) (h0 : e ≠ 0) : rightFrom n (prevAt l k) (l.drop k) = e := by
  rw [rightFrom_at he, if_neg (by omega), h]
theorem right_disorder {n : Net} {l : List Send} {k : Nat} {x p : Send} (he : l[k]? = some x) (h0 : ¬ x.link < 0) (h1 : ¬ (n.links.length : Int) ≤ x.link) (h2 : ¬ x.tick < 0) (h3 : ¬ 1000000 ≤ x.tick) (h4 : ¬ x.bytes < 1) (h5 : ¬ 1073741824 < x.bytes)
    (hk : 0 < (k : Int)) (hp : l[((k : Int) - 1).toNat]? = some p) (h : x.tick < p.tick ∨ (x.tick = p.tick ∧ x.link ≤ p.link)) : rightFrom n (prevAt l k) (l.drop k) = 1 := by
  refine right_stop he ?_ (by decide)
  rw [prevAt_pos hk hp]
  exact sendErr_order h0 h1 h2 h3 h4 h5 h
theorem capOf_eq {n : Net} {link tick : Int} {x : Link} (h : n.links[link.toNat]? = some x) : capOf n link tick = x.cap.getD (tick % 24).toNat 0 := by unfold capOf; rw [h]
theorem priceOf_eq {n : Net} {link tick : Int} {x : Link} (h : n.links[link.toNat]? = some x) : priceOf n link tick = x.price.getD (tick % 24).toNat 0 := by unfold priceOf; rw [h]
theorem costSum_take {n : Net} {l : List Send} {k : Nat} {x : Send} (h : l[k]? = some x) : costSum n (l.take (k + 1)) = costSum n (l.take k) + x.bytes * priceOf n x.link x.tick := isum_take h
theorem sentOver_take {l : List Send} {k : Nat} {x : Send} {link tick : Int} (h : l[k]? = some x) : sentOver (l.take (k + 1)) link tick = sentOver (l.take k) link tick + if x.link = link ∧ x.tick = tick then x.bytes else 0 := isum_take h
theorem SlSend_len {l : List Send} (k : Nat) (h : ¬ (k : Int) < l.length) : l.take k = l := List.take_of_length_le (by omega)

/-! ### stock -/
def srcOf (n : Net) (link : Int) : Int := match n.links[link.toNat]? with | some x => x.src | none => 0
def dstOf (n : Net) (link : Int) : Int := match n.links[link.toNat]? with | some x => x.dst | none => 0
theorem srcOf_eq {n : Net} {link : Int} {x : Link} (h : n.links[link.toNat]? = some x) : srcOf n link = x.src := by unfold srcOf; rw [h]
theorem dstOf_eq {n : Net} {link : Int} {x : Link} (h : n.links[link.toNat]? = some x) : dstOf n link = x.dst := by unfold dstOf; rw [h]
abbrev Chg := Int × Int × Int
def encChg (c : Chg) : List Value := [.int .i64 c.1, .agg #[.int .i64 c.2.1, .int .i64 c.2.2]]
def changesOf (n : Net) (l : List Send) : List Chg := l.flatMap fun x => [(x.tick, srcOf n x.link, -x.bytes), (x.tick, dstOf n x.link, x.bytes)]
theorem changesOf_nil (n : Net) : changesOf n [] = [] := rfl
theorem changesOf_take {n : Net} {l : List Send} {k : Nat} {x : Send} {y : Link} (h : l[k]? = some x) (hy : n.links[x.link.toNat]? = some y) :
    changesOf n (l.take (k + 1)) = (changesOf n (l.take k) ++ [(x.tick, y.src, -x.bytes)]) ++ [(x.tick, y.dst, x.bytes)] := by
  rw [take_of h, changesOf, changesOf, List.flatMap_append]
  simp [srcOf_eq hy, dstOf_eq hy]
theorem changesOf_at {n : Net} {l : List Send} {k : Nat} {x : Send} {y : Link} (h : l[k]? = some x) (hy : n.links[x.link.toNat]? = some y) :
    changesOf n l = changesOf n (l.take k) ++ (x.tick, y.src, -x.bytes) :: (x.tick, y.dst, x.bytes) :: changesOf n (l.drop (k + 1)) := by
  conv => lhs; rw [← List.take_append_drop k l, drop_of h]
  simp only [changesOf, List.flatMap_append, List.flatMap_cons, srcOf_eq hy, dstOf_eq hy]
  rfl
def chgSum (h t : Int) (cs : List Chg) : Int := isum (fun c => if c.1 < t ∧ c.2.1 = h then c.2.2 else 0) cs
theorem chgSum_snoc (h t : Int) (cs : List Chg) (c : Chg) : chgSum h t (cs ++ [c]) = chgSum h t cs + if c.1 < t ∧ c.2.1 = h then c.2.2 else 0 := by
  rw [chgSum, isum_append]; simp [isum, chgSum]
theorem chg_bound {n : Net} {l : List Send} (h : Sched n l) {c : Chg} (hc : c ∈ changesOf n l) : -1073741824 ≤ c.2.2 ∧ c.2.2 ≤ 1073741824 := by
  obtain ⟨x, hx, hc⟩ := List.mem_flatMap.1 hc
  have h1 := (h.send x hx).b0
  have h2 := (h.send x hx).b1
  simp only [List.mem_cons, List.not_mem_nil, or_false] at hc
  rcases hc with rfl | rfl <;> simp only <;> omega
theorem changesOf_len (n : Net) (l : List Send) : (changesOf n l).length = 2 * l.length := by
  induction l with
  | nil => rfl
  | cons x l ih => simp only [changesOf, List.flatMap_cons, List.length_append, List.length_cons, List.length_nil] at ih ⊢; omega
theorem chgSum_bound {n : Net} {l : List Send} (h : Sched n l) (a t : Int) {pre post : List Chg} (hx : changesOf n l = pre ++ post) : -(1073741824 * 4000) ≤ chgSum a t pre ∧ chgSum a t pre ≤ 1073741824 * 4000 := by
  have := isum_bound (f := fun c : Chg => if c.1 < t ∧ c.2.1 = a then c.2.2 else 0) (l := pre) (lo := -1073741824) (hi := 1073741824) (fun c hc => by
    have := chg_bound h (c := c) (by rw [hx]; exact List.mem_append_left _ hc)
    split <;> omega)
  have hl := changesOf_len n l
  rw [hx, List.length_append] at hl
  have := h.len
  unfold chgSum
  omega
/-- the bytes of a demand in a house at a tick -/
def have' (n : Net) (l : List Send) (d : Demand) (h t : Int) : Int := (if h = d.src ∧ d.ready ≤ t then d.bytes else 0) + chgSum h t (changesOf n l)
theorem have_from {n : Net} {l : List Send} {d : Demand} {h t : Int} (h1 : h = d.src) (h2 : d.ready ≤ t) : have' n l d h t = d.bytes + chgSum h t (changesOf n l) := by rw [have', if_pos ⟨h1, h2⟩]
theorem have_else {n : Net} {l : List Send} {d : Demand} {h t : Int} (h1 : ¬ (h = d.src ∧ d.ready ≤ t)) : have' n l d h t = 0 + chgSum h t (changesOf n l) := by rw [have', if_neg h1]
def stock (n : Net) (l : List Send) (d : Demand) (h t : Int) : Int × Int :=
  if right n l ≠ 0 then (0, right n l)
  else if ¬ demanded n d ∨ ¬ isHouse n h ∨ t < 0 ∨ 1000000 < t then (0, 1)
  else (have' n l d h t, 0)

def have0 (d : Demand) (h t : Int) : Int := if h = d.src ∧ d.ready ≤ t then d.bytes else 0
theorem have0_pos {d : Demand} {h t : Int} (h1 : h = d.src) (h2 : d.ready ≤ t) : have0 d h t = d.bytes := by rw [have0, if_pos ⟨h1, h2⟩]
theorem have0_neg {d : Demand} {h t : Int} (h1 : ¬ (h = d.src ∧ d.ready ≤ t)) : have0 d h t = 0 := by rw [have0, if_neg h1]
theorem have_eq (n : Net) (l : List Send) (d : Demand) (h t : Int) : have' n l d h t = have0 d h t + chgSum h t (changesOf n l) := rfl
theorem chgSum_take {n : Net} {l : List Send} {k : Nat} {x : Send} {y : Link} (a t : Int) (h : l[k]? = some x) (hy : n.links[x.link.toNat]? = some y) :
    chgSum a t (changesOf n (l.take (k + 1))) = chgSum a t (changesOf n (l.take k)) + (if x.tick < t ∧ y.src = a then -x.bytes else 0) + (if x.tick < t ∧ y.dst = a then x.bytes else 0) := by
  rw [changesOf_take h hy, chgSum_snoc, chgSum_snoc]
theorem chgSum_skip {n : Net} {l : List Send} {k : Nat} {x : Send} (a t : Int) (h : l[k]? = some x) (ht : ¬ x.tick < t) : chgSum a t (changesOf n (l.take (k + 1))) = chgSum a t (changesOf n (l.take k)) := by
  rw [take_of h, changesOf, changesOf, List.flatMap_append, chgSum, chgSum, isum_append]
  simp [isum, ht]
theorem changesOf_take_split (n : Net) (l : List Send) (k : Nat) : changesOf n l = changesOf n (l.take k) ++ changesOf n (l.drop k) := by
  conv => lhs; rw [← List.take_append_drop k l]
  simp only [changesOf, List.flatMap_append]
theorem chgSum_boundk {n : Net} {l : List Send} (h : Sched n l) (a t : Int) (k : Nat) : -(1073741824 * 4000) ≤ chgSum a t (changesOf n (l.take k)) ∧ chgSum a t (changesOf n (l.take k)) ≤ 1073741824 * 4000 :=
  chgSum_bound h a t (changesOf_take_split n l k)
theorem have0_bound {d : Demand} (h : 0 ≤ d.bytes ∧ d.bytes ≤ 1099511627776) (a t : Int) : 0 ≤ have0 d a t ∧ have0 d a t ≤ 1099511627776 := by
  unfold have0; split <;> omega
theorem dem_bytes {n : Net} {d : Demand} (h : demanded n d) : 0 ≤ d.bytes ∧ d.bytes ≤ 1099511627776 := by unfold demanded at h; omega
theorem stock_err {n : Net} {l : List Send} {d : Demand} {h t : Int} (h1 : right n l ≠ 0) : stock n l d h t = (0, right n l) := by rw [stock, if_pos h1]
theorem stock_arg {n : Net} {l : List Send} {d : Demand} {h t : Int} (h1 : ¬ right n l ≠ 0) (h2 : ¬ demanded n d ∨ ¬ isHouse n h ∨ t < 0 ∨ 1000000 < t) : stock n l d h t = (0, 1) := by rw [stock, if_neg h1, if_pos h2]
theorem stock_ok {n : Net} {l : List Send} {d : Demand} {h t : Int} (h1 : ¬ right n l ≠ 0) (h2 : demanded n d) (h3 : isHouse n h) (h4 : ¬ t < 0) (h5 : ¬ 1000000 < t) : stock n l d h t = (have' n l d h t, 0) := by
  rw [stock, if_neg h1, if_neg]
  simp [h2, h3]
  omega

/-! ### Serves -/
/-- what is sent from a house in a tick -/
def outOf (n : Net) (l : List Send) (a t : Int) : Int := isum (fun y => if y.tick = t ∧ srcOf n y.link = a then y.bytes else 0) l
theorem outOf_take {n : Net} {l : List Send} {k : Nat} {x : Send} {y : Link} (a t : Int) (h : l[k]? = some x) (hy : n.links[x.link.toNat]? = some y) : outOf n (l.take (k + 1)) a t = outOf n (l.take k) a t + if x.tick = t ∧ y.src = a then x.bytes else 0 := by
  rw [outOf, isum_take h, srcOf_eq hy]; rfl
theorem outOf_skip {n : Net} {l : List Send} {k : Nat} {x : Send} (a t : Int) (h : l[k]? = some x) (ht : ¬ x.tick = t) : outOf n (l.take (k + 1)) a t = outOf n (l.take k) a t := by
  rw [outOf, isum_take h, if_neg (by simp [ht])]; simp [outOf]
theorem outOf_bound {n : Net} {l : List Send} (h : Sched n l) (a t : Int) (k : Nat) : 0 ≤ outOf n (l.take k) a t ∧ outOf n (l.take k) a t ≤ 1073741824 * 2000 := by
  have := isum_bound (f := fun y : Send => if y.tick = t ∧ srcOf n y.link = a then y.bytes else 0) (l := l.take k) (lo := 0) (hi := 1073741824) (fun x hx => by
    have := (h.send x (mem_take hx)).b0
    have := (h.send x (mem_take hx)).b1
    split <;> omega)
  have hl : (l.take k).length ≤ 2000 := by have := h.len; have := List.length_take_le' k l; omega
  unfold outOf
  omega
def late (n : Net) (l : List Send) (d : Demand) : Int := if have' n l d d.dst d.due < d.bytes then 21 else 0
/-- more is sent than is there -/
def bad (n : Net) (l : List Send) (d : Demand) (x : Send) : Prop := have' n l d (srcOf n x.link) x.tick < outOf n l (srcOf n x.link) x.tick
instance (n : Net) (l : List Send) (d : Demand) (x : Send) : Decidable (bad n l d x) := by unfold bad; infer_instance
def serves (n : Net) (l : List Send) (d : Demand) : Int :=
  if right n l ≠ 0 then right n l else if ¬ demanded n d then 1 else if fits n l ≠ 0 then fits n l
  else if ∃ x ∈ l, bad n l d x then 4 else late n l d
theorem serves_right {n : Net} {l : List Send} {d : Demand} (h : right n l ≠ 0) : serves n l d = right n l := by rw [serves, if_pos h]
theorem serves_arg {n : Net} {l : List Send} {d : Demand} (h : ¬ right n l ≠ 0) (h1 : ¬ demanded n d) : serves n l d = 1 := by rw [serves, if_neg h, if_pos h1]
theorem serves_fits {n : Net} {l : List Send} {d : Demand} (h : ¬ right n l ≠ 0) (h1 : demanded n d) (h2 : fits n l ≠ 0) : serves n l d = fits n l := by rw [serves, if_neg h, if_neg (not_not_intro h1), if_pos h2]
theorem serves_bad {n : Net} {l : List Send} {d : Demand} (h : ¬ right n l ≠ 0) (h1 : demanded n d) (h2 : ¬ fits n l ≠ 0) {k : Nat} {x : Send} (hx : l[k]? = some x) (hb : bad n l d x) : serves n l d = 4 := by
  rw [serves, if_neg h, if_neg (not_not_intro h1), if_neg h2, if_pos ⟨x, List.mem_of_getElem? hx, hb⟩]
theorem serves_late {n : Net} {l : List Send} {d : Demand} (h : ¬ right n l ≠ 0) (h1 : demanded n d) (h2 : ¬ fits n l ≠ 0) (hb : ∀ (j : Nat) x, l[j]? = some x → ¬ bad n l d x) : serves n l d = late n l d := by
  rw [serves, if_neg h, if_neg (not_not_intro h1), if_neg h2, if_neg]
  rintro ⟨x, hx, hbx⟩
  obtain ⟨j, hj⟩ := List.getElem?_of_mem hx
  exact hb j x hj hbx
theorem outOf_mono {n : Net} {l : List Send} (h : Sched n l) (a t : Int) (k : Nat) : outOf n (l.take k) a t ≤ outOf n l a t := by
  conv => rhs; rw [← List.take_append_drop k l]
  rw [outOf, outOf, isum_append]
  have := isum_bound (f := fun y : Send => if y.tick = t ∧ srcOf n y.link = a then y.bytes else 0) (l := l.drop k) (lo := 0) (hi := 1073741824) (fun x hx => by
    have := (h.send x (List.mem_of_mem_drop hx)).b0
    have := (h.send x (List.mem_of_mem_drop hx)).b1
    split <;> omega)
  omega
theorem last_of {α : Type} (p : α → Prop) [DecidablePred p] : ∀ (l : List α), (∃ x ∈ l, p x) → ∃ (k : Nat) (x : α), l[k]? = some x ∧ p x ∧ ∀ y ∈ l.drop (k + 1), ¬ p y
  | [], h => by simp at h
  | z :: l, h => by
    by_cases ht : ∃ x ∈ l, p x
    · obtain ⟨k, x, h1, h2, h3⟩ := last_of p l ht
      exact ⟨k + 1, x, by simpa using h1, h2, by simpa using h3⟩
    · obtain ⟨x, hx, hp⟩ := h
      rcases List.mem_cons.1 hx with rfl | hx
      · exact ⟨0, x, rfl, hp, fun y hy hpy => ht ⟨y, by simpa using hy, hpy⟩⟩
      · exact absurd ⟨x, hx, hp⟩ ht
theorem isum_zero {α : Type} {f : α → Int} : ∀ {l : List α}, (∀ x ∈ l, f x = 0) → isum f l = 0
  | [], _ => rfl
  | x :: r, h => by rw [isum, h x (by simp), isum_zero fun y hy => h y (List.mem_cons_of_mem _ hy)]; rfl
/-- the sum up to the last send from that house in that tick is the whole -/
theorem outOf_last {n : Net} {l : List Send} {a t : Int} (h : ∃ x ∈ l, srcOf n x.link = a ∧ x.tick = t) : ∃ k x, l[k]? = some x ∧ srcOf n x.link = a ∧ x.tick = t ∧ outOf n (l.take (k + 1)) a t = outOf n l a t := by
  obtain ⟨k, x, h1, ⟨h2, h3⟩, h4⟩ := last_of (fun x : Send => srcOf n x.link = a ∧ x.tick = t) l h
  refine ⟨k, x, h1, h2, h3, ?_⟩
  conv => rhs; rw [← List.take_append_drop (k + 1) l]
  rw [outOf, outOf, isum_append, isum_zero (l := l.drop (k + 1)), Int.add_zero]
  intro y hy
  rw [if_neg]
  exact fun hc => h4 y hy ⟨hc.2, hc.1⟩
/-- by the sums up to each send -/
theorem bad_prefix {n : Net} {l : List Send} {d : Demand} (hg : Sched n l) {k : Nat} {x : Send} {y : Link} (hx : l[k]? = some x) (hy : n.links[x.link.toNat]? = some y) (h : have' n l d y.src x.tick < outOf n (l.take (k + 1)) y.src x.tick) : bad n l d x := by
  have := outOf_mono hg y.src x.tick (k + 1)
  unfold bad
  rw [srcOf_eq hy]
  omega
theorem no_bad {n : Net} {l : List Send} {d : Demand} (h : ∀ (j : Nat) (x : Send), l[j]? = some x → ¬ have' n l d (srcOf n x.link) x.tick < outOf n (l.take (j + 1)) (srcOf n x.link) x.tick) : ∀ (j : Nat) x, l[j]? = some x → ¬ bad n l d x := by
  intro j x hx hb
  obtain ⟨k, z, h1, h2, h3, h4⟩ := outOf_last (n := n) (l := l) (a := srcOf n x.link) (t := x.tick) ⟨x, List.mem_of_getElem? hx, rfl, rfl⟩
  refine h k z h1 ?_
  rw [h2, h3, h4]
  exact hb
/-- none so far is bad; the program's and the document's way -/
theorem none_step {n : Net} {k : Nat} {l : List Send} {P : Nat → Send → Prop} {x : Send} (h : ∀ (j : Nat) y, j < k → l[j]? = some y → P j y) (hx : l[k]? = some x) (hp : P k x) : ∀ (j : Nat) y, j < k + 1 → l[j]? = some y → P j y := by
  intro j y hj hy
  rcases Nat.lt_or_ge j k with h' | h'
  · exact h j y h' hy
  · obtain rfl : j = k := by omega
    rw [hx] at hy
    cases hy
    exact hp

/-! ### Arrives -/
def atOk (n : Net) (l : List Send) (d : Demand) (t : Int) : Prop := d.ready ≤ t ∧ t ≤ d.due ∧ d.bytes ≤ have' n l d d.dst t
instance (n : Net) (l : List Send) (d : Demand) (t : Int) : Decidable (atOk n l d t) := by unfold atOk; infer_instance
def arriveFrom (n : Net) (l : List Send) (d : Demand) : List Send → Int
  | [] => d.due
  | x :: r => if atOk n l d (x.tick + 1) then x.tick + 1 else arriveFrom n l d r
theorem arriveFrom_at {n : Net} {l : List Send} {d : Demand} {k : Nat} {x : Send} (h : l[k]? = some x) : arriveFrom n l d (l.drop k) = if atOk n l d (x.tick + 1) then x.tick + 1 else arriveFrom n l d (l.drop (k + 1)) := by
  rw [drop_of h, arriveFrom]
def arriveTick (n : Net) (l : List Send) (d : Demand) : Int := if atOk n l d d.ready then d.ready else arriveFrom n l d l
def arrives (n : Net) (l : List Send) (d : Demand) : Int × Int := if serves n l d ≠ 0 then (0, serves n l d) else (arriveTick n l d, 0)
theorem serves_zero {n : Net} {l : List Send} {d : Demand} (h : serves n l d = 0) : right n l = 0 ∧ demanded n d ∧ fits n l = 0 ∧ (∀ x ∈ l, ¬ bad n l d x) ∧ d.bytes ≤ have' n l d d.dst d.due := by
  unfold serves at h
  split at h
  · contradiction
  · rename_i h1
    split at h
    · simp at h
    · rename_i h2
      split at h
      · contradiction
      · rename_i h3
        split at h
        · simp at h
        · rename_i h4
          unfold late at h
          split at h
          · simp at h
          · exact ⟨by omega, Classical.not_not.1 h2, by omega, fun x hx hb => h4 ⟨x, hx, hb⟩, by omega⟩
/-- the document's way: the least tick behind a send -/
def bestOf (n : Net) (l : List Send) (d : Demand) : Int → List Send → Int
  | b, [] => b
  | b, x :: r => bestOf n l d (if d.ready ≤ x.tick + 1 ∧ x.tick + 1 < b ∧ d.bytes ≤ have' n l d d.dst (x.tick + 1) then x.tick + 1 else b) r
theorem bestOf_stay {n : Net} {l : List Send} {d : Demand} : ∀ {r : List Send} {b : Int}, (∀ x ∈ r, b ≤ x.tick + 1) → bestOf n l d b r = b
  | [], _, _ => rfl
  | x :: r, b, h => by
    have := h x (by simp)
    rw [bestOf, if_neg (by omega)]
    exact bestOf_stay fun y hy => h y (List.mem_cons_of_mem _ hy)
theorem bestOf_eq {n : Net} {l : List Send} {d : Demand} : ∀ {r : List Send}, r.Pairwise Before → bestOf n l d d.due r = arriveFrom n l d r
  | [], _ => rfl
  | x :: r, h => by
    obtain ⟨h1, h2⟩ := List.pairwise_cons.1 h
    have hle : ∀ y ∈ r, x.tick + 1 ≤ y.tick + 1 := fun y hy => by have := h1 y hy; unfold Before at this; omega
    rw [bestOf, arriveFrom]
    by_cases ha : atOk n l d (x.tick + 1)
    · rw [if_pos ha]
      unfold atOk at ha
      by_cases hd : x.tick + 1 < d.due
      · rw [if_pos ⟨ha.1, hd, ha.2.2⟩]
        exact bestOf_stay hle
      · rw [if_neg (by omega), bestOf_stay fun y hy => by have := hle y hy; omega]
        omega
    · rw [if_neg ha]
      unfold atOk at ha
      rw [if_neg (by omega)]
      exact bestOf_eq h2

theorem bestOf_append {n : Net} {l : List Send} {d : Demand} : ∀ {r : List Send} {b : Int} {x : Send}, bestOf n l d b (r ++ [x]) = if d.ready ≤ x.tick + 1 ∧ x.tick + 1 < bestOf n l d b r ∧ d.bytes ≤ have' n l d d.dst (x.tick + 1) then x.tick + 1 else bestOf n l d b r
  | [], _, _ => rfl
  | y :: r, b, x => by rw [List.cons_append, bestOf, bestOf_append]; rfl
theorem bestOf_take {n : Net} {l : List Send} {d : Demand} {b : Int} {k : Nat} {x : Send} (h : l[k]? = some x) : bestOf n l d b (l.take (k + 1)) = if d.ready ≤ x.tick + 1 ∧ x.tick + 1 < bestOf n l d b (l.take k) ∧ d.bytes ≤ have' n l d d.dst (x.tick + 1) then x.tick + 1 else bestOf n l d b (l.take k) := by
  rw [take_of h, bestOf_append]
theorem arrives_err {n : Net} {l : List Send} {d : Demand} (h : serves n l d ≠ 0) : arrives n l d = (0, serves n l d) := by rw [arrives, if_pos h]
theorem arrives_ok {n : Net} {l : List Send} {d : Demand} (h : ¬ serves n l d ≠ 0) : arrives n l d = (arriveTick n l d, 0) := by rw [arrives, if_neg h]
theorem arriveTick_ready {n : Net} {l : List Send} {d : Demand} (h : ¬ serves n l d ≠ 0) (h1 : d.bytes ≤ have' n l d d.dst d.ready) : arriveTick n l d = d.ready := by
  have := (serves_zero (n := n) (l := l) (d := d) (by omega)).2.1
  unfold demanded at this
  rw [arriveTick, if_pos ⟨Int.le_refl _, by omega, h1⟩]
theorem arriveTick_best {n : Net} {l : List Send} {d : Demand} (h : ¬ serves n l d ≠ 0) (h1 : ¬ d.bytes ≤ have' n l d d.dst d.ready) : arriveTick n l d = bestOf n l d d.due l := by
  have := right_zero (serves_zero (n := n) (l := l) (d := d) (by omega)).1
  rw [arriveTick, if_neg (fun h2 => h1 h2.2.2), bestOf_eq this.ord]
theorem lk {o : Option Value} {a b : Int} (h : o = some (.int .i64 a)) (e : a = b) : o = some (.int .i64 b) := e ▸ h

/-! ### Join -/
/-- one step of the document's put: what has been laid so far, and whether x is in it -/
def putStep (x : Send) (st : List Send × Bool) (y : Send) : List Send × Bool :=
  if st.2 = false ∧ y.tick = x.tick ∧ y.link = x.link then (st.1 ++ [⟨y.link, y.tick, y.bytes + x.bytes⟩], true)
  else if st.2 = false ∧ (x.tick < y.tick ∨ (y.tick = x.tick ∧ x.link < y.link)) then ((st.1 ++ [x]) ++ [y], true)
  else (st.1 ++ [y], st.2)
def putFold (x : Send) (l : List Send) : List Send × Bool := l.foldl (putStep x) ([], false)
def putL (l : List Send) (x : Send) : List Send := if (putFold x l).2 then (putFold x l).1 else (putFold x l).1 ++ [x]
theorem putFold_take {x : Send} {l : List Send} {k : Nat} {y : Send} (h : l[k]? = some y) : putFold x (l.take (k + 1)) = putStep x (putFold x (l.take k)) y := by
  rw [take_of h, putFold, List.foldl_append]; rfl
theorem putStep_len (x : Send) (st : List Send × Bool) (y : Send) : (putStep x st y).1.length ≤ st.1.length + 2 := by
  unfold putStep; split
  · simp
  · split <;> simp
theorem putFold_len (x : Send) (l : List Send) : (putFold x l).1.length ≤ 2 * l.length := by
  unfold putFold
  suffices h : ∀ (l : List Send) (st : List Send × Bool), (l.foldl (putStep x) st).1.length ≤ st.1.length + 2 * l.length by simpa using h l ([], false)
  intro l
  induction l with
  | nil => intro st; simp
  | cons y l ih =>
    intro st
    have h1 := ih (putStep x st y)
    have h2 := putStep_len x st y
    simp only [List.foldl_cons, List.length_cons]
    omega
theorem putStep_same {x y : Send} {st : List Send × Bool} (h0 : st.2 = false) (h1 : y.tick = x.tick) (h2 : y.link = x.link) : putStep x st y = (st.1 ++ [⟨y.link, y.tick, y.bytes + x.bytes⟩], true) := by rw [putStep, if_pos ⟨h0, h1, h2⟩]
theorem putStep_ins {x y : Send} {st : List Send × Bool} (h0 : st.2 = false) (h1 : x.tick < y.tick ∨ (y.tick = x.tick ∧ x.link < y.link)) : putStep x st y = ((st.1 ++ [x]) ++ [y], true) := by
  rw [putStep, if_neg (by omega), if_pos ⟨h0, h1⟩]
theorem putStep_keep {x y : Send} {st : List Send × Bool} (h0 : st.2 = false) (h1 : ¬ (y.tick = x.tick ∧ y.link = x.link)) (h2 : ¬ (x.tick < y.tick ∨ (y.tick = x.tick ∧ x.link < y.link))) : putStep x st y = (st.1 ++ [y], false) := by
  rw [putStep, if_neg (fun h => h1 h.2), if_neg (fun h => h2 h.2), h0]
theorem putStep_done {x y : Send} {st : List Send × Bool} (h0 : st.2 = true) : putStep x st y = (st.1 ++ [y], true) := by
  rw [putStep, if_neg (by simp [h0]), if_neg (by simp [h0]), h0]

def putAll (xs : List Send) : List Send := xs.foldl putL []
theorem putAll_snoc (xs : List Send) (x : Send) : putAll (xs ++ [x]) = putL (putAll xs) x := by rw [putAll, List.foldl_append]; rfl
/-- what holds of all that put lays, holds of what comes out -/
theorem putStep_all {x y : Send} {st : List Send × Bool} {P : Send → Prop} (hst : ∀ z ∈ st.1, P z) (hx : P x) (hy : P y) (hs : P ⟨y.link, y.tick, y.bytes + x.bytes⟩) : ∀ z ∈ (putStep x st y).1, P z := by
  unfold putStep
  split
  · intro z hz
    rcases List.mem_append.1 hz with hz | hz
    · exact hst z hz
    · simp at hz; subst hz; exact hs
  · split
    · intro z hz
      simp only [List.append_assoc, List.mem_append, List.mem_singleton] at hz
      rcases hz with hz | rfl | rfl
      · exact hst z hz
      · exact hx
      · exact hy
    · intro z hz
      rcases List.mem_append.1 hz with hz | hz
      · exact hst z hz
      · simp at hz; subst hz; exact hy
theorem putL_all {x : Send} {l : List Send} {P : Send → Prop} (hx : P x) (hl : ∀ y ∈ l, P y ∧ P ⟨y.link, y.tick, y.bytes + x.bytes⟩) : ∀ z ∈ putL l x, P z := by
  have h : ∀ (l : List Send) (st : List Send × Bool), (∀ z ∈ st.1, P z) → (∀ y ∈ l, P y ∧ P ⟨y.link, y.tick, y.bytes + x.bytes⟩) → ∀ z ∈ (l.foldl (putStep x) st).1, P z := by
    intro l
    induction l with
    | nil => intro st hst _; exact hst
    | cons y l ih =>
      intro st hst hl
      exact ih _ (putStep_all hst hx (hl y (by simp)).1 (hl y (by simp)).2) (fun z hz => hl z (List.mem_cons_of_mem _ hz))
  have h1 := h l ([], false) (by simp) hl
  unfold putL
  split
  · exact h1
  · intro z hz
    rcases List.mem_append.1 hz with hz | hz
    · exact h1 z hz
    · simp at hz; subst hz; exact hx
theorem putL_len (l : List Send) (x : Send) : (putL l x).length ≤ l.length + 1 := by
  have h : ∀ (l : List Send) (st : List Send × Bool), (l.foldl (putStep x) st).1.length + (if (l.foldl (putStep x) st).2 then 0 else 1) ≤ st.1.length + l.length + (if st.2 then 0 else 1) := by
    intro l
    induction l with
    | nil => intro st; exact Nat.le_refl _
    | cons y l ih =>
      intro st
      have h1 := ih (putStep x st y)
      have h2 : (putStep x st y).1.length + (if (putStep x st y).2 then 0 else 1) ≤ st.1.length + 1 + (if st.2 then 0 else 1) := by
        unfold putStep
        split
        · simp
        · split
          · rename_i h; simp [h.1]
          · simp
      refine Nat.le_trans h1 ?_
      rw [List.length_cons]
      omega
  have h1 := h l ([], false)
  unfold putL putFold
  split
  · rename_i h2; simp [h2] at h1; omega
  · rename_i h2; simp [h2] at h1; simp; omega
theorem putAll_len : ∀ (xs : List Send), (putAll xs).length ≤ xs.length := by
  intro xs
  suffices h : ∀ (xs acc : List Send), (xs.foldl putL acc).length ≤ acc.length + xs.length by simpa [putAll] using h xs []
  intro xs
  induction xs with
  | nil => intro acc; simp
  | cons x xs ih => intro acc; have := ih (putL acc x); have := putL_len acc x; simp only [List.foldl_cons, List.length_cons]; omega
theorem putAll_bytes {xs : List Send} (h : ∀ x ∈ xs, 1 ≤ x.bytes ∧ x.bytes ≤ 1073741824) : ∀ y ∈ putAll xs, 1 ≤ y.bytes ∧ y.bytes ≤ 1073741824 * xs.length := by
  suffices h' : ∀ (xs acc : List Send) (m : Nat), (∀ x ∈ xs, 1 ≤ x.bytes ∧ x.bytes ≤ 1073741824) → (∀ y ∈ acc, 1 ≤ y.bytes ∧ y.bytes ≤ 1073741824 * m) → ∀ y ∈ xs.foldl putL acc, 1 ≤ y.bytes ∧ y.bytes ≤ 1073741824 * (m + xs.length : Nat) by
    have := h' xs [] 0 h (by simp)
    simpa [putAll] using this
  intro xs
  induction xs with
  | nil => intro acc m _ ha; simpa using ha
  | cons x xs ih =>
    intro acc m hx ha
    have hx1 := hx x (by simp)
    have := ih (putL acc x) (m + 1) (fun z hz => hx z (List.mem_cons_of_mem _ hz)) (putL_all (P := fun z => 1 ≤ z.bytes ∧ z.bytes ≤ 1073741824 * (m + 1 : Nat)) (by omega) fun y hy => by
      have := ha y hy
      refine ⟨by omega, ?_⟩
      show 1 ≤ y.bytes + x.bytes ∧ y.bytes + x.bytes ≤ _
      omega)
    rw [List.foldl_cons, List.length_cons]
    intro y hy
    have := this y hy
    rw [show m + (xs.length + 1) = m + 1 + xs.length by omega]
    exact this

/-- a slice's head -/
structure Hd where
  l : List Send
  a : Option Addr
  c : Nat
def encHd (h : Hd) : List Value := [.slice h.a h.l.length h.c]
def sends (ls : List Hd) : List Send := ls.flatMap (·.l)
/-- the first error of schedules -/
def rights (n : Net) : List Hd → Int
  | [] => 0
  | h :: r => if right n h.l = 0 then rights n r else right n h.l
theorem rights_at {n : Net} {ls : List Hd} {k : Nat} {h : Hd} (hk : ls[k]? = some h) : rights n (ls.drop k) = if right n h.l = 0 then rights n (ls.drop (k + 1)) else right n h.l := by
  rw [drop_of hk, rights]
theorem rights_zero {n : Net} : ∀ {ls : List Hd}, rights n ls = 0 → ∀ h ∈ ls, right n h.l = 0
  | [], _, _, h => by simp at h
  | x :: r, h, y, hy => by
    rw [rights] at h
    split at h
    · rename_i h0
      rcases List.mem_cons.1 hy with rfl | hy
      · exact h0
      · exact rights_zero h y hy
    · rename_i h0; exact absurd h h0
def over (l : List Send) : Prop := ∃ x ∈ l, 1073741824 < x.bytes
instance (l : List Send) : Decidable (over l) := by unfold over; infer_instance
def join (n : Net) (ls : List Hd) : List Send × Int :=
  if netCheck n ≠ 0 then ([], netCheck n) else if rights n ls ≠ 0 then ([], rights n ls)
  else if 2000 < (putAll (sends ls)).length then ([], 2) else if over (putAll (sends ls)) then ([], 3) else (putAll (sends ls), 0)
theorem join_check {n : Net} {ls : List Hd} (h : netCheck n ≠ 0) : join n ls = ([], netCheck n) := by rw [join, if_pos h]
theorem join_rights {n : Net} {ls : List Hd} (h : ¬ netCheck n ≠ 0) (h1 : rights n ls ≠ 0) : join n ls = ([], rights n ls) := by rw [join, if_neg h, if_pos h1]
theorem join_limit {n : Net} {ls : List Hd} (h : ¬ netCheck n ≠ 0) (h1 : rights n ls = 0) (h2 : 2000 < (putAll (sends ls)).length) : join n ls = ([], 2) := by rw [join, if_neg h, if_neg (by omega), if_pos h2]
theorem join_range {n : Net} {ls : List Hd} (h : ¬ netCheck n ≠ 0) (h1 : rights n ls = 0) (h2 : ¬ 2000 < (putAll (sends ls)).length) (h3 : over (putAll (sends ls))) : join n ls = ([], 3) := by rw [join, if_neg h, if_neg (by omega), if_neg h2, if_pos h3]
theorem join_ok {n : Net} {ls : List Hd} (h : ¬ netCheck n ≠ 0) (h1 : rights n ls = 0) (h2 : ¬ 2000 < (putAll (sends ls)).length) (h3 : ¬ over (putAll (sends ls))) : join n ls = (putAll (sends ls), 0) := by rw [join, if_neg h, if_neg (by omega), if_neg h2, if_neg h3]
theorem sends_take {ls : List Hd} {k : Nat} {h : Hd} (hk : ls[k]? = some h) : sends (ls.take (k + 1)) = sends (ls.take k) ++ h.l := by
  rw [take_of hk, sends, sends, List.flatMap_append]; simp
theorem sends_bound {n : Net} {ls : List Hd} (h : rights n ls = 0) (h4 : ls.length ≤ 4) (k : Nat) : (sends (ls.take k)).length ≤ 8000 ∧ ∀ x ∈ sends (ls.take k), 1 ≤ x.bytes ∧ x.bytes ≤ 1073741824 := by
  refine ⟨?_, fun x hx => ?_⟩
  · have : ∀ (r : List Hd), (∀ y ∈ r, y.l.length ≤ 2000) → (sends r).length ≤ 2000 * r.length := by
      intro r
      induction r with
      | nil => intro _; simp [sends]
      | cons y r ih =>
        intro hr
        have h1 := hr y (by simp)
        have h2 := ih fun z hz => hr z (List.mem_cons_of_mem _ hz)
        simp only [sends, List.flatMap_cons, List.length_append, List.length_cons] at h2 ⊢
        omega
    have h1 := this (ls.take k) fun y hy => (right_zero (rights_zero h y (List.mem_of_mem_take hy))).len
    have h2 := List.length_take_le' k ls
    omega
  · obtain ⟨y, hy, hxy⟩ := List.mem_flatMap.1 hx
    have := (right_zero (rights_zero h y (List.mem_of_mem_take hy))).send x hxy
    exact ⟨this.b0, this.b1⟩

def lsAt (ls : List Hd) (k : Nat) : List Send := match ls[k]? with | some h => h.l | none => []
theorem lsAt_eq {ls : List Hd} {k : Nat} {h : Hd} (hk : ls[k]? = some h) : lsAt ls k = h.l := by unfold lsAt; rw [hk]
def soFar (ls : List Hd) (k j : Nat) : List Send := sends (ls.take k) ++ (lsAt ls k).take j
theorem soFar_zero (ls : List Hd) (k : Nat) : soFar ls k 0 = sends (ls.take k) := by simp [soFar]
theorem soFar_step {ls : List Hd} {k j : Nat} {h : Hd} {x : Send} (hk : ls[k]? = some h) (hx : h.l[j]? = some x) : soFar ls k (j + 1) = soFar ls k j ++ [x] := by
  rw [soFar, soFar, lsAt_eq hk, take_of hx, List.append_assoc]
theorem soFar_end {ls : List Hd} {k j : Nat} {h : Hd} (hk : ls[k]? = some h) (hj : h.l.length ≤ j) : soFar ls k j = sends (ls.take (k + 1)) := by
  rw [soFar, lsAt_eq hk, sends_take hk, List.take_of_length_le hj]
theorem soFar_bound {n : Net} {ls : List Hd} (h : rights n ls = 0) (h4 : ls.length ≤ 4) (k j : Nat) : (putAll (soFar ls k j)).length ≤ 16000 ∧ ∀ y ∈ putAll (soFar ls k j), 0 ≤ y.bytes ∧ y.bytes ≤ 1000000000000000 := by
  have h1 := sends_bound h h4 k
  have hl : (lsAt ls k).length ≤ 2000 ∧ ∀ x ∈ lsAt ls k, 1 ≤ x.bytes ∧ x.bytes ≤ 1073741824 := by
    unfold lsAt
    cases hk : ls[k]? with
    | none => simp
    | some y =>
      have hr := right_zero (rights_zero h y (List.mem_of_getElem? hk))
      exact ⟨hr.len, fun x hx => ⟨(hr.send x hx).b0, (hr.send x hx).b1⟩⟩
  have hlen : (soFar ls k j).length ≤ 10000 := by
    have := List.length_take_le' j (lsAt ls k)
    rw [soFar, List.length_append]; omega
  have hb : ∀ x ∈ soFar ls k j, 1 ≤ x.bytes ∧ x.bytes ≤ 1073741824 := fun x hx => by
    rcases List.mem_append.1 hx with hx | hx
    · exact h1.2 x hx
    · exact hl.2 x (List.mem_of_mem_take hx)
  have h2 := putAll_len (soFar ls k j)
  refine ⟨by omega, fun y hy => ?_⟩
  have := putAll_bytes hb y hy
  omega
theorem over_of {l : List Send} {k : Nat} {x : Send} (hx : l[k]? = some x) (h : 1073741824 < x.bytes) : over l := ⟨x, List.mem_of_getElem? hx, h⟩
theorem not_over {l : List Send} (h : ∀ (j : Nat) x, l[j]? = some x → ¬ 1073741824 < x.bytes) : ¬ over l := by
  rintro ⟨x, hx, hb⟩
  obtain ⟨j, hj⟩ := List.getElem?_of_mem hx
  exact h j x hj hb

end Go.Q
