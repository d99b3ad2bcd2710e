/- Layer 15: two schedules joined. -/
import Derived.Test.YtgcpocaaepoafaaS15f
set_option linter.unusedVariables false
set_option linter.unusedSimpArgs false
set_option linter.unusedSectionVars false
namespace Go.Q
open Go

/-- what is additive in the bytes -/
def Additive (F : Send → Int) : Prop := ∀ l t b c, F ⟨l, t, b + c⟩ = F ⟨l, t, b⟩ + F ⟨l, t, c⟩
theorem ins_isum {F : Send → Int} (hF : Additive F) (x : Send) : ∀ (l : List Send), isum F (ins x l) = isum F l + F x
  | [] => by simp [ins, isum]
  | y :: l => by
    rw [ins]
    split
    · rename_i h
      have e : F x = F ⟨y.link, y.tick, x.bytes⟩ := by rw [h.1, h.2]
      have e2 : F y = F ⟨y.link, y.tick, y.bytes⟩ := rfl
      simp only [isum, hF y.link y.tick y.bytes x.bytes, e, e2]
      omega
    · split
      · simp only [isum]; omega
      · simp only [isum, ins_isum hF x l]; omega
theorem putAll_isum {F : Send → Int} (hF : Additive F) (xs : List Send) : isum F (putAll xs) = isum F xs := by
  suffices h : ∀ (xs acc : List Send), isum F (xs.foldl putL acc) = isum F acc + isum F xs by have := h xs []; simpa [putAll, isum] using this
  intro xs
  induction xs with
  | nil => intro acc; simp [isum]
  | cons x xs ih => intro acc; rw [List.foldl_cons, ih, putL_ins, ins_isum hF]; simp only [isum]; omega
theorem add_sent (link tick : Int) : Additive (fun x => if x.link = link ∧ x.tick = tick then x.bytes else 0) := fun l t b c => by simp only; split <;> omega
theorem add_cost (n : Net) : Additive (fun x => x.bytes * priceOf n x.link x.tick) := fun l t b c => by simp only; exact Int.add_mul _ _ _
theorem sent_putAll (xs : List Send) (link tick : Int) : sentOver (putAll xs) link tick = sentOver xs link tick := putAll_isum (add_sent link tick) xs
theorem sent_append (a b : List Send) (link tick : Int) : sentOver (a ++ b) link tick = sentOver a link tick + sentOver b link tick := isum_append _ _ _
theorem sent_nonneg {l : List Send} (h : ∀ x ∈ l, 1 ≤ x.bytes) (link tick : Int) : 0 ≤ sentOver l link tick := isum_nonneg fun x hx => by have := h x hx; split <;> omega
theorem sent_ge {l : List Send} (h : ∀ x ∈ l, 1 ≤ x.bytes) {x : Send} (hx : x ∈ l) : x.bytes ≤ sentOver l x.link x.tick := by
  induction l with
  | nil => simp at hx
  | cons y l ih =>
    have h1 := h y (by simp)
    have h2 := sent_nonneg (l := l) (fun z hz => h z (List.mem_cons_of_mem _ hz)) x.link x.tick
    have e : sentOver (y :: l) x.link x.tick = (if y.link = x.link ∧ y.tick = x.tick then y.bytes else 0) + sentOver l x.link x.tick := rfl
    rw [e]
    rcases List.mem_cons.1 hx with rfl | hx
    · rw [if_pos ⟨rfl, rfl⟩]; omega
    · have := ih (fun z hz => h z (List.mem_cons_of_mem _ hz)) hx
      split <;> omega
theorem sent_pos {l : List Send} {link tick : Int} (h : 1 ≤ sentOver l link tick) : ∃ y ∈ l, y.link = link ∧ y.tick = tick := by
  by_cases hex : ∃ y ∈ l, y.link = link ∧ y.tick = tick
  · exact hex
  · have : sentOver l link tick = 0 := isum_zero fun y hy => by rw [if_neg]; exact fun hc => hex ⟨y, hy, hc⟩
    omega
theorem sent_later {x : Send} {l : List Send} (h : ∀ y ∈ l, Before x y) : sentOver l x.link x.tick = 0 := isum_zero fun y hy => by
  have := h y hy
  unfold Before at this
  rw [if_neg]; omega
theorem sent_one {l : List Send} (h : l.Pairwise Before) {x : Send} (hx : x ∈ l) : sentOver l x.link x.tick = x.bytes := by
  induction l with
  | nil => simp at hx
  | cons y l ih =>
    obtain ⟨h1, h2⟩ := List.pairwise_cons.1 h
    have e : sentOver (y :: l) x.link x.tick = (if y.link = x.link ∧ y.tick = x.tick then y.bytes else 0) + sentOver l x.link x.tick := rfl
    rw [e]
    rcases List.mem_cons.1 hx with rfl | hx
    · rw [if_pos ⟨rfl, rfl⟩, sent_later h1]; omega
    · have := h1 x hx
      unfold Before at this
      rw [if_neg (by omega), ih h2 hx]; omega
/-- two sorted lists that send the same are one -/
theorem same_sent : ∀ {l l' : List Send}, l.Pairwise Before → l'.Pairwise Before → (∀ x ∈ l, 1 ≤ x.bytes) → (∀ x ∈ l', 1 ≤ x.bytes) → (∀ link tick, sentOver l link tick = sentOver l' link tick) → l = l' := by
  intro l
  induction l with
  | nil =>
    intro l' _ h2 _ h4 h5
    cases l' with
    | nil => rfl
    | cons y l' =>
      have h6 := h5 y.link y.tick
      have h7 := sent_ge h4 (x := y) (by simp)
      have h8 := h4 y (by simp)
      have : sentOver [] y.link y.tick = 0 := rfl
      omega
  | cons x l ih =>
    intro l' h1 h2 h3 h4 h5
    cases l' with
    | nil =>
      have h6 := h5 x.link x.tick
      have h7 := sent_ge h3 (x := x) (by simp)
      have h8 := h3 x (by simp)
      have : sentOver [] x.link x.tick = 0 := rfl
      omega
    | cons y l' =>
      obtain ⟨a1, a2⟩ := List.pairwise_cons.1 h1
      obtain ⟨b1, b2⟩ := List.pairwise_cons.1 h2
      have ex := h5 x.link x.tick
      have ey := h5 y.link y.tick
      rw [sent_one h1 (x := x) (by simp)] at ex
      rw [sent_one h2 (x := y) (by simp)] at ey
      have hx0 := h3 x (by simp)
      have hy0 := h4 y (by simp)
      obtain ⟨z, hz, z1, z2⟩ := sent_pos (l := y :: l') (link := x.link) (tick := x.tick) (by omega)
      obtain ⟨u, hu, u1, u2⟩ := sent_pos (l := x :: l) (link := y.link) (tick := y.tick) (by omega)
      have hkey : x.link = y.link ∧ x.tick = y.tick := by
        rcases List.mem_cons.1 hz with rfl | hz
        · exact ⟨z1.symm, z2.symm⟩
        · rcases List.mem_cons.1 hu with rfl | hu
          · exact ⟨u1, u2⟩
          · have c1 := b1 z hz; have c2 := a1 u hu; unfold Before at c1 c2; omega
      have hb : x.bytes = y.bytes := by
        have := sent_one h2 (x := y) (by simp)
        rw [← hkey.1, ← hkey.2] at this
        omega
      have hxy : x = y := by
        obtain ⟨xl, xt, xb⟩ := x
        obtain ⟨yl, yt, yb⟩ := y
        simp only at hkey hb
        obtain ⟨e1, e2⟩ := hkey
        subst e1; subst e2; subst hb; rfl
      subst hxy
      rw [ih a2 b2 (fun z hz => h3 z (List.mem_cons_of_mem _ hz)) (fun z hz => h4 z (List.mem_cons_of_mem _ hz)) fun link tick => by
        have := h5 link tick
        have e1 : sentOver (x :: l) link tick = (if x.link = link ∧ x.tick = tick then x.bytes else 0) + sentOver l link tick := rfl
        have e2 : sentOver (x :: l') link tick = (if x.link = link ∧ x.tick = tick then x.bytes else 0) + sentOver l' link tick := rfl
        omega]
theorem right_of {n : Net} {l : List Send} (hc : netCheck n = 0) (hl : l.length ≤ 2000) (hs : ∀ x ∈ l, SendGood n x) (ho : l.Pairwise Before) : right n l = 0 := by
  rw [right, if_neg (by omega), if_neg (by omega)]
  suffices h : ∀ (l : List Send) (p : Option Send), (∀ x ∈ l, SendGood n x) → l.Pairwise Before → (∀ q, p = some q → ∀ x ∈ l, Before q x) → rightFrom n p l = 0 from h l none hs ho (by simp)
  intro l
  induction l with
  | nil => intro p _ _ _; rfl
  | cons x l ih =>
    intro p h1 h2 h3
    obtain ⟨a1, a2⟩ := List.pairwise_cons.1 h2
    have hx := h1 x (by simp)
    obtain ⟨s1, s2, s3, s4, s5, s6⟩ := hx
    have e : sendErr n p x = 0 := by
      cases p with
      | none => exact sendErr_first (by omega) (by omega) (by omega) (by omega) (by omega) (by omega)
      | some q => exact sendErr_ok (by omega) (by omega) (by omega) (by omega) (by omega) (by omega) (by have := h3 q rfl x (by simp); unfold Before at this; omega)
    rw [rightFrom, if_pos e]
    exact ih (some x) (fun y hy => h1 y (List.mem_cons_of_mem _ hy)) a2 (fun q hq y hy => by cases hq; exact a1 y hy)

section
variable {n : Net} {a b : List Send} {aa ba : Option Addr} {ac bc : Nat}
abbrev two (a : List Send) (aa : Option Addr) (ac : Nat) (b : List Send) (ba : Option Addr) (bc : Nat) : List Hd := [⟨a, aa, ac⟩, ⟨b, ba, bc⟩]
theorem sends_two : sends (two a aa ac b ba bc) = a ++ b := by simp [two, sends]
theorem rights_two (ha : right n a = 0) (hb : right n b = 0) : rights n (two a aa ac b ba bc) = 0 := by simp [two, rights, ha, hb]
theorem both_bytes (ha : right n a = 0) (hb : right n b = 0) : ∀ x ∈ a ++ b, 1 ≤ x.bytes ∧ x.bytes ≤ 1073741824 := fun x hx => by
  rcases List.mem_append.1 hx with hx | hx
  · exact ⟨((right_zero ha).send x hx).b0, ((right_zero ha).send x hx).b1⟩
  · exact ⟨((right_zero hb).send x hx).b0, ((right_zero hb).send x hx).b1⟩
theorem putAll_swap (ha : right n a = 0) (hb : right n b = 0) : putAll (a ++ b) = putAll (b ++ a) :=
  same_sent (putAll_ord _).1 (putAll_ord _).1 (fun x hx => (putAll_bytes (both_bytes ha hb) x hx).1) (fun x hx => (putAll_bytes (both_bytes hb ha) x hx).1) fun link tick => by rw [sent_putAll, sent_putAll, sent_append, sent_append]; omega
theorem join_swap (ha : right n a = 0) (hb : right n b = 0) : join n (two b ba bc a aa ac) = join n (two a aa ac b ba bc) := by
  unfold join
  rw [rights_two ha hb, rights_two hb ha, sends_two, sends_two, putAll_swap ha hb]
theorem join_errs (ha : right n a = 0) (hb : right n b = 0) (h1 : a.length + b.length ≤ 2000) (h : (join n (two a aa ac b ba bc)).2 ≠ 0) : (join n (two a aa ac b ba bc)).2 = 3 := by
  have hc : netCheck n = 0 := by
    unfold right at ha
    by_cases hc : netCheck n = 0
    · exact hc
    · rw [if_pos hc] at ha; exact ha
  have hl := putAll_len (a ++ b)
  rw [List.length_append] at hl
  unfold join at h ⊢
  rw [if_neg (by omega), rights_two ha hb, if_neg (by omega), sends_two, if_neg (by omega)] at h ⊢
  split at h
  · rename_i ho; rw [if_pos ho]
  · simp at h
structure Joined (n : Net) (a b j : List Send) : Prop where
  right : right n j = 0
  cost : costSum n j = costSum n a + costSum n b
  sent : ∀ link tick, sentOver j link tick = sentOver a link tick + sentOver b link tick
  fits : fits n j = 0 → fits n a = 0 ∧ fits n b = 0
theorem join_good (ha : right n a = 0) (hb : right n b = 0) (h1 : a.length + b.length ≤ 2000) (h : ¬ (join n (two a aa ac b ba bc)).2 ≠ 0) : Joined n a b (join n (two a aa ac b ba bc)).1 := by
  have hc : netCheck n = 0 := by
    unfold Go.Q.right at ha
    by_cases hc : netCheck n = 0
    · exact hc
    · rw [if_pos hc] at ha; exact ha
  have hl := putAll_len (a ++ b)
  rw [List.length_append] at hl
  have hbb := both_bytes ha hb
  have e : ¬ over (putAll (a ++ b)) ∧ (join n (two a aa ac b ba bc)).1 = putAll (a ++ b) := by
    unfold join at h ⊢
    rw [if_neg (by omega), rights_two ha hb, if_neg (by omega), sends_two, if_neg (by omega)] at h ⊢
    split at h
    · simp at h
    · rename_i ho; exact ⟨ho, by rw [if_neg ho]⟩
  obtain ⟨ho, e⟩ := e
  rw [e]
  have hord := (putAll_ord (a ++ b)).1
  have hby := putAll_bytes hbb
  have hkeys := putAll_keys (K := fun k => 0 ≤ k.2 ∧ k.2 < (n.links.length : Int) ∧ 0 ≤ k.1 ∧ k.1 < 1000000) (xs := a ++ b) (fun x hx => by
    have hg : SendGood n x := by
      rcases List.mem_append.1 hx with hx | hx
      · exact (right_zero ha).send x hx
      · exact (right_zero hb).send x hx
    exact ⟨hg.l0, hg.l1, hg.t0, hg.t1⟩)
  have hr : Go.Q.right n (putAll (a ++ b)) = 0 := right_of hc (by omega) (fun x hx => by
    have h2 := hkeys x hx
    simp only [keyOf] at h2
    have h3 := (hby x hx).1
    have h4 : ¬ 1073741824 < x.bytes := fun h5 => ho ⟨x, hx, h5⟩
    exact ⟨h2.1, h2.2.1, h2.2.2.1, h2.2.2.2, h3, by omega⟩) hord
  have hsent : ∀ link tick, sentOver (putAll (a ++ b)) link tick = sentOver a link tick + sentOver b link tick := fun link tick => by rw [sent_putAll, sent_append]
  refine ⟨hr, ?_, hsent, fun hf => ?_⟩
  · have := putAll_isum (add_cost n) (a ++ b)
    rw [isum_append] at this
    exact this
  · have hf2 := (fits_zero.1 hf).2
    have key : ∀ x ∈ a ++ b, x.bytes ≤ capOf n x.link x.tick := fun x hx => by
      have h2 := (hbb x hx).1
      have h3 := sent_ge (fun y hy => (hbb y hy).1) hx
      rw [← sent_putAll] at h3
      obtain ⟨y, hy, y1, y2⟩ := sent_pos (l := putAll (a ++ b)) (link := x.link) (tick := x.tick) (by omega)
      have h4 := sent_one hord hy
      rw [y1, y2] at h4
      have h5 := hf2 y hy
      rw [y1, y2] at h5
      omega
    exact ⟨fits_zero.2 ⟨ha, fun x hx => key x (List.mem_append_left _ hx)⟩, fits_zero.2 ⟨hb, fun x hx => key x (List.mem_append_right _ hx)⟩⟩
end
theorem cost_of {n : Net} {l : List Send} (h : right n l = 0) : cost n l = (costSum n l, 0) := by rw [cost, if_neg (by omega)]
theorem left_of {n : Net} {l : List Send} {link tick : Int} (h : right n l = 0) (h1 : 0 ≤ link ∧ link < n.links.length) (h2 : 0 ≤ tick ∧ tick < 1000000) : left n l link tick = (capOf n link tick - sentOver l link tick, 0) := by rw [left, if_neg (by omega), if_neg (by omega)]
theorem costSum_all {n : Net} {l : List Send} (h : right n l = 0) : 0 ≤ costSum n l ∧ costSum n l ≤ 1073741824000000 * 2000 := by
  have := costSum_bound (right_zero h) l.length
  rwa [List.take_length] at this
theorem sent_all {n : Net} {l : List Send} (h : right n l = 0) (link tick : Int) : 0 ≤ sentOver l link tick ∧ sentOver l link tick ≤ 1073741824 * 2000 := by
  have := sentOver_bound (right_zero h) link tick l.length
  rwa [List.take_length] at this
end Go.Q
