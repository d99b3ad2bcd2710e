/- Loops that grow a row; rows as results; functions' results that are rows. -/
import Derived.Test.YtgcpocaaepoafaaQ11
set_option linter.unusedVariables false
set_option linter.unusedSimpArgs false
set_option linter.unusedSectionVars false
namespace Go.Q
open Go Go.RowKit

/-- a row of elements -/
def RowOf {α : Type} (e sz : Nat) (enc : α → List Value) (v : Value) (l : List α) (ob : Option (Nat × Obj)) : Prop := RowIs e sz v l.length (l.flatMap enc) ob
theorem RowOf.nil {α : Type} (e sz : Nat) (enc : α → List Value) : RowOf e sz enc (.slice none 0 0) [] none := RowIs.nil e sz
theorem RowOf.snoc {α : Type} {e sz : Nat} {enc : α → List Value} {v : Value} {l : List α} {ob : Option (Nat × Obj)} {news : List Value} (y : α) (h : RowIs e sz v (l.length + 1) (l.flatMap enc ++ news) ob) (hn : news = enc y) : RowOf e sz enc v (l ++ [y]) ob := by
  unfold RowOf
  subst hn
  simpa using h
theorem RowOf.slice {α : Type} {e sz : Nat} {enc : α → List Value} {v : Value} {l : List α} {ob : Option (Nat × Obj)} (h : RowOf e sz enc v l ob) : ∃ a c, v = .slice a l.length c ∧ l.length ≤ c := by
  rcases h.alt with ⟨h1, h2, _⟩ | ⟨g, cap, cur, h1, _, h3, _⟩
  · exact ⟨none, 0, by rw [h1, h2], by omega⟩
  · exact ⟨_, cap, h1, h3⟩

theorem flatMap_get {α : Type} {enc : α → List Value} {sz : Nat} : ∀ {l : List α} {i j : Nat} {x : α}, (∀ y ∈ l, (enc y).length = sz) → l[i]? = some x → j < sz → (l.flatMap enc)[i * sz + j]? = (enc x)[j]?
  | [], _, _, _, _, h, _ => by simp at h
  | y :: l, 0, j, x, hs, h, hj => by
    simp at h
    subst h
    rw [List.flatMap_cons, Nat.zero_mul, Nat.zero_add, List.getElem?_append_left (by rw [hs _ (by simp)]; exact hj)]
  | y :: l, i + 1, j, x, hs, h, hj => by
    have hy := hs y (by simp)
    rw [List.flatMap_cons, List.getElem?_append_right (by rw [hy, Nat.succ_mul]; omega), hy]
    rw [show (i + 1) * sz + j - sz = i * sz + j by rw [Nat.succ_mul]; omega]
    exact flatMap_get (fun z hz => hs z (List.mem_cons_of_mem _ hz)) (by simpa using h) hj

theorem RowOf.sl {α : Type} {e sz : Nat} {enc : α → List Value} {v : Value} {l : List α} {ob : Option (Nat × Obj)} (h : RowOf e sz enc v l ob) {M : Mem} {w : World} (hm : M.holds w) (hmem : ∀ p, ob = some p → p ∈ M.all) (hsz : ∀ x, (enc x).length = sz) :
    ∃ a c, v = .slice a l.length c ∧ l.length ≤ c ∧ SlAt w M.base.heap.size w.heap.size sz enc a l := by
  rcases h.alt with ⟨h1, h2, _⟩ | ⟨g, cap, cur, h1, h2, h3, h4, h5, h6⟩
  · have hl : l = [] := List.eq_nil_of_length_eq_zero h2
    subst hl
    exact ⟨none, 0, h1, by simp, by simp, fun x hx => by simp at hx, fun hn => absurd rfl hn, fun i j x v hx => by simp at hx⟩
  · have hb := hm.box _ (hmem _ h2)
    refine ⟨some ⟨g, 0, none⟩, cap, h1, h3, by omega, fun x _ => hsz x, fun _ => ⟨rfl, hb.1, get_lt hb.2⟩, fun i j x u hx hu => ?_⟩
    have hj : j < sz := by have := (List.getElem?_eq_some_iff.1 hu).1; rw [hsz x] at this; exact this
    have hi : i < l.length := (List.getElem?_eq_some_iff.1 hx).1
    refine cell_of hb.2 ?_
    have hlt : i * sz + j < l.length * sz := by
      calc i * sz + j < i * sz + sz := by omega
        _ = (i + 1) * sz := by rw [Nat.succ_mul]
        _ ≤ l.length * sz := Nat.mul_le_mul_right _ hi
    have h7 : (l.flatMap enc)[i * sz + j]? = some u := by rw [flatMap_get (fun y _ => hsz y) hx hj, hu]
    rw [← h6, List.getElem?_take_of_lt hlt, Array.getElem?_toList] at h7
    simpa [offs] using h7

section
variable {P : Program} {Z : Env} {N : Nat} {L : List (Nat × Value)} {M : Mem} {Q : Exit → Act → World → Prop} {ops : Array Oper} {rest : List Oper} {B : World} {bs : List (Nat × Obj)} {ks : List Kp} {ms : List Nat} {rs : List (Option (Nat × Obj))}

/-- room for a row -/
theorem tc_rowRoom {c : Code} (h : TC P Z N L ⟨B, bs, ks, ms, none :: rs⟩ c Q) : TC P Z N L ⟨B, bs, ks, ms, rs⟩ c Q := fun a w hf hm => h a w hf (hm.sub rfl (List.Sublist.refl _) (List.Sublist.refl _))

def AgainR {α β : Type} (Z : Env) (N : Nat) (L : List (Nat × Value)) (B : World) (bs : List (Nat × Obj)) (VB : β → List (Nat × Nat × Obj)) (ks : List Kp) (ms : List Nat) (rs : List (Option (Nat × Obj))) (i e sz : Nat) (enc : α → List Value) (V : β → Value → List (Nat × Value)) (f : β → List α) (I : β → Prop) (μ : β → Nat) (b : β) : Act → World → Prop :=
  fun a w => ∃ (b' : β) (v' : Value) (ob' : Option (Nat × Obj)), I b' ∧ μ b' < μ b ∧ RowOf e sz enc v' (f b') ob' ∧ Fr Z N (V b' v' ++ L) a ∧ Mem.holds ⟨B, setB bs (VB b'), ks, ms, rs.set i ob'⟩ w

theorem set_self {α : Type} : ∀ {l : List α} {i : Nat} {x : α}, l[i]? = some x → l.set i x = l
  | [], _, _, h => by simp at h
  | y :: l, 0, x, h => by simp at h; subst h; rfl
  | y :: l, i + 1, x, h => by rw [List.set_cons_succ, set_self (by simpa using h)]

/-- a loop by a ghost that grows row i -/
theorem tc_loopR {α β : Type} {c : Code} (i e sz : Nat) (enc : α → List Value) (V : β → Value → List (Nat × Value)) (VB : β → List (Nat × Nat × Obj)) (f : β → List α) (I : β → Prop) (μ : β → Nat) (b₀ : β) {v₀ : Value} {ob₀ : Option (Nat × Obj)} (hrow : RowOf e sz enc v₀ (f b₀) ob₀) (h0 : I b₀) (hL : Sub L (V b₀ v₀)) (hi : rs[i]? = some ob₀) (hB : setB bs (VB b₀) = bs)
    (round : ∀ b v ob, I b → RowOf e sz enc v (f b) ob → TC P Z N (V b v ++ L) ⟨B, setB bs (VB b), ks, ms, rs.set i ob⟩ c (Exit.then (AgainR Z N L B bs VB ks ms rs i e sz enc V f I μ b) Q)) : TC P Z N L ⟨B, bs, ks, ms, rs⟩ (.loop c) Q :=
  tc_loopV (β := β × Value × Option (Nat × Obj)) (fun p => V p.1 p.2.1) (fun p => ⟨B, setB bs (VB p.1), ks, ms, rs.set i p.2.2⟩) (fun p => I p.1 ∧ RowOf e sz enc p.2.1 (f p.1) p.2.2) (fun p => μ p.1) (b₀, v₀, ob₀) ⟨h0, hrow⟩ hL
    (fun w h => by rw [hB, set_self hi]; exact h) (fun p hp => (round p.1 p.2.1 p.2.2 hp.1 hp.2).mono fun ex a w h => by
      cases ex with
      | normal => obtain ⟨b', v', ob', h1, h2, h3, h4, h5⟩ := h; exact ⟨(b', v', ob'), ⟨h1, h3⟩, h2, h4, h5⟩
      | _ => exact h)

theorem tp_roundR {α β : Type} {i e sz : Nat} {enc : α → List Value} {V : β → Value → List (Nat × Value)} {VB : β → List (Nat × Nat × Obj)} {f : β → List α} {I : β → Prop} {μ : β → Nat} {b : β} {Le : List (Nat × Value)} {bs' : List (Nat × Obj)} {ks' : List Kp} {rs' : List (Option (Nat × Obj))} {v' : Value} {ob' : Option (Nat × Obj)} (b' : β) (hrow : RowOf e sz enc v' (f b') ob') (hI : I b') (hμ : μ b' < μ b) (hV : Sub Le (V b' v')) (hE : Le.drop (Le.length - L.length) = L)
    (hk : (Le.take (Le.length - L.length)).all (fun p => hasKey (V b' v') p.1 || (L.lookup p.1).isNone) = true) (h1 : bs'.drop (bs'.length - bs.length) = setB bs (VB b')) (h2 : ks'.drop (ks'.length - ks.length) = ks) (h3 : rs' = rs.set i ob') :
    TP Z N Le ⟨B, bs', ks', ms, rs'⟩ .normal (Exit.then (AgainR Z N L B bs VB ks ms rs i e sz enc V f I μ b) Q) :=
  fun _ w hf hm => ⟨b', v', ob', hI, hμ, hrow, hf.again hV hE hk, by rw [← h3]; exact hm.less (h1 ▸ List.drop_sublist _ _) (h2 ▸ List.drop_sublist _ _)⟩

/-! ### loops whose slice of read elements changes -/
def AgainK {α β : Type} (Z : Env) (N : Nat) (L : List (Nat × Value)) (B : World) (bs : List (Nat × Obj)) (ks : List Kp) (ms : List Nat) (rs : List (Option (Nat × Obj))) (sz : Nat) (enc : α → List Value) (V : β → Value → List (Nat × Value)) (f : β → List α) (I : β → Prop) (μ : β → Nat) (b : β) : Act → World → Prop :=
  fun a w => ∃ (b' : β) (W : World) (lo hi : Nat) (p : Option Addr) (c : Nat), B.heap.size ≤ lo ∧ I b' ∧ μ b' < μ b ∧ SlAt W lo hi sz enc p (f b') ∧ (f b').length ≤ c ∧ Fr Z N (V b' (.slice p (f b').length c) ++ L) a ∧ Mem.holds ⟨B, bs, Kin W lo hi :: ks, ms, rs⟩ w
theorem SlAt.none {α : Type} {W : World} {lo sz : Nat} {enc : α → List Value} {a : Option Addr} : SlAt W lo lo sz enc a [] := ⟨by simp, by simp, fun h => absurd rfl h, fun i j x v h => by simp at h⟩
theorem Mem.holds.nilK {w : World} (h : Mem.holds ⟨B, bs, ks, ms, rs⟩ w) (W : World) : Mem.holds ⟨B, bs, Kin W B.heap.size B.heap.size :: ks, ms, rs⟩ w :=
  ⟨h.os, h.tape, h.output, h.size, h.old, h.box, h.nodup, fun k hk => by
    rcases List.mem_cons.1 hk with rfl | hk
    · exact ⟨h.size, fun b h1 h2 => absurd h2 (by simp only at *; omega)⟩
    · exact h.kept k hk, fun p hp k hk => by
    rcases List.mem_cons.1 hk with rfl | hk
    · exact .inr (.inl (h.box p hp).1)
    · exact h.apart p hp k hk⟩

/-- a loop by a ghost with a slice of what lies in one kept region; it begins with the slice nil -/
theorem tc_loopK {α β : Type} {c : Code} (sz : Nat) (enc : α → List Value) (V : β → Value → List (Nat × Value)) (f : β → List α) (I : β → Prop) (μ : β → Nat) (b₀ : β) (hf0 : f b₀ = []) (h0 : I b₀) (hL : Sub L (V b₀ (.slice none 0 0)))
    (round : ∀ b W lo hi p cp, B.heap.size ≤ lo → I b → SlAt W lo hi sz enc p (f b) → (f b).length ≤ cp → TC P Z N (V b (.slice p (f b).length cp) ++ L) ⟨B, bs, Kin W lo hi :: ks, ms, rs⟩ c (Exit.then (AgainK Z N L B bs ks ms rs sz enc V f I μ b) Q)) : TC P Z N L ⟨B, bs, ks, ms, rs⟩ (.loop c) Q :=
  tc_loopV (β := (β × World × Nat × Nat) × Option Addr × Nat) (fun p => V p.1.1 (.slice p.2.1 (f p.1.1).length p.2.2)) (fun p => ⟨B, bs, Kin p.1.2.1 p.1.2.2.1 p.1.2.2.2 :: ks, ms, rs⟩) (fun p => B.heap.size ≤ p.1.2.2.1 ∧ I p.1.1 ∧ SlAt p.1.2.1 p.1.2.2.1 p.1.2.2.2 sz enc p.2.1 (f p.1.1) ∧ (f p.1.1).length ≤ p.2.2) (fun p => μ p.1.1) ((b₀, B, B.heap.size, B.heap.size), none, 0)
    ⟨Nat.le_refl _, h0, by simp only [hf0]; exact SlAt.none, by simp [hf0]⟩ (by simp only [hf0]; exact hL) (fun w h => h.nilK B) (fun p hp => (round p.1.1 p.1.2.1 p.1.2.2.1 p.1.2.2.2 p.2.1 p.2.2 hp.1 hp.2.1 hp.2.2.1 hp.2.2.2).mono fun ex a w h => by
      cases ex with
      | normal => obtain ⟨b', W', lo', hi', p', c', h0, h1, h2, h3, h4, h5, h6⟩ := h; exact ⟨((b', W', lo', hi'), p', c'), ⟨h0, h1, h3, h4⟩, h2, h5, h6⟩
      | _ => exact h)
/-- .. or with one that is known -/
theorem tc_loopK1 {α β : Type} {c : Code} (sz : Nat) (enc : α → List Value) (V : β → Value → List (Nat × Value)) (f : β → List α) (I : β → Prop) (μ : β → Nat) (b₀ : β) {W₀ : World} {lo₀ hi₀ c₀ : Nat} {p₀ : Option Addr} (hs0 : SlAt W₀ lo₀ hi₀ sz enc p₀ (f b₀)) (hc0 : (f b₀).length ≤ c₀) (hl0 : B.heap.size ≤ lo₀) (h0 : I b₀) (hk : Kin W₀ lo₀ hi₀ ∈ ks) (hL : Sub L (V b₀ (.slice p₀ (f b₀).length c₀)))
    (round : ∀ b W lo hi p cp, B.heap.size ≤ lo → I b → SlAt W lo hi sz enc p (f b) → (f b).length ≤ cp → TC P Z N (V b (.slice p (f b).length cp) ++ L) ⟨B, bs, Kin W lo hi :: ks, ms, rs⟩ c (Exit.then (AgainK Z N L B bs ks ms rs sz enc V f I μ b) Q)) : TC P Z N L ⟨B, bs, ks, ms, rs⟩ (.loop c) Q :=
  tc_loopV (β := (β × World × Nat × Nat) × Option Addr × Nat) (fun p => V p.1.1 (.slice p.2.1 (f p.1.1).length p.2.2)) (fun p => ⟨B, bs, Kin p.1.2.1 p.1.2.2.1 p.1.2.2.2 :: ks, ms, rs⟩) (fun p => B.heap.size ≤ p.1.2.2.1 ∧ I p.1.1 ∧ SlAt p.1.2.1 p.1.2.2.1 p.1.2.2.2 sz enc p.2.1 (f p.1.1) ∧ (f p.1.1).length ≤ p.2.2) (fun p => μ p.1.1) ((b₀, W₀, lo₀, hi₀), p₀, c₀)
    ⟨hl0, h0, hs0, hc0⟩ hL (fun w h => ⟨h.os, h.tape, h.output, h.size, h.old, h.box, h.nodup, fun k hk' => by
      rcases List.mem_cons.1 hk' with rfl | hk'
      · exact h.kept _ hk
      · exact h.kept k hk', fun p hp k hk' => by
      rcases List.mem_cons.1 hk' with rfl | hk'
      · exact h.apart p hp _ hk
      · exact h.apart p hp k hk'⟩) (fun p hp => (round p.1.1 p.1.2.1 p.1.2.2.1 p.1.2.2.2 p.2.1 p.2.2 hp.1 hp.2.1 hp.2.2.1 hp.2.2.2).mono fun ex a w h => by
      cases ex with
      | normal => obtain ⟨b', W', lo', hi', p', c', h0, h1, h2, h3, h4, h5, h6⟩ := h; exact ⟨((b', W', lo', hi'), p', c'), ⟨h0, h1, h3, h4⟩, h2, h5, h6⟩
      | _ => exact h)
theorem kin_sub {k : Kp} {ks ks' : List Kp} (hk : ∃ t1 t2, ks' = t1 ++ k :: t2 ∧ t2.drop (t2.length - ks.length) = ks) : (k :: ks).Sublist ks' := by
  obtain ⟨t1, t2, rfl, h2⟩ := hk
  exact (List.Sublist.cons_cons _ (h2 ▸ List.drop_sublist _ _)).trans (List.sublist_append_right _ _)
theorem tp_roundK {α β : Type} {sz : Nat} {enc : α → List Value} {V : β → Value → List (Nat × Value)} {f : β → List α} {I : β → Prop} {μ : β → Nat} {b : β} {Le : List (Nat × Value)} {bs' : List (Nat × Obj)} {ks' : List Kp} {W : World} {lo hi cp : Nat} {p : Option Addr} (b' : β) (hs : SlAt W lo hi sz enc p (f b')) (hc : (f b').length ≤ cp) (hlo : B.heap.size ≤ lo) (hk' : ∃ t1 t2, ks' = t1 ++ Kin W lo hi :: t2 ∧ t2.drop (t2.length - ks.length) = ks)
    (hI : I b') (hμ : μ b' < μ b) (hV : Sub Le (V b' (.slice p (f b').length cp))) (hE : Le.drop (Le.length - L.length) = L)
    (hk : (Le.take (Le.length - L.length)).all (fun q => hasKey (V b' (.slice p (f b').length cp)) q.1 || (L.lookup q.1).isNone) = true) (h1 : bs'.drop (bs'.length - bs.length) = bs) :
    TP Z N Le ⟨B, bs', ks', ms, rs⟩ .normal (Exit.then (AgainK Z N L B bs ks ms rs sz enc V f I μ b) Q) :=
  fun _ w hf hm => ⟨b', W, lo, hi, p, cp, hlo, hI, hμ, hs, hc, hf.again hV hE hk, hm.less (h1 ▸ List.drop_sublist _ _) (kin_sub hk')⟩

/-- one element behind a row -/
theorem tl_append1 {α : Type} {t e sz bytes c b dd : Nat} {v : Value} {l : List α} {enc : α → List Value} {ob : Option (Nat × Obj)} {cs : Array Value} {T0 : TypeId} {fz : Nat × Nat} {x y : Operand} {ty : TypeId} {pos : String} {af : Array Edge} (i j : Nat) (hT : AppTy P t e sz bytes) (u : α) (hrow : RowOf e sz enc v l ob)
    (h : ∀ v' ob', RowOf e sz enc v' (l ++ [u]) ob' → TL P Z N ((dd, v') :: L) ⟨B, bs, ks, ms, rs.set i ob'⟩ ops rest Q)
    (hsz : (enc u).length = sz) (hone : ∀ z ∈ enc u, z.oneCell' = true) (hb : l.length < 1000000000) (hby : Nat.ble bytes 100000 = true := by rfl)
    (hi : rs[i]? = some ob := by rfl) (hj : bs[j]? = some (b, .cells cs T0 fz) := by rfl) (hx : ev L x = some v := by rfl) (hy : ev L y = some (.slice (some ⟨b, 0, none⟩) 1 c) := by rfl) (hcs : cs.toList = enc u := by rfl) (hd : dd < N := by decide) :
    TL P Z N L ⟨B, bs, ks, ms, rs⟩ ops (⟨some dd, .call { callee := .builtin .append, args := #[x, y], argTypes := #[t, t] }, ty, pos, af, none⟩ :: rest) Q :=
  tl_append i j hT hrow (fun v' ob' hr => h v' ob' (RowOf.snoc u hr rfl)) hone (by simp only [maxLen]; omega) (by
    have h1 : bytes ≤ 100000 := Nat.le_of_ble_eq_true hby
    calc (l.length + 1) * bytes ≤ 1000000000 * 100000 := Nat.mul_le_mul hb h1
      _ ≤ _ := by decide) hi hj hx hy hcs (by rw [hsz]; simp) hd

theorem qv_lenR {T : TypeId} {sz n c : Nat} {a : Option Addr} {v : Value} {d : Option Tmp} {x : Operand} {ty : TypeId} {pos : String} {af : Array Edge} {g : Option (Nat × Bool)} (hT : SliceTy P T sz) (hx : ev L x = some v) (hv : v = .slice a n c) : Qv P Z N L M ⟨d, .call { callee := .builtin .len, args := #[x], argTypes := #[T] }, ty, pos, af, g⟩ (.int .i64 (n : Int)) :=
  qv_len hT (by rw [hx, hv])

theorem lkb {o : Option Value} {a b : Bool} (h : o = some (.bool a)) (e : a = b) : o = some (.bool b) := e ▸ h
end
end Go.Q
