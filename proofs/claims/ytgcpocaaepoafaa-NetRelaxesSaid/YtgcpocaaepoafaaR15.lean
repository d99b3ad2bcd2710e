/- A part of the proof: see the last text. -/
import Derived.Test.YtgcpocaaepoafaaQ15
import Derived.Test.YtgcpocaaepoafaaS15b
import Derived.Test.YtgcpocaaepoafaaProg
set_option linter.unusedVariables false
set_option linter.unusedSimpArgs false
set_option linter.unusedSectionVars false
namespace Go.Q
open Go Go.Proofs Go.RowKit Go.WideShapes Go.ChangeShapes
theorem okWide_both {P : Program} {w : World} {r : Reach} {base : Nat} {t : TypeId} {v : Value} (ht : (∃ fs, P.underlying t = some (.struct fs)) ∨ ∃ n e, P.underlying t = some (.array n e)) (h : Value.okWide P w r base t v) : ∃ cs, v = .agg cs := by
  rcases ht with ⟨fs, ht⟩ | ⟨n, e, ht⟩ <;> simp only [Value.okWide, ht] at h <;> obtain ⟨cs, h1, _, _⟩ := h <;> exact ⟨cs, h1⟩

theorem op_int : Opener Try.prog 3 1 (fun i : Int => [.int .i64 i]) (fun _ i => (Lit.int .i64 i).wf = true) := Opener.int Try.underlying3 (by kernel_rfl)
theorem op_arr : Opener Try.prog 47 (24 * 1) (fun l : List Int => l.flatMap (fun i : Int => [.int .i64 i])) (fun _ l => l.length = 24 ∧ ∀ y ∈ l, (Lit.int .i64 y).wf = true) := op_int.array Try.underlying47 (by kernel_rfl)
theorem flat_ints : ∀ (l : List Int), l.flatMap (fun i : Int => [Value.int .i64 i]) = l.map (Value.int .i64)
  | [] => rfl
  | x :: l => by rw [List.flatMap_cons, flat_ints l]; rfl
theorem op_link : Opener Try.prog 49 50 encLink (fun _ x => LinkOk x) where
  size := by kernel_rfl
  len := fun w x h => by simp [encLink, h.1, h.2]
  run := fun e w base spare held fuel cs x hx => by
    obtain ⟨h1, a, ha, _⟩ := op_int.field Try.underlying49 hx 0 rfl rfl
    obtain ⟨_, b, hb, _⟩ := op_int.field Try.underlying49 hx 1 rfl rfl
    obtain ⟨_, c, hc, hcl, _⟩ := op_arr.field Try.underlying49 hx 2 rfl rfl
    obtain ⟨_, p, hp, hpl, _⟩ := op_arr.field Try.underlying49 hx 3 rfl rfl
    rw [show (Try.prog).cellsOf 49 = 50 by kernel_rfl] at h1
    refine ⟨⟨a, b, c, p⟩, ?_, hcl, hpl⟩
    rw [flat_ints] at hc hp
    have e1 : cs = (cs.drop 0).take 1 ++ ((cs.drop 1).take 1 ++ ((cs.drop 2).take (24 * 1) ++ (cs.drop 26).take (24 * 1))) := by
      have e2 : (cs.drop 26).take (24 * 1) = cs.drop 26 := List.take_of_length_le (by rw [List.length_drop]; omega)
      have e3 : (cs.drop 2).take (24 * 1) ++ cs.drop 26 = cs.drop 2 := by
        have := List.take_append_drop (24 * 1) (cs.drop 2)
        rwa [List.drop_drop] at this
      have e4 : (cs.drop 1).take 1 ++ cs.drop 2 = cs.drop 1 := by
        have := List.take_append_drop 1 (cs.drop 1)
        rwa [List.drop_drop] at this
      have e5 : (cs.drop 0).take 1 ++ cs.drop 1 = cs := by simpa using List.take_append_drop 1 cs
      rw [e2, e3, e4, e5]
    have ha' : (cs.drop 0).take 1 = [.int .i64 a] := ha
    have hb' : (cs.drop 1).take 1 = [.int .i64 b] := hb
    have hc' : (cs.drop 2).take (24 * 1) = c.map (Value.int .i64) := hc
    have hp' : (cs.drop 26).take (24 * 1) = p.map (Value.int .i64) := hp
    rw [e1, ha', hb', hc', hp']
    rfl
theorem op_send : Opener Try.prog 70 3 encSend (fun _ _ => True) where
  size := by kernel_rfl
  len := fun w x h => rfl
  run := fun e w base spare held fuel cs x hx => by
    obtain ⟨h1, a, ha, _⟩ := op_int.field Try.underlying70 hx 0 rfl rfl
    obtain ⟨_, b, hb, _⟩ := op_int.field Try.underlying70 hx 1 rfl rfl
    obtain ⟨_, c, hc, _⟩ := op_int.field Try.underlying70 hx 2 rfl rfl
    rw [show (Try.prog).cellsOf 70 = 3 by kernel_rfl] at h1
    match cs, h1 with
    | [u, v, t], _ =>
      simp at ha hb hc
      subst ha hb hc
      exact ⟨⟨a, b, c⟩, rfl, trivial⟩
theorem op_dem : Opener Try.prog 27 5 (fun d => (demA d).toList) (fun _ _ => True) where
  size := by kernel_rfl
  len := fun w x h => rfl
  run := fun e w base spare held fuel cs x hx => by
    obtain ⟨h1, a, ha, _⟩ := op_int.field Try.underlying27 hx 0 rfl rfl
    obtain ⟨_, b, hb, _⟩ := op_int.field Try.underlying27 hx 1 rfl rfl
    obtain ⟨_, c, hc, _⟩ := op_int.field Try.underlying27 hx 2 rfl rfl
    obtain ⟨_, d, hd, _⟩ := op_int.field Try.underlying27 hx 3 rfl rfl
    obtain ⟨_, f, hf, _⟩ := op_int.field Try.underlying27 hx 4 rfl rfl
    rw [show (Try.prog).cellsOf 27 = 5 by kernel_rfl] at h1
    match cs, h1 with
    | [u, v, t, s, r], _ =>
      simp at ha hb hc hd hf
      subst ha hb hc hd hf
      exact ⟨⟨a, b, c, d, f⟩, rfl, trivial⟩
theorem op_sends : Opener Try.prog 25 1 encHd (fun w h => SlIn w 3 encSend h.a h.l ∧ h.l.length ≤ h.c) where
  size := by kernel_rfl
  len := fun w x h => rfl
  run := fun e w base spare held fuel cs x hx => by
    obtain ⟨a, l, c, h1, h2, _, h3⟩ := op_send.slice Try.underlying25 (by decide) hx
    exact ⟨⟨l, a, c⟩, h1, h2, h3⟩
structure NetH where
  n : Net
  a : Option Addr
  c : Nat
theorem op_net : Opener Try.prog 24 2 (fun h : NetH => (netA h.n h.a h.c).toList) (fun w h => SlIn w 50 encLink h.a h.n.links ∧ NetOk h.n ∧ h.n.links.length ≤ h.c) where
  size := by kernel_rfl
  len := fun w x h => rfl
  run := fun e w base spare held fuel cs x hx => by
    have op_links : Opener Try.prog 22 1 (fun h : NetH => [.slice h.a h.n.links.length h.c]) (fun w h => SlIn w 50 encLink h.a h.n.links ∧ NetOk h.n ∧ h.n.links.length ≤ h.c) := {
      size := by kernel_rfl
      len := fun w x h => rfl
      run := fun e w base spare held fuel cs x hx => by
        obtain ⟨a, l, c, h1, h2, h3, h4⟩ := op_link.slice Try.underlying22 (by decide) hx
        exact ⟨⟨⟨0, l⟩, a, c⟩, h1, h2, h3, h4⟩ }
    obtain ⟨h1, a, ha, _⟩ := op_int.field Try.underlying24 hx 0 rfl rfl
    obtain ⟨_, b, hb, hb2⟩ := op_links.field Try.underlying24 hx 1 rfl rfl
    rw [show (Try.prog).cellsOf 24 = 2 by kernel_rfl] at h1
    match cs, h1 with
    | [u, v], _ =>
      simp at ha hb
      subst ha hb
      exact ⟨⟨⟨a, b.n.links⟩, b.a, b.c⟩, rfl, hb2⟩
theorem op_hds {H : Type} {e : TypeId × Value → H} {w : World} {base : Nat} {spare : Nat → Bool} {held : Bool} {fuel : Nat} {cs : List Value} {x : DataW H × List MemPlace} (hx : DataW.trod e Try.prog w base spare held fuel 54 cs = some x) :
    ∃ (a : Option Addr) (l : List Hd) (c : Nat), cs = [.slice a l.length c] ∧ SlIn w 1 encHd a l ∧ (∀ h ∈ l, SlIn w 3 encSend h.a h.l ∧ h.l.length ≤ h.c) ∧ l.length ≤ c := op_sends.slice Try.underlying54 (by decide) hx
end Go.Q

