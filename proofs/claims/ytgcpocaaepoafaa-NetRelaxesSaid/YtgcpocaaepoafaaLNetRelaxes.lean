/- For every net, a schedule that serves a demand, days, and a link with more capacity: all of it some days later serves as well, at the same cost, and arrives as much later; with the capacity and an earlier Ready it serves, and arrives no later. No condition. -/
import Derived.Test.YtgcpocaaepoafaaRows
import Derived.Test.YtgcpocaaepoafaaR15
import Derived.Test.YtgcpocaaepoafaaW15l
import Derived.WalkKit
import Derived.ProofKit
import Derived.OpenShut
import Derived.ShutString
import Derived.ChangeOld
import Derived.Below
set_option linter.unusedVariables false
set_option linter.unusedSimpArgs false
set_option linter.unusedSectionVars false
namespace Go.Proofs.Ytgcpocaaepoafaa.netRelaxes
open Go.ChangeShapes Go.WideShapes Go.ChangeAt Go.RowKit Go.Q
theorem own : ownKnob Try.prog.godebug = none := by kernel_rfl
theorem laidOut : laidOutB Try.prog = true := by kernel_rfl
set_option maxRecDepth 100000 in
theorem lifted (os : Os) (started : os.Started) (H : Type) (enc : TypeId × Value → H) :
    ReturnsInHanded {} Try.checked os 11 .any (Rows.netRelaxesSpec.pre6 enc Try.prog Try.f11 Rows.netRelaxesRow.domain false) (Rows.netRelaxesSpec.post enc Try.prog Try.f11 false true false false) := by
  refine returnsInHanded_of_change (C := Try.checked) own started (by kernel_rfl) Try.func11
    (ChangeSpec.witness6 (enc := enc) (C := Try.checked) false ⟨#[], #[.agg #[.int .i64 0, .slice none 0 0], .slice none 0 0, .agg #[.int .i64 0, .int .i64 0, .int .i64 0, .int .i64 0, .int .i64 0], .agg #[.int .u16 0, .int .u16 0, .int .u16 0, .int .u16 0]], []⟩ 8 (by kernel_rfl) (by kernel_rfl) (by kernel_rfl) (by kernel_rfl)) ?_
  intro W base args ds gs before hval0 hW hcnd _
  have hval : ∀ (j : Nat) t v, Try.f11.params[j]? = some t → args[j]? = some v → Value.okWide Try.prog W .any base t v := hval0
  have hW' := hW
  obtain ⟨p, q, hA0, hV, rfl, hfz, hnd⟩ := hW
  have hA : DataW.TrodAll enc Try.prog W 0 (fun _ => true) true Try.f11.params.toList args.toList ds p := hA0
  rw [Try.params11] at hA hval
  obtain ⟨v0, vs0, d0, ds0, p0, q0, hargs, rfl, rfl, h0, r0⟩ := trodAll_cons hA
  obtain ⟨v1, vs1, d1, ds1, p1, q1, rfl, rfl, rfl, h1, r1⟩ := trodAll_cons r0
  obtain ⟨v2, vs2, d2, ds2, p2, q2, rfl, rfl, rfl, h2, r2⟩ := trodAll_cons r1
  obtain ⟨v3, vs3, d3, ds3, p3, q3, rfl, rfl, rfl, h3, r3⟩ := trodAll_cons r2
  obtain ⟨rfl, rfl, rfl⟩ := trodAll_nil r3
  obtain rfl : args = #[v0, v1, v2, v3] := by cases args; simp_all
  obtain ⟨rfl, rfl⟩ := trodVars_none hV
  have k0 := h0
  have lt0 : ∀ x ∈ p0, x.block < W.heap.size := by obtain ⟨m, hm⟩ := k0; exact DataW.trod_lt m _ _ _ hm
  obtain ⟨cs0, rfl⟩ := okWide_both (.inl ⟨_, Try.underlying24⟩) (hval 0 24 v0 rfl rfl)
  obtain ⟨m0, hm0⟩ := h0
  obtain ⟨⟨n0, na0, nc0⟩, e0, hn0, hk0, hc0⟩ := op_net.run _ _ _ _ _ _ _ _ hm0
  obtain rfl : cs0 = netA n0 na0 nc0 := Array.ext' e0
  have k1 := h1
  have lt1 : ∀ x ∈ p1, x.block < W.heap.size := by obtain ⟨m, hm⟩ := k1; exact DataW.trod_lt m _ _ _ hm
  obtain ⟨a1, len1, cap1, rfl⟩ := okWide_slice Try.underlying25 (hval 1 25 v1 rfl rfl)
  obtain ⟨m1, hm1⟩ := h1
  obtain ⟨la1, l1, lc1, e1, hl1, _, hc1⟩ := op_send.slice Try.underlying25 (by decide) hm1
  obtain ⟨rfl, rfl, rfl⟩ : a1 = la1 ∧ len1 = l1.length ∧ cap1 = lc1 := by simpa [Value.cells] using e1
  have k2 := h2
  have lt2 : ∀ x ∈ p2, x.block < W.heap.size := by obtain ⟨m, hm⟩ := k2; exact DataW.trod_lt m _ _ _ hm
  obtain ⟨cs2, rfl⟩ := okWide_both (.inl ⟨_, Try.underlying27⟩) (hval 2 27 v2 rfl rfl)
  obtain ⟨m2, hm2⟩ := h2
  obtain ⟨d_2, e2, _⟩ := op_dem.run _ _ _ _ _ _ _ _ hm2
  obtain rfl : cs2 = demA d_2 := Array.ext' e2
  have k3 := h3
  have lt3 : ∀ x ∈ p3, x.block < W.heap.size := by obtain ⟨m, hm⟩ := k3; exact DataW.trod_lt m _ _ _ hm
  obtain ⟨cs3, rfl⟩ := okWide_both (.inr ⟨_, _, Try.underlying73⟩) (hval 3 73 v3 rfl rfl)
  obtain ⟨m3, hm3⟩ := h3
  obtain ⟨l3, e3, hl3, hw3⟩ := ((Opener.int (k := .u16) Try.underlying40 (by kernel_rfl)).array Try.underlying73 (by kernel_rfl)).run _ _ _ _ _ _ _ _ hm3
  obtain ⟨x3_0, x3_1, x3_2, x3_3, rfl⟩ : ∃ x3_0 x3_1 x3_2 x3_3, l3 = [x3_0, x3_1, x3_2, x3_3] := by (match l3, hl3 with | [x3_0, x3_1, x3_2, x3_3], _ => exact ⟨x3_0, x3_1, x3_2, x3_3, rfl⟩)
  obtain rfl : cs3 = #[.int .u16 x3_0, .int .u16 x3_1, .int .u16 x3_2, .int .u16 x3_3] := Array.ext' (by have h_ : cs3.toList = _ := e3; rw [h_]; rfl)
  clear hA0 hval0
  refine (law_relaxes W n0 _ _ l1 _ _ d_2 x3_0 x3_1 x3_2 x3_3 hn0 hk0 hl1 hc1 (fun h => Classical.byContradiction fun hne => by have h2 := (hn0.nz hne).1; rw [h] at h2; cases h2) (wf_u16 (hw3 _ (by simp))) (wf_u16 (hw3 _ (by simp))) (wf_u16 (hw3 _ (by simp))) (wf_u16 (hw3 _ (by simp)))).mono fun e W' ⟨he, bel⟩ => ?_
  subst he
  exact ⟨_, rfl, _, _, _, [], _, [], hW', trodAll_mk1 (shut_bool Try.underlying4 _), (trodAll_cons_mk (Below.trod laidOut (by kernel_rfl) (of_decide_eq_true (by kernel_rfl)) k0 bel lt0) (trodAll_cons_mk (Below.trod laidOut (by kernel_rfl) (of_decide_eq_true (by kernel_rfl)) k1 bel lt1) (trodAll_cons_mk (Below.trod laidOut (by kernel_rfl) (of_decide_eq_true (by kernel_rfl)) k2 bel lt2) (trodAll_cons_mk (Below.trod laidOut (by kernel_rfl) (of_decide_eq_true (by kernel_rfl)) k3 bel lt3) trodAll_mk0)))), rfl, bel.frame _, fun h => by cases h⟩

theorem over : Rows.netRelaxesRow.holds Try.pinned (OpenSpec.ofChange Rows.netRelaxesSpec) :=
  OpenClaim.holds_of_wide 11 Try.f11 rfl rfl rfl rfl rfl rfl rfl ⟨rfl, rfl, rfl, rfl, rfl⟩ rfl rfl rfl rfl rfl (by kernel_rfl) Try.func11 (by kernel_rfl)
    (of_decide_eq_true (by kernel_rfl)) (by unfold Func.isWrapper; first | (rw [if_pos (by decide +kernel)]; kernel_rfl) | (rw [if_neg (by decide +kernel)]; exact ⟨rfl, rfl⟩))
    (fun os started H enc _ => lifted os started H enc)
theorem proved : Rows.NetRelaxesSaid := over
#print axioms proved
end Go.Proofs.Ytgcpocaaepoafaa.netRelaxes

