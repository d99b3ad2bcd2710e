/- For a book, tariffs, a net and uses: what a period asks for is settled as the specification settles it, and each account gains exactly its postings. No condition. -/
import Derived.Test.YtafpeblkodpkmaaRows
import Derived.WalkKit
import Derived.Deep.Quiet
import Derived.KernelRfl
import Derived.RangeFuncNested
import Derived.RangeFuncCalls
import Derived.OrdersIn
import Derived.TacticsIn
import Derived.Maps.AppendAt
import Derived.OwnWalkIn
import Derived.Maps.RangeRun
import Derived.Laws.StructEq
import Derived.Shelf.SlSortCmp.InsertionK
import Derived.Sort.OwnSortedInts
import Derived.OpenShut
import Derived.WideShapes
import Derived.ChangeArms
import Derived.ChangeKeysEq
import GoSem.Core.Value
import Derived.Sort.Grow
import Derived.Deep.Draws
import Derived.Test.YtafpeblkodpkmaaProg
import Derived.Laws.MakeOwn
import Derived.Lib.BufferMore
import Derived.Shelf.SlSortCmp.NoneTotal
import Derived.Shelf.Small.Bits
import Derived.Test.YtafpeblkodpkmaaShelf
import Derived.ProofKit
import Derived.ShutString
import Derived.ChangeOld
import Derived.Below
import Derived.Test.YtafpeblkodpkmaaMeterSettlesD
set_option linter.unusedVariables false
set_option linter.unusedSimpArgs false
set_option linter.unusedSectionVars false
namespace Go.Proofs.Ytafpeblkodpkmaa.meterSettles
open Go.ChangeShapes Go.WideShapes Go.ChangeAt Go.RowKit Go.Q
theorem own : ownKnob Try.prog.godebug = none := by kernel_rfl
theorem laidOut : laidOutB Try.prog = true := by kernel_rfl
set_option maxRecDepth 100000 in
theorem lifted (os : Os) (started : os.Started) (H : Type) (enc : TypeId × Value → H) :
    ReturnsInHanded {} Try.checked os 11 .any (Rows.meterSettlesSpec.pre6 enc Try.prog Try.f11 Rows.meterSettlesRow.domain false) (Rows.meterSettlesSpec.post enc Try.prog Try.f11 false true false false) := by
  refine returnsInHanded_of_change (C := Try.checked) own started (by kernel_rfl) Try.func11
    (ChangeSpec.witness6 (enc := enc) (C := Try.checked) false ⟨#[], #[.agg #[.int .i64 0, .slice none 0 0], .slice none 0 0, .agg #[.int .i64 0, .slice none 0 0], .slice none 0 0, .int .u16 0], []⟩ 8 (by kernel_rfl) (by kernel_rfl) (by kernel_rfl) (by kernel_rfl)) ?_
  intro W base args ds gs before hval0 hW hcnd _
  have hval : ∀ (j : Nat) t v, Try.f11.params[j]? = some t → args[j]? = some v → Value.okWide Try.prog W .any base t v := hval0
  have hW' := hW
  obtain ⟨p, q, hA0, hV, rfl, hfz, hnd⟩ := hW
  have hA : DataW.TrodAll enc Try.prog W 0 (fun _ => true) true Try.f11.params.toList args.toList ds p := hA0
  rw [Try.params11] at hA hval
  obtain ⟨v0, vs0, d0, ds0, p0, q0, hargs, rfl, rfl, h0, r0⟩ := trodAll_cons hA
  obtain ⟨v1, vs1, d1, ds1, p1, q1, rfl, rfl, rfl, h1, r1⟩ := trodAll_cons r0
  obtain ⟨v2, vs2, d2, ds2, p2, q2, rfl, rfl, rfl, h2, r2⟩ := trodAll_cons r1
  obtain ⟨v3, vs3, d3, ds3, p3, q3, rfl, rfl, rfl, h3, r3⟩ := trodAll_cons r2
  obtain ⟨v4, vs4, d4, ds4, p4, q4, rfl, rfl, rfl, h4, r4⟩ := trodAll_cons r3
  obtain ⟨rfl, rfl, rfl⟩ := trodAll_nil r4
  obtain rfl : args = #[v0, v1, v2, v3, v4] := by cases args; simp_all
  obtain ⟨rfl, rfl⟩ := trodVars_none hV
  have k0 := h0
  have lt0 : ∀ x ∈ p0, x.block < W.heap.size := by obtain ⟨m, hm⟩ := k0; exact DataW.trod_lt m _ _ _ hm
  obtain ⟨cs0, rfl⟩ := okWide_both (.inl ⟨_, Try.underlying80⟩) (hval 0 80 v0 rfl rfl)
  obtain ⟨m0, hm0⟩ := h0
  obtain ⟨⟨b0, ba0, bc0⟩, e0, hb0, hbc0⟩ := op_book.run _ _ _ _ _ _ _ _ hm0
  obtain rfl : cs0 = bookA b0 ba0 bc0 := Array.ext' e0
  have k1 := h1
  have lt1 : ∀ x ∈ p1, x.block < W.heap.size := by obtain ⟨m, hm⟩ := k1; exact DataW.trod_lt m _ _ _ hm
  obtain ⟨a1, len1, cap1, rfl⟩ := okWide_slice Try.underlying23 (hval 1 23 v1 rfl rfl)
  obtain ⟨m1, hm1⟩ := h1
  obtain ⟨la1, l1, lc1, e1, hl1, hi1, hc1⟩ := op_tar.slice Try.underlying23 (by decide) hm1
  obtain ⟨rfl, rfl, rfl⟩ : a1 = la1 ∧ len1 = l1.length ∧ cap1 = lc1 := by simpa [Value.cells] using e1
  have k2 := h2
  have lt2 : ∀ x ∈ p2, x.block < W.heap.size := by obtain ⟨m, hm⟩ := k2; exact DataW.trod_lt m _ _ _ hm
  obtain ⟨cs2, rfl⟩ := okWide_both (.inl ⟨_, Try.underlying26⟩) (hval 2 26 v2 rfl rfl)
  obtain ⟨m2, hm2⟩ := h2
  obtain ⟨⟨n2, na2, nc2⟩, e2, hn2, hk2, hc2⟩ := op_net.run _ _ _ _ _ _ _ _ hm2
  obtain rfl : cs2 = netA n2 na2 nc2 := Array.ext' e2
  have k3 := h3
  have lt3 : ∀ x ∈ p3, x.block < W.heap.size := by obtain ⟨m, hm⟩ := k3; exact DataW.trod_lt m _ _ _ hm
  obtain ⟨a3, len3, cap3, rfl⟩ := okWide_slice Try.underlying27 (hval 3 27 v3 rfl rfl)
  obtain ⟨m3, hm3⟩ := h3
  obtain ⟨la3, l3, lc3, e3, hl3, hi3, hc3⟩ := op_use.slice Try.underlying27 (by decide) hm3
  obtain ⟨rfl, rfl, rfl⟩ : a3 = la3 ∧ len3 = l3.length ∧ cap3 = lc3 := by simpa [Value.cells] using e3
  have k4 := h4
  have lt4 : ∀ x ∈ p4, x.block < W.heap.size := by obtain ⟨m, hm⟩ := k4; exact DataW.trod_lt m _ _ _ hm
  obtain ⟨x4, rfl, rfl, rfl, w4⟩ := open_int Try.underlying98 (hval 4 98 v4 rfl rfl) h4
  clear hA0 hval0
  refine (law_settles W b0 _ _ l1 _ _ n2 _ _ l3 _ _ x4 hb0 hbc0 hl1 hn2 hk2 hl3 hi3 (wf_u16 w4)).mono fun e W' ⟨he, bel⟩ => ?_
  subst he
  exact ⟨_, rfl, _, _, _, [], _, [], hW', trodAll_mk1 (shut_bool Try.underlying4 _), (trodAll_cons_mk (Below.trod laidOut (by kernel_rfl) (of_decide_eq_true (by kernel_rfl)) k0 bel lt0) (trodAll_cons_mk (Below.trod laidOut (by kernel_rfl) (of_decide_eq_true (by kernel_rfl)) k1 bel lt1) (trodAll_cons_mk (Below.trod laidOut (by kernel_rfl) (of_decide_eq_true (by kernel_rfl)) k2 bel lt2) (trodAll_cons_mk (Below.trod laidOut (by kernel_rfl) (of_decide_eq_true (by kernel_rfl)) k3 bel lt3) (trodAll_cons_mk (Below.trod laidOut (by kernel_rfl) (of_decide_eq_true (by kernel_rfl)) k4 bel lt4) trodAll_mk0))))), rfl, bel.frame _, fun h => by cases h⟩
theorem over : Rows.meterSettlesRow.holds Try.pinned (OpenSpec.ofChange Rows.meterSettlesSpec) :=
  OpenClaim.holds_of_wide 11 Try.f11 rfl rfl rfl rfl rfl rfl rfl ⟨rfl, rfl, rfl, rfl, rfl⟩ rfl rfl rfl rfl rfl (by kernel_rfl) Try.func11 (by kernel_rfl)
    (of_decide_eq_true (by kernel_rfl)) (by unfold Func.isWrapper; first | (rw [if_pos (by decide +kernel)]; kernel_rfl) | (rw [if_neg (by decide +kernel)]; exact ⟨rfl, rfl⟩))
    (fun os started H enc _ => lifted os started H enc)
theorem proved : Rows.MeterSettlesSaid := over
#print axioms proved
end Go.Proofs.Ytafpeblkodpkmaa.meterSettles
