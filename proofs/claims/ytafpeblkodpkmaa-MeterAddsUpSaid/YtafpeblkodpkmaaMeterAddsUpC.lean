/- A part of the proof: see the last text. -/
import Derived.WalkKit
import Derived.Deep.Quiet
import Derived.KernelRfl
import Derived.RangeFuncNested
import Derived.RangeFuncCalls
import Derived.OrdersIn
import Derived.TacticsIn
import Derived.Maps.AppendAt
import Derived.OwnWalkIn
import Derived.Maps.RangeRun
import Derived.Laws.StructEq
import Derived.Shelf.SlSortCmp.InsertionK
import Derived.Sort.OwnSortedInts
import Derived.OpenShut
import Derived.WideShapes
import Derived.ChangeArms
import Derived.ChangeKeysEq
import GoSem.Core.Value
import Derived.Test.YtafpeblkodpkmaaProg
import Derived.Sort.Grow
import Derived.Deep.Draws
import Derived.Shelf.SlSortCmp.NoneTotal
import Derived.Shelf.Small.Bits
import Derived.Test.YtafpeblkodpkmaaShelf
import Derived.Test.YtafpeblkodpkmaaMeterAddsUpB
set_option linter.unusedVariables false
set_option linter.unusedSimpArgs false
set_option linter.unusedSectionVars false
namespace Go.Q
open Go Go.Proofs Go.RowKit
theorem st_23 : SliceTy Try.prog 23 3 := ⟨113, by kernel_rfl, fun w => by kernel_rfl⟩
theorem fn_49 : IsFn Try.prog 49 := isFn_of Try.func49 (by kernel_rfl) rfl
theorem fo_113_1 : FOff Try.prog 113 1 1 := fun b o w => by kernel_rfl
theorem fo_113_2 : FOff Try.prog 113 2 2 := fun b o w => by kernel_rfl
theorem fn_92 : IsFn Try.prog 92 := isFn_of Try.func92 (by kernel_rfl) rfl
theorem fn_93 : IsFn Try.prog 93 := isFn_of Try.func93 (by kernel_rfl) rfl
theorem fn_94 : IsFn Try.prog 94 := isFn_of Try.func94 (by kernel_rfl) rfl
theorem ze_126 : Zero Try.prog 126 #[.int .i64 0, .int .i64 0, .nilFunc] := fun w => ⟨.agg #[.int .i64 0, .int .i64 0, .nilFunc], by kernel_rfl, rfl⟩
theorem bt_126 : BuildTy Try.prog 126 #[(0, 1), (1, 1), (2, 1)] #[.int .i64 0, .int .i64 0, .nilFunc] := ⟨_, Try.underlying126, fun w => by kernel_rfl, ze_126⟩
theorem sz_126 : Size Try.prog 126 3 := fun w => by kernel_rfl
theorem bsl_122_3 : BuildSl Try.prog 122 3 126 3 #[.int .i64 0, .int .i64 0, .nilFunc, .int .i64 0, .int .i64 0, .nilFunc, .int .i64 0, .int .i64 0, .nilFunc] := ⟨Try.underlying122, sz_126, by decide, by decide, _, ze_126, by kernel_rfl⟩
theorem ag_113 : Agg Try.prog 113 3 := fun w => ⟨by kernel_rfl, by kernel_rfl⟩
theorem ze_113 : Zero Try.prog 113 #[.int .i64 0, .int .i64 0, .int .i64 0] := fun w => ⟨.agg #[.int .i64 0, .int .i64 0, .int .i64 0], by kernel_rfl, rfl⟩
theorem sz_113 : Size Try.prog 113 3 := fun w => by kernel_rfl
theorem fo_113_0 : FOff Try.prog 113 0 0 := fun b o w => by kernel_rfl
theorem st_27 : SliceTy Try.prog 27 8 := ⟨34, by kernel_rfl, fun w => by kernel_rfl⟩
theorem ag_34 : Agg Try.prog 34 8 := fun w => ⟨by kernel_rfl, by kernel_rfl⟩
theorem ze_34 : Zero Try.prog 34 #[.int .i64 0, .int .i64 0, .int .i64 0, .int .i64 0, .int .i64 0, .int .i64 0, .int .i64 0, .slice none 0 0] := fun w => ⟨.agg #[.int .i64 0, .int .i64 0, .int .i64 0, .int .i64 0, .int .i64 0, .int .i64 0, .int .i64 0, .slice none 0 0], by kernel_rfl, rfl⟩
theorem sz_34 : Size Try.prog 34 8 := fun w => by kernel_rfl
theorem fo_34_0 : FOff Try.prog 34 0 0 := fun b o w => by kernel_rfl
theorem fo_34_1 : FOff Try.prog 34 1 1 := fun b o w => by kernel_rfl
theorem fo_34_2 : FOff Try.prog 34 2 2 := fun b o w => by kernel_rfl
theorem fn_50 : IsFn Try.prog 50 := isFn_of Try.func50 (by kernel_rfl) rfl
theorem fo_34_3 : FOff Try.prog 34 3 3 := fun b o w => by kernel_rfl
theorem fo_34_5 : FOff Try.prog 34 5 5 := fun b o w => by kernel_rfl
theorem fo_34_4 : FOff Try.prog 34 4 4 := fun b o w => by kernel_rfl
theorem fn_51 : IsFn Try.prog 51 := isFn_of Try.func51 (by kernel_rfl) rfl
theorem st_122 : SliceTy Try.prog 122 3 := ⟨126, by kernel_rfl, fun w => by kernel_rfl⟩
theorem ag_126 : Agg Try.prog 126 3 := fun w => ⟨by kernel_rfl, by kernel_rfl⟩
theorem fo_126_0 : FOff Try.prog 126 0 0 := fun b o w => by kernel_rfl
theorem fo_34_6 : FOff Try.prog 34 6 6 := fun b o w => by kernel_rfl
theorem fo_126_1 : FOff Try.prog 126 1 1 := fun b o w => by kernel_rfl
theorem bsl_27_1 : BuildSl Try.prog 27 1 34 8 #[.int .i64 0, .int .i64 0, .int .i64 0, .int .i64 0, .int .i64 0, .int .i64 0, .int .i64 0, .slice none 0 0] := ⟨Try.underlying27, sz_34, by decide, by decide, _, ze_34, by kernel_rfl⟩
theorem fn_16 : IsFn Try.prog 16 := isFn_of Try.func16 (by kernel_rfl) rfl
theorem fo_126_2 : FOff Try.prog 126 2 2 := fun b o w => by kernel_rfl
theorem sc_124 : Scalar Try.prog 124 := fun w => by kernel_rfl
theorem fo_34_7 : FOff Try.prog 34 7 7 := fun b o w => by kernel_rfl
theorem sc_32 : Scalar Try.prog 32 := fun w => by kernel_rfl
theorem fn_25 : IsFn Try.prog 25 := isFn_of Try.func25 (by kernel_rfl) rfl
theorem fn_24 : IsFn Try.prog 24 := isFn_of Try.func24 (by kernel_rfl) rfl
theorem ze_114 : Zero Try.prog 114 #[.int .i64 0, .int .i64 0, .int .i64 0, .int .i64 0, .int .i64 0, .int .i64 0, .int .i64 0, .int .i64 0, .int .i64 0, .int .i64 0, .int .i64 0, .int .i64 0, .int .i64 0, .int .i64 0, .int .i64 0, .int .i64 0, .int .i64 0, .int .i64 0, .int .i64 0, .int .i64 0, .int .i64 0, .int .i64 0, .int .i64 0, .int .i64 0] := fun w => ⟨.agg #[.int .i64 0, .int .i64 0, .int .i64 0, .int .i64 0, .int .i64 0, .int .i64 0, .int .i64 0, .int .i64 0, .int .i64 0, .int .i64 0, .int .i64 0, .int .i64 0, .int .i64 0, .int .i64 0, .int .i64 0, .int .i64 0, .int .i64 0, .int .i64 0, .int .i64 0, .int .i64 0, .int .i64 0, .int .i64 0, .int .i64 0, .int .i64 0], by kernel_rfl, rfl⟩
theorem sz_3 : Size Try.prog 3 1 := fun w => by kernel_rfl
theorem ag_114 : Agg Try.prog 114 24 := fun w => ⟨by kernel_rfl, by kernel_rfl⟩
theorem sz_114 : Size Try.prog 114 24 := fun w => by kernel_rfl
abbrev pricesL : List Price := pricesOf 92 93 94
theorem one_113 (x : Tariff) : ∀ u ∈ encTar x, u.oneCell' = true := by
  intro u hu
  simp [encTar] at hu
  rcases hu with rfl | rfl | rfl <;> rfl
theorem one_34 (x : Use) : ∀ u ∈ encUse x, u.oneCell' = true := by
  intro u hu
  simp [encUse] at hu
  rcases hu with rfl | rfl | rfl | rfl | rfl | rfl | rfl | rfl <;> rfl
theorem one_126 (x : Price) : ∀ u ∈ encPrice x, u.oneCell' = true := by
  intro u hu
  simp [encPrice] at hu
  rcases hu with rfl | rfl | rfl <;> rfl
set_option maxRecDepth 100000 in
theorem within_calls (w : World) (n m : Int)  :
    Calls Try.prog 49 #[.int .i64 n, .int .i64 m] w (fun e w' => e = .returned (.bool (decide (inTo n m))) ∧ Below w.heap.size w w') := by
  refine calls_of_tc (N := 12) (vs := [.int .i64 n, .int .i64 m]) Try.func49 rfl rfl (Nat.le_of_ble_eq_true rfl) ?_
  refine tc_seq ?_
  refine tc_region ?_
  refine s0 (qv_assign rfl) ?_
  refine tl_nil (tp_normal ?_)
  refine tc_seq ?_
  refine tc_region ?_
  refine s0 (qv_move rfl) ?_
  refine sd (qv_geq rfl rfl) (fun c6 => ?_) (fun c6 => ?_)
  ·
    refine s0 (qv_move rfl) ?_
    refine s0g (qv_move rfl) ?_
    refine s0g (qv_move rfl) ?_
    refine s0g (qv_leq rfl rfl) ?_
    refine s0 (qv_pickT rfl rfl) ?_
    refine s0 (qv_assign rfl) ?_
    refine tl_nil (tp_normal ?_)
    refine tc_ret (tp_end1 rfl rfl ?_)
    intro w' hm
    exact ⟨by simp [inTo, *], hm.below⟩
  ·
    refine s0 (qv_move rfl) ?_
    refine sk ?_
    refine sk ?_
    refine sk ?_
    refine s0 (qv_pickF rfl rfl) ?_
    refine s0 (qv_assign rfl) ?_
    refine tl_nil (tp_normal ?_)
    refine tc_ret (tp_end1 rfl rfl ?_)
    intro w' hm
    exact ⟨by simp [inTo, *], hm.below⟩
set_option maxRecDepth 100000 in
theorem party_calls (w : World) (t : List Tariff) (ta : Option Addr) (tc : Nat) (kind house customer : Int) (hlent : t.length ≤ 1000000000000000) :
    Calls Try.prog 50 #[.slice ta t.length tc, .int .i64 kind, .int .i64 house, .int .i64 customer] w (fun e w' => e = .returned (.bool (decide (partyIs t kind house customer))) ∧ Below w.heap.size w w') := by
  refine calls_of_tc (N := 26) (vs := [.slice ta t.length tc, .int .i64 kind, .int .i64 house, .int .i64 customer]) Try.func50 rfl rfl (Nat.le_of_ble_eq_true rfl) ?_
  refine tc_seq ?_
  refine tc_region ?_
  refine s0 (qv_assign rfl) ?_
  refine tl_nil (tp_normal ?_)
  refine tc_seq ?_
  refine tc_region ?_
  refine s0 (qv_move rfl) ?_
  refine sd (qv_geq rfl rfl) (fun c10 => ?_) (fun c10 => ?_)
  ·
    refine s0 (qv_move rfl) ?_
    refine s0g (qv_move rfl) ?_
    refine sdg (qv_leq rfl rfl) (fun c13 => ?_) (fun c13 => ?_)
    ·
      refine s0 (qv_pickT rfl rfl) ?_
      refine s0 (qv_move rfl) ?_
      refine s0g (qv_move rfl) ?_
      refine s0g (qv_move rfl) ?_
      refine s0g (qv_len st_23 rfl) ?_
      refine s0g (qv_subI rfl rfl (by omega)) ?_
      refine sdg (qv_call fn_49 rfl (fun w hm => within_calls w house ((t.length : Int) - (1)))) (fun c20 => ?_) (fun c20 => ?_)
      ·
        refine s0 (qv_pickT rfl rfl) ?_
        refine s0 (qv_move rfl) ?_
        refine s0g (qv_move rfl) ?_
        refine s0g (qv_call fn_49 rfl (fun w hm => within_calls w customer (27))) ?_
        refine s0 (qv_pickT rfl rfl) ?_
        refine s0 (qv_assign rfl) ?_
        refine tl_nil (tp_normal ?_)
        refine tc_ret (tp_end1 rfl rfl ?_)
        intro w' hm
        first | exact ⟨by rw [decide_eq_false (p := partyIs t kind house customer) (by simp only [partyIs, inTo] at *; omega)], hm.below⟩ | exact ⟨by rw [decide_eq_true (p := partyIs t kind house customer) (by simp only [partyIs, inTo] at *; omega)], hm.below⟩ | exact ⟨by rw [show decide (inTo customer 27) = decide (partyIs t kind house customer) from decide_eq_decide.2 (by simp only [partyIs, inTo] at *; omega)], hm.below⟩
      ·
        refine s0 (qv_pickT rfl rfl) ?_
        refine s0 (qv_move rfl) ?_
        refine sk ?_
        refine sk ?_
        refine s0 (qv_pickF rfl rfl) ?_
        refine s0 (qv_assign rfl) ?_
        refine tl_nil (tp_normal ?_)
        refine tc_ret (tp_end1 rfl rfl ?_)
        intro w' hm
        first | exact ⟨by rw [decide_eq_false (p := partyIs t kind house customer) (by simp only [partyIs, inTo] at *; omega)], hm.below⟩ | exact ⟨by rw [decide_eq_true (p := partyIs t kind house customer) (by simp only [partyIs, inTo] at *; omega)], hm.below⟩ | exact ⟨by rw [show decide (inTo customer 27) = decide (partyIs t kind house customer) from decide_eq_decide.2 (by simp only [partyIs, inTo] at *; omega)], hm.below⟩
    ·
      refine s0 (qv_pickT rfl rfl) ?_
      refine s0 (qv_move rfl) ?_
      refine sk ?_
      refine sk ?_
      refine sk ?_
      refine sk ?_
      refine sk ?_
      refine s0 (qv_pickF rfl rfl) ?_
      refine s0 (qv_move rfl) ?_
      refine sk ?_
      refine sk ?_
      refine s0 (qv_pickF rfl rfl) ?_
      refine s0 (qv_assign rfl) ?_
      refine tl_nil (tp_normal ?_)
      refine tc_ret (tp_end1 rfl rfl ?_)
      intro w' hm
      first | exact ⟨by rw [decide_eq_false (p := partyIs t kind house customer) (by simp only [partyIs, inTo] at *; omega)], hm.below⟩ | exact ⟨by rw [decide_eq_true (p := partyIs t kind house customer) (by simp only [partyIs, inTo] at *; omega)], hm.below⟩ | exact ⟨by rw [show decide (inTo customer 27) = decide (partyIs t kind house customer) from decide_eq_decide.2 (by simp only [partyIs, inTo] at *; omega)], hm.below⟩
  ·
    refine s0 (qv_move rfl) ?_
    refine sk ?_
    refine sk ?_
    refine s0 (qv_pickF rfl rfl) ?_
    refine s0 (qv_move rfl) ?_
    refine sk ?_
    refine sk ?_
    refine sk ?_
    refine sk ?_
    refine sk ?_
    refine s0 (qv_pickF rfl rfl) ?_
    refine s0 (qv_move rfl) ?_
    refine sk ?_
    refine sk ?_
    refine s0 (qv_pickF rfl rfl) ?_
    refine s0 (qv_assign rfl) ?_
    refine tl_nil (tp_normal ?_)
    refine tc_ret (tp_end1 rfl rfl ?_)
    intro w' hm
    first | exact ⟨by rw [decide_eq_false (p := partyIs t kind house customer) (by simp only [partyIs, inTo] at *; omega)], hm.below⟩ | exact ⟨by rw [decide_eq_true (p := partyIs t kind house customer) (by simp only [partyIs, inTo] at *; omega)], hm.below⟩ | exact ⟨by rw [show decide (inTo customer 27) = decide (partyIs t kind house customer) from decide_eq_decide.2 (by simp only [partyIs, inTo] at *; omega)], hm.below⟩
set_option maxRecDepth 100000 in
theorem each1_calls (w : World) (x : Tariff)  :
    Calls Try.prog 92 #[.agg (encTar x).toArray] w (fun e w' => e = .returned (.int .i64 x.read) ∧ Below w.heap.size w w') := by
  refine calls_of_tc (N := 5) (vs := [.agg (encTar x).toArray]) Try.func92 rfl rfl (Nat.le_of_ble_eq_true rfl) ?_
  refine tc_seq ?_
  refine tc_region ?_
  refine tl_box rfl (by decide) (fun b1_0 => ?_)
  refine s0 (qv_assign rfl) ?_
  refine tl_nil (tp_normal ?_)
  refine tc_seq ?_
  refine tc_region ?_
  refine s0 (qv_fa fo_113_1 rfl) ?_
  refine s0 (qv_ldB (i := 0) sc_3 rfl rfl rfl) ?_
  refine s0 (qv_assign rfl) ?_
  refine tl_nil (tp_normal ?_)
  refine tc_ret (tp_end1 rfl rfl ?_)
  intro w' hm
  exact ⟨rfl, hm.below⟩
set_option maxRecDepth 100000 in
theorem each2_calls (w : World) (x : Tariff)  :
    Calls Try.prog 93 #[.agg (encTar x).toArray] w (fun e w' => e = .returned (.int .i64 x.audit) ∧ Below w.heap.size w w') := by
  refine calls_of_tc (N := 5) (vs := [.agg (encTar x).toArray]) Try.func93 rfl rfl (Nat.le_of_ble_eq_true rfl) ?_
  refine tc_seq ?_
  refine tc_region ?_
  refine tl_box rfl (by decide) (fun b1_0 => ?_)
  refine s0 (qv_assign rfl) ?_
  refine tl_nil (tp_normal ?_)
  refine tc_seq ?_
  refine tc_region ?_
  refine s0 (qv_fa fo_113_2 rfl) ?_
  refine s0 (qv_ldB (i := 0) sc_3 rfl rfl rfl) ?_
  refine s0 (qv_assign rfl) ?_
  refine tl_nil (tp_normal ?_)
  refine tc_ret (tp_end1 rfl rfl ?_)
  intro w' hm
  exact ⟨rfl, hm.below⟩
set_option maxRecDepth 100000 in
theorem each3_calls (w : World) (x : Tariff)  :
    Calls Try.prog 94 #[.agg (encTar x).toArray] w (fun e w' => e = .returned (.int .i64 1000) ∧ Below w.heap.size w w') := by
  refine calls_of_tc (N := 3) (vs := [.agg (encTar x).toArray]) Try.func94 rfl rfl (Nat.le_of_ble_eq_true rfl) ?_
  refine tc_seq ?_
  refine tc_region ?_
  refine tl_box rfl (by decide) (fun b1_0 => ?_)
  refine s0 (qv_assign rfl) ?_
  refine tl_nil (tp_normal ?_)
  refine tc_seq ?_
  refine tc_region ?_
  refine s0 (qv_assign rfl) ?_
  refine tl_nil (tp_normal ?_)
  refine tc_ret (tp_end1 rfl rfl ?_)
  intro w' hm
  exact ⟨rfl, hm.below⟩
theorem fn_price {p : Price} (hp : p ∈ pricesL) : IsFn Try.prog p.fn := by
  simp only [pricesOf, List.mem_cons, List.not_mem_nil, or_false] at hp
  rcases hp with rfl | rfl | rfl
  · exact fn_92
  · exact fn_93
  · exact fn_94
theorem each_calls (w : World) (p : Price) (hp : p ∈ pricesL) (x : Tariff) : Calls Try.prog p.fn #[.agg (encTar x).toArray] w (fun e w' => e = .returned (.int .i64 (eachOf p.kind x)) ∧ Below w.heap.size w w') := by
  simp only [pricesOf, List.mem_cons, List.not_mem_nil, or_false] at hp
  rcases hp with rfl | rfl | rfl
  · exact each1_calls w x
  · exact each2_calls w x
  · exact each3_calls w x
set_option maxRecDepth 100000 in
theorem prices_calls (w : World)   :
    Calls Try.prog 51 #[] w (fun e w' => ∃ r : Option Addr × Nat, e = .returned (.slice r.1 pricesL.length r.2) ∧ Below w.heap.size w w' ∧ (pricesL.length ≤ r.2 ∧ SlAt w' w.heap.size w'.heap.size 3 encPrice r.1 pricesL)) := by
  refine calls_of_tc (N := 5) (vs := []) Try.func51 rfl rfl (Nat.le_of_ble_eq_true rfl) ?_
  refine tc_seq ?_
  refine tc_region ?_
  refine s0 (qv_assign rfl) ?_
  refine tl_nil (tp_normal ?_)
  refine tc_seq ?_
  refine tc_region ?_
  refine s0 (qv_build bt_126 rfl rfl) ?_
  refine s0 (qv_build bt_126 rfl rfl) ?_
  refine s0 (qv_build bt_126 rfl rfl) ?_
  refine tl_buildSliceL (enc := encPrice) pricesL bsl_122_3 (fun b4_0 => ?_) rfl (by kernel_rfl)
  have hsb4_0 := SlAt.ofBox (enc := encPrice) (sz := 3) (b := b4_0) (E := 126) (l := pricesL) (Nat.le_of_ble_eq_true rfl) (fun x hx => rfl)
  refine s0 (qv_assign rfl) ?_
  refine tl_nil (tp_normal ?_)
  refine tc_ret (tp_end1 rfl rfl ?_)
  intro w' hm
  have h_ := (Mem.has_box (b := b4_0) (by first | exact .head _ | exact .tail _ (.head _))) _ hm
  exact ⟨(some ⟨b4_0, 0, none⟩, 3), rfl, hm.below, Nat.le_refl 3, hsb4_0.move h_.2 (hm.boxOf (List.mem_of_getElem? (i := 0) rfl)).1 h_.1⟩
set_option maxRecDepth 100000 in
set_option maxHeartbeats 4000000 in
theorem mcheck_calls (w : World) (t : List Tariff) (ta : Option Addr) (tc : Nat) (l : List Use) (la : Option Addr) (lc : Nat) (ht : SlIn w 3 encTar ta t) (hl : SlIn w 8 encUse la l) :
    Calls Try.prog 16 #[.slice ta t.length tc, .slice la l.length lc] w (fun e w' => e = .returned (.int .i64 (meterCheck t l)) ∧ Below w.heap.size w w') := by
  have hlent := ht.len
  simp only [maxLen] at hlent
  have hlenu := hl.len
  simp only [maxLen] at hlenu
  have hpl : pricesL.length = 3 := rfl
  refine calls_of_tc (N := 99) (vs := [.slice ta t.length tc, .slice la l.length lc]) Try.func16 rfl rfl (Nat.le_of_ble_eq_true rfl) ?_
  refine tc_seq ?_
  refine tc_region ?_
  refine s0 (qv_assign rfl) ?_
  refine tl_nil (tp_normal ?_)
  refine tc_seq ?_
  refine tc_seq ?_
  refine tc_region ?_
  refine s0 (qv_move rfl) ?_
  refine s0 (qv_len st_23 rfl) ?_
  refine sd (qv_gtr rfl rfl) (fun c13 => ?_) (fun c13 => ?_)
  ·
    refine tl_nil (tp_normal ?_)
    refine tc_true rfl ?_
    refine tc_seq ?_
    refine tc_region ?_
    refine s0 (qv_assign rfl) ?_
    refine tl_nil (tp_normal ?_)
    refine tc_ret (tp_then_ret (tp_end1 rfl rfl ?_))
    intro w' hm
    exact ⟨by rw [meterCheck, if_pos (by omega)], hm.below⟩
  ·
    refine tl_nil (tp_normal ?_)
    refine tc_false rfl ?_
    refine tc_skip (tp_normal ?_)
    refine tc_seq ?_
    refine tc_seq ?_
    refine tc_region ?_
    refine s0 (qv_move rfl) ?_
    refine s0 (qv_len st_23 rfl) ?_
    refine s0 (qv_move rfl) ?_
    refine tl_nil (tp_normal ?_)
    refine tc_block (tc_loopS (fun (k : Nat) => [(16, .int .i64 (k : Int))]) (fun (k : Nat) => k ≤ t.length ∧ meterCheck t l = checkFrom t l k) (fun (k : Nat) => t.length - k) (0) ⟨Nat.zero_le _, checkFrom_zero (by omega)⟩ ⟨rfl, trivial⟩ ?_)
    rintro k hI
    refine tc_seq ?_
    refine tc_region ?_
    refine sd (qv_lss rfl rfl) (fun c17 => ?_) (fun c17 => ?_)
    ·
      refine tl_nil (tp_normal ?_)
      refine tc_seq ?_
      refine tc_true rfl ?_
      refine tc_skip (tp_normal ?_)
      refine tc_seq ?_
      refine tc_block ?_
      refine tc_seq ?_
      refine tc_region ?_
      refine sn st_23 ht rfl rfl (by omega) (fun e18 he18 => ?_)
      refine s0 (qv_ldEW ag_113 ht Mem.has_base rfl he18) ?_
      refine tl_alloc ze_113 (by decide) (fun b6_0 => ?_)
      refine tl_storeL (i := 0) sz_113 (ht.szs _ (List.mem_of_getElem? he18)) (one_113 _) rfl rfl rfl rfl ?_
      refine tl_nil (tp_normal ?_)
      refine tc_seq ?_
      refine tc_region ?_
      refine s0 (qv_fa fo_113_0 rfl) ?_
      refine s0 (qv_ldB (i := 0) sc_3 rfl rfl rfl) ?_
      refine sd (qv_call fn_49 rfl (fun w hm => within_calls w e18.keep (1000))) (fun c22 => ?_) (fun c22 => ?_)
      ·
        refine s0 (qv_not rfl) ?_
        refine s0 (qv_move rfl) ?_
        refine s0g (qv_fa fo_113_1 rfl) ?_
        refine s0g (qv_ldB (i := 0) sc_3 rfl rfl rfl) ?_
        refine sdg (qv_call fn_49 rfl (fun w hm => within_calls w e18.read (1000))) (fun c27 => ?_) (fun c27 => ?_)
        ·
          refine s0g (qv_not rfl) ?_
          refine s0 (qv_pickF rfl rfl) ?_
          refine s0 (qv_move rfl) ?_
          refine s0g (qv_fa fo_113_2 rfl) ?_
          refine s0g (qv_ldB (i := 0) sc_3 rfl rfl rfl) ?_
          refine sdg (qv_call fn_49 rfl (fun w hm => within_calls w e18.audit (1000))) (fun c33 => ?_) (fun c33 => ?_)
          ·
            refine s0g (qv_not rfl) ?_
            refine s0 (qv_pickF rfl rfl) ?_
            refine tl_nil (tp_normal ?_)
            refine tc_false rfl ?_
            refine tc_skip (tp_block_normal (tp_normal ?_))
            refine tc_region ?_
            refine s0 (qv_succ rfl rfl (by omega)) ?_
            refine s0 (qv_move rfl) ?_
            exact tl_nil (tp_roundS (k + 1) ⟨by omega, by rw [hI.2, checkFrom_ok he18 (by unfold tarBad inTo at *; omega)]⟩ (by omega) ⟨rfl, trivial⟩ rfl rfl rfl rfl)
          ·
            refine s0g (qv_not rfl) ?_
            refine s0 (qv_pickF rfl rfl) ?_
            refine tl_nil (tp_normal ?_)
            refine tc_true rfl ?_
            refine tc_seq ?_
            refine tc_region ?_
            refine s0 (qv_assign rfl) ?_
            refine tl_nil (tp_normal ?_)
            refine tc_ret (tp_block_ret (tp_then_ret (tp_then_ret (tp_block_ret (tp_then_ret (tp_end1 rfl rfl ?_))))))
            intro w' hm
            exact ⟨by rw [hI.2, checkFrom_bad he18 (by unfold tarBad inTo at *; omega)], hm.below⟩
        ·
          refine s0g (qv_not rfl) ?_
          refine s0 (qv_pickF rfl rfl) ?_
          refine s0 (qv_move rfl) ?_
          refine sk ?_
          refine sk ?_
          refine sk ?_
          refine sk ?_
          refine s0 (qv_pickT rfl rfl) ?_
          refine tl_nil (tp_normal ?_)
          refine tc_true rfl ?_
          refine tc_seq ?_
          refine tc_region ?_
          refine s0 (qv_assign rfl) ?_
          refine tl_nil (tp_normal ?_)
          refine tc_ret (tp_block_ret (tp_then_ret (tp_then_ret (tp_block_ret (tp_then_ret (tp_end1 rfl rfl ?_))))))
          intro w' hm
          exact ⟨by rw [hI.2, checkFrom_bad he18 (by unfold tarBad inTo at *; omega)], hm.below⟩
      ·
        refine s0 (qv_not rfl) ?_
        refine s0 (qv_move rfl) ?_
        refine sk ?_
        refine sk ?_
        refine sk ?_
        refine sk ?_
        refine s0 (qv_pickT rfl rfl) ?_
        refine s0 (qv_move rfl) ?_
        refine sk ?_
        refine sk ?_
        refine sk ?_
        refine sk ?_
        refine s0 (qv_pickT rfl rfl) ?_
        refine tl_nil (tp_normal ?_)
        refine tc_true rfl ?_
        refine tc_seq ?_
        refine tc_region ?_
        refine s0 (qv_assign rfl) ?_
        refine tl_nil (tp_normal ?_)
        refine tc_ret (tp_block_ret (tp_then_ret (tp_then_ret (tp_block_ret (tp_then_ret (tp_end1 rfl rfl ?_))))))
        intro w' hm
        exact ⟨by rw [hI.2, checkFrom_bad he18 (by unfold tarBad inTo at *; omega)], hm.below⟩
    ·
      refine tl_nil (tp_normal ?_)
      refine tc_seq ?_
      refine tc_false rfl ?_
      refine tc_exit (tp_then_exit (tp_then_exit (tp_block_exit (tp_normal ?_))))
      refine tc_seq ?_
      refine tc_seq ?_
      refine tc_region ?_
      refine s0 (qv_move rfl) ?_
      refine s0 (qv_len st_27 rfl) ?_
      refine sd (qv_gtr rfl rfl) (fun c39 => ?_) (fun c39 => ?_)
      ·
        refine tl_nil (tp_normal ?_)
        refine tc_true rfl ?_
        refine tc_seq ?_
        refine tc_region ?_
        refine s0 (qv_assign rfl) ?_
        refine tl_nil (tp_normal ?_)
        refine tc_ret (tp_then_ret (tp_end1 rfl rfl ?_))
        intro w' hm
        exact ⟨by rw [hI.2, checkFrom_end (by omega), if_pos (by omega)], hm.below⟩
      ·
        refine tl_nil (tp_normal ?_)
        refine tc_false rfl ?_
        refine tc_skip (tp_normal ?_)
        refine tc_seq ?_
        refine tc_seq ?_
        refine tc_region ?_
        refine s0 (qv_move rfl) ?_
        refine s0 (qv_len st_27 rfl) ?_
        refine s0 (qv_move rfl) ?_
        refine tl_nil (tp_normal ?_)
        refine tc_block (tc_loopS (fun (k : Nat) => [(42, .int .i64 (k : Int))]) (fun (k : Nat) => k ≤ l.length ∧ meterCheck t l = useErrs t (l.drop k)) (fun (k : Nat) => l.length - k) (0) ⟨Nat.zero_le _, by rw [hI.2, checkFrom_end (by omega), if_neg (by omega), List.drop_zero]⟩ ⟨rfl, trivial⟩ ?_)
        rintro k hJ
        refine tc_seq ?_
        refine tc_region ?_
        refine sd (qv_lss rfl rfl) (fun c43 => ?_) (fun c43 => ?_)
        ·
          refine tl_nil (tp_normal ?_)
          refine tc_seq ?_
          refine tc_true rfl ?_
          refine tc_skip (tp_normal ?_)
          refine tc_seq ?_
          refine tc_block ?_
          refine tc_seq ?_
          refine tc_region ?_
          refine sn st_27 hl rfl rfl (by omega) (fun e44 he44 => ?_)
          refine s0 (qv_ldEW ag_34 hl Mem.has_base rfl he44) ?_
          refine tl_alloc ze_34 (by decide) (fun b8_1 => ?_)
          refine tl_storeL (i := 0) sz_34 (hl.szs _ (List.mem_of_getElem? he44)) (one_34 _) rfl rfl rfl rfl ?_
          refine tl_nil (tp_normal ?_)
          refine tc_seq ?_
          refine tc_seq ?_
          refine tc_region ?_
          refine s0 (qv_move rfl) ?_
          refine s0 (qv_fa fo_34_0 rfl) ?_
          refine s0 (qv_ldB (i := 0) sc_3 rfl rfl rfl) ?_
          refine s0 (qv_fa fo_34_1 rfl) ?_
          refine s0 (qv_ldB (i := 0) sc_3 rfl rfl rfl) ?_
          refine s0 (qv_fa fo_34_2 rfl) ?_
          refine s0 (qv_ldB (i := 0) sc_3 rfl rfl rfl) ?_
          refine sd (qv_call fn_50 rfl (fun w hm => party_calls w t ta tc e44.kind e44.house e44.customer (by omega))) (fun c53 => ?_) (fun c53 => ?_)
          ·
            refine s0 (qv_not rfl) ?_
            refine tl_nil (tp_normal ?_)
            refine tc_false rfl ?_
            refine tc_skip (tp_normal ?_)
            refine tc_seq ?_
            refine tc_seq ?_
            refine tc_region ?_
            refine s0 (qv_fa fo_34_0 rfl) ?_
            refine s0 (qv_ldB (i := 0) sc_3 rfl rfl rfl) ?_
            refine sd (qv_eql rfl rfl) (fun c57 => ?_) (fun c57 => ?_)
            ·
              refine s0 (qv_move rfl) ?_
              refine s0g (qv_fa fo_34_3 rfl) ?_
              refine s0g (qv_ldB (i := 0) sc_3 rfl rfl rfl) ?_
              refine sdg (qv_call fn_49 rfl (fun w hm => within_calls w e44.bytes (16777216))) (fun c61 => ?_) (fun c61 => ?_)
              ·
                refine s0g (qv_not rfl) ?_
                refine s0g (qv_move rfl) ?_
                refine s0g (qv_fa fo_34_5 rfl) ?_
                refine s0g (qv_ldB (i := 0) sc_3 rfl rfl rfl) ?_
                refine sdg (qv_call fn_49 rfl (fun w hm => within_calls w e44.till (1000000))) (fun c66 => ?_) (fun c66 => ?_)
                ·
                  refine s0g (qv_not rfl) ?_
                  refine s0g (qv_pickF rfl rfl) ?_
                  refine s0g (qv_move rfl) ?_
                  refine s0g (qv_fa fo_34_4 rfl) ?_
                  refine s0g (qv_ldB (i := 0) sc_3 rfl rfl rfl) ?_
                  refine s0g (qv_fa fo_34_5 rfl) ?_
                  refine s0g (qv_ldB (i := 0) sc_3 rfl rfl rfl) ?_
                  refine sdg (qv_call fn_49 rfl (fun w hm => within_calls w e44.since e44.till)) (fun c74 => ?_) (fun c74 => ?_)
                  ·
                    refine s0g (qv_not rfl) ?_
                    refine s0g (qv_pickF rfl rfl) ?_
                    refine s0 (qv_pickT rfl rfl) ?_
                    refine tl_nil (tp_normal ?_)
                    refine tc_false rfl ?_
                    refine tc_skip (tp_normal ?_)
                    refine tc_seq ?_
                    refine tc_region ?_
                    refine tl_callR fn_51 rfl (by decide) (fun w hm => prices_calls w) (fun r78 wa78 wb78 hm78 hb78 hr78 => ?_)
                    refine s0 (qv_len st_122 rfl) ?_
                    refine s0 (qv_move rfl) ?_
                    refine tl_nil (tp_normal ?_)
                    refine tc_block (tc_loopS (fun (j : Nat) => [(80, .int .i64 (j : Int))]) (fun (j : Nat) => j ≤ pricesL.length ∧ ∀ (i : Nat) p, i < j → pricesL[i]? = some p → ¬ priceBad e44 p) (fun (j : Nat) => pricesL.length - j) (0) ⟨Nat.zero_le _, fun _ _ h => absurd h (Nat.not_lt_zero _)⟩ ⟨rfl, trivial⟩ ?_)
                    rintro j hK
                    refine tc_seq ?_
                    refine tc_region ?_
                    refine sd (qv_lss rfl rfl) (fun c81 => ?_) (fun c81 => ?_)
                    ·
                      refine tl_nil (tp_normal ?_)
                      refine tc_seq ?_
                      refine tc_true rfl ?_
                      refine tc_skip (tp_normal ?_)
                      refine tc_seq ?_
                      refine tc_block ?_
                      refine tc_seq ?_
                      refine tc_region ?_
                      refine sn st_122 hr78.2 rfl rfl (by omega) (fun e82 he82 => ?_)
                      refine s0 (qv_ldEW ag_126 hr78.2 (Mem.has_kept (by first | exact .head _ | exact .tail _ (.head _) | exact .tail _ (.tail _ (.head _)) | exact .tail _ (.tail _ (.tail _ (.head _))))) rfl he82) ?_
                      refine tl_alloc ze_126 (by decide) (fun b10_2 => ?_)
                      refine tl_storeL (i := 0) sz_126 (hr78.2.szs _ (List.mem_of_getElem? he82)) (one_126 _) rfl rfl rfl rfl ?_
                      refine tl_nil (tp_normal ?_)
                      refine tc_seq ?_
                      refine tc_region ?_
                      refine s0 (qv_fa fo_126_0 rfl) ?_
                      refine s0 (qv_ldB (i := 0) sc_3 rfl rfl rfl) ?_
                      refine s0 (qv_fa fo_34_0 rfl) ?_
                      refine s0 (qv_ldB (i := 1) sc_3 rfl rfl rfl) ?_
                      refine sd (qv_eql rfl rfl) (fun c88 => ?_) (fun c88 => ?_)
                      ·
                        refine s0 (qv_move rfl) ?_
                        refine s0g (qv_fa fo_34_6 rfl) ?_
                        refine s0g (qv_ldB (i := 1) sc_3 rfl rfl rfl) ?_
                        refine s0g (qv_fa fo_126_1 rfl) ?_
                        refine s0g (qv_ldB (i := 0) sc_3 rfl rfl rfl) ?_
                        refine sdg (qv_call fn_49 rfl (fun w hm => within_calls w e44.count e82.most)) (fun c94 => ?_) (fun c94 => ?_)
                        ·
                          refine s0g (qv_not rfl) ?_
                          refine s0 (qv_pickT rfl rfl) ?_
                          refine tl_nil (tp_normal ?_)
                          refine tc_false rfl ?_
                          refine tc_skip (tp_block_normal (tp_normal ?_))
                          refine tc_region ?_
                          refine s0 (qv_succ rfl rfl (by omega)) ?_
                          refine s0 (qv_move rfl) ?_
                          exact tl_nil (tp_roundS (j + 1) ⟨by omega, none_stepG (P := fun _ (p : Price) => ¬ priceBad e44 p) hK.2 he82 (fun h => by first | exact absurd h.1 (by assumption) | exact h.2 (by assumption))⟩ (by omega) ⟨rfl, trivial⟩ rfl rfl rfl rfl)
                        ·
                          refine s0g (qv_not rfl) ?_
                          refine s0 (qv_pickT rfl rfl) ?_
                          refine tl_nil (tp_normal ?_)
                          refine tc_true rfl ?_
                          refine tc_seq ?_
                          refine tc_region ?_
                          refine s0 (qv_assign rfl) ?_
                          refine tl_nil (tp_normal ?_)
                          refine tc_ret (tp_block_ret (tp_then_ret (tp_then_ret (tp_block_ret (tp_block_ret (tp_then_ret (tp_then_ret (tp_block_ret (tp_then_ret (tp_end1 rfl rfl ?_))))))))))
                          intro w' hm
                          have hub : useBad e44 := price_bad he82 ⟨c88, c94⟩
                          exact ⟨by rw [hJ.2, useErrs_bad he44 (by rw [useErr_bad c53 hub]; decide), useErr_bad c53 hub], hm.below⟩
                      ·
                        refine s0 (qv_move rfl) ?_
                        refine sk ?_
                        refine sk ?_
                        refine sk ?_
                        refine sk ?_
                        refine sk ?_
                        refine sk ?_
                        refine s0 (qv_pickF rfl rfl) ?_
                        refine tl_nil (tp_normal ?_)
                        refine tc_false rfl ?_
                        refine tc_skip (tp_block_normal (tp_normal ?_))
                        refine tc_region ?_
                        refine s0 (qv_succ rfl rfl (by omega)) ?_
                        refine s0 (qv_move rfl) ?_
                        exact tl_nil (tp_roundS (j + 1) ⟨by omega, none_stepG (P := fun _ (p : Price) => ¬ priceBad e44 p) hK.2 he82 (fun h => by first | exact absurd h.1 (by assumption) | exact h.2 (by assumption))⟩ (by omega) ⟨rfl, trivial⟩ rfl rfl rfl rfl)
                    ·
                      refine tl_nil (tp_normal ?_)
                      refine tc_seq ?_
                      refine tc_false rfl ?_
                      refine tc_exit (tp_then_exit (tp_then_exit (tp_block_exit (tp_block_normal (tp_normal ?_)))))
                      refine tc_region ?_
                      refine s0 (qv_succ rfl rfl (by omega)) ?_
                      refine s0 (qv_move rfl) ?_
                      exact tl_nil (tp_roundS (k + 1) ⟨by omega, by rw [hJ.2, useErrs_ok he44 (useErr_ok c53 (use_fine (fun h => by first | exact c57 h.1 | (rcases h.2 with h_ | h_ | h_ <;> contradiction)) (by omega) hK.2))]⟩ (by omega) ⟨rfl, trivial⟩ rfl rfl rfl rfl)
                  ·
                    refine s0g (qv_not rfl) ?_
                    refine s0g (qv_pickF rfl rfl) ?_
                    refine s0 (qv_pickT rfl rfl) ?_
                    refine tl_nil (tp_normal ?_)
                    refine tc_true rfl ?_
                    refine tc_seq ?_
                    refine tc_region ?_
                    refine s0 (qv_assign rfl) ?_
                    refine tl_nil (tp_normal ?_)
                    refine tc_ret (tp_then_ret (tp_block_ret (tp_then_ret (tp_then_ret (tp_block_ret (tp_then_ret (tp_end1 rfl rfl ?_)))))))
                    intro w' hm
                    have hub : useBad e44 := .inl ⟨c57, by first | exact .inl c61 | exact .inr (.inl c66) | exact .inr (.inr c74)⟩
                    exact ⟨by rw [hJ.2, useErrs_bad he44 (by rw [useErr_bad c53 hub]; decide), useErr_bad c53 hub], hm.below⟩
                ·
                  refine s0g (qv_not rfl) ?_
                  refine s0g (qv_pickF rfl rfl) ?_
                  refine s0g (qv_move rfl) ?_
                  refine sk ?_
                  refine sk ?_
                  refine sk ?_
                  refine sk ?_
                  refine sk ?_
                  refine sk ?_
                  refine s0g (qv_pickT rfl rfl) ?_
                  refine s0 (qv_pickT rfl rfl) ?_
                  refine tl_nil (tp_normal ?_)
                  refine tc_true rfl ?_
                  refine tc_seq ?_
                  refine tc_region ?_
                  refine s0 (qv_assign rfl) ?_
                  refine tl_nil (tp_normal ?_)
                  refine tc_ret (tp_then_ret (tp_block_ret (tp_then_ret (tp_then_ret (tp_block_ret (tp_then_ret (tp_end1 rfl rfl ?_)))))))
                  intro w' hm
                  have hub : useBad e44 := .inl ⟨c57, by first | exact .inl c61 | exact .inr (.inl c66) | exact .inr (.inr c74)⟩
                  exact ⟨by rw [hJ.2, useErrs_bad he44 (by rw [useErr_bad c53 hub]; decide), useErr_bad c53 hub], hm.below⟩
              ·
                refine s0g (qv_not rfl) ?_
                refine s0g (qv_move rfl) ?_
                refine sk ?_
                refine sk ?_
                refine sk ?_
                refine sk ?_
                refine s0g (qv_pickT rfl rfl) ?_
                refine s0g (qv_move rfl) ?_
                refine sk ?_
                refine sk ?_
                refine sk ?_
                refine sk ?_
                refine sk ?_
                refine sk ?_
                refine s0g (qv_pickT rfl rfl) ?_
                refine s0 (qv_pickT rfl rfl) ?_
                refine tl_nil (tp_normal ?_)
                refine tc_true rfl ?_
                refine tc_seq ?_
                refine tc_region ?_
                refine s0 (qv_assign rfl) ?_
                refine tl_nil (tp_normal ?_)
                refine tc_ret (tp_then_ret (tp_block_ret (tp_then_ret (tp_then_ret (tp_block_ret (tp_then_ret (tp_end1 rfl rfl ?_)))))))
                intro w' hm
                have hub : useBad e44 := .inl ⟨c57, by first | exact .inl c61 | exact .inr (.inl c66) | exact .inr (.inr c74)⟩
                exact ⟨by rw [hJ.2, useErrs_bad he44 (by rw [useErr_bad c53 hub]; decide), useErr_bad c53 hub], hm.below⟩
            ·
              refine s0 (qv_move rfl) ?_
              refine sk ?_
              refine sk ?_
              refine sk ?_
              refine sk ?_
              refine sk ?_
              refine sk ?_
              refine sk ?_
              refine sk ?_
              refine sk ?_
              refine sk ?_
              refine sk ?_
              refine sk ?_
              refine sk ?_
              refine sk ?_
              refine sk ?_
              refine sk ?_
              refine sk ?_
              refine sk ?_
              refine s0 (qv_pickF rfl rfl) ?_
              refine tl_nil (tp_normal ?_)
              refine tc_false rfl ?_
              refine tc_skip (tp_normal ?_)
              refine tc_seq ?_
              refine tc_region ?_
              refine tl_callR fn_51 rfl (by decide) (fun w hm => prices_calls w) (fun r78 wa78 wb78 hm78 hb78 hr78 => ?_)
              refine s0 (qv_len st_122 rfl) ?_
              refine s0 (qv_move rfl) ?_
              refine tl_nil (tp_normal ?_)
              refine tc_block (tc_loopS (fun (j : Nat) => [(80, .int .i64 (j : Int))]) (fun (j : Nat) => j ≤ pricesL.length ∧ ∀ (i : Nat) p, i < j → pricesL[i]? = some p → ¬ priceBad e44 p) (fun (j : Nat) => pricesL.length - j) (0) ⟨Nat.zero_le _, fun _ _ h => absurd h (Nat.not_lt_zero _)⟩ ⟨rfl, trivial⟩ ?_)
              rintro j hK
              refine tc_seq ?_
              refine tc_region ?_
              refine sd (qv_lss rfl rfl) (fun c81 => ?_) (fun c81 => ?_)
              ·
                refine tl_nil (tp_normal ?_)
                refine tc_seq ?_
                refine tc_true rfl ?_
                refine tc_skip (tp_normal ?_)
                refine tc_seq ?_
                refine tc_block ?_
                refine tc_seq ?_
                refine tc_region ?_
                refine sn st_122 hr78.2 rfl rfl (by omega) (fun e82 he82 => ?_)
                refine s0 (qv_ldEW ag_126 hr78.2 (Mem.has_kept (by first | exact .head _ | exact .tail _ (.head _) | exact .tail _ (.tail _ (.head _)) | exact .tail _ (.tail _ (.tail _ (.head _))))) rfl he82) ?_
                refine tl_alloc ze_126 (by decide) (fun b10_3 => ?_)
                refine tl_storeL (i := 0) sz_126 (hr78.2.szs _ (List.mem_of_getElem? he82)) (one_126 _) rfl rfl rfl rfl ?_
                refine tl_nil (tp_normal ?_)
                refine tc_seq ?_
                refine tc_region ?_
                refine s0 (qv_fa fo_126_0 rfl) ?_
                refine s0 (qv_ldB (i := 0) sc_3 rfl rfl rfl) ?_
                refine s0 (qv_fa fo_34_0 rfl) ?_
                refine s0 (qv_ldB (i := 1) sc_3 rfl rfl rfl) ?_
                refine sd (qv_eql rfl rfl) (fun c88 => ?_) (fun c88 => ?_)
                ·
                  refine s0 (qv_move rfl) ?_
                  refine s0g (qv_fa fo_34_6 rfl) ?_
                  refine s0g (qv_ldB (i := 1) sc_3 rfl rfl rfl) ?_
                  refine s0g (qv_fa fo_126_1 rfl) ?_
                  refine s0g (qv_ldB (i := 0) sc_3 rfl rfl rfl) ?_
                  refine sdg (qv_call fn_49 rfl (fun w hm => within_calls w e44.count e82.most)) (fun c94 => ?_) (fun c94 => ?_)
                  ·
                    refine s0g (qv_not rfl) ?_
                    refine s0 (qv_pickT rfl rfl) ?_
                    refine tl_nil (tp_normal ?_)
                    refine tc_false rfl ?_
                    refine tc_skip (tp_block_normal (tp_normal ?_))
                    refine tc_region ?_
                    refine s0 (qv_succ rfl rfl (by omega)) ?_
                    refine s0 (qv_move rfl) ?_
                    exact tl_nil (tp_roundS (j + 1) ⟨by omega, none_stepG (P := fun _ (p : Price) => ¬ priceBad e44 p) hK.2 he82 (fun h => by first | exact absurd h.1 (by assumption) | exact h.2 (by assumption))⟩ (by omega) ⟨rfl, trivial⟩ rfl rfl rfl rfl)
                  ·
                    refine s0g (qv_not rfl) ?_
                    refine s0 (qv_pickT rfl rfl) ?_
                    refine tl_nil (tp_normal ?_)
                    refine tc_true rfl ?_
                    refine tc_seq ?_
                    refine tc_region ?_
                    refine s0 (qv_assign rfl) ?_
                    refine tl_nil (tp_normal ?_)
                    refine tc_ret (tp_block_ret (tp_then_ret (tp_then_ret (tp_block_ret (tp_block_ret (tp_then_ret (tp_then_ret (tp_block_ret (tp_then_ret (tp_end1 rfl rfl ?_))))))))))
                    intro w' hm
                    have hub : useBad e44 := price_bad he82 ⟨c88, c94⟩
                    exact ⟨by rw [hJ.2, useErrs_bad he44 (by rw [useErr_bad c53 hub]; decide), useErr_bad c53 hub], hm.below⟩
                ·
                  refine s0 (qv_move rfl) ?_
                  refine sk ?_
                  refine sk ?_
                  refine sk ?_
                  refine sk ?_
                  refine sk ?_
                  refine sk ?_
                  refine s0 (qv_pickF rfl rfl) ?_
                  refine tl_nil (tp_normal ?_)
                  refine tc_false rfl ?_
                  refine tc_skip (tp_block_normal (tp_normal ?_))
                  refine tc_region ?_
                  refine s0 (qv_succ rfl rfl (by omega)) ?_
                  refine s0 (qv_move rfl) ?_
                  exact tl_nil (tp_roundS (j + 1) ⟨by omega, none_stepG (P := fun _ (p : Price) => ¬ priceBad e44 p) hK.2 he82 (fun h => by first | exact absurd h.1 (by assumption) | exact h.2 (by assumption))⟩ (by omega) ⟨rfl, trivial⟩ rfl rfl rfl rfl)
              ·
                refine tl_nil (tp_normal ?_)
                refine tc_seq ?_
                refine tc_false rfl ?_
                refine tc_exit (tp_then_exit (tp_then_exit (tp_block_exit (tp_block_normal (tp_normal ?_)))))
                refine tc_region ?_
                refine s0 (qv_succ rfl rfl (by omega)) ?_
                refine s0 (qv_move rfl) ?_
                exact tl_nil (tp_roundS (k + 1) ⟨by omega, by rw [hJ.2, useErrs_ok he44 (useErr_ok c53 (use_fine (fun h => by first | exact c57 h.1 | (rcases h.2 with h_ | h_ | h_ <;> contradiction)) (by omega) hK.2))]⟩ (by omega) ⟨rfl, trivial⟩ rfl rfl rfl rfl)
          ·
            refine s0 (qv_not rfl) ?_
            refine tl_nil (tp_normal ?_)
            refine tc_true rfl ?_
            refine tc_seq ?_
            refine tc_region ?_
            refine s0 (qv_assign rfl) ?_
            refine tl_nil (tp_normal ?_)
            refine tc_ret (tp_then_ret (tp_block_ret (tp_then_ret (tp_then_ret (tp_block_ret (tp_then_ret (tp_end1 rfl rfl ?_)))))))
            intro w' hm
            exact ⟨by rw [hJ.2, useErrs_bad he44 (by rw [useErr_party c53]; decide), useErr_party c53], hm.below⟩
        ·
          refine tl_nil (tp_normal ?_)
          refine tc_seq ?_
          refine tc_false rfl ?_
          refine tc_exit (tp_then_exit (tp_then_exit (tp_block_exit (tp_normal ?_))))
          refine tc_seq ?_
          refine tc_region ?_
          refine s0 (qv_assign rfl) ?_
          refine tl_nil (tp_normal ?_)
          refine tc_ret (tp_end1 rfl rfl ?_)
          intro w' hm
          exact ⟨by rw [hJ.2, List.drop_eq_nil_of_le (by omega)]; rfl, hm.below⟩
set_option maxRecDepth 100000 in
set_option maxHeartbeats 4000000 in
theorem charge_calls (w : World) (t : List Tariff) (ta : Option Addr) (tc : Nat) (n : Net) (na : Option Addr) (nc : Nat) (u : Use) (ht : SlIn w 3 encTar ta t) (hn : SlIn w 50 encLink na n.links) (hk : NetOk n) (hs : SlIn w 3 encSend u.sends.a u.sends.l) :
    Calls Try.prog 18 #[.slice ta t.length tc, .agg (netA n na nc), .agg (encUse u).toArray] w (fun e w' => e = .returned (.tuple #[.int .i64 (charge t n u).1, .int .i64 (charge t n u).2]) ∧ Below w.heap.size w w') := by
  have hlent := ht.len
  simp only [maxLen] at hlent
  have hlenn := hn.len
  simp only [maxLen] at hlenn
  have hlen := hs.len
  simp only [maxLen] at hlen
  have hpl : pricesL.length = 3 := rfl
  refine calls_of_tc (N := 83) (vs := [.slice ta t.length tc, .agg (netA n na nc), .agg (encUse u).toArray]) Try.func18 rfl rfl (Nat.le_of_ble_eq_true rfl) ?_
  refine tc_seq ?_
  refine tc_region ?_
  refine tl_box rfl (by decide) (fun b4_0 => ?_)
  refine tl_box rfl (by decide) (fun b5_1 => ?_)
  refine s0 (qv_assign rfl) ?_
  refine s0 (qv_assign rfl) ?_
  refine tl_nil (tp_normal ?_)
  refine tc_seq ?_
  refine tc_seq ?_
  refine tc_region ?_
  refine s0 (qv_move rfl) ?_
  refine s0 (qv_ldBW (i := 0) ag_34 rfl rfl rfl) ?_
  refine tl_buildSliceL (enc := encUse) [u] bsl_27_1 (fun b16_2 => ?_) rfl (by kernel_rfl)
  have hsb16_2 := SlAt.ofBox (enc := encUse) (sz := 8) (b := b16_2) (E := 34) (l := [u]) (Nat.le_of_ble_eq_true rfl) (fun x hx => rfl)
  refine s0 (qv_call fn_16 rfl (fun w hm => mcheck_calls w t ta tc [u] (some ⟨b16_2, 0, none⟩) 1 (ht.into Mem.has_base hm) (hsb16_2.into (Mem.has_box (by repeat (first | exact List.Mem.head _ | refine List.Mem.tail _ ?_))) hm))) ?_
  refine s0 (qv_assign rfl) ?_
  refine tl_nil (tp_normal ?_)
  refine tc_seq ?_
  refine tc_region ?_
  refine s0 (qv_move rfl) ?_
  refine sd (qv_neq rfl rfl) (fun c19 => ?_) (fun c19 => ?_)
  ·
    refine tl_nil (tp_normal ?_)
    refine tc_true rfl ?_
    refine tc_seq ?_
    refine tc_region ?_
    refine s0 (qv_move rfl) ?_
    refine s0 (qv_assign rfl) ?_
    refine s0 (qv_assign rfl) ?_
    refine tl_nil (tp_normal ?_)
    refine tc_ret (tp_then_ret (tp_end2 rfl rfl rfl ?_))
    intro w' hm
    exact ⟨by rw [charge_err (by omega)], hm.below⟩
  ·
    refine tl_nil (tp_normal ?_)
    refine tc_false rfl ?_
    refine tc_skip (tp_normal ?_)
    refine tc_seq ?_
    refine tc_seq ?_
    have hc := charged (t := t) (u := u) (by omega)
    have hh0 := hc.h0
    have hh1 := hc.h1
    refine tc_region ?_
    refine tl_callR fn_51 rfl (by decide) (fun w hm => prices_calls w) (fun r21 wa21 wb21 hm21 hb21 hr21 => ?_)
    refine s0 (qv_len st_122 rfl) ?_
    refine s0 (qv_move rfl) ?_
    refine tl_nil (tp_normal ?_)
    refine tc_block (tc_loopS (fun (k : Nat) => [(23, .int .i64 (k : Int))]) (fun (k : Nat) => k ≤ pricesL.length ∧ ∀ (i : Nat) p, i < k → pricesL[i]? = some p → ¬ p.kind = u.kind) (fun (k : Nat) => pricesL.length - k) (0) ⟨Nat.zero_le _, fun _ _ h => absurd h (Nat.not_lt_zero _)⟩ ⟨rfl, trivial⟩ ?_)
    rintro k hI
    refine tc_seq ?_
    refine tc_region ?_
    refine sd (qv_lss rfl rfl) (fun c24 => ?_) (fun c24 => ?_)
    ·
      refine tl_nil (tp_normal ?_)
      refine tc_seq ?_
      refine tc_true rfl ?_
      refine tc_skip (tp_normal ?_)
      refine tc_seq ?_
      refine tc_block ?_
      refine tc_seq ?_
      refine tc_region ?_
      refine sn st_122 hr21.2 rfl rfl (by omega) (fun e25 he25 => ?_)
      refine s0 (qv_ldEW ag_126 hr21.2 (Mem.has_kept (by first | exact .head _ | exact .tail _ (.head _) | exact .tail _ (.tail _ (.head _)) | exact .tail _ (.tail _ (.tail _ (.head _))))) rfl he25) ?_
      refine tl_alloc ze_126 (by decide) (fun b10_3 => ?_)
      refine tl_storeL (i := 0) sz_126 (hr21.2.szs _ (List.mem_of_getElem? he25)) (one_126 _) rfl rfl rfl rfl ?_
      refine tl_nil (tp_normal ?_)
      refine tc_seq ?_
      refine tc_region ?_
      refine s0 (qv_fa fo_126_0 rfl) ?_
      refine s0 (qv_ldB (i := 0) sc_3 rfl rfl rfl) ?_
      refine s0 (qv_fa fo_34_0 rfl) ?_
      refine s0 (qv_ldB (i := 2) sc_3 rfl rfl rfl) ?_
      refine sd (qv_eql rfl rfl) (fun c31 => ?_) (fun c31 => ?_)
      ·
        refine tl_nil (tp_normal ?_)
        refine tc_true rfl ?_
        refine tc_seq ?_
        refine tc_draws mixed (by kernel_rfl) ?_
        refine q0 (qv_fa fo_34_6 rfl) ?_
        refine q0 (qv_ldB (i := 2) sc_3 rfl rfl rfl) ?_
        refine q0 (qv_fa fo_126_2 rfl) ?_
        refine q0 (qv_ldB (i := 0) sc_124 rfl rfl rfl) ?_
        refine q0 (qv_move rfl) ?_
        refine q0 (qv_fa fo_34_1 rfl) ?_
        refine q0 (qv_ldB (i := 2) sc_3 rfl rfl rfl) ?_
        refine qi st_23 ht rfl rfl (by omega) (fun e39 he39 => ?_)
        refine q0 (qv_ldEW ag_113 ht Mem.has_base rfl he39) ?_
        refine q0 (qv_callV (vs := [.agg (encTar e39).toArray]) (caps := []) (fn_price (List.mem_of_getElem? he25)) rfl rfl (fun w hm => each_calls w e25 (List.mem_of_getElem? he25) e39)) ?_
        have heb := each_bd hc he25
        rw [tarOf_eq he39] at heb
        have hct := hc.count (by (rcases prices_at he25 with h_ | h_ | h_ <;> rw [h_] at c31 <;> simp only at c31 <;> omega))
        have hmb := mul_bd hct heb
        refine q0 (qv_mulI rfl rfl (by omega)) ?_
        refine q0 (qv_assign rfl) ?_
        refine q0 (qv_assign rfl) ?_
        refine tq_nil (tp_normal ?_)
        refine tc_ret (tp_block_ret (tp_then_ret (tp_then_ret (tp_block_ret (tp_then_ret (tp_end2 rfl rfl rfl ?_))))))
        intro w' hm
        exact ⟨by rw [charge_price (by omega) he25 c31, tarOf_eq he39], hm.below⟩
      ·
        refine tl_nil (tp_normal ?_)
        refine tc_false rfl ?_
        refine tc_skip (tp_block_normal (tp_normal ?_))
        refine tc_region ?_
        refine s0 (qv_succ rfl rfl (by omega)) ?_
        refine s0 (qv_move rfl) ?_
        exact tl_nil (tp_roundS (k + 1) ⟨by omega, none_stepG (P := fun _ (p : Price) => ¬ p.kind = u.kind) hI.2 he25 c31⟩ (by omega) ⟨rfl, trivial⟩ rfl rfl rfl rfl)
    ·
      refine tl_nil (tp_normal ?_)
      refine tc_seq ?_
      refine tc_false rfl ?_
      refine tc_exit (tp_then_exit (tp_then_exit (tp_block_exit (tp_normal ?_))))
      refine tc_seq ?_
      refine tc_seq ?_
      obtain ⟨hp3, hp4, hp5⟩ := no_price (u := u) (by omega) hI.2
      refine tc_region ?_
      refine s0 (qv_fa fo_34_0 rfl) ?_
      refine s0 (qv_ldB (i := 1) sc_3 rfl rfl rfl) ?_
      refine sd (qv_eql rfl rfl) (fun c46 => ?_) (fun c46 => ?_)
      ·
        refine tl_nil (tp_normal ?_)
        refine tc_true rfl ?_
        refine tc_seq ?_
        refine tc_draws mixed (by kernel_rfl) ?_
        refine q0 (qv_fa fo_34_3 rfl) ?_
        refine q0 (qv_ldB (i := 1) sc_3 rfl rfl rfl) ?_
        refine q0 (qv_fa fo_34_5 rfl) ?_
        refine q0 (qv_ldB (i := 1) sc_3 rfl rfl rfl) ?_
        refine q0 (qv_fa fo_34_4 rfl) ?_
        refine q0 (qv_ldB (i := 1) sc_3 rfl rfl rfl) ?_
        obtain ⟨hk2, hk3, hk4, hk5⟩ := hc.kept c46
        refine q0 (qv_subI rfl rfl (by omega)) ?_
        have hmb1 := mul_bd hk2 (show 0 ≤ u.till - u.since ∧ u.till - u.since ≤ 1000000 by omega)
        refine q0 (qv_mulI rfl rfl (by omega)) ?_
        refine q0 (qv_move rfl) ?_
        refine q0 (qv_fa fo_34_1 rfl) ?_
        refine q0 (qv_ldB (i := 1) sc_3 rfl rfl rfl) ?_
        refine qi st_23 ht rfl rfl (by omega) (fun e58 he58 => ?_)
        refine q0 (qv_fa fo_113_0 rfl) ?_
        refine q0 (qv_ldE (j := 0) sc_3 ht Mem.has_base rfl rfl he58 rfl) ?_
        have hkp := hc.keep
        rw [tarOf_eq he58] at hkp
        have hmb2 := mul_bd hmb1 hkp
        refine q0 (qv_mulI rfl rfl (by omega)) ?_
        refine q0 (qv_assign rfl) ?_
        refine q0 (qv_assign rfl) ?_
        refine tq_nil (tp_normal ?_)
        refine tc_ret (tp_then_ret (tp_end2 rfl rfl rfl ?_))
        intro w' hm
        exact ⟨by rw [charge_keep (by omega) c46, tarOf_eq he58], hm.below⟩
      ·
        refine tl_nil (tp_normal ?_)
        refine tc_false rfl ?_
        refine tc_skip (tp_normal ?_)
        refine tc_seq ?_
        refine tc_seq ?_
        refine tc_region ?_
        refine s0 (qv_ldBW (i := 2) ag_26 rfl rfl rfl) ?_
        refine s0 (qv_fa fo_34_7 rfl) ?_
        refine s0 (qv_ldB (i := 1) sc_32 rfl rfl rfl) ?_
        refine s0 (qv_call fn_25 rfl (fun w hm => fits_calls w n na nc u.sends.l u.sends.a u.sends.c (hn.into Mem.has_base hm) hk (hs.into Mem.has_base hm))) ?_
        refine s0 (qv_assign rfl) ?_
        refine tl_nil (tp_normal ?_)
        refine tc_seq ?_
        refine tc_region ?_
        refine s0 (qv_move rfl) ?_
        refine sd (qv_neq rfl rfl) (fun c67 => ?_) (fun c67 => ?_)
        ·
          refine tl_nil (tp_normal ?_)
          refine tc_true rfl ?_
          refine tc_seq ?_
          refine tc_region ?_
          refine s0 (qv_move rfl) ?_
          refine s0 (qv_assign rfl) ?_
          refine s0 (qv_assign rfl) ?_
          refine tl_nil (tp_normal ?_)
          refine tc_ret (tp_then_ret (tp_end2 rfl rfl rfl ?_))
          intro w' hm
          exact ⟨by rw [charge_move (by omega) hp3 hp4 hp5 c46, if_pos c67], hm.below⟩
        ·
          refine tl_nil (tp_normal ?_)
          refine tc_false rfl ?_
          refine tc_skip (tp_normal ?_)
          refine tc_seq ?_
          refine tc_region ?_
          refine s0 (qv_ldBW (i := 2) ag_26 rfl rfl rfl) ?_
          refine s0 (qv_fa fo_34_7 rfl) ?_
          refine s0 (qv_ldB (i := 1) sc_32 rfl rfl rfl) ?_
          refine s0 (qv_call fn_24 rfl (fun w hm => cost_calls w n na nc u.sends.l u.sends.a u.sends.c (hn.into Mem.has_base hm) hk (hs.into Mem.has_base hm))) ?_
          refine s0 (qv_move rfl) ?_
          refine s0 (qv_extract rfl rfl) ?_
          refine s0 (qv_extract rfl rfl) ?_
          refine s0 (qv_assign rfl) ?_
          refine s0 (qv_assign rfl) ?_
          refine tl_nil (tp_normal ?_)
          refine tc_seq ?_
          refine tc_seq ?_
          have hfc := fits_cost (n := n) (l := u.sends.l) (by omega)
          refine tc_region ?_
          refine s0 (qv_move rfl) ?_
          refine sd (qv_neq rfl rfl) (fun c77 => ?_) (fun c77 => ?_)
          ·
            refine tl_nil (tp_normal ?_)
            refine tc_true rfl ?_
            refine tc_seq ?_
            refine tc_region ?_
            refine s0 (qv_move rfl) ?_
            refine s0 (qv_assign rfl) ?_
            refine s0 (qv_assign rfl) ?_
            refine tl_nil (tp_normal ?_)
            refine tc_ret (tp_then_ret (tp_end2 rfl rfl rfl ?_))
            intro w' hm
            exact absurd hfc.1 c77
          ·
            refine tl_nil (tp_normal ?_)
            refine tc_false rfl ?_
            refine tc_skip (tp_normal ?_)
            refine tc_seq ?_
            refine tc_seq ?_
            refine tc_region ?_
            refine s0 (qv_move rfl) ?_
            refine sd (qv_gtr rfl rfl) (fun c80 => ?_) (fun c80 => ?_)
            ·
              refine tl_nil (tp_normal ?_)
              refine tc_true rfl ?_
              refine tc_seq ?_
              refine tc_region ?_
              refine s0 (qv_assign rfl) ?_
              refine s0 (qv_assign rfl) ?_
              refine tl_nil (tp_normal ?_)
              refine tc_ret (tp_then_ret (tp_end2 rfl rfl rfl ?_))
              intro w' hm
              exact ⟨by rw [charge_move (by omega) hp3 hp4 hp5 c46, if_neg c67, if_pos (by omega)], hm.below⟩
            ·
              refine tl_nil (tp_normal ?_)
              refine tc_false rfl ?_
              refine tc_skip (tp_normal ?_)
              refine tc_seq ?_
              refine tc_region ?_
              refine s0 (qv_move rfl) ?_
              refine s0 (qv_mulI rfl rfl (by omega)) ?_
              refine s0 (qv_assign rfl) ?_
              refine s0 (qv_assign rfl) ?_
              refine tl_nil (tp_normal ?_)
              refine tc_ret (tp_end2 rfl rfl rfl ?_)
              intro w' hm
              exact ⟨by rw [charge_move (by omega) hp3 hp4 hp5 c46, if_neg c67, if_neg (by omega)], hm.below⟩
set_option maxRecDepth 100000 in
theorem few9_calls (w : World) (n : Net) (na : Option Addr) (nc : Nat) (l : List Use) (la : Option Addr) (lc : Nat) (hn : SlIn w 50 encLink na n.links) (hk : NetOk n) (hl : SlIn w 8 encUse la l) :
    Calls Try.prog 14 #[.agg (netA n na nc), .slice la l.length lc] w (fun e w' => e = .returned (.bool (decide (few9 n l))) ∧ Below w.heap.size w w') := by
  have hlenn := hn.len
  simp only [maxLen] at hlenn
  have hlenu := hl.len
  simp only [maxLen] at hlenu
  refine calls_of_tc (N := 37) (vs := [.agg (netA n na nc), .slice la l.length lc]) Try.func14 rfl rfl (Nat.le_of_ble_eq_true rfl) ?_
  refine tc_seq ?_
  refine tc_region ?_
  refine tl_box rfl (by decide) (fun b2_0 => ?_)
  refine s0 (qv_assign rfl) ?_
  refine tl_nil (tp_normal ?_)
  refine tc_seq ?_
  refine tc_seq ?_
  refine tc_region ?_
  refine s0 (qv_fa fo_26_1 rfl) ?_
  refine s0 (qv_ldB (i := 0) sc_24 rfl rfl rfl) ?_
  refine s0 (qv_len st_24 rfl) ?_
  refine sd (qv_gtr rfl rfl) (fun c10 => ?_) (fun c10 => ?_)
  ·
    refine s0 (qv_move rfl) ?_
    refine sk ?_
    refine sk ?_
    refine sk ?_
    refine sk ?_
    refine sk ?_
    refine sk ?_
    refine sk ?_
    refine sk ?_
    refine s0 (qv_pickT rfl rfl) ?_
    refine s0 (qv_move rfl) ?_
    refine sk ?_
    refine sk ?_
    refine sk ?_
    refine s0 (qv_pickT rfl rfl) ?_
    refine tl_nil (tp_normal ?_)
    refine tc_true rfl ?_
    refine tc_seq ?_
    refine tc_region ?_
    refine s0 (qv_assign rfl) ?_
    refine tl_nil (tp_normal ?_)
    refine tc_ret (tp_then_ret (tp_end1 rfl rfl ?_))
    intro w' hm
    exact ⟨by rw [decide_eq_false (fun h => by unfold few9 at h; omega)], hm.below⟩
  ·
    refine s0 (qv_move rfl) ?_
    refine s0g (qv_move rfl) ?_
    refine s0g (qv_len st_27 rfl) ?_
    refine sdg (qv_gtr rfl rfl) (fun c14 => ?_) (fun c14 => ?_)
    ·
      refine s0g (qv_move rfl) ?_
      refine s0g (qv_move rfl) ?_
      refine s0g (qv_len st_27 rfl) ?_
      refine sdg (qv_leq rfl rfl) (fun c18 => ?_) (fun c18 => ?_)
      ·
        refine s0g (qv_pickT rfl rfl) ?_
        refine s0 (qv_pickF rfl rfl) ?_
        refine s0 (qv_move rfl) ?_
        refine sk ?_
        refine sk ?_
        refine sk ?_
        refine s0 (qv_pickT rfl rfl) ?_
        refine tl_nil (tp_normal ?_)
        refine tc_true rfl ?_
        refine tc_seq ?_
        refine tc_region ?_
        refine s0 (qv_assign rfl) ?_
        refine tl_nil (tp_normal ?_)
        refine tc_ret (tp_then_ret (tp_end1 rfl rfl ?_))
        intro w' hm
        exact ⟨by rw [decide_eq_false (fun h => by unfold few9 at h; omega)], hm.below⟩
      ·
        refine s0g (qv_pickT rfl rfl) ?_
        refine s0 (qv_pickF rfl rfl) ?_
        refine s0 (qv_move rfl) ?_
        refine s0g (qv_move rfl) ?_
        refine s0g (qv_len st_27 rfl) ?_
        refine sdg (qv_gtr rfl rfl) (fun c24 => ?_) (fun c24 => ?_)
        ·
          refine s0 (qv_pickF rfl rfl) ?_
          refine tl_nil (tp_normal ?_)
          refine tc_true rfl ?_
          refine tc_seq ?_
          refine tc_region ?_
          refine s0 (qv_assign rfl) ?_
          refine tl_nil (tp_normal ?_)
          refine tc_ret (tp_then_ret (tp_end1 rfl rfl ?_))
          intro w' hm
          exact ⟨by rw [decide_eq_false (fun h => by unfold few9 at h; omega)], hm.below⟩
        ·
          refine s0 (qv_pickF rfl rfl) ?_
          refine tl_nil (tp_normal ?_)
          refine tc_false rfl ?_
          refine tc_skip (tp_normal ?_)
          refine tc_seq ?_
          refine tc_seq ?_
          refine tc_region ?_
          refine s0 (qv_move rfl) ?_
          refine s0 (qv_len st_27 rfl) ?_
          refine s0 (qv_move rfl) ?_
          refine tl_nil (tp_normal ?_)
          refine tc_block (tc_loopS (fun (k : Nat) => [(28, .int .i64 (k : Int))]) (fun (k : Nat) => k ≤ l.length ∧ ∀ (j : Nat) u, j < k → l[j]? = some u → ¬ 10 < u.sends.l.length) (fun (k : Nat) => l.length - k) (0) ⟨Nat.zero_le _, fun _ _ h => absurd h (Nat.not_lt_zero _)⟩ ⟨rfl, trivial⟩ ?_)
          rintro k hI
          refine tc_seq ?_
          refine tc_region ?_
          refine sd (qv_lss rfl rfl) (fun c29 => ?_) (fun c29 => ?_)
          ·
            refine tl_nil (tp_normal ?_)
            refine tc_seq ?_
            refine tc_true rfl ?_
            refine tc_skip (tp_normal ?_)
            refine tc_seq ?_
            refine tc_block ?_
            refine tc_seq ?_
            refine tc_region ?_
            refine sn st_27 hl rfl rfl (by omega) (fun e30 he30 => ?_)
            refine s0 (qv_ldEW ag_34 hl Mem.has_base rfl he30) ?_
            refine tl_alloc ze_34 (by decide) (fun b6_1 => ?_)
            refine tl_storeL (i := 0) sz_34 (hl.szs _ (List.mem_of_getElem? he30)) (one_34 _) rfl rfl rfl rfl ?_
            refine tl_nil (tp_normal ?_)
            refine tc_seq ?_
            refine tc_region ?_
            refine s0 (qv_fa fo_34_7 rfl) ?_
            refine s0 (qv_ldB (i := 0) sc_32 rfl rfl rfl) ?_
            refine s0 (qv_len st_32 rfl) ?_
            refine sd (qv_gtr rfl rfl) (fun c35 => ?_) (fun c35 => ?_)
            ·
              refine tl_nil (tp_normal ?_)
              refine tc_true rfl ?_
              refine tc_seq ?_
              refine tc_region ?_
              refine s0 (qv_assign rfl) ?_
              refine tl_nil (tp_normal ?_)
              refine tc_ret (tp_block_ret (tp_then_ret (tp_then_ret (tp_block_ret (tp_then_ret (tp_end1 rfl rfl ?_))))))
              intro w' hm
              exact ⟨by rw [decide_eq_false (fun h => by have := h.2.2 _ (List.mem_of_getElem? he30); omega)], hm.below⟩
            ·
              refine tl_nil (tp_normal ?_)
              refine tc_false rfl ?_
              refine tc_skip (tp_block_normal (tp_normal ?_))
              refine tc_region ?_
              refine s0 (qv_succ rfl rfl (by omega)) ?_
              refine s0 (qv_move rfl) ?_
              exact tl_nil (tp_roundS (k + 1) ⟨by omega, none_stepG (P := fun _ (u : Use) => ¬ 10 < u.sends.l.length) hI.2 he30 (by omega)⟩ (by omega) ⟨rfl, trivial⟩ rfl rfl rfl rfl)
          ·
            refine tl_nil (tp_normal ?_)
            refine tc_seq ?_
            refine tc_false rfl ?_
            refine tc_exit (tp_then_exit (tp_then_exit (tp_block_exit (tp_normal ?_))))
            refine tc_seq ?_
            refine tc_region ?_
            refine s0 (qv_assign rfl) ?_
            refine tl_nil (tp_normal ?_)
            refine tc_ret (tp_end1 rfl rfl ?_)
            intro w' hm
            exact ⟨by rw [decide_eq_true (few9_all (by omega) (by omega) (by omega) hI.2)], hm.below⟩
    ·
      refine s0g (qv_move rfl) ?_
      refine sk ?_
      refine sk ?_
      refine sk ?_
      refine s0g (qv_pickF rfl rfl) ?_
      refine s0 (qv_pickF rfl rfl) ?_
      refine s0 (qv_move rfl) ?_
      refine s0g (qv_move rfl) ?_
      refine s0g (qv_len st_27 rfl) ?_
      refine sdg (qv_gtr rfl rfl) (fun c24 => ?_) (fun c24 => ?_)
      ·
        refine s0 (qv_pickF rfl rfl) ?_
        refine tl_nil (tp_normal ?_)
        refine tc_true rfl ?_
        refine tc_seq ?_
        refine tc_region ?_
        refine s0 (qv_assign rfl) ?_
        refine tl_nil (tp_normal ?_)
        refine tc_ret (tp_then_ret (tp_end1 rfl rfl ?_))
        intro w' hm
        exact ⟨by rw [decide_eq_false (fun h => by unfold few9 at h; omega)], hm.below⟩
      ·
        refine s0 (qv_pickF rfl rfl) ?_
        refine tl_nil (tp_normal ?_)
        refine tc_false rfl ?_
        refine tc_skip (tp_normal ?_)
        refine tc_seq ?_
        refine tc_seq ?_
        refine tc_region ?_
        refine s0 (qv_move rfl) ?_
        refine s0 (qv_len st_27 rfl) ?_
        refine s0 (qv_move rfl) ?_
        refine tl_nil (tp_normal ?_)
        refine tc_block (tc_loopS (fun (k : Nat) => [(28, .int .i64 (k : Int))]) (fun (k : Nat) => k ≤ l.length ∧ ∀ (j : Nat) u, j < k → l[j]? = some u → ¬ 10 < u.sends.l.length) (fun (k : Nat) => l.length - k) (0) ⟨Nat.zero_le _, fun _ _ h => absurd h (Nat.not_lt_zero _)⟩ ⟨rfl, trivial⟩ ?_)
        rintro k hI
        refine tc_seq ?_
        refine tc_region ?_
        refine sd (qv_lss rfl rfl) (fun c29 => ?_) (fun c29 => ?_)
        ·
          refine tl_nil (tp_normal ?_)
          refine tc_seq ?_
          refine tc_true rfl ?_
          refine tc_skip (tp_normal ?_)
          refine tc_seq ?_
          refine tc_block ?_
          refine tc_seq ?_
          refine tc_region ?_
          refine sn st_27 hl rfl rfl (by omega) (fun e30 he30 => ?_)
          refine s0 (qv_ldEW ag_34 hl Mem.has_base rfl he30) ?_
          refine tl_alloc ze_34 (by decide) (fun b6_2 => ?_)
          refine tl_storeL (i := 0) sz_34 (hl.szs _ (List.mem_of_getElem? he30)) (one_34 _) rfl rfl rfl rfl ?_
          refine tl_nil (tp_normal ?_)
          refine tc_seq ?_
          refine tc_region ?_
          refine s0 (qv_fa fo_34_7 rfl) ?_
          refine s0 (qv_ldB (i := 0) sc_32 rfl rfl rfl) ?_
          refine s0 (qv_len st_32 rfl) ?_
          refine sd (qv_gtr rfl rfl) (fun c35 => ?_) (fun c35 => ?_)
          ·
            refine tl_nil (tp_normal ?_)
            refine tc_true rfl ?_
            refine tc_seq ?_
            refine tc_region ?_
            refine s0 (qv_assign rfl) ?_
            refine tl_nil (tp_normal ?_)
            refine tc_ret (tp_block_ret (tp_then_ret (tp_then_ret (tp_block_ret (tp_then_ret (tp_end1 rfl rfl ?_))))))
            intro w' hm
            exact ⟨by rw [decide_eq_false (fun h => by have := h.2.2 _ (List.mem_of_getElem? he30); omega)], hm.below⟩
          ·
            refine tl_nil (tp_normal ?_)
            refine tc_false rfl ?_
            refine tc_skip (tp_block_normal (tp_normal ?_))
            refine tc_region ?_
            refine s0 (qv_succ rfl rfl (by omega)) ?_
            refine s0 (qv_move rfl) ?_
            exact tl_nil (tp_roundS (k + 1) ⟨by omega, none_stepG (P := fun _ (u : Use) => ¬ 10 < u.sends.l.length) hI.2 he30 (by omega)⟩ (by omega) ⟨rfl, trivial⟩ rfl rfl rfl rfl)
        ·
          refine tl_nil (tp_normal ?_)
          refine tc_seq ?_
          refine tc_false rfl ?_
          refine tc_exit (tp_then_exit (tp_then_exit (tp_block_exit (tp_normal ?_))))
          refine tc_seq ?_
          refine tc_region ?_
          refine s0 (qv_assign rfl) ?_
          refine tl_nil (tp_normal ?_)
          refine tc_ret (tp_end1 rfl rfl ?_)
          intro w' hm
          exact ⟨by rw [decide_eq_true (few9_all (by omega) (by omega) (by omega) hI.2)], hm.below⟩
set_option maxRecDepth 100000 in
theorem always_calls (w : World) (v : Int)  :
    Calls Try.prog 48 #[.int .i64 v] w (fun e w' => e = .returned (.agg (alwaysL v 24).toArray) ∧ Below w.heap.size w w') := by
  refine calls_of_tc (N := 13) (vs := [.int .i64 v]) Try.func48 rfl rfl (Nat.le_of_ble_eq_true rfl) ?_
  refine tc_seq ?_
  refine tc_region ?_
  refine tl_alloc ze_114 (by decide) (fun b2_0 => ?_)
  refine tl_nil (tp_normal ?_)
  refine tc_seq ?_
  refine tc_region ?_
  refine tl_alloc ze_114 (by decide) (fun b3_1 => ?_)
  refine tl_nil (tp_normal ?_)
  refine tc_seq ?_
  refine tc_seq ?_
  refine tc_region ?_
  refine s0 (qv_move rfl) ?_
  refine tl_nil (tp_normal ?_)
  refine tc_block (tc_loopB (fun (k : Nat) => [(5, .int .i64 (k : Int))]) (fun (k : Nat) => [(0, b3_1, .cells (alwaysL v k).toArray 114 (0, 0))]) (fun (k : Nat) => k ≤ 24) (fun (k : Nat) => 24 - k) (0) (Nat.zero_le _) ⟨rfl, trivial⟩ rfl ?_)
  rintro k hI
  refine tc_seq ?_
  refine tc_region ?_
  refine sd (qv_lss rfl rfl) (fun c6 => ?_) (fun c6 => ?_)
  ·
    refine tl_nil (tp_normal ?_)
    refine tc_seq ?_
    refine tc_true rfl ?_
    refine tc_skip (tp_normal ?_)
    refine tc_seq ?_
    refine tc_block ?_
    refine tc_seq ?_
    refine tc_region ?_
    refine s0 (qv_move rfl) ?_
    refine s0 (qv_assign rfl) ?_
    refine tl_nil (tp_normal ?_)
    refine tc_region ?_
    refine s0 (qv_move rfl) ?_
    refine s0 (qv_move rfl) ?_
    refine s0 (qv_iA at_114 rfl rfl (by omega)) ?_
    refine tl_store1 (i := 0) sz_3 rfl rfl rfl rfl rfl (by simp [alwaysL]; omega) ?_
    refine tl_nil (tp_block_normal (tp_normal ?_))
    refine tc_region ?_
    refine s0 (qv_succ rfl rfl (by omega)) ?_
    refine s0 (qv_move rfl) ?_
    exact tl_nil (tp_roundB (k + 1) (by omega) (by omega) ⟨rfl, trivial⟩ rfl rfl (by simp only [Nat.zero_add, Nat.mul_one, Int.toNat_natCast, always_step (show k < 24 by omega)]; rfl) rfl)
  ·
    refine tl_nil (tp_normal ?_)
    refine tc_seq ?_
    refine tc_false rfl ?_
    refine tc_exit (tp_then_exit (tp_then_exit (tp_block_exit (tp_normal ?_))))
    refine tc_seq ?_
    obtain rfl : k = 24 := by omega
    refine tc_region ?_
    refine s0 (qv_ldBW (i := 0) ag_114 rfl rfl rfl) ?_
    refine tl_storeO (i := 1) sz_114 rfl rfl rfl rfl rfl rfl rfl ?_
    refine tl_nil (tp_normal ?_)
    refine tc_ret (tp_endC (i := 1) rfl rfl ag_114 rfl rfl ?_)
    intro w' hm
    exact ⟨rfl, hm.below⟩
end Go.Q
namespace Go.Q
open Go Go.Proofs Go.RowKit
theorem ze_133 : Zero Try.prog 133 #[.int .i64 0, .int .i64 0, .int .i64 0] := fun w => ⟨.agg #[.int .i64 0, .int .i64 0, .int .i64 0], by kernel_rfl, rfl⟩
theorem fo_56_0 : FOff Try.prog 56 0 0 := fun b o w => by kernel_rfl
theorem fo_56_1 : FOff Try.prog 56 1 1 := fun b o w => by kernel_rfl
theorem fo_56_2 : FOff Try.prog 56 2 2 := fun b o w => by kernel_rfl
theorem ba_133 : BuildArr Try.prog 133 1 #[.int .i64 0, .int .i64 0, .int .i64 0] := ⟨_, _, Try.underlying133, sz_3, ze_133⟩
theorem sz_133 : Size Try.prog 133 3 := fun w => by kernel_rfl
theorem ag_133 : Agg Try.prog 133 3 := fun w => ⟨by kernel_rfl, by kernel_rfl⟩
theorem st_22 : SliceTy Try.prog 22 4 := ⟨56, by kernel_rfl, fun w => by kernel_rfl⟩
theorem ag_56 : Agg Try.prog 56 4 := fun w => ⟨by kernel_rfl, by kernel_rfl⟩
theorem ze_56 : Zero Try.prog 56 #[.int .i64 0, .int .i64 0, .int .i64 0, .int .i64 0] := fun w => ⟨.agg #[.int .i64 0, .int .i64 0, .int .i64 0, .int .i64 0], by kernel_rfl, rfl⟩
theorem sz_56 : Size Try.prog 56 4 := fun w => by kernel_rfl
theorem fo_56_3 : FOff Try.prog 56 3 3 := fun b o w => by kernel_rfl
theorem fn_57 : IsFn Try.prog 57 := isFn_of Try.func57 (by kernel_rfl) rfl
theorem fn_56 : IsFn Try.prog 56 := isFn_of Try.func56 (by kernel_rfl) rfl
theorem mt_131 : MapTy Try.prog 131 133 3 := Try.underlying131
theorem mz_3 (w : World) : (zeroValue 3).run Try.prog w = .ok (.int .i64 0) w := by kernel_rfl
theorem fn_18 : IsFn Try.prog 18 := isFn_of Try.func18 (by kernel_rfl) rfl
theorem fn_58 : IsFn Try.prog 58 := isFn_of Try.func58 (by kernel_rfl) rfl
theorem st_135 : SliceTy Try.prog 135 3 := ⟨133, by kernel_rfl, fun w => by kernel_rfl⟩
theorem at_133 : ArrTy Try.prog 133 3 1 := ⟨3, by kernel_rfl, fun w => by kernel_rfl⟩
theorem ze_54 : Zero Try.prog 54 #[.int .i64 0, .int .i64 0, .int .i64 0, .int .i64 0, .int .i64 0, .int .i64 0] := fun w => ⟨.agg #[.int .i64 0, .int .i64 0, .int .i64 0, .int .i64 0, .int .i64 0, .int .i64 0], by kernel_rfl, rfl⟩
theorem bt_54 : BuildTy Try.prog 54 #[(0, 1), (1, 1), (2, 1), (3, 1), (4, 1), (5, 1)] #[.int .i64 0, .int .i64 0, .int .i64 0, .int .i64 0, .int .i64 0, .int .i64 0] := ⟨_, Try.underlying54, fun w => by kernel_rfl, ze_54⟩
theorem sz_54 : Size Try.prog 54 6 := fun w => by kernel_rfl
theorem fo_54_4 : FOff Try.prog 54 4 4 := fun b o w => by kernel_rfl
theorem fo_54_1 : FOff Try.prog 54 1 1 := fun b o w => by kernel_rfl
theorem fo_54_0 : FOff Try.prog 54 0 0 := fun b o w => by kernel_rfl
theorem fo_54_2 : FOff Try.prog 54 2 2 := fun b o w => by kernel_rfl
theorem ag_54 : Agg Try.prog 54 6 := fun w => ⟨by kernel_rfl, by kernel_rfl⟩
theorem bsl_40_1 : BuildSl Try.prog 40 1 54 6 #[.int .i64 0, .int .i64 0, .int .i64 0, .int .i64 0, .int .i64 0, .int .i64 0] := ⟨Try.underlying40, sz_54, by decide, by decide, _, ze_54, by kernel_rfl⟩
theorem apt_40 : AppTy Try.prog 40 54 6 48 := ⟨Try.underlying40, ⟨.agg #[.int .i64 0, .int .i64 0, .int .i64 0, .int .i64 0, .int .i64 0, .int .i64 0], by kernel_rfl, rfl⟩, by decide⟩
theorem bt_56 : BuildTy Try.prog 56 #[(0, 1), (1, 1), (2, 1), (3, 1)] #[.int .i64 0, .int .i64 0, .int .i64 0, .int .i64 0] := ⟨_, Try.underlying56, fun w => by kernel_rfl, ze_56⟩
theorem bsl_22_1 : BuildSl Try.prog 22 1 56 4 #[.int .i64 0, .int .i64 0, .int .i64 0, .int .i64 0] := ⟨Try.underlying22, sz_56, by decide, by decide, _, ze_56, by kernel_rfl⟩
theorem apt_22 : AppTy Try.prog 22 56 4 32 := ⟨Try.underlying22, ⟨.agg #[.int .i64 0, .int .i64 0, .int .i64 0, .int .i64 0], by kernel_rfl, rfl⟩, by decide⟩
theorem bsl_135_1 : BuildSl Try.prog 135 1 133 3 #[.int .i64 0, .int .i64 0, .int .i64 0] := ⟨Try.underlying135, sz_133, by decide, by decide, _, ze_133, by kernel_rfl⟩
theorem apt_135 : AppTy Try.prog 135 133 3 24 := ⟨Try.underlying135, ⟨.agg #[.int .i64 0, .int .i64 0, .int .i64 0], by kernel_rfl, rfl⟩, by decide⟩
theorem one_54 (x : Posting) : ∀ u ∈ encPost x, u.oneCell' = true := by
  intro u hu
  simp [encPost] at hu
  rcases hu with rfl | rfl | rfl | rfl | rfl | rfl <;> rfl
theorem one_56 (x : Rest) : ∀ u ∈ encRest x, u.oneCell' = true := by
  intro u hu
  simp [encRest] at hu
  rcases hu with rfl | rfl | rfl | rfl <;> rfl
theorem one_133 (x : K3) : ∀ u ∈ encK x, u.oneCell' = true := by
  intro u hu
  simp [encK] at hu
  rcases hu with rfl | rfl | rfl <;> rfl
set_option maxRecDepth 100000 in
theorem key_calls (w : World) (x : Rest)  :
    Calls Try.prog 57 #[.agg (encRest x).toArray] w (fun e w' => e = .returned (encA3 (keyR x)) ∧ Below w.heap.size w w') := by
  refine calls_of_tc (N := 10) (vs := [.agg (encRest x).toArray]) Try.func57 rfl rfl (Nat.le_of_ble_eq_true rfl) ?_
  refine tc_seq ?_
  refine tc_region ?_
  refine tl_box rfl (by decide) (fun b1_0 => ?_)
  refine tl_alloc ze_133 (by decide) (fun b2_1 => ?_)
  refine tl_nil (tp_normal ?_)
  refine tc_seq ?_
  refine tc_region ?_
  refine s0 (qv_fa fo_56_0 rfl) ?_
  refine s0 (qv_ldB (i := 1) sc_3 rfl rfl rfl) ?_
  refine s0 (qv_fa fo_56_1 rfl) ?_
  refine s0 (qv_ldB (i := 1) sc_3 rfl rfl rfl) ?_
  refine s0 (qv_fa fo_56_2 rfl) ?_
  refine s0 (qv_ldB (i := 1) sc_3 rfl rfl rfl) ?_
  refine s0 (qv_buildA ba_133 rfl rfl) ?_
  refine tl_storeO (i := 0) sz_133 rfl rfl rfl rfl rfl rfl rfl ?_
  refine tl_nil (tp_normal ?_)
  refine tc_ret (tp_endC (i := 0) rfl rfl ag_133 rfl rfl ?_)
  intro w' hm
  exact ⟨rfl, hm.below⟩
theorem order_callsK (w : World) (x y : K3) : Calls Try.prog 56 #[encA3 x, encA3 y] w (fun e w' => e = .returned (.int .i64 (cmp3 x y)) ∧ Below w.heap.size w w') := (Go.D.order_calls w x.1 x.2.1 x.2.2 y.1 y.2.1 y.2.2).mono fun e w' ⟨he, hb⟩ => ⟨he, hb.os, hb.tape, hb.output, hb.size, hb.block⟩
set_option maxRecDepth 100000 in
set_option maxHeartbeats 8000000 in
theorem period_calls (w : World) (r : List Rest) (ra : Option Addr) (rc : Nat) (t : List Tariff) (ta : Option Addr) (tc : Nat) (n : Net) (na : Option Addr) (nc : Nat) (l : List Use) (la : Option Addr) (lc : Nat) (tick : Int) (hr : SlIn w 4 encRest ra r) (ht : SlIn w 3 encTar ta t) (hn : SlIn w 50 encLink na n.links) (hk : NetOk n) (hl : SlIn w 8 encUse la l) (hins : ∀ u ∈ l, SlIn w 3 encSend u.sends.a u.sends.l ∧ u.sends.l.length ≤ u.sends.c) :
    Calls Try.prog 20 #[.slice ra r.length rc, .slice ta t.length tc, .agg (netA n na nc), .slice la l.length lc, .int .i64 tick] w (fun e w' => ∃ q : (Option Addr × Nat) × (Option Addr × Nat), e = .returned (.tuple #[.slice q.1.1 (period r t n l tick).1.length q.1.2, .slice q.2.1 (period r t n l tick).2.1.length q.2.2, .int .i64 (period r t n l tick).2.2]) ∧ Below w.heap.size w w' ∧ (((period r t n l tick).1.length ≤ q.1.2 ∧ SlAt w' w.heap.size w'.heap.size 6 encPost q.1.1 (period r t n l tick).1) ∧ ((period r t n l tick).2.1.length ≤ q.2.2 ∧ SlAt w' w.heap.size w'.heap.size 4 encRest q.2.1 (period r t n l tick).2.1))) := by
  have hlent := ht.len
  simp only [maxLen] at hlent
  have hlenn := hn.len
  simp only [maxLen] at hlenn
  have hlenu := hl.len
  simp only [maxLen] at hlenu
  have hlenr := hr.len
  simp only [maxLen] at hlenr
  refine calls_of_tc (N := 189) (vs := [.slice ra r.length rc, .slice ta t.length tc, .agg (netA n na nc), .slice la l.length lc, .int .i64 tick]) Try.func20 rfl rfl (Nat.le_of_ble_eq_true rfl) ?_
  refine tc_rowRoom ?_
  refine tc_rowRoom ?_
  refine tc_rowRoom ?_
  refine tc_seq ?_
  refine tc_region ?_
  refine tl_box rfl (by decide) (fun b7_0 => ?_)
  refine s0 (qv_assign rfl) ?_
  refine s0 (qv_assign rfl) ?_
  refine s0 (qv_assign rfl) ?_
  refine tl_nil (tp_normal ?_)
  refine tc_seq ?_
  refine tc_seq ?_
  refine tc_region ?_
  refine s0 (qv_move rfl) ?_
  refine s0 (qv_move rfl) ?_
  refine s0 (qv_call fn_16 rfl (fun w hm => mcheck_calls w t ta tc l la lc (ht.into Mem.has_base hm) (hl.into Mem.has_base hm))) ?_
  refine s0 (qv_assign rfl) ?_
  refine tl_nil (tp_normal ?_)
  refine tc_seq ?_
  refine tc_region ?_
  refine s0 (qv_move rfl) ?_
  refine sd (qv_neq rfl rfl) (fun c34 => ?_) (fun c34 => ?_)
  ·
    refine tl_nil (tp_normal ?_)
    refine tc_true rfl ?_
    refine tc_seq ?_
    refine tc_region ?_
    refine s0 (qv_move rfl) ?_
    refine s0 (qv_assign rfl) ?_
    refine s0 (qv_assign rfl) ?_
    refine s0 (qv_assign rfl) ?_
    refine tl_nil (tp_normal ?_)
    refine tc_ret (tp_then_ret (tp_end3 rfl rfl rfl rfl ?_))
    intro w' hm
    rw [period_check (by omega)]
    exact ⟨((none, 0), (none, 0)), rfl, hm.below, ⟨Nat.le_refl 0, SlAt.nothing⟩, Nat.le_refl 0, SlAt.nothing⟩
  ·
    refine tl_nil (tp_normal ?_)
    refine tc_false rfl ?_
    refine tc_skip (tp_normal ?_)
    refine tc_seq ?_
    refine tc_seq ?_
    have hck : meterCheck t l = 0 := by omega
    have hmz := meterCheck_zero hck
    have htl := hmz.tl
    have hll := hmz.ll
    refine tc_region ?_
    refine s0 (qv_move rfl) ?_
    refine sd (qv_call fn_49 rfl (fun w hm => within_calls w tick (1000000))) (fun c37 => ?_) (fun c37 => ?_)
    ·
      refine s0 (qv_not rfl) ?_
      refine tl_nil (tp_normal ?_)
      refine tc_false rfl ?_
      refine tc_skip (tp_normal ?_)
      refine tc_seq ?_
      have htk : inTo tick 1000000 := c37
      refine tc_region ?_
      refine tl_makeMap (fun b39_1 => ?_)
      refine s0 (qv_assign rfl) ?_
      refine tl_nil (tp_normal ?_)
      refine tc_seq ?_
      refine tc_seq ?_
      refine tc_region ?_
      refine s0 (qv_move rfl) ?_
      refine s0 (qv_len st_22 rfl) ?_
      refine s0 (qv_move rfl) ?_
      refine tl_nil (tp_normal ?_)
      refine tc_block (tc_loopB (fun (q : Nat × Obj) => [(42, .int .i64 (q.1 : Int))]) (fun (q : Nat × Obj) => [(0, b39_1, q.2)]) (fun (q : Nat × Obj) => q.1 ≤ r.length ∧ restsBad t none r = restsBad t (prevR r q.1) (r.drop q.1) ∧ MapIs encA3 (Value.int .i64) (restM (r.take q.1)) q.2) (fun (q : Nat × Obj) => r.length - q.1) ((0, .map #[] 0)) ⟨Nat.zero_le _, rfl, MapIs.nil _ _⟩ ⟨rfl, trivial⟩ rfl ?_)
      rintro q hI
      refine tc_seq ?_
      refine tc_region ?_
      refine sd (qv_lss rfl rfl) (fun c43 => ?_) (fun c43 => ?_)
      ·
        refine tl_nil (tp_normal ?_)
        refine tc_seq ?_
        refine tc_true rfl ?_
        refine tc_skip (tp_normal ?_)
        refine tc_seq ?_
        refine tc_block ?_
        refine tc_seq ?_
        refine tc_region ?_
        refine s0 (qv_move rfl) ?_
        refine sn st_22 hr rfl rfl (by omega) (fun e45 he45 => ?_)
        refine s0 (qv_ldEW ag_56 hr Mem.has_base rfl he45) ?_
        refine tl_alloc ze_56 (by decide) (fun b16_2 => ?_)
        refine s0 (qv_assign rfl) ?_
        refine tl_storeL (i := 0) sz_56 (hr.szs _ (List.mem_of_getElem? he45)) (one_56 _) rfl rfl rfl rfl ?_
        refine tl_nil (tp_normal ?_)
        refine tc_seq ?_
        refine tc_seq ?_
        refine tc_draws mixed (by kernel_rfl) ?_
        refine q0 (qv_move rfl) ?_
        refine q0 (qv_fa fo_56_2 rfl) ?_
        refine q0 (qv_ldB (i := 0) sc_3 rfl rfl rfl) ?_
        refine q0 (qv_fa fo_56_1 rfl) ?_
        refine q0 (qv_ldB (i := 0) sc_3 rfl rfl rfl) ?_
        refine q0 (qv_fa fo_56_0 rfl) ?_
        refine q0 (qv_ldB (i := 0) sc_3 rfl rfl rfl) ?_
        refine qd (qv_call fn_50 rfl (fun w hm => party_calls w t ta tc e45.kind e45.house e45.customer (by omega))) (fun c54 => ?_) (fun c54 => ?_)
        ·
          refine q0 (qv_not rfl) ?_
          refine q0 (qv_move rfl) ?_
          refine q0g (qv_fa fo_56_3 rfl) ?_
          refine q0g (qv_ldB (i := 0) sc_3 rfl rfl rfl) ?_
          refine qdg (qv_lss rfl rfl) (fun c59 => ?_) (fun c59 => ?_)
          ·
            refine q0 (qv_pickF rfl rfl) ?_
            refine q0 (qv_move rfl) ?_
            refine qk ?_
            refine qk ?_
            refine qk ?_
            refine q0 (qv_pickT rfl rfl) ?_
            refine q0 (qv_move rfl) ?_
            refine qk ?_
            refine qk ?_
            refine qk ?_
            refine qk ?_
            refine qk ?_
            refine qk ?_
            refine qk ?_
            refine qk ?_
            refine qk ?_
            refine qk ?_
            refine qk ?_
            refine qk ?_
            refine qk ?_
            refine qk ?_
            refine q0 (qv_pickT rfl rfl) ?_
            refine tq_nil (tp_normal ?_)
            refine tc_true rfl ?_
            refine tc_seq ?_
            refine tc_region ?_
            refine s0 (qv_assign rfl) ?_
            refine s0 (qv_assign rfl) ?_
            refine s0 (qv_assign rfl) ?_
            refine tl_nil (tp_normal ?_)
            refine tc_ret (tp_then_ret (tp_block_ret (tp_then_ret (tp_then_ret (tp_block_ret (tp_then_ret (tp_end3 rfl rfl rfl rfl ?_)))))))
            intro w' hm
            rw [period_rest hck htk (by rw [hI.2.1, restsBad_stop he45 (by first | exact .inl c54 | exact .inr (.inr (.inr ⟨e73, prevR_at (by omega) he73, cmp3_ge c79⟩)) | exact .inr (.inl c59) | exact .inr (.inr (.inl c64)))])]
            exact ⟨((none, 0), (none, 0)), rfl, hm.below, ⟨Nat.le_refl 0, SlAt.nothing⟩, Nat.le_refl 0, SlAt.nothing⟩
          ·
            refine q0 (qv_pickF rfl rfl) ?_
            refine q0 (qv_move rfl) ?_
            refine q0g (qv_fa fo_56_3 rfl) ?_
            refine q0g (qv_ldB (i := 0) sc_3 rfl rfl rfl) ?_
            refine qdg (qv_gtr rfl rfl) (fun c64 => ?_) (fun c64 => ?_)
            ·
              refine q0 (qv_pickF rfl rfl) ?_
              refine q0 (qv_move rfl) ?_
              refine qk ?_
              refine qk ?_
              refine qk ?_
              refine qk ?_
              refine qk ?_
              refine qk ?_
              refine qk ?_
              refine qk ?_
              refine qk ?_
              refine qk ?_
              refine qk ?_
              refine qk ?_
              refine qk ?_
              refine qk ?_
              refine q0 (qv_pickT rfl rfl) ?_
              refine tq_nil (tp_normal ?_)
              refine tc_true rfl ?_
              refine tc_seq ?_
              refine tc_region ?_
              refine s0 (qv_assign rfl) ?_
              refine s0 (qv_assign rfl) ?_
              refine s0 (qv_assign rfl) ?_
              refine tl_nil (tp_normal ?_)
              refine tc_ret (tp_then_ret (tp_block_ret (tp_then_ret (tp_then_ret (tp_block_ret (tp_then_ret (tp_end3 rfl rfl rfl rfl ?_)))))))
              intro w' hm
              rw [period_rest hck htk (by rw [hI.2.1, restsBad_stop he45 (by first | exact .inl c54 | exact .inr (.inr (.inr ⟨e73, prevR_at (by omega) he73, cmp3_ge c79⟩)) | exact .inr (.inl c59) | exact .inr (.inr (.inl c64)))])]
              exact ⟨((none, 0), (none, 0)), rfl, hm.below, ⟨Nat.le_refl 0, SlAt.nothing⟩, Nat.le_refl 0, SlAt.nothing⟩
            ·
              refine q0 (qv_pickF rfl rfl) ?_
              refine q0 (qv_move rfl) ?_
              refine q0g (qv_move rfl) ?_
              refine qdg (qv_gtr rfl rfl) (fun c68 => ?_) (fun c68 => ?_)
              ·
                refine q0g (qv_move rfl) ?_
                refine q0g (qv_move rfl) ?_
                refine q0g (qv_move rfl) ?_
                refine q0g (qv_subI rfl rfl (by omega)) ?_
                refine qig st_22 hr rfl rfl (by omega) (fun e73 he73 => ?_)
                refine q0g (qv_ldEW ag_56 hr Mem.has_base rfl he73) ?_
                refine q0g (qv_call fn_57 rfl (fun w hm => key_calls w e73)) ?_
                refine q0g (qv_ldBW (i := 0) ag_56 rfl rfl rfl) ?_
                refine q0g (qv_call fn_57 rfl (fun w hm => key_calls w e45)) ?_
                refine q0g (qv_call fn_56 rfl (fun w hm => order_callsK w (keyR e73) (keyR e45))) ?_
                refine qdg (qv_geq rfl rfl) (fun c79 => ?_) (fun c79 => ?_)
                ·
                  refine q0g (qv_pickT rfl rfl) ?_
                  refine q0 (qv_pickF rfl rfl) ?_
                  refine tq_nil (tp_normal ?_)
                  refine tc_true rfl ?_
                  refine tc_seq ?_
                  refine tc_region ?_
                  refine s0 (qv_assign rfl) ?_
                  refine s0 (qv_assign rfl) ?_
                  refine s0 (qv_assign rfl) ?_
                  refine tl_nil (tp_normal ?_)
                  refine tc_ret (tp_then_ret (tp_block_ret (tp_then_ret (tp_then_ret (tp_block_ret (tp_then_ret (tp_end3 rfl rfl rfl rfl ?_)))))))
                  intro w' hm
                  rw [period_rest hck htk (by rw [hI.2.1, restsBad_stop he45 (by first | exact .inl c54 | exact .inr (.inr (.inr ⟨e73, prevR_at (by omega) he73, cmp3_ge c79⟩)) | exact .inr (.inl c59) | exact .inr (.inr (.inl c64)))])]
                  exact ⟨((none, 0), (none, 0)), rfl, hm.below, ⟨Nat.le_refl 0, SlAt.nothing⟩, Nat.le_refl 0, SlAt.nothing⟩
                ·
                  refine q0g (qv_pickT rfl rfl) ?_
                  refine q0 (qv_pickF rfl rfl) ?_
                  refine tq_nil (tp_normal ?_)
                  refine tc_false rfl ?_
                  refine tc_skip (tp_normal ?_)
                  refine tc_drawU 5 5 mixed (by kernel_rfl) ?_
                  refine q0 (qv_move rfl) ?_
                  refine q0 (qv_ldBW (i := 0) ag_56 rfl rfl rfl) ?_
                  refine q0 (qv_call fn_57 rfl (fun w hm => key_calls w e45)) ?_
                  refine q0 (qv_fa fo_56_3 rfl) ?_
                  refine q0 (qv_ldB (i := 0) sc_3 rfl rfl rfl) ?_
                  refine tq_up ?_
                  refine tu_tail rfl rfl rfl (by kernel_rfl) ?_
                  refine tl_mapUpdate (k := (keyR e45)) (v := e45.milli) 1 mt_131 key_133 hI.2.2 (fun om1 hmn1 => ?_)
                  refine tl_nil (tp_block_normal (tp_normal ?_))
                  refine tc_region ?_
                  refine s0 (qv_succ rfl rfl (by omega)) ?_
                  refine s0 (qv_move rfl) ?_
                  exact tl_nil (tp_roundB (q.1 + 1, om1) ⟨by simp only; omega, by rw [hI.2.1]; exact restsBad_step he45 (rest_not_bad c54 c59 c64 (by first | exact prevR_zero (by omega) | exact prevR_all (by omega) he73 (cmp3_not c79))), by rw [restM_take he45]; exact hmn1⟩ (by simp only; omega) ⟨rfl, trivial⟩ rfl rfl rfl rfl)
              ·
                refine q0g (qv_move rfl) ?_
                refine qk ?_
                refine qk ?_
                refine qk ?_
                refine qk ?_
                refine qk ?_
                refine qk ?_
                refine qk ?_
                refine qk ?_
                refine qk ?_
                refine qk ?_
                refine q0g (qv_pickF rfl rfl) ?_
                refine q0 (qv_pickF rfl rfl) ?_
                refine tq_nil (tp_normal ?_)
                refine tc_false rfl ?_
                refine tc_skip (tp_normal ?_)
                refine tc_drawU 5 5 mixed (by kernel_rfl) ?_
                refine q0 (qv_move rfl) ?_
                refine q0 (qv_ldBW (i := 0) ag_56 rfl rfl rfl) ?_
                refine q0 (qv_call fn_57 rfl (fun w hm => key_calls w e45)) ?_
                refine q0 (qv_fa fo_56_3 rfl) ?_
                refine q0 (qv_ldB (i := 0) sc_3 rfl rfl rfl) ?_
                refine tq_up ?_
                refine tu_tail rfl rfl rfl (by kernel_rfl) ?_
                refine tl_mapUpdate (k := (keyR e45)) (v := e45.milli) 1 mt_131 key_133 hI.2.2 (fun om2 hmn2 => ?_)
                refine tl_nil (tp_block_normal (tp_normal ?_))
                refine tc_region ?_
                refine s0 (qv_succ rfl rfl (by omega)) ?_
                refine s0 (qv_move rfl) ?_
                exact tl_nil (tp_roundB (q.1 + 1, om2) ⟨by simp only; omega, by rw [hI.2.1]; exact restsBad_step he45 (rest_not_bad c54 c59 c64 (by first | exact prevR_zero (by omega) | exact prevR_all (by omega) he73 (cmp3_not c79))), by rw [restM_take he45]; exact hmn2⟩ (by simp only; omega) ⟨rfl, trivial⟩ rfl rfl rfl rfl)
        ·
          refine q0 (qv_not rfl) ?_
          refine q0 (qv_move rfl) ?_
          refine qk ?_
          refine qk ?_
          refine qk ?_
          refine q0 (qv_pickT rfl rfl) ?_
          refine q0 (qv_move rfl) ?_
          refine qk ?_
          refine qk ?_
          refine qk ?_
          refine q0 (qv_pickT rfl rfl) ?_
          refine q0 (qv_move rfl) ?_
          refine qk ?_
          refine qk ?_
          refine qk ?_
          refine qk ?_
          refine qk ?_
          refine qk ?_
          refine qk ?_
          refine qk ?_
          refine qk ?_
          refine qk ?_
          refine qk ?_
          refine qk ?_
          refine qk ?_
          refine qk ?_
          refine q0 (qv_pickT rfl rfl) ?_
          refine tq_nil (tp_normal ?_)
          refine tc_true rfl ?_
          refine tc_seq ?_
          refine tc_region ?_
          refine s0 (qv_assign rfl) ?_
          refine s0 (qv_assign rfl) ?_
          refine s0 (qv_assign rfl) ?_
          refine tl_nil (tp_normal ?_)
          refine tc_ret (tp_then_ret (tp_block_ret (tp_then_ret (tp_then_ret (tp_block_ret (tp_then_ret (tp_end3 rfl rfl rfl rfl ?_)))))))
          intro w' hm
          rw [period_rest hck htk (by rw [hI.2.1, restsBad_stop he45 (by first | exact .inl c54 | exact .inr (.inr (.inr ⟨e73, prevR_at (by omega) he73, cmp3_ge c79⟩)) | exact .inr (.inl c59) | exact .inr (.inr (.inl c64)))])]
          exact ⟨((none, 0), (none, 0)), rfl, hm.below, ⟨Nat.le_refl 0, SlAt.nothing⟩, Nat.le_refl 0, SlAt.nothing⟩
      ·
        refine tl_nil (tp_normal ?_)
        refine tc_seq ?_
        refine tc_false rfl ?_
        refine tc_exit (tp_then_exit (tp_then_exit (tp_block_exit (tp_normal ?_))))
        refine tc_seq ?_
        refine tc_seq ?_
        have hrb : restsBad t none r = false := by rw [hI.2.1, restsBad_end (by omega)]
        have hrf := rests_fine hrb
        refine tc_region ?_
        refine s0 (qv_move rfl) ?_
        refine s0 (qv_len st_27 rfl) ?_
        refine s0 (qv_move rfl) ?_
        refine tl_nil (tp_normal ?_)
        refine tc_block (tc_loopB (fun (qq : Nat × Obj) => [(90, .int .i64 (qq.1 : Int))]) (fun (qq : Nat × Obj) => [(0, b39_1, qq.2)]) (fun (qq : Nat × Obj) => qq.1 ≤ l.length ∧ chargeErrs t n l = chargeErrs t n (l.drop qq.1) ∧ MapIs encA3 (Value.int .i64) (useM t n (restM r) (l.take qq.1)) qq.2) (fun (qq : Nat × Obj) => l.length - qq.1) ((0, q.2)) ⟨Nat.zero_le _, rfl, by (have h_ := hI.2.2; rw [show r.take q.1 = r from List.take_of_length_le (by omega)] at h_; exact h_)⟩ ⟨rfl, trivial⟩ rfl ?_)
        rintro qq hJ
        refine tc_seq ?_
        refine tc_region ?_
        refine sd (qv_lss rfl rfl) (fun c91 => ?_) (fun c91 => ?_)
        ·
          refine tl_nil (tp_normal ?_)
          refine tc_seq ?_
          refine tc_true rfl ?_
          refine tc_skip (tp_normal ?_)
          refine tc_seq ?_
          refine tc_block ?_
          refine tc_seq ?_
          refine tc_region ?_
          refine sn st_27 hl rfl rfl (by omega) (fun e92 he92 => ?_)
          refine s0 (qv_ldEW ag_34 hl Mem.has_base rfl he92) ?_
          refine tl_alloc ze_34 (by decide) (fun b18_3 => ?_)
          refine tl_storeL (i := 0) sz_34 (hl.szs _ (List.mem_of_getElem? he92)) (one_34 _) rfl rfl rfl rfl ?_
          refine tl_nil (tp_normal ?_)
          refine tc_seq ?_
          refine tc_region ?_
          refine s0 (qv_move rfl) ?_
          refine s0 (qv_ldBW (i := 2) ag_26 rfl rfl rfl) ?_
          refine s0 (qv_ldBW (i := 0) ag_34 rfl rfl rfl) ?_
          refine s0 (qv_call fn_18 rfl (fun w hm => charge_calls w t ta tc n na nc e92 (ht.into Mem.has_base hm) (hn.into Mem.has_base hm) hk ((hins e92 (List.mem_of_getElem? he92)).1.into Mem.has_base hm))) ?_
          refine s0 (qv_move rfl) ?_
          refine s0 (qv_extract rfl rfl) ?_
          refine s0 (qv_extract rfl rfl) ?_
          refine s0 (qv_assign rfl) ?_
          refine s0 (qv_assign rfl) ?_
          refine tl_nil (tp_normal ?_)
          refine tc_seq ?_
          refine tc_seq ?_
          refine tc_region ?_
          refine s0 (qv_move rfl) ?_
          refine sd (qv_neq rfl rfl) (fun c102 => ?_) (fun c102 => ?_)
          ·
            refine tl_nil (tp_normal ?_)
            refine tc_true rfl ?_
            refine tc_seq ?_
            refine tc_region ?_
            refine s0 (qv_move rfl) ?_
            refine s0 (qv_assign rfl) ?_
            refine s0 (qv_assign rfl) ?_
            refine s0 (qv_assign rfl) ?_
            refine tl_nil (tp_normal ?_)
            refine tc_ret (tp_then_ret (tp_block_ret (tp_then_ret (tp_then_ret (tp_block_ret (tp_then_ret (tp_end3 rfl rfl rfl rfl ?_)))))))
            intro w' hm
            rw [period_charge hck htk hrb (by rw [hJ.2.1, chargeErrs_stop he92 c102]; exact c102), hJ.2.1, chargeErrs_stop he92 c102]
            exact ⟨((none, 0), (none, 0)), rfl, hm.below, ⟨Nat.le_refl 0, SlAt.nothing⟩, Nat.le_refl 0, SlAt.nothing⟩
          ·
            refine tl_nil (tp_normal ?_)
            refine tc_false rfl ?_
            refine tc_skip (tp_normal ?_)
            have hlk := sums_take (t := t) (n := n) hrf.2 (by omega) qq.1 (keyU e92)
            have hcb := charge_bound t n e92
            have hle := look_ensure (useM t n (restM r) (l.take qq.1)) (keyU e92) 0
            refine tc_drawV 13 mixed (by kernel_rfl) (hD_erase 1) ?_
            refine tu_take (i := 0) (ho := rfl) (qv_move rfl) ?_ (by kernel_rfl) (by kernel_rfl)
            refine tu_take (i := 1) (ho := rfl) (qv_fa fo_34_2 rfl) ?_ (by kernel_rfl) (by kernel_rfl)
            refine tu_take (i := 2) (ho := rfl) (qv_ldB (i := 0) sc_3 rfl rfl rfl) ?_ (by kernel_rfl) (by kernel_rfl)
            refine tu_take (i := 3) (ho := rfl) (qv_fa fo_34_1 rfl) ?_ (by kernel_rfl) (by kernel_rfl)
            refine tu_take (i := 4) (ho := rfl) (qv_ldB (i := 0) sc_3 rfl rfl rfl) ?_ (by kernel_rfl) (by kernel_rfl)
            refine tu_take (i := 5) (ho := rfl) (qv_fa fo_34_0 rfl) ?_ (by kernel_rfl) (by kernel_rfl)
            refine tu_take (i := 6) (ho := rfl) (qv_ldB (i := 0) sc_3 rfl rfl rfl) ?_ (by kernel_rfl) (by kernel_rfl)
            refine tu_take (i := 7) (ho := rfl) (qv_buildA ba_133 rfl rfl) ?_ (by kernel_rfl) (by kernel_rfl)
            refine tu_take (i := 9) (ho := rfl) (qv_move rfl) ?_ (by kernel_rfl) (by kernel_rfl)
            refine tu_2 8 11 (by kernel_rfl) (by kernel_rfl) (by kernel_rfl) ?_ ?_
            ·
              refine tg_q (qv_lookupM (zv := 0) (k := (keyU e92)) 1 mt_131 key_133 hJ.2.2 mz_3 rfl rfl rfl) ?_ (fun w h => hD_erase 1 w h)
              refine tu_take (i := 10) (ho := rfl) (qv_addI rfl rfl (by omega)) ?_ (by kernel_rfl) (by kernel_rfl)
              refine tu_one 11 ?_ (by kernel_rfl) (by kernel_rfl) (by kernel_rfl)
              refine tg_mapEntry (zv := 0) (k := (keyU e92)) 1 mt_131 key_133 hJ.2.2 mz_3 (fun om3 bn3 hst3 => ?_) (fun o_ w h => hD_eraseSet 1 _ w h)
              refine tu_take (i := 12) (ho := rfl) (qv_extract rfl rfl) ?_ (by kernel_rfl) (by kernel_rfl)
              refine tu_tail rfl rfl rfl (by kernel_rfl) ?_
              refine tl_entryStore 1 hst3 (fun om4 hmm4 => ?_)
              have hmn4 : MapIs encA3 (Value.int .i64) (putM (useM t n (restM r) (l.take qq.1)) (keyU e92) (look (useM t n (restM r) (l.take qq.1)) (keyU e92) 0 + (charge t n e92).1)) om4 := by (have h_ := hmm4; simp only [look_ensure, setAt_ensure] at h_; exact h_)
              refine tl_nil (tp_block_normal (tp_normal ?_))
              refine tc_region ?_
              refine s0 (qv_succ rfl rfl (by omega)) ?_
              refine s0 (qv_move rfl) ?_
              exact tl_nil (tp_roundB (qq.1 + 1, om4) ⟨by simp only; omega, by rw [hJ.2.1]; exact chargeErrs_step he92 (by omega), by rw [useM_take he92]; exact hmn4⟩ (by simp only; omega) ⟨rfl, trivial⟩ rfl rfl rfl rfl)
            ·
              refine tg_mapEntry (zv := 0) (k := (keyU e92)) 1 mt_131 key_133 hJ.2.2 mz_3 (fun om5 bn5 hst5 => ?_) (fun o_ w h => hD_eraseSet 1 _ w h)
              refine tu_take (i := 12) (ho := rfl) (qv_extract rfl rfl) ?_ (by kernel_rfl) (by kernel_rfl)
              refine tu_one 8 ?_ (by kernel_rfl) (by kernel_rfl) (by kernel_rfl)
              refine tg_q (qv_lookupM (zv := 0) (k := (keyU e92)) 1 mt_131 key_133 hst5.is mz_3 rfl rfl rfl) ?_ (fun w h => hD_eraseSet 1 _ w h)
              refine tu_take (i := 10) (ho := rfl) (qv_addI rfl rfl (by omega)) ?_ (by kernel_rfl) (by kernel_rfl)
              refine tu_tail rfl rfl rfl (by kernel_rfl) ?_
              refine tl_entryStore 1 hst5 (fun om6 hmm6 => ?_)
              have hmn6 : MapIs encA3 (Value.int .i64) (putM (useM t n (restM r) (l.take qq.1)) (keyU e92) (look (useM t n (restM r) (l.take qq.1)) (keyU e92) 0 + (charge t n e92).1)) om6 := by (have h_ := hmm6; simp only [look_ensure, setAt_ensure] at h_; exact h_)
              refine tl_nil (tp_block_normal (tp_normal ?_))
              refine tc_region ?_
              refine s0 (qv_succ rfl rfl (by omega)) ?_
              refine s0 (qv_move rfl) ?_
              exact tl_nil (tp_roundB (qq.1 + 1, om6) ⟨by simp only; omega, by rw [hJ.2.1]; exact chargeErrs_step he92 (by omega), by rw [useM_take he92]; exact hmn6⟩ (by simp only; omega) ⟨rfl, trivial⟩ rfl rfl rfl rfl)
        ·
          refine tl_nil (tp_normal ?_)
          refine tc_seq ?_
          refine tc_false rfl ?_
          refine tc_exit (tp_then_exit (tp_then_exit (tp_block_exit (tp_normal ?_))))
          refine tc_seq ?_
          refine tc_region ?_
          refine s0 (qv_assign rfl) ?_
          refine tl_nil (tp_normal ?_)
          refine tc_seq ?_
          refine tc_seq ?_
          have hce : chargeErrs t n l = 0 := by rw [hJ.2.1, chargeErrs_end (by omega)]
          have hmm : MapIs encA3 (Value.int .i64) (useM t n (restM r) l) qq.2 := by (have h_ := hJ.2.2; rw [show l.take qq.1 = l from List.take_of_length_le (by omega)] at h_; exact h_)
          have hml := mm_len hck hrb hmm
          have hvs := sums_vals (t := t) (n := n) (l := l) hrf.2 (by omega)
          refine tc_region ?_
          refine s0 (qv_move rfl) ?_
          refine tl_range 0 mt_131 hmm (fun r119 oi119 hri119 => ?_)
          refine tl_nil (tp_normal ?_)
          refine tc_block (tc_loopR 0 133 3 encK (fun (z : (List (K3 × Int) × List (K3 × Int)) × Obj) (v : Value) => [(21, v)]) (fun (z : (List (K3 × Int) × List (K3 × Int)) × Obj) => [(0, r119, z.2)]) (fun (z : (List (K3 × Int) × List (K3 × Int)) × Obj) => (z.1.1.map Prod.fst)) (fun (z : (List (K3 × Int) × List (K3 × Int)) × Obj) => RangeIs encA3 (Value.int .i64) b39_1 (useM t n (restM r) l) qq.2 z.2 z.1.2 ∧ (z.1.1 ++ z.1.2).Perm (useM t n (restM r) l) ∧ ∀ p ∈ z.1.1, ¬ 1099511627776 < p.2 / 1000) (fun (z : (List (K3 × Int) × List (K3 × Int)) × Obj) => z.1.2.length) ((([], (useM t n (restM r) l)), oi119)) (RowOf.nil _ _ _) ⟨hri119, .refl _, by simp⟩ ⟨rfl, trivial⟩ rfl rfl ?_)
          rintro z vr24 or24 hZ hrow
          have hlz : z.1.1.length ≤ 1680 := by (have h_ := perm_len hZ.2.1; omega)
          have hlz2 : (z.1.1.map Prod.fst).length ≤ 1680 := by simpa using hlz
          refine tc_seq ?_
          refine tc_region ?_
          refine tl_next 1 0 hZ.1 (fun hnil120 => ?_) (fun p120 rest120 oi120 hperm120 hri120 hnow120 => ?_)
          ·
            refine s0 (qv_extract rfl rfl) ?_
            refine tl_nil (tp_normal ?_)
            refine tc_seq ?_
            refine tc_false rfl ?_
            refine tc_exit (tp_then_exit (tp_then_exit (tp_block_exit (tp_normal ?_))))
            refine tc_seq ?_
            refine tc_region ?_
            refine s0 (qv_move rfl) ?_
            refine tl_sort (α := K3) (enc := encK) (sz := 3) (l := z.1.1.map Prod.fst) 0 fn_58 (fun _ => rfl) (by decide) sort3_none (R := Sorted3 (z.1.1.map Prod.fst)) (fun h => sorted3_nil h) (fun blk cap w hH hb => sort3_some (by omega) blk cap w hH hb) hrow (fun lB obB hlB hsB hrB => ?_)
            refine tl_nil (tp_normal ?_)
            refine tc_seq ?_
            refine tc_region ?_
            refine s0 (qv_assign rfl) ?_
            refine tl_nil (tp_normal ?_)
            refine tc_seq ?_
            refine tc_region ?_
            refine s0 (qv_assign rfl) ?_
            refine tl_nil (tp_normal ?_)
            refine tc_seq ?_
            refine tc_seq ?_
            have hlB2 : lB.length ≤ 1680 := by rw [hlB]; exact hlz2
            refine tc_rowKeep 0 hrB (fun _ => rfl) (fun Wk lok hik ak ck hvk hck_ hsk => ?_)
            subst hvk
            refine tc_region ?_
            refine s0 (qv_move rfl) ?_
            refine s0 (qv_len st_135 rfl) ?_
            refine s0 (qv_move rfl) ?_
            refine tl_nil (tp_normal ?_)
            refine tc_block (tc_loopRR 1 54 6 encPost 2 56 4 encRest (fun (k : Nat) (v u : Value) => [(24, v), (25, u), (136, .int .i64 (k : Int))]) (fun (k : Nat) => []) (fun (k : Nat) => (postsOf tick (fun k_ => look (useM t n (restM r) l) k_ 0) (lB.take k))) (fun (k : Nat) => (leftsOf (fun k_ => look (useM t n (restM r) l) k_ 0) (lB.take k))) (fun (k : Nat) => k ≤ lB.length) (fun (k : Nat) => lB.length - k) (0) (RowOf.nil _ _ _) (RowOf.nil _ _ _) (Nat.zero_le _) ⟨rfl, rfl, rfl, trivial⟩ rfl rfl ?_)
            rintro k vr25 or25 vr25b or25b hK hrw hrwb
            have hpl1 := postsOf_len tick (fun k_ => look (useM t n (restM r) l) k_ 0) (lB.take k)
            have hpl2 := leftsOf_len (fun k_ => look (useM t n (restM r) l) k_ 0) (lB.take k)
            have hpl3 := List.length_take_le' k lB
            refine tc_seq ?_
            refine tc_region ?_
            refine sd (qv_lss rfl rfl) (fun c137 => ?_) (fun c137 => ?_)
            ·
              refine tl_nil (tp_normal ?_)
              refine tc_seq ?_
              refine tc_true rfl ?_
              refine tc_skip (tp_normal ?_)
              refine tc_seq ?_
              refine tc_block ?_
              refine tc_seq ?_
              refine tc_region ?_
              refine sn st_135 hsk rfl rfl (by omega) (fun e138 he138 => ?_)
              refine s0 (qv_ldEW ag_133 hsk (Mem.has_kept (by first | exact .head _ | exact .tail _ (.head _) | exact .tail _ (.tail _ (.head _)) | exact .tail _ (.tail _ (.tail _ (.head _))))) rfl he138) ?_
              refine tl_alloc ze_133 (by decide) (fun b27_4 => ?_)
              refine tl_storeL (i := 0) sz_133 (hsk.szs _ (List.mem_of_getElem? he138)) (one_133 _) rfl rfl rfl rfl ?_
              refine tl_nil (tp_normal ?_)
              refine tc_seq ?_
              have hlk := vals_look hvs (by omega) e138
              have hgr := sorted_grid hck hrb (hnil120 ▸ hZ.2.1) hsB (List.mem_of_getElem? he138)
              refine tc_drawU 14 13 mixed (by kernel_rfl) ?_
              refine q0 (qv_iA at_133 rfl rfl (by omega)) ?_
              refine q0 (qv_ldB (i := 0) sc_3 rfl rfl rfl) ?_
              refine q0 (qv_iA at_133 rfl rfl (by omega)) ?_
              refine q0 (qv_ldB (i := 0) sc_3 rfl rfl rfl) ?_
              refine q0 (qv_addI rfl rfl (by omega)) ?_
              refine q0 (qv_move rfl) ?_
              refine q0 (qv_ldBW (i := 0) ag_133 rfl rfl rfl) ?_
              refine q0 (qv_lookupM (zv := 0) (k := e138) 2 mt_131 key_133 hmm mz_3 rfl rfl rfl) ?_
              refine q0 (qv_quoI rfl rfl (by decide) (by omega) (by omega)) ?_
              refine q0 (qv_move rfl) ?_
              refine q0 (qv_iA at_133 rfl rfl (by omega)) ?_
              refine q0 (qv_ldB (i := 0) sc_3 rfl rfl rfl) ?_
              refine q0 (qv_build (cells := #[.int .i64 e138.2.1, .int .i64 ((12) + e138.1), .int .i64 ((look (useM t n (restM r) l) e138 0) / (1000)), .int .i64 tick, .int .i64 e138.2.2, .int .i64 (0)]) bt_54 rfl (by kernel_rfl)) ?_
              refine tq_up ?_
              refine tu_one 13 ?_ (by kernel_rfl) (by kernel_rfl) (by kernel_rfl)
              refine tg_alloc ze_54 (fun b28_5 => ?_) (fun _ _ h => hD_drop rfl rfl _ h)
              refine tu_tail rfl rfl rfl (by kernel_rfl) ?_
              refine tl_storeO (i := 0) sz_54 rfl rfl rfl rfl rfl rfl rfl ?_
              refine tl_nil (tp_normal ?_)
              refine tc_seq ?_
              refine tc_seq ?_
              refine tc_region ?_
              refine s0 (qv_fa fo_54_4 rfl) ?_
              refine s0 (qv_ldB (i := 0) sc_3 rfl rfl rfl) ?_
              refine sd (qv_eql rfl rfl) (fun c155 => ?_) (fun c155 => ?_)
              ·
                refine tl_nil (tp_normal ?_)
                refine tc_true rfl ?_
                refine tc_region ?_
                refine s0 (qv_fa fo_54_1 rfl) ?_
                refine s0 (qv_ldB (i := 0) sc_3 rfl rfl rfl) ?_
                refine s0 (qv_fa fo_54_0 rfl) ?_
                refine s0 (qv_ldB (i := 0) sc_3 rfl rfl rfl) ?_
                refine s0 (qv_fa fo_54_0 rfl) ?_
                refine tl_store1 (i := 0) sz_3 rfl rfl rfl rfl rfl (Nat.le_of_ble_eq_true rfl) ?_
                refine s0 (qv_fa fo_54_1 rfl) ?_
                refine tl_store1 (i := 0) sz_3 rfl rfl rfl rfl rfl (Nat.le_of_ble_eq_true rfl) ?_
                refine tl_nil (tp_normal ?_)
                refine tc_seq ?_
                refine tc_seq ?_
                refine tc_region ?_
                refine s0 (qv_fa fo_54_2 rfl) ?_
                refine s0 (qv_ldB (i := 0) sc_3 rfl rfl rfl) ?_
                refine sd (qv_gtr rfl rfl) (fun c164 => ?_) (fun c164 => ?_)
                ·
                  refine tl_nil (tp_normal ?_)
                  refine tc_true rfl ?_
                  refine tc_region ?_
                  refine s0 (qv_move rfl) ?_
                  refine s0 (qv_ldBW (i := 0) ag_54 rfl rfl rfl) ?_
                  refine tl_buildSlice (cells := #[.int .i64 ((12) + e138.1), .int .i64 e138.2.1, .int .i64 ((look (useM t n (restM r) l) e138 0) / (1000)), .int .i64 tick, .int .i64 e138.2.2, .int .i64 (0)]) (hc := by kernel_rfl) bsl_40_1 (fun b167_6 => ?_)
                  refine tl_append1 1 0 apt_40 (⟨((12) + e138.1), e138.2.1, ((look (useM t n (restM r) l) e138 0) / (1000)), tick, e138.2.2, (0)⟩ : Posting) hrw (fun v168 ob168 hr168 => ?_) rfl (one_54 _) (by first | omega | (simp only [List.length_append, List.length_cons, List.length_nil]; omega))
                  refine s0 (qv_assign rfl) ?_
                  refine tl_nil (tp_normal ?_)
                  refine tc_seq ?_
                  refine tc_region ?_
                  refine s0 (qv_move rfl) ?_
                  refine s0 (qv_ldBW (i := 2) ag_133 rfl rfl rfl) ?_
                  refine s0 (qv_lookupM (zv := 0) (k := e138) 4 mt_131 key_133 hmm mz_3 rfl rfl rfl) ?_
                  refine s0 (qv_remI rfl rfl (by decide) (by omega)) ?_
                  refine s0 (qv_assign rfl) ?_
                  refine tl_nil (tp_normal ?_)
                  refine tc_seq ?_
                  refine tc_region ?_
                  refine s0 (qv_move rfl) ?_
                  refine sd (qv_gtr rfl rfl) (fun c174 => ?_) (fun c174 => ?_)
                  ·
                    refine tl_nil (tp_normal ?_)
                    refine tc_true rfl ?_
                    refine tc_region ?_
                    refine s0 (qv_move rfl) ?_
                    refine s0 (qv_iA at_133 rfl rfl (by omega)) ?_
                    refine s0 (qv_ldB (i := 2) sc_3 rfl rfl rfl) ?_
                    refine s0 (qv_iA at_133 rfl rfl (by omega)) ?_
                    refine s0 (qv_ldB (i := 2) sc_3 rfl rfl rfl) ?_
                    refine s0 (qv_iA at_133 rfl rfl (by omega)) ?_
                    refine s0 (qv_ldB (i := 2) sc_3 rfl rfl rfl) ?_
                    refine s0 (qv_move rfl) ?_
                    refine s0 (qv_build (cells := #[.int .i64 e138.1, .int .i64 e138.2.1, .int .i64 e138.2.2, .int .i64 ((look (useM t n (restM r) l) e138 0) % (1000))]) bt_56 rfl (by kernel_rfl)) ?_
                    refine tl_buildSlice (cells := #[.int .i64 e138.1, .int .i64 e138.2.1, .int .i64 e138.2.2, .int .i64 ((look (useM t n (restM r) l) e138 0) % (1000))]) (hc := by kernel_rfl) bsl_22_1 (fun b184_7 => ?_)
                    refine tl_append1 2 0 apt_22 (⟨e138.1, e138.2.1, e138.2.2, ((look (useM t n (restM r) l) e138 0) % (1000))⟩ : Rest) hrwb (fun v185 ob185 hr185 => ?_) rfl (one_56 _) (by first | omega | (simp only [List.length_append, List.length_cons, List.length_nil]; omega))
                    refine s0 (qv_assign rfl) ?_
                    refine tl_nil (tp_block_normal (tp_normal ?_))
                    refine tc_region ?_
                    refine s0 (qv_succ rfl rfl (by omega)) ?_
                    refine s0 (qv_move rfl) ?_
                    exact tl_nil (tp_roundRR (k + 1) (by first | (rw [postsOf_no he138 (by assumption)]; exact hr168) | (rw [postsOf_fine he138 (by assumption) (by assumption)]; exact hr168) | (rw [postsOf_use he138 (by assumption) (by assumption)]; exact hr168)) (by first | (rw [leftsOf_no he138 (by assumption)]; exact hr185) | (rw [leftsOf_yes he138 (by assumption)]; exact hr185)) (by omega) (by omega) ⟨rfl, rfl, rfl, trivial⟩ rfl rfl rfl rfl rfl)
                  ·
                    refine tl_nil (tp_normal ?_)
                    refine tc_false rfl ?_
                    refine tc_skip (tp_block_normal (tp_normal ?_))
                    refine tc_region ?_
                    refine s0 (qv_succ rfl rfl (by omega)) ?_
                    refine s0 (qv_move rfl) ?_
                    exact tl_nil (tp_roundRR (k + 1) (by first | (rw [postsOf_no he138 (by assumption)]; exact hr168) | (rw [postsOf_fine he138 (by assumption) (by assumption)]; exact hr168) | (rw [postsOf_use he138 (by assumption) (by assumption)]; exact hr168)) (by first | (rw [leftsOf_no he138 (by assumption)]; exact hrwb) | (rw [leftsOf_yes he138 (by assumption)]; exact hrwb)) (by omega) (by omega) ⟨rfl, rfl, rfl, trivial⟩ rfl rfl rfl rfl rfl)
                ·
                  refine tl_nil (tp_normal ?_)
                  refine tc_false rfl ?_
                  refine tc_skip (tp_normal ?_)
                  refine tc_seq ?_
                  refine tc_region ?_
                  refine s0 (qv_move rfl) ?_
                  refine s0 (qv_ldBW (i := 1) ag_133 rfl rfl rfl) ?_
                  refine s0 (qv_lookupM (zv := 0) (k := e138) 3 mt_131 key_133 hmm mz_3 rfl rfl rfl) ?_
                  refine s0 (qv_remI rfl rfl (by decide) (by omega)) ?_
                  refine s0 (qv_assign rfl) ?_
                  refine tl_nil (tp_normal ?_)
                  refine tc_seq ?_
                  refine tc_region ?_
                  refine s0 (qv_move rfl) ?_
                  refine sd (qv_gtr rfl rfl) (fun c174 => ?_) (fun c174 => ?_)
                  ·
                    refine tl_nil (tp_normal ?_)
                    refine tc_true rfl ?_
                    refine tc_region ?_
                    refine s0 (qv_move rfl) ?_
                    refine s0 (qv_iA at_133 rfl rfl (by omega)) ?_
                    refine s0 (qv_ldB (i := 1) sc_3 rfl rfl rfl) ?_
                    refine s0 (qv_iA at_133 rfl rfl (by omega)) ?_
                    refine s0 (qv_ldB (i := 1) sc_3 rfl rfl rfl) ?_
                    refine s0 (qv_iA at_133 rfl rfl (by omega)) ?_
                    refine s0 (qv_ldB (i := 1) sc_3 rfl rfl rfl) ?_
                    refine s0 (qv_move rfl) ?_
                    refine s0 (qv_build (cells := #[.int .i64 e138.1, .int .i64 e138.2.1, .int .i64 e138.2.2, .int .i64 ((look (useM t n (restM r) l) e138 0) % (1000))]) bt_56 rfl (by kernel_rfl)) ?_
                    refine tl_buildSlice (cells := #[.int .i64 e138.1, .int .i64 e138.2.1, .int .i64 e138.2.2, .int .i64 ((look (useM t n (restM r) l) e138 0) % (1000))]) (hc := by kernel_rfl) bsl_22_1 (fun b184_8 => ?_)
                    refine tl_append1 2 0 apt_22 (⟨e138.1, e138.2.1, e138.2.2, ((look (useM t n (restM r) l) e138 0) % (1000))⟩ : Rest) hrwb (fun v185 ob185 hr185 => ?_) rfl (one_56 _) (by first | omega | (simp only [List.length_append, List.length_cons, List.length_nil]; omega))
                    refine s0 (qv_assign rfl) ?_
                    refine tl_nil (tp_block_normal (tp_normal ?_))
                    refine tc_region ?_
                    refine s0 (qv_succ rfl rfl (by omega)) ?_
                    refine s0 (qv_move rfl) ?_
                    exact tl_nil (tp_roundRR (k + 1) (by first | (rw [postsOf_no he138 (by assumption)]; exact hrw) | (rw [postsOf_fine he138 (by assumption) (by assumption)]; exact hrw) | (rw [postsOf_use he138 (by assumption) (by assumption)]; exact hrw)) (by first | (rw [leftsOf_no he138 (by assumption)]; exact hr185) | (rw [leftsOf_yes he138 (by assumption)]; exact hr185)) (by omega) (by omega) ⟨rfl, rfl, rfl, trivial⟩ rfl rfl rfl rfl rfl)
                  ·
                    refine tl_nil (tp_normal ?_)
                    refine tc_false rfl ?_
                    refine tc_skip (tp_block_normal (tp_normal ?_))
                    refine tc_region ?_
                    refine s0 (qv_succ rfl rfl (by omega)) ?_
                    refine s0 (qv_move rfl) ?_
                    exact tl_nil (tp_roundRR (k + 1) (by first | (rw [postsOf_no he138 (by assumption)]; exact hrw) | (rw [postsOf_fine he138 (by assumption) (by assumption)]; exact hrw) | (rw [postsOf_use he138 (by assumption) (by assumption)]; exact hrw)) (by first | (rw [leftsOf_no he138 (by assumption)]; exact hrwb) | (rw [leftsOf_yes he138 (by assumption)]; exact hrwb)) (by omega) (by omega) ⟨rfl, rfl, rfl, trivial⟩ rfl rfl rfl rfl rfl)
              ·
                refine tl_nil (tp_normal ?_)
                refine tc_false rfl ?_
                refine tc_skip (tp_normal ?_)
                refine tc_seq ?_
                refine tc_seq ?_
                refine tc_region ?_
                refine s0 (qv_fa fo_54_2 rfl) ?_
                refine s0 (qv_ldB (i := 0) sc_3 rfl rfl rfl) ?_
                refine sd (qv_gtr rfl rfl) (fun c164 => ?_) (fun c164 => ?_)
                ·
                  refine tl_nil (tp_normal ?_)
                  refine tc_true rfl ?_
                  refine tc_region ?_
                  refine s0 (qv_move rfl) ?_
                  refine s0 (qv_ldBW (i := 0) ag_54 rfl rfl rfl) ?_
                  refine tl_buildSlice (cells := #[.int .i64 e138.2.1, .int .i64 ((12) + e138.1), .int .i64 ((look (useM t n (restM r) l) e138 0) / (1000)), .int .i64 tick, .int .i64 e138.2.2, .int .i64 (0)]) (hc := by kernel_rfl) bsl_40_1 (fun b167_9 => ?_)
                  refine tl_append1 1 0 apt_40 (⟨e138.2.1, ((12) + e138.1), ((look (useM t n (restM r) l) e138 0) / (1000)), tick, e138.2.2, (0)⟩ : Posting) hrw (fun v168 ob168 hr168 => ?_) rfl (one_54 _) (by first | omega | (simp only [List.length_append, List.length_cons, List.length_nil]; omega))
                  refine s0 (qv_assign rfl) ?_
                  refine tl_nil (tp_normal ?_)
                  refine tc_seq ?_
                  refine tc_region ?_
                  refine s0 (qv_move rfl) ?_
                  refine s0 (qv_ldBW (i := 2) ag_133 rfl rfl rfl) ?_
                  refine s0 (qv_lookupM (zv := 0) (k := e138) 4 mt_131 key_133 hmm mz_3 rfl rfl rfl) ?_
                  refine s0 (qv_remI rfl rfl (by decide) (by omega)) ?_
                  refine s0 (qv_assign rfl) ?_
                  refine tl_nil (tp_normal ?_)
                  refine tc_seq ?_
                  refine tc_region ?_
                  refine s0 (qv_move rfl) ?_
                  refine sd (qv_gtr rfl rfl) (fun c174 => ?_) (fun c174 => ?_)
                  ·
                    refine tl_nil (tp_normal ?_)
                    refine tc_true rfl ?_
                    refine tc_region ?_
                    refine s0 (qv_move rfl) ?_
                    refine s0 (qv_iA at_133 rfl rfl (by omega)) ?_
                    refine s0 (qv_ldB (i := 2) sc_3 rfl rfl rfl) ?_
                    refine s0 (qv_iA at_133 rfl rfl (by omega)) ?_
                    refine s0 (qv_ldB (i := 2) sc_3 rfl rfl rfl) ?_
                    refine s0 (qv_iA at_133 rfl rfl (by omega)) ?_
                    refine s0 (qv_ldB (i := 2) sc_3 rfl rfl rfl) ?_
                    refine s0 (qv_move rfl) ?_
                    refine s0 (qv_build (cells := #[.int .i64 e138.1, .int .i64 e138.2.1, .int .i64 e138.2.2, .int .i64 ((look (useM t n (restM r) l) e138 0) % (1000))]) bt_56 rfl (by kernel_rfl)) ?_
                    refine tl_buildSlice (cells := #[.int .i64 e138.1, .int .i64 e138.2.1, .int .i64 e138.2.2, .int .i64 ((look (useM t n (restM r) l) e138 0) % (1000))]) (hc := by kernel_rfl) bsl_22_1 (fun b184_10 => ?_)
                    refine tl_append1 2 0 apt_22 (⟨e138.1, e138.2.1, e138.2.2, ((look (useM t n (restM r) l) e138 0) % (1000))⟩ : Rest) hrwb (fun v185 ob185 hr185 => ?_) rfl (one_56 _) (by first | omega | (simp only [List.length_append, List.length_cons, List.length_nil]; omega))
                    refine s0 (qv_assign rfl) ?_
                    refine tl_nil (tp_block_normal (tp_normal ?_))
                    refine tc_region ?_
                    refine s0 (qv_succ rfl rfl (by omega)) ?_
                    refine s0 (qv_move rfl) ?_
                    exact tl_nil (tp_roundRR (k + 1) (by first | (rw [postsOf_no he138 (by assumption)]; exact hr168) | (rw [postsOf_fine he138 (by assumption) (by assumption)]; exact hr168) | (rw [postsOf_use he138 (by assumption) (by assumption)]; exact hr168)) (by first | (rw [leftsOf_no he138 (by assumption)]; exact hr185) | (rw [leftsOf_yes he138 (by assumption)]; exact hr185)) (by omega) (by omega) ⟨rfl, rfl, rfl, trivial⟩ rfl rfl rfl rfl rfl)
                  ·
                    refine tl_nil (tp_normal ?_)
                    refine tc_false rfl ?_
                    refine tc_skip (tp_block_normal (tp_normal ?_))
                    refine tc_region ?_
                    refine s0 (qv_succ rfl rfl (by omega)) ?_
                    refine s0 (qv_move rfl) ?_
                    exact tl_nil (tp_roundRR (k + 1) (by first | (rw [postsOf_no he138 (by assumption)]; exact hr168) | (rw [postsOf_fine he138 (by assumption) (by assumption)]; exact hr168) | (rw [postsOf_use he138 (by assumption) (by assumption)]; exact hr168)) (by first | (rw [leftsOf_no he138 (by assumption)]; exact hrwb) | (rw [leftsOf_yes he138 (by assumption)]; exact hrwb)) (by omega) (by omega) ⟨rfl, rfl, rfl, trivial⟩ rfl rfl rfl rfl rfl)
                ·
                  refine tl_nil (tp_normal ?_)
                  refine tc_false rfl ?_
                  refine tc_skip (tp_normal ?_)
                  refine tc_seq ?_
                  refine tc_region ?_
                  refine s0 (qv_move rfl) ?_
                  refine s0 (qv_ldBW (i := 1) ag_133 rfl rfl rfl) ?_
                  refine s0 (qv_lookupM (zv := 0) (k := e138) 3 mt_131 key_133 hmm mz_3 rfl rfl rfl) ?_
                  refine s0 (qv_remI rfl rfl (by decide) (by omega)) ?_
                  refine s0 (qv_assign rfl) ?_
                  refine tl_nil (tp_normal ?_)
                  refine tc_seq ?_
                  refine tc_region ?_
                  refine s0 (qv_move rfl) ?_
                  refine sd (qv_gtr rfl rfl) (fun c174 => ?_) (fun c174 => ?_)
                  ·
                    refine tl_nil (tp_normal ?_)
                    refine tc_true rfl ?_
                    refine tc_region ?_
                    refine s0 (qv_move rfl) ?_
                    refine s0 (qv_iA at_133 rfl rfl (by omega)) ?_
                    refine s0 (qv_ldB (i := 1) sc_3 rfl rfl rfl) ?_
                    refine s0 (qv_iA at_133 rfl rfl (by omega)) ?_
                    refine s0 (qv_ldB (i := 1) sc_3 rfl rfl rfl) ?_
                    refine s0 (qv_iA at_133 rfl rfl (by omega)) ?_
                    refine s0 (qv_ldB (i := 1) sc_3 rfl rfl rfl) ?_
                    refine s0 (qv_move rfl) ?_
                    refine s0 (qv_build (cells := #[.int .i64 e138.1, .int .i64 e138.2.1, .int .i64 e138.2.2, .int .i64 ((look (useM t n (restM r) l) e138 0) % (1000))]) bt_56 rfl (by kernel_rfl)) ?_
                    refine tl_buildSlice (cells := #[.int .i64 e138.1, .int .i64 e138.2.1, .int .i64 e138.2.2, .int .i64 ((look (useM t n (restM r) l) e138 0) % (1000))]) (hc := by kernel_rfl) bsl_22_1 (fun b184_11 => ?_)
                    refine tl_append1 2 0 apt_22 (⟨e138.1, e138.2.1, e138.2.2, ((look (useM t n (restM r) l) e138 0) % (1000))⟩ : Rest) hrwb (fun v185 ob185 hr185 => ?_) rfl (one_56 _) (by first | omega | (simp only [List.length_append, List.length_cons, List.length_nil]; omega))
                    refine s0 (qv_assign rfl) ?_
                    refine tl_nil (tp_block_normal (tp_normal ?_))
                    refine tc_region ?_
                    refine s0 (qv_succ rfl rfl (by omega)) ?_
                    refine s0 (qv_move rfl) ?_
                    exact tl_nil (tp_roundRR (k + 1) (by first | (rw [postsOf_no he138 (by assumption)]; exact hrw) | (rw [postsOf_fine he138 (by assumption) (by assumption)]; exact hrw) | (rw [postsOf_use he138 (by assumption) (by assumption)]; exact hrw)) (by first | (rw [leftsOf_no he138 (by assumption)]; exact hr185) | (rw [leftsOf_yes he138 (by assumption)]; exact hr185)) (by omega) (by omega) ⟨rfl, rfl, rfl, trivial⟩ rfl rfl rfl rfl rfl)
                  ·
                    refine tl_nil (tp_normal ?_)
                    refine tc_false rfl ?_
                    refine tc_skip (tp_block_normal (tp_normal ?_))
                    refine tc_region ?_
                    refine s0 (qv_succ rfl rfl (by omega)) ?_
                    refine s0 (qv_move rfl) ?_
                    exact tl_nil (tp_roundRR (k + 1) (by first | (rw [postsOf_no he138 (by assumption)]; exact hrw) | (rw [postsOf_fine he138 (by assumption) (by assumption)]; exact hrw) | (rw [postsOf_use he138 (by assumption) (by assumption)]; exact hrw)) (by first | (rw [leftsOf_no he138 (by assumption)]; exact hrwb) | (rw [leftsOf_yes he138 (by assumption)]; exact hrwb)) (by omega) (by omega) ⟨rfl, rfl, rfl, trivial⟩ rfl rfl rfl rfl rfl)
            ·
              refine tl_nil (tp_normal ?_)
              refine tc_seq ?_
              refine tc_false rfl ?_
              refine tc_exit (tp_then_exit (tp_then_exit (tp_block_exit (tp_normal ?_))))
              refine tc_seq ?_
              refine tc_region ?_
              refine s0 (qv_move rfl) ?_
              refine s0 (qv_move rfl) ?_
              refine s0 (qv_assign rfl) ?_
              refine s0 (qv_assign rfl) ?_
              refine s0 (qv_assign rfl) ?_
              refine tl_nil (tp_normal ?_)
              refine tc_ret (tp_end3 rfl rfl rfl rfl ?_)
              intro w' hm
              rw [period_ok hck htk hrb hce hmm (hnil120 ▸ hZ.2.1) hZ.2.2 hsB]
              simp only
              have e0 : lB.take k = lB := List.take_of_length_le (by omega)
              rw [e0] at hrw hrwb
              obtain ⟨pa, pc, h1, h2, h3⟩ := hrw.sl hm (fun p hp => List.mem_append_right _ (List.mem_append_left _ (by subst hp; simp))) (fun _ => rfl)
              obtain ⟨qa, qc, h4, h5, h6⟩ := hrwb.sl hm (fun p hp => List.mem_append_right _ (List.mem_append_left _ (by subst hp; simp))) (fun _ => rfl)
              exact ⟨((pa, pc), (qa, qc)), by rw [h1, h4], hm.below, ⟨h2, h3⟩, h5, h6⟩
          ·
            refine s0 (qv_extract rfl rfl) ?_
            refine tl_nil (tp_normal ?_)
            refine tc_seq ?_
            refine tc_true rfl ?_
            refine tc_skip (tp_normal ?_)
            refine tc_block ?_
            refine tc_seq ?_
            refine tc_region ?_
            refine tl_entry 1 0 hnow120 ?_
            refine s0 (qv_extract rfl rfl) ?_
            refine s0 (qv_extract rfl rfl) ?_
            refine tl_alloc ze_133 (by decide) (fun b22_12 => ?_)
            refine tl_storeO (i := 0) sz_133 rfl rfl rfl rfl rfl rfl rfl ?_
            refine s0 (qv_assign rfl) ?_
            refine tl_nil (tp_normal ?_)
            refine tc_seq ?_
            refine tc_seq ?_
            have hpv := hvs p120 (hZ.2.1.mem_iff.1 (List.mem_append_right _ (hperm120.mem_iff.2 (by simp))))
            refine tc_region ?_
            refine s0 (qv_move rfl) ?_
            refine s0 (qv_quoI rfl rfl (by decide) (by omega) (by omega)) ?_
            refine sd (qv_gtr rfl rfl) (fun c127 => ?_) (fun c127 => ?_)
            ·
              refine tl_nil (tp_normal ?_)
              refine tc_true rfl ?_
              refine tc_seq ?_
              refine tc_region ?_
              refine s0 (qv_assign rfl) ?_
              refine s0 (qv_assign rfl) ?_
              refine s0 (qv_assign rfl) ?_
              refine tl_nil (tp_normal ?_)
              refine tc_ret (tp_then_ret (tp_block_ret (tp_then_ret (tp_block_ret (tp_then_ret (tp_end3 rfl rfl rfl rfl ?_))))))
              intro w' hm
              rw [period_limit hck htk hrb hce hmm hZ.2.1 hperm120 c127]
              exact ⟨((none, 0), (none, 0)), rfl, hm.below, ⟨Nat.le_refl 0, SlAt.nothing⟩, Nat.le_refl 0, SlAt.nothing⟩
            ·
              refine tl_nil (tp_normal ?_)
              refine tc_false rfl ?_
              refine tc_skip (tp_normal ?_)
              refine tc_region ?_
              refine s0 (qv_move rfl) ?_
              refine s0 (qv_ldBW (i := 0) ag_133 rfl rfl rfl) ?_
              refine tl_buildSlice (cells := #[.int .i64 p120.1.1, .int .i64 p120.1.2.1, .int .i64 p120.1.2.2]) (hc := by kernel_rfl) bsl_135_1 (fun b130_13 => ?_)
              refine tl_append1 0 0 apt_135 p120.1 hrow (fun v131 ob131 hr131 => ?_) rfl (one_133 _) (by first | omega | (simp only [List.length_append, List.length_cons, List.length_nil]; omega))
              refine s0 (qv_assign rfl) ?_
              exact tl_nil (tp_block_normal (tp_roundR (((z.1.1 ++ [p120], rest120), oi120)) (by rw [List.map_append]; exact hr131) ⟨hri120, perm_step hZ.2.1 hperm120, fun p hp => by (rcases List.mem_append.1 hp with hp | hp; exact hZ.2.2 p hp; simp at hp; subst hp; assumption)⟩ (by (have h_ := hperm120.length_eq; simp only [List.length_cons] at h_; simp only; omega)) ⟨rfl, trivial⟩ rfl rfl rfl rfl rfl))
    ·
      refine s0 (qv_not rfl) ?_
      refine tl_nil (tp_normal ?_)
      refine tc_true rfl ?_
      refine tc_seq ?_
      refine tc_region ?_
      refine s0 (qv_assign rfl) ?_
      refine s0 (qv_assign rfl) ?_
      refine s0 (qv_assign rfl) ?_
      refine tl_nil (tp_normal ?_)
      refine tc_ret (tp_then_ret (tp_end3 rfl rfl rfl rfl ?_))
      intro w' hm
      rw [period_tick (by omega) c37]
      exact ⟨((none, 0), (none, 0)), rfl, hm.below, ⟨Nat.le_refl 0, SlAt.nothing⟩, Nat.le_refl 0, SlAt.nothing⟩
end Go.Q
namespace Go.Q
open Go Go.Proofs Go.RowKit
theorem st_40 : SliceTy Try.prog 40 6 := ⟨54, by kernel_rfl, fun w => by kernel_rfl⟩
theorem st_71 : SliceTy Try.prog 71 1 := ⟨3, by kernel_rfl, fun w => by kernel_rfl⟩
theorem qv_nePosting {Z : Env} {N : Nat} {L : List (Nat × Value)} {M : Mem} {d : Option Tmp} {a b : Operand} {T ty : TypeId} {pos : String} {af : Array Edge} {g : Option (Nat × Bool)} (x y : Posting) (hx : ev L a = some (.agg (encPost x).toArray)) (hy : ev L b = some (.agg (encPost y).toArray)) : Qv Try.prog Z N L M ⟨d, .binOp .neq 54 a b T, ty, pos, af, g⟩ (.bool (decide (x ≠ y))) :=
  qv_neInts (xs := intsP x) (ys := intsP y) (n := 6) (by kernel_rfl) (by kernel_rfl) (by kernel_rfl) Try.underlying3 aggI (by kernel_rfl) rfl rfl (by rw [intsP_inj]) hx hy
theorem qv_neRest {Z : Env} {N : Nat} {L : List (Nat × Value)} {M : Mem} {d : Option Tmp} {a b : Operand} {T ty : TypeId} {pos : String} {af : Array Edge} {g : Option (Nat × Bool)} (x y : Rest) (hx : ev L a = some (.agg (encRest x).toArray)) (hy : ev L b = some (.agg (encRest y).toArray)) : Qv Try.prog Z N L M ⟨d, .binOp .neq 56 a b T, ty, pos, af, g⟩ (.bool (decide (x ≠ y))) :=
  qv_neInts (xs := intsR x) (ys := intsR y) (n := 4) (by kernel_rfl) (by kernel_rfl) (by kernel_rfl) Try.underlying3 aggI (by kernel_rfl) rfl rfl (by rw [intsR_inj]) hx hy
set_option maxRecDepth 100000 in
theorem samePosts_calls (w : World) (a : List Posting) (aa : Option Addr) (ac : Nat) (b : List Posting) (ba : Option Addr) (bc : Nat) (ha : SlIn w 6 encPost aa a) (hb : SlIn w 6 encPost ba b) :
    Calls Try.prog 22 #[.slice aa a.length ac, .slice ba b.length bc] w (fun e w' => e = .returned (.bool (decide (a = b))) ∧ Below w.heap.size w w') := by
  have hlen := ha.len
  have hlen2 := hb.len
  simp only [maxLen] at hlen hlen2
  refine calls_of_tc (N := 26) (vs := [.slice aa a.length ac, .slice ba b.length bc]) Try.func22 rfl rfl (Nat.le_of_ble_eq_true rfl) ?_
  refine tc_seq ?_
  refine tc_region ?_
  refine s0 (qv_assign rfl) ?_
  refine tl_nil (tp_normal ?_)
  refine tc_seq ?_
  refine tc_seq ?_
  refine tc_region ?_
  refine s0 (qv_move rfl) ?_
  refine s0 (qv_len st_40 rfl) ?_
  refine s0 (qv_move rfl) ?_
  refine s0 (qv_len st_40 rfl) ?_
  refine sd (qv_neq rfl rfl) (fun c10 => ?_) (fun c10 => ?_)
  ·
    refine tl_nil (tp_normal ?_)
    refine tc_true rfl ?_
    refine tc_seq ?_
    refine tc_region ?_
    refine s0 (qv_assign rfl) ?_
    refine tl_nil (tp_normal ?_)
    refine tc_ret (tp_then_ret (tp_end1 rfl rfl ?_))
    intro w' hm
    exact ⟨by rw [decide_eq_false (fun h => by subst h; omega)], hm.below⟩
  ·
    refine tl_nil (tp_normal ?_)
    refine tc_false rfl ?_
    refine tc_skip (tp_normal ?_)
    refine tc_seq ?_
    refine tc_seq ?_
    refine tc_region ?_
    refine s0 (qv_assign rfl) ?_
    refine tl_nil (tp_normal ?_)
    refine tc_block (tc_loopS (fun (k : Nat) => [(5, .int .i64 (k : Int))]) (fun (k : Nat) => k ≤ a.length ∧ a.take k = b.take k) (fun (k : Nat) => a.length - k) (0) ⟨Nat.zero_le _, rfl⟩ ⟨rfl, trivial⟩ ?_)
    rintro k hI
    refine tc_seq ?_
    refine tc_seq ?_
    refine tc_region ?_
    refine s0 (qv_move rfl) ?_
    refine s0 (qv_move rfl) ?_
    refine s0 (qv_len st_40 rfl) ?_
    refine sd (qv_lss rfl rfl) (fun c14 => ?_) (fun c14 => ?_)
    ·
      refine tl_nil (tp_normal ?_)
      refine tc_true rfl ?_
      refine tc_skip (tp_normal ?_)
      refine tc_seq ?_
      refine tc_block ?_
      refine tc_seq ?_
      refine tc_draws mixed (by kernel_rfl) ?_
      refine q0 (qv_move rfl) ?_
      refine q0 (qv_move rfl) ?_
      refine qn st_40 ha rfl rfl (by omega) (fun e19 he19 => ?_)
      refine q0 (qv_ldEW ag_54 ha Mem.has_base rfl he19) ?_
      refine q0 (qv_move rfl) ?_
      refine q0 (qv_move rfl) ?_
      refine qn st_40 hb rfl rfl (by omega) (fun e23 he23 => ?_)
      refine q0 (qv_ldEW ag_54 hb Mem.has_base rfl he23) ?_
      refine qd (qv_nePosting e19 e23 rfl rfl) (fun c25 => ?_) (fun c25 => ?_)
      ·
        refine tq_nil (tp_normal ?_)
        refine tc_true rfl ?_
        refine tc_seq ?_
        refine tc_region ?_
        refine s0 (qv_assign rfl) ?_
        refine tl_nil (tp_normal ?_)
        refine tc_ret (tp_block_ret (tp_then_ret (tp_then_ret (tp_block_ret (tp_then_ret (tp_end1 rfl rfl ?_))))))
        intro w' hm
        exact ⟨by rw [decide_eq_false (take_diff he19 he23 c25)], hm.below⟩
      ·
        refine tq_nil (tp_normal ?_)
        refine tc_false rfl ?_
        refine tc_skip (tp_block_normal (tp_normal ?_))
        refine tc_region ?_
        refine s0 (qv_move rfl) ?_
        refine s0 (qv_succ rfl rfl (by omega)) ?_
        refine s0 (qv_assign rfl) ?_
        exact tl_nil (tp_roundS (k + 1) ⟨by omega, take_step hI.2 he19 he23 (Classical.not_not.1 c25)⟩ (by omega) ⟨rfl, trivial⟩ rfl rfl rfl rfl)
    ·
      refine tl_nil (tp_normal ?_)
      refine tc_false rfl ?_
      refine tc_exit (tp_then_exit (tp_then_exit (tp_block_exit (tp_normal ?_))))
      refine tc_seq ?_
      refine tc_region ?_
      refine s0 (qv_assign rfl) ?_
      refine tl_nil (tp_normal ?_)
      refine tc_ret (tp_end1 rfl rfl ?_)
      intro w' hm
      exact ⟨by rw [decide_eq_true (take_same hI.2 (by omega) (by omega))], hm.below⟩
set_option maxRecDepth 100000 in
theorem sameRests_calls (w : World) (a : List Rest) (aa : Option Addr) (ac : Nat) (b : List Rest) (ba : Option Addr) (bc : Nat) (ha : SlIn w 4 encRest aa a) (hb : SlIn w 4 encRest ba b) :
    Calls Try.prog 23 #[.slice aa a.length ac, .slice ba b.length bc] w (fun e w' => e = .returned (.bool (decide (a = b))) ∧ Below w.heap.size w w') := by
  have hlen := ha.len
  have hlen2 := hb.len
  simp only [maxLen] at hlen hlen2
  refine calls_of_tc (N := 26) (vs := [.slice aa a.length ac, .slice ba b.length bc]) Try.func23 rfl rfl (Nat.le_of_ble_eq_true rfl) ?_
  refine tc_seq ?_
  refine tc_region ?_
  refine s0 (qv_assign rfl) ?_
  refine tl_nil (tp_normal ?_)
  refine tc_seq ?_
  refine tc_seq ?_
  refine tc_region ?_
  refine s0 (qv_move rfl) ?_
  refine s0 (qv_len st_22 rfl) ?_
  refine s0 (qv_move rfl) ?_
  refine s0 (qv_len st_22 rfl) ?_
  refine sd (qv_neq rfl rfl) (fun c10 => ?_) (fun c10 => ?_)
  ·
    refine tl_nil (tp_normal ?_)
    refine tc_true rfl ?_
    refine tc_seq ?_
    refine tc_region ?_
    refine s0 (qv_assign rfl) ?_
    refine tl_nil (tp_normal ?_)
    refine tc_ret (tp_then_ret (tp_end1 rfl rfl ?_))
    intro w' hm
    exact ⟨by rw [decide_eq_false (fun h => by subst h; omega)], hm.below⟩
  ·
    refine tl_nil (tp_normal ?_)
    refine tc_false rfl ?_
    refine tc_skip (tp_normal ?_)
    refine tc_seq ?_
    refine tc_seq ?_
    refine tc_region ?_
    refine s0 (qv_assign rfl) ?_
    refine tl_nil (tp_normal ?_)
    refine tc_block (tc_loopS (fun (k : Nat) => [(5, .int .i64 (k : Int))]) (fun (k : Nat) => k ≤ a.length ∧ a.take k = b.take k) (fun (k : Nat) => a.length - k) (0) ⟨Nat.zero_le _, rfl⟩ ⟨rfl, trivial⟩ ?_)
    rintro k hI
    refine tc_seq ?_
    refine tc_seq ?_
    refine tc_region ?_
    refine s0 (qv_move rfl) ?_
    refine s0 (qv_move rfl) ?_
    refine s0 (qv_len st_22 rfl) ?_
    refine sd (qv_lss rfl rfl) (fun c14 => ?_) (fun c14 => ?_)
    ·
      refine tl_nil (tp_normal ?_)
      refine tc_true rfl ?_
      refine tc_skip (tp_normal ?_)
      refine tc_seq ?_
      refine tc_block ?_
      refine tc_seq ?_
      refine tc_draws mixed (by kernel_rfl) ?_
      refine q0 (qv_move rfl) ?_
      refine q0 (qv_move rfl) ?_
      refine qn st_22 ha rfl rfl (by omega) (fun e19 he19 => ?_)
      refine q0 (qv_ldEW ag_56 ha Mem.has_base rfl he19) ?_
      refine q0 (qv_move rfl) ?_
      refine q0 (qv_move rfl) ?_
      refine qn st_22 hb rfl rfl (by omega) (fun e23 he23 => ?_)
      refine q0 (qv_ldEW ag_56 hb Mem.has_base rfl he23) ?_
      refine qd (qv_neRest e19 e23 rfl rfl) (fun c25 => ?_) (fun c25 => ?_)
      ·
        refine tq_nil (tp_normal ?_)
        refine tc_true rfl ?_
        refine tc_seq ?_
        refine tc_region ?_
        refine s0 (qv_assign rfl) ?_
        refine tl_nil (tp_normal ?_)
        refine tc_ret (tp_block_ret (tp_then_ret (tp_then_ret (tp_block_ret (tp_then_ret (tp_end1 rfl rfl ?_))))))
        intro w' hm
        exact ⟨by rw [decide_eq_false (take_diff he19 he23 c25)], hm.below⟩
      ·
        refine tq_nil (tp_normal ?_)
        refine tc_false rfl ?_
        refine tc_skip (tp_block_normal (tp_normal ?_))
        refine tc_region ?_
        refine s0 (qv_move rfl) ?_
        refine s0 (qv_succ rfl rfl (by omega)) ?_
        refine s0 (qv_assign rfl) ?_
        exact tl_nil (tp_roundS (k + 1) ⟨by omega, take_step hI.2 he19 he23 (Classical.not_not.1 c25)⟩ (by omega) ⟨rfl, trivial⟩ rfl rfl rfl rfl)
    ·
      refine tl_nil (tp_normal ?_)
      refine tc_false rfl ?_
      refine tc_exit (tp_then_exit (tp_then_exit (tp_block_exit (tp_normal ?_))))
      refine tc_seq ?_
      refine tc_region ?_
      refine s0 (qv_assign rfl) ?_
      refine tl_nil (tp_normal ?_)
      refine tc_ret (tp_end1 rfl rfl ?_)
      intro w' hm
      exact ⟨by rw [decide_eq_true (take_same hI.2 (by omega) (by omega))], hm.below⟩
end Go.Q
namespace Go.Q
open Go Go.Proofs Go.RowKit
theorem bt_113 : BuildTy Try.prog 113 #[(0, 1), (1, 1), (2, 1)] #[.int .i64 0, .int .i64 0, .int .i64 0] := ⟨_, Try.underlying113, fun w => by kernel_rfl, ze_113⟩
theorem bsl_23_2 : BuildSl Try.prog 23 2 113 3 #[.int .i64 0, .int .i64 0, .int .i64 0, .int .i64 0, .int .i64 0, .int .i64 0] := ⟨Try.underlying23, sz_113, by decide, by decide, _, ze_113, by kernel_rfl⟩
theorem fn_48 : IsFn Try.prog 48 := isFn_of Try.func48 (by kernel_rfl) rfl
theorem bt_117 : BuildTy Try.prog 117 #[(0, 1), (1, 1), (2, 24), (26, 24)] #[.int .i64 0, .int .i64 0, .int .i64 0, .int .i64 0, .int .i64 0, .int .i64 0, .int .i64 0, .int .i64 0, .int .i64 0, .int .i64 0, .int .i64 0, .int .i64 0, .int .i64 0, .int .i64 0, .int .i64 0, .int .i64 0, .int .i64 0, .int .i64 0, .int .i64 0, .int .i64 0, .int .i64 0, .int .i64 0, .int .i64 0, .int .i64 0, .int .i64 0, .int .i64 0, .int .i64 0, .int .i64 0, .int .i64 0, .int .i64 0, .int .i64 0, .int .i64 0, .int .i64 0, .int .i64 0, .int .i64 0, .int .i64 0, .int .i64 0, .int .i64 0, .int .i64 0, .int .i64 0, .int .i64 0, .int .i64 0, .int .i64 0, .int .i64 0, .int .i64 0, .int .i64 0, .int .i64 0, .int .i64 0, .int .i64 0, .int .i64 0] := ⟨_, Try.underlying117, fun w => by kernel_rfl, ze_117⟩
theorem bsl_24_3 : BuildSl Try.prog 24 3 117 50 #[.int .i64 0, .int .i64 0, .int .i64 0, .int .i64 0, .int .i64 0, .int .i64 0, .int .i64 0, .int .i64 0, .int .i64 0, .int .i64 0, .int .i64 0, .int .i64 0, .int .i64 0, .int .i64 0, .int .i64 0, .int .i64 0, .int .i64 0, .int .i64 0, .int .i64 0, .int .i64 0, .int .i64 0, .int .i64 0, .int .i64 0, .int .i64 0, .int .i64 0, .int .i64 0, .int .i64 0, .int .i64 0, .int .i64 0, .int .i64 0, .int .i64 0, .int .i64 0, .int .i64 0, .int .i64 0, .int .i64 0, .int .i64 0, .int .i64 0, .int .i64 0, .int .i64 0, .int .i64 0, .int .i64 0, .int .i64 0, .int .i64 0, .int .i64 0, .int .i64 0, .int .i64 0, .int .i64 0, .int .i64 0, .int .i64 0, .int .i64 0, .int .i64 0, .int .i64 0, .int .i64 0, .int .i64 0, .int .i64 0, .int .i64 0, .int .i64 0, .int .i64 0, .int .i64 0, .int .i64 0, .int .i64 0, .int .i64 0, .int .i64 0, .int .i64 0, .int .i64 0, .int .i64 0, .int .i64 0, .int .i64 0, .int .i64 0, .int .i64 0, .int .i64 0, .int .i64 0, .int .i64 0, .int .i64 0, .int .i64 0, .int .i64 0, .int .i64 0, .int .i64 0, .int .i64 0, .int .i64 0, .int .i64 0, .int .i64 0, .int .i64 0, .int .i64 0, .int .i64 0, .int .i64 0, .int .i64 0, .int .i64 0, .int .i64 0, .int .i64 0, .int .i64 0, .int .i64 0, .int .i64 0, .int .i64 0, .int .i64 0, .int .i64 0, .int .i64 0, .int .i64 0, .int .i64 0, .int .i64 0, .int .i64 0, .int .i64 0, .int .i64 0, .int .i64 0, .int .i64 0, .int .i64 0, .int .i64 0, .int .i64 0, .int .i64 0, .int .i64 0, .int .i64 0, .int .i64 0, .int .i64 0, .int .i64 0, .int .i64 0, .int .i64 0, .int .i64 0, .int .i64 0, .int .i64 0, .int .i64 0, .int .i64 0, .int .i64 0, .int .i64 0, .int .i64 0, .int .i64 0, .int .i64 0, .int .i64 0, .int .i64 0, .int .i64 0, .int .i64 0, .int .i64 0, .int .i64 0, .int .i64 0, .int .i64 0, .int .i64 0, .int .i64 0, .int .i64 0, .int .i64 0, .int .i64 0, .int .i64 0, .int .i64 0, .int .i64 0, .int .i64 0, .int .i64 0, .int .i64 0, .int .i64 0, .int .i64 0, .int .i64 0, .int .i64 0, .int .i64 0] := ⟨Try.underlying24, sz_117, by decide, by decide, _, ze_117, by kernel_rfl⟩
theorem ze_26 : Zero Try.prog 26 #[.int .i64 0, .slice none 0 0] := fun w => ⟨.agg #[.int .i64 0, .slice none 0 0], by kernel_rfl, rfl⟩
theorem bt_26 : BuildTy Try.prog 26 #[(0, 1), (1, 1)] #[.int .i64 0, .slice none 0 0] := ⟨_, Try.underlying26, fun w => by kernel_rfl, ze_26⟩
theorem sz_26 : Size Try.prog 26 2 := fun w => by kernel_rfl
theorem bt_34 : BuildTy Try.prog 34 #[(0, 1), (1, 1), (2, 1), (3, 1), (4, 1), (5, 1), (6, 1), (7, 1)] #[.int .i64 0, .int .i64 0, .int .i64 0, .int .i64 0, .int .i64 0, .int .i64 0, .int .i64 0, .slice none 0 0] := ⟨_, Try.underlying34, fun w => by kernel_rfl, ze_34⟩
theorem bt_119 : BuildTy Try.prog 119 #[(0, 1), (1, 1), (2, 1)] #[.int .i64 0, .int .i64 0, .int .i64 0] := ⟨_, Try.underlying119, fun w => by kernel_rfl, ze_119⟩
theorem bsl_32_4 : BuildSl Try.prog 32 4 119 3 #[.int .i64 0, .int .i64 0, .int .i64 0, .int .i64 0, .int .i64 0, .int .i64 0, .int .i64 0, .int .i64 0, .int .i64 0, .int .i64 0, .int .i64 0, .int .i64 0] := ⟨Try.underlying32, sz_119, by decide, by decide, _, ze_119, by kernel_rfl⟩
theorem bsl_27_4 : BuildSl Try.prog 27 4 34 8 #[.int .i64 0, .int .i64 0, .int .i64 0, .int .i64 0, .int .i64 0, .int .i64 0, .int .i64 0, .slice none 0 0, .int .i64 0, .int .i64 0, .int .i64 0, .int .i64 0, .int .i64 0, .int .i64 0, .int .i64 0, .slice none 0 0, .int .i64 0, .int .i64 0, .int .i64 0, .int .i64 0, .int .i64 0, .int .i64 0, .int .i64 0, .slice none 0 0, .int .i64 0, .int .i64 0, .int .i64 0, .int .i64 0, .int .i64 0, .int .i64 0, .int .i64 0, .slice none 0 0] := ⟨Try.underlying27, sz_34, by decide, by decide, _, ze_34, by kernel_rfl⟩
theorem bsl_27_2 : BuildSl Try.prog 27 2 34 8 #[.int .i64 0, .int .i64 0, .int .i64 0, .int .i64 0, .int .i64 0, .int .i64 0, .int .i64 0, .slice none 0 0, .int .i64 0, .int .i64 0, .int .i64 0, .int .i64 0, .int .i64 0, .int .i64 0, .int .i64 0, .slice none 0 0] := ⟨Try.underlying27, sz_34, by decide, by decide, _, ze_34, by kernel_rfl⟩
theorem fn_20 : IsFn Try.prog 20 := isFn_of Try.func20 (by kernel_rfl) rfl
theorem fn_22 : IsFn Try.prog 22 := isFn_of Try.func22 (by kernel_rfl) rfl
theorem fn_23 : IsFn Try.prog 23 := isFn_of Try.func23 (by kernel_rfl) rfl
theorem fn_14 : IsFn Try.prog 14 := isFn_of Try.func14 (by kernel_rfl) rfl
theorem fn_15 : IsFn Try.prog 15 := isFn_of Try.func15 (by kernel_rfl) rfl
theorem samePosts_self (w : World) (a : List Posting) (aa : Option Addr) (ac : Nat) (ba : Option Addr) (bc : Nat) (ha : SlIn w 6 encPost aa a) (hb : SlIn w 6 encPost ba a) : Calls Try.prog 22 #[.slice aa a.length ac, .slice ba a.length bc] w (fun e w' => e = .returned (.bool true) ∧ Below w.heap.size w w') := by
  have h := samePosts_calls w a aa ac a ba bc ha hb
  rwa [decide_eq_true rfl] at h
theorem sameRests_self (w : World) (a : List Rest) (aa : Option Addr) (ac : Nat) (ba : Option Addr) (bc : Nat) (ha : SlIn w 4 encRest aa a) (hb : SlIn w 4 encRest ba a) : Calls Try.prog 23 #[.slice aa a.length ac, .slice ba a.length bc] w (fun e w' => e = .returned (.bool true) ∧ Below w.heap.size w w') := by
  have h := sameRests_calls w a aa ac a ba bc ha hb
  rwa [decide_eq_true rfl] at h
theorem sanc1 (w : World) (ta : Option Addr) (tc : Nat) (na : Option Addr) (nc : Nat) (ht : SlIn w 3 encTar ta sanT) (hn : SlIn w 50 encLink na sanN.links) :
    Calls Try.prog 18 #[.slice ta 2 tc, .agg (netA sanN na nc), .agg (encUse sanK).toArray] w (fun e w' => e = .returned (.tuple #[.int .i64 1000, .int .i64 0]) ∧ Below w.heap.size w w') := by
  have h := (by (have h_ := charge_calls w sanT ta tc sanN na nc sanK ht hn sanOk SlAt.nothing; simp only [san_c1] at h_; exact h_))
  exact h
theorem sanc2 (w : World) (ta : Option Addr) (tc : Nat) (na : Option Addr) (nc : Nat) (ht : SlIn w 3 encTar ta sanT) (hn : SlIn w 50 encLink na sanN.links) :
    Calls Try.prog 18 #[.slice ta 2 tc, .agg (netA sanN na nc), .agg (encUse sanRd).toArray] w (fun e w' => e = .returned (.tuple #[.int .i64 70, .int .i64 0]) ∧ Below w.heap.size w w') := by
  have h := (by (have h_ := charge_calls w sanT ta tc sanN na nc sanRd ht hn sanOk SlAt.nothing; simp only [san_c2] at h_; exact h_))
  exact h
theorem sanc3 (w : World) (ta : Option Addr) (tc : Nat) (na : Option Addr) (nc : Nat) (ht : SlIn w 3 encTar ta sanT) (hn : SlIn w 50 encLink na sanN.links) (la : Option Addr) (hl : SlIn w 3 encSend la sanL) :
    Calls Try.prog 18 #[.slice ta 2 tc, .agg (netA sanN na nc), .agg (encUse (sanMv la)).toArray] w (fun e w' => e = .returned (.tuple #[.int .i64 420000, .int .i64 0]) ∧ Below w.heap.size w w') := by
  have h := (by (have h_ := charge_calls w sanT ta tc sanN na nc (sanMv la) ht hn sanOk hl; simp only [san_c3] at h_; exact h_))
  exact h
theorem sanc4 (w : World) (ta : Option Addr) (tc : Nat) (na : Option Addr) (nc : Nat) (ht : SlIn w 3 encTar ta sanT) (hn : SlIn w 50 encLink na sanN.links) :
    Calls Try.prog 18 #[.slice ta 2 tc, .agg (netA sanN na nc), .agg (encUse sanFi).toArray] w (fun e w' => e = .returned (.tuple #[.int .i64 3000, .int .i64 0]) ∧ Below w.heap.size w w') := by
  have h := (by (have h_ := charge_calls w sanT ta tc sanN na nc sanFi ht hn sanOk SlAt.nothing; simp only [san_c4] at h_; exact h_))
  exact h
theorem sanck (w : World) (ta : Option Addr) (tc : Nat) (la sa : Option Addr) (lc : Nat) (ht : SlIn w 3 encTar ta sanT) (hl : SlIn w 8 encUse la [sanK, sanRd, sanMv sa, sanFi]) : Calls Try.prog 16 #[.slice ta 2 tc, .slice la 4 lc] w (fun e w' => e = .returned (.int .i64 0) ∧ Below w.heap.size w w') := by
  have h_ := mcheck_calls w sanT ta tc [sanK, sanRd, sanMv sa, sanFi] la lc ht hl
  simp only [san_ck] at h_
  exact h_
theorem sanp1 (w : World) (ta : Option Addr) (tc : Nat) (na : Option Addr) (nc : Nat) (ht : SlIn w 3 encTar ta sanT) (hn : SlIn w 50 encLink na sanN.links) (la : Option Addr) (lc : Nat) (hl : SlIn w 8 encUse la [sanK, sanRd]) :
    Calls Try.prog 20 #[.slice none 0 0, .slice ta 2 tc, .agg (netA sanN na nc), .slice la 2 lc, .int .i64 9] w (fun e w' => ∃ q : (Option Addr × Nat) × (Option Addr × Nat), e = .returned (.tuple #[.slice q.1.1 1 q.1.2, .slice q.2.1 1 q.2.2, .int .i64 0]) ∧ Below w.heap.size w w' ∧ ((1 ≤ q.1.2 ∧ SlAt w' w.heap.size w'.heap.size 6 encPost q.1.1 [(⟨0, 16, 1, 9, 1, 0⟩ : Posting)]) ∧ (1 ≤ q.2.2 ∧ SlAt w' w.heap.size w'.heap.size 4 encRest q.2.1 [sanRe]))) := by
  have h := (by (have h_ := period_calls w [] none 0 sanT ta tc sanN na nc [sanK, sanRd] la lc 9 SlAt.nothing ht hn sanOk hl (fun u hu => by simp only [List.mem_cons, List.not_mem_nil, or_false] at hu; rcases hu with rfl | rfl <;> exact ⟨SlAt.nothing, Nat.le_refl 0⟩); simp only [san_p1] at h_; exact h_))
  exact h
theorem sanp2 (w : World) (ta : Option Addr) (tc : Nat) (na : Option Addr) (nc : Nat) (ht : SlIn w 3 encTar ta sanT) (hn : SlIn w 50 encLink na sanN.links) (la : Option Addr) (lc : Nat) (hl : SlIn w 8 encUse la [sanMo]) (ra : Option Addr) (rc : Nat) (hr : SlIn w 4 encRest ra [sanRe]) :
    Calls Try.prog 20 #[.slice ra 1 rc, .slice ta 2 tc, .agg (netA sanN na nc), .slice la 1 lc, .int .i64 10] w (fun e w' => ∃ q : (Option Addr × Nat) × (Option Addr × Nat), e = .returned (.tuple #[.slice q.1.1 1 q.1.2, .slice q.2.1 1 q.2.2, .int .i64 0]) ∧ Below w.heap.size w w' ∧ ((1 ≤ q.1.2 ∧ SlAt w' w.heap.size w'.heap.size 6 encPost q.1.1 [(⟨1, 16, 1, 10, 3, 0⟩ : Posting)]) ∧ (1 ≤ q.2.2 ∧ SlAt w' w.heap.size w'.heap.size 4 encRest q.2.1 [sanRe]))) := by
  have h := (by (have h_ := period_calls w [sanRe] ra rc sanT ta tc sanN na nc [sanMo] la lc 10 hr ht hn sanOk hl (fun u hu => by simp only [List.mem_cons, List.not_mem_nil, or_false] at hu; rcases hu with rfl <;> exact ⟨SlAt.nothing, Nat.le_refl 0⟩); simp only [san_p2] at h_; exact h_))
  exact h
theorem sanp3 (w : World) (ta : Option Addr) (tc : Nat) (na : Option Addr) (nc : Nat) (ht : SlIn w 3 encTar ta sanT) (hn : SlIn w 50 encLink na sanN.links) (la : Option Addr) (lc : Nat) (hl : SlIn w 8 encUse la [sanFi]) :
    Calls Try.prog 20 #[.slice none 0 0, .slice ta 2 tc, .agg (netA sanN na nc), .slice la 1 lc, .int .i64 10] w (fun e w' => ∃ q : (Option Addr × Nat) × (Option Addr × Nat), e = .returned (.tuple #[.slice q.1.1 1 q.1.2, .slice q.2.1 0 q.2.2, .int .i64 0]) ∧ Below w.heap.size w w' ∧ ((1 ≤ q.1.2 ∧ SlAt w' w.heap.size w'.heap.size 6 encPost q.1.1 [(⟨12, 1, 3, 10, 5, 0⟩ : Posting)]) ∧ (0 ≤ q.2.2 ∧ SlAt w' w.heap.size w'.heap.size 4 encRest q.2.1 []))) := by
  have h := (by (have h_ := period_calls w [] none 0 sanT ta tc sanN na nc [sanFi] la lc 10 SlAt.nothing ht hn sanOk hl (fun u hu => by simp only [List.mem_cons, List.not_mem_nil, or_false] at hu; rcases hu with rfl <;> exact ⟨SlAt.nothing, Nat.le_refl 0⟩); simp only [san_p3] at h_; exact h_))
  exact h
set_option maxRecDepth 100000 in
set_option maxHeartbeats 8000000 in
theorem sanity9_calls (w : World)   :
    Calls Try.prog 15 #[] w (fun e w' => e = .returned (.bool true) ∧ Below w.heap.size w w') := by
  refine calls_of_tc (N := 197) (vs := []) Try.func15 rfl rfl (Nat.le_of_ble_eq_true rfl) ?_
  refine tc_seq ?_
  refine tc_region ?_
  refine s0 (qv_assign rfl) ?_
  refine tl_nil (tp_normal ?_)
  refine tc_seq ?_
  refine tc_region ?_
  refine s0 (qv_build (cells := #[.int .i64 (2), .int .i64 (30), .int .i64 (500)]) bt_113 rfl (by kernel_rfl)) ?_
  refine s0 (qv_build (cells := #[.int .i64 (1), .int .i64 (10), .int .i64 (100)]) bt_113 rfl (by kernel_rfl)) ?_
  refine tl_buildSliceL (enc := encTar) sanT bsl_23_2 (fun b30_0 => ?_) rfl (by kernel_rfl)
  have hsb30_0 := SlAt.ofBox (enc := encTar) (sz := 3) (b := b30_0) (E := 113) (l := sanT) (Nat.le_of_ble_eq_true rfl) (fun x hx => rfl)
  refine s0 (qv_assign rfl) ?_
  refine tl_nil (tp_normal ?_)
  refine tc_seq ?_
  refine tc_region ?_
  refine s0 (qv_call fn_48 rfl (fun w hm => always_calls w (100))) ?_
  refine s0 (qv_call fn_48 rfl (fun w hm => always_calls w (2))) ?_
  refine s0 (qv_build bt_117 rfl rfl) ?_
  refine s0 (qv_call fn_48 rfl (fun w hm => always_calls w (100))) ?_
  refine s0 (qv_call fn_48 rfl (fun w hm => always_calls w (2))) ?_
  refine s0 (qv_build bt_117 rfl rfl) ?_
  refine s0 (qv_call fn_48 rfl (fun w hm => always_calls w (10))) ?_
  refine s0 (qv_call fn_48 rfl (fun w hm => always_calls w (1))) ?_
  refine s0 (qv_build bt_117 rfl rfl) ?_
  refine tl_buildSliceL (enc := encLink) sanN.links bsl_24_3 (fun b40_1 => ?_) rfl (by kernel_rfl)
  have hsb40_1 := SlAt.ofBox (enc := encLink) (sz := 50) (b := b40_1) (E := 117) (l := sanN.links) (Nat.le_of_ble_eq_true rfl) (fun x hx => by (have h_ := sanOk x hx; simp [encLink, h_.1, h_.2]))
  refine s0 (qv_build bt_26 rfl rfl) ?_
  refine tl_alloc ze_26 (by decide) (fun b2_2 => ?_)
  refine tl_storeO (i := 0) sz_26 rfl rfl rfl rfl rfl rfl rfl ?_
  refine tl_nil (tp_normal ?_)
  refine tc_seq ?_
  refine tc_region ?_
  refine s0 (qv_build bt_34 rfl rfl) ?_
  refine tl_alloc ze_34 (by decide) (fun b3_3 => ?_)
  refine tl_storeO (i := 0) sz_34 rfl rfl rfl rfl rfl rfl rfl ?_
  refine tl_nil (tp_normal ?_)
  refine tc_seq ?_
  refine tc_region ?_
  refine s0 (qv_build bt_34 rfl rfl) ?_
  refine tl_alloc ze_34 (by decide) (fun b4_4 => ?_)
  refine tl_storeO (i := 0) sz_34 rfl rfl rfl rfl rfl rfl rfl ?_
  refine tl_nil (tp_normal ?_)
  refine tc_seq ?_
  refine tc_region ?_
  refine s0 (qv_build (cells := #[.int .i64 (0), .int .i64 (5), .int .i64 (100)]) bt_119 rfl (by kernel_rfl)) ?_
  refine s0 (qv_build (cells := #[.int .i64 (2), .int .i64 (5), .int .i64 (10)]) bt_119 rfl (by kernel_rfl)) ?_
  refine s0 (qv_build (cells := #[.int .i64 (1), .int .i64 (6), .int .i64 (100)]) bt_119 rfl (by kernel_rfl)) ?_
  refine s0 (qv_build (cells := #[.int .i64 (2), .int .i64 (6), .int .i64 (10)]) bt_119 rfl (by kernel_rfl)) ?_
  refine tl_buildSliceL (enc := encSend) sanL bsl_32_4 (fun b48_5 => ?_) rfl (by kernel_rfl)
  have hsb48_5 := SlAt.ofBox (enc := encSend) (sz := 3) (b := b48_5) (E := 119) (l := sanL) (Nat.le_of_ble_eq_true rfl) (fun _ _ => rfl)
  refine s0 (qv_build bt_34 rfl rfl) ?_
  refine tl_alloc ze_34 (by decide) (fun b5_6 => ?_)
  refine tl_storeO (i := 0) sz_34 rfl rfl rfl rfl rfl rfl rfl ?_
  refine tl_nil (tp_normal ?_)
  refine tc_seq ?_
  refine tc_region ?_
  refine s0 (qv_build bt_34 rfl rfl) ?_
  refine tl_alloc ze_34 (by decide) (fun b6_7 => ?_)
  refine tl_storeO (i := 0) sz_34 rfl rfl rfl rfl rfl rfl rfl ?_
  refine tl_nil (tp_normal ?_)
  refine tc_seq ?_
  refine tc_region ?_
  refine s0 (qv_move rfl) ?_
  refine s0 (qv_ldBW (i := 5) ag_26 rfl rfl rfl) ?_
  refine s0 (qv_ldBW (i := 4) ag_34 rfl rfl rfl) ?_
  refine s0 (qv_call fn_18 rfl (fun w hm => sanc1 w (some ⟨b30_0, 0, none⟩) 2 (some ⟨b40_1, 0, none⟩) 3 (hsb30_0.into (Mem.has_box (by repeat (first | exact List.Mem.head _ | refine List.Mem.tail _ ?_))) hm) (hsb40_1.into (Mem.has_box (by repeat (first | exact List.Mem.head _ | refine List.Mem.tail _ ?_))) hm))) ?_
  refine s0 (qv_move rfl) ?_
  refine s0 (qv_extract rfl rfl) ?_
  refine s0 (qv_extract rfl rfl) ?_
  refine s0 (qv_assign rfl) ?_
  refine s0 (qv_assign rfl) ?_
  refine tl_nil (tp_normal ?_)
  refine tc_seq ?_
  refine tc_region ?_
  refine s0 (qv_move rfl) ?_
  refine s0 (qv_ldBW (i := 5) ag_26 rfl rfl rfl) ?_
  refine s0 (qv_ldBW (i := 3) ag_34 rfl rfl rfl) ?_
  refine s0 (qv_call fn_18 rfl (fun w hm => sanc2 w (some ⟨b30_0, 0, none⟩) 2 (some ⟨b40_1, 0, none⟩) 3 (hsb30_0.into (Mem.has_box (by repeat (first | exact List.Mem.head _ | refine List.Mem.tail _ ?_))) hm) (hsb40_1.into (Mem.has_box (by repeat (first | exact List.Mem.head _ | refine List.Mem.tail _ ?_))) hm))) ?_
  refine s0 (qv_move rfl) ?_
  refine s0 (qv_extract rfl rfl) ?_
  refine s0 (qv_extract rfl rfl) ?_
  refine s0 (qv_assign rfl) ?_
  refine s0 (qv_assign rfl) ?_
  refine tl_nil (tp_normal ?_)
  refine tc_seq ?_
  refine tc_region ?_
  refine s0 (qv_move rfl) ?_
  refine s0 (qv_ldBW (i := 5) ag_26 rfl rfl rfl) ?_
  refine s0 (qv_ldBW (i := 1) ag_34 rfl rfl rfl) ?_
  refine s0 (qv_call fn_18 rfl (fun w hm => sanc3 w (some ⟨b30_0, 0, none⟩) 2 (some ⟨b40_1, 0, none⟩) 3 (hsb30_0.into (Mem.has_box (by repeat (first | exact List.Mem.head _ | refine List.Mem.tail _ ?_))) hm) (hsb40_1.into (Mem.has_box (by repeat (first | exact List.Mem.head _ | refine List.Mem.tail _ ?_))) hm) (some ⟨b48_5, 0, none⟩) (hsb48_5.into (Mem.has_box (by repeat (first | exact List.Mem.head _ | refine List.Mem.tail _ ?_))) hm))) ?_
  refine s0 (qv_move rfl) ?_
  refine s0 (qv_extract rfl rfl) ?_
  refine s0 (qv_extract rfl rfl) ?_
  refine s0 (qv_assign rfl) ?_
  refine s0 (qv_assign rfl) ?_
  refine tl_nil (tp_normal ?_)
  refine tc_seq ?_
  refine tc_region ?_
  refine s0 (qv_move rfl) ?_
  refine s0 (qv_ldBW (i := 5) ag_26 rfl rfl rfl) ?_
  refine s0 (qv_ldBW (i := 0) ag_34 rfl rfl rfl) ?_
  refine s0 (qv_call fn_18 rfl (fun w hm => sanc4 w (some ⟨b30_0, 0, none⟩) 2 (some ⟨b40_1, 0, none⟩) 3 (hsb30_0.into (Mem.has_box (by repeat (first | exact List.Mem.head _ | refine List.Mem.tail _ ?_))) hm) (hsb40_1.into (Mem.has_box (by repeat (first | exact List.Mem.head _ | refine List.Mem.tail _ ?_))) hm))) ?_
  refine s0 (qv_move rfl) ?_
  refine s0 (qv_extract rfl rfl) ?_
  refine s0 (qv_extract rfl rfl) ?_
  refine s0 (qv_assign rfl) ?_
  refine s0 (qv_assign rfl) ?_
  refine tl_nil (tp_normal ?_)
  refine tc_seq ?_
  refine tc_seq ?_
  refine tc_region ?_
  refine s0 (qv_move rfl) ?_
  refine s0 (qv_neq rfl rfl) ?_
  refine s0 (qv_move rfl) ?_
  refine s0g (qv_move rfl) ?_
  refine s0g (qv_neq rfl rfl) ?_
  refine s0 (qv_pickF rfl rfl) ?_
  refine s0 (qv_move rfl) ?_
  refine s0g (qv_move rfl) ?_
  refine s0g (qv_neq rfl rfl) ?_
  refine s0 (qv_pickF rfl rfl) ?_
  refine s0 (qv_move rfl) ?_
  refine s0g (qv_move rfl) ?_
  refine s0g (qv_neq rfl rfl) ?_
  refine s0 (qv_pickF rfl rfl) ?_
  refine s0 (qv_move rfl) ?_
  refine s0g (qv_move rfl) ?_
  refine s0g (qv_neq rfl rfl) ?_
  refine s0 (qv_pickF rfl rfl) ?_
  refine s0 (qv_move rfl) ?_
  refine s0g (qv_move rfl) ?_
  refine s0g (qv_neq rfl rfl) ?_
  refine s0 (qv_pickF rfl rfl) ?_
  refine s0 (qv_move rfl) ?_
  refine s0g (qv_move rfl) ?_
  refine s0g (qv_neq rfl rfl) ?_
  refine s0 (qv_pickF rfl rfl) ?_
  refine s0 (qv_move rfl) ?_
  refine s0g (qv_move rfl) ?_
  refine s0g (qv_neq rfl rfl) ?_
  refine s0 (qv_pickF rfl rfl) ?_
  refine s0 (qv_move rfl) ?_
  refine s0g (qv_move rfl) ?_
  refine s0g (qv_ldBW (i := 4) ag_34 rfl rfl rfl) ?_
  refine s0g (qv_ldBW (i := 3) ag_34 rfl rfl rfl) ?_
  refine s0g (qv_ldBW (i := 1) ag_34 rfl rfl rfl) ?_
  refine s0g (qv_ldBW (i := 0) ag_34 rfl rfl rfl) ?_
  refine tl_unguard ?_
  refine tl_buildSliceL (enc := encUse) [sanK, sanRd, sanMv (some ⟨b48_5, 0, none⟩), sanFi] bsl_27_4 (fun b115_8 => ?_) rfl (by kernel_rfl)
  have hsb115_8 := SlAt.ofBox (enc := encUse) (sz := 8) (b := b115_8) (E := 34) (l := [sanK, sanRd, sanMv (some ⟨b48_5, 0, none⟩), sanFi]) (Nat.le_of_ble_eq_true rfl) (fun x hx => rfl)
  refine s0g (qv_call fn_16 rfl (fun w hm => sanck w (some ⟨b30_0, 0, none⟩) 2 (some ⟨b115_8, 0, none⟩) (some ⟨b48_5, 0, none⟩) 4 (hsb30_0.into (Mem.has_box (by repeat (first | exact List.Mem.head _ | refine List.Mem.tail _ ?_))) hm) (hsb115_8.into (Mem.has_box (by repeat (first | exact List.Mem.head _ | refine List.Mem.tail _ ?_))) hm))) ?_
  refine s0g (qv_neq rfl rfl) ?_
  refine s0 (qv_pickF rfl rfl) ?_
  refine tl_nil (tp_normal ?_)
  refine tc_false rfl ?_
  refine tc_skip (tp_normal ?_)
  refine tc_seq ?_
  refine tc_region ?_
  refine s0 (qv_move rfl) ?_
  refine s0 (qv_ldBW (i := 6) ag_26 rfl rfl rfl) ?_
  refine s0 (qv_ldBW (i := 5) ag_34 rfl rfl rfl) ?_
  refine s0 (qv_ldBW (i := 4) ag_34 rfl rfl rfl) ?_
  refine tl_buildSliceL (enc := encUse) [sanK, sanRd] bsl_27_2 (fun b124_9 => ?_) rfl (by kernel_rfl)
  have hsb124_9 := SlAt.ofBox (enc := encUse) (sz := 8) (b := b124_9) (E := 34) (l := [sanK, sanRd]) (Nat.le_of_ble_eq_true rfl) (fun x hx => rfl)
  refine tl_callR fn_20 rfl (by decide) (fun w hm => sanp1 w (some ⟨b30_0, 0, none⟩) 2 (some ⟨b40_1, 0, none⟩) 3 (hsb30_0.into (Mem.has_box (by repeat (first | exact List.Mem.head _ | refine List.Mem.tail _ ?_))) hm) (hsb40_1.into (Mem.has_box (by repeat (first | exact List.Mem.head _ | refine List.Mem.tail _ ?_))) hm) (some ⟨b124_9, 0, none⟩) 2 (hsb124_9.into (Mem.has_box (by repeat (first | exact List.Mem.head _ | refine List.Mem.tail _ ?_))) hm)) (fun r125 wa125 wb125 hm125 hb125 hr125 => ?_)
  refine s0 (qv_move rfl) ?_
  refine s0 (qv_extract rfl rfl) ?_
  refine s0 (qv_extract rfl rfl) ?_
  refine s0 (qv_extract rfl rfl) ?_
  refine s0 (qv_assign rfl) ?_
  refine s0 (qv_assign rfl) ?_
  refine s0 (qv_assign rfl) ?_
  refine tl_nil (tp_normal ?_)
  refine tc_seq ?_
  refine tc_region ?_
  refine s0 (qv_ldBW (i := 5) ag_34 rfl rfl rfl) ?_
  refine tl_alloc ze_34 (by decide) (fun b18_10 => ?_)
  refine tl_storeO (i := 0) sz_34 rfl rfl rfl rfl rfl rfl rfl ?_
  refine tl_nil (tp_normal ?_)
  refine tc_seq ?_
  refine tc_region ?_
  refine s0 (qv_fa fo_34_6 rfl) ?_
  refine tl_store1 (i := 0) sz_3 rfl rfl rfl rfl rfl (Nat.le_of_ble_eq_true rfl) ?_
  refine tl_nil (tp_normal ?_)
  refine tc_seq ?_
  refine tc_region ?_
  refine s0 (qv_move rfl) ?_
  refine s0 (qv_move rfl) ?_
  refine s0 (qv_ldBW (i := 8) ag_26 rfl rfl rfl) ?_
  refine s0 (qv_ldBW (i := 0) ag_34 rfl rfl rfl) ?_
  refine tl_buildSliceL (enc := encUse) [sanMo] bsl_27_1 (fun b136_11 => ?_) rfl (by kernel_rfl)
  have hsb136_11 := SlAt.ofBox (enc := encUse) (sz := 8) (b := b136_11) (E := 34) (l := [sanMo]) (Nat.le_of_ble_eq_true rfl) (fun x hx => rfl)
  refine tl_callR fn_20 rfl (by decide) (fun w hm => sanp2 w (some ⟨b30_0, 0, none⟩) 2 (some ⟨b40_1, 0, none⟩) 3 (hsb30_0.into (Mem.has_box (by repeat (first | exact List.Mem.head _ | refine List.Mem.tail _ ?_))) hm) (hsb40_1.into (Mem.has_box (by repeat (first | exact List.Mem.head _ | refine List.Mem.tail _ ?_))) hm) (some ⟨b136_11, 0, none⟩) 1 (hsb136_11.into (Mem.has_box (by repeat (first | exact List.Mem.head _ | refine List.Mem.tail _ ?_))) hm) r125.2.1 r125.2.2 (hr125.2.2.into (Mem.has_kept (by first | exact .head _ | exact .tail _ (.head _) | exact .tail _ (.tail _ (.head _)) | exact .tail _ (.tail _ (.tail _ (.head _))))) hm)) (fun r137 wa137 wb137 hm137 hb137 hr137 => ?_)
  refine s0 (qv_move rfl) ?_
  refine s0 (qv_extract rfl rfl) ?_
  refine s0 (qv_extract rfl rfl) ?_
  refine s0 (qv_extract rfl rfl) ?_
  refine s0 (qv_assign rfl) ?_
  refine s0 (qv_assign rfl) ?_
  refine s0 (qv_assign rfl) ?_
  refine tl_nil (tp_normal ?_)
  refine tc_seq ?_
  refine tc_region ?_
  refine s0 (qv_move rfl) ?_
  refine s0 (qv_ldBW (i := 9) ag_26 rfl rfl rfl) ?_
  refine s0 (qv_ldBW (i := 4) ag_34 rfl rfl rfl) ?_
  refine tl_buildSliceL (enc := encUse) [sanFi] bsl_27_1 (fun b145_12 => ?_) rfl (by kernel_rfl)
  have hsb145_12 := SlAt.ofBox (enc := encUse) (sz := 8) (b := b145_12) (E := 34) (l := [sanFi]) (Nat.le_of_ble_eq_true rfl) (fun x hx => rfl)
  refine tl_callR fn_20 rfl (by decide) (fun w hm => sanp3 w (some ⟨b30_0, 0, none⟩) 2 (some ⟨b40_1, 0, none⟩) 3 (hsb30_0.into (Mem.has_box (by repeat (first | exact List.Mem.head _ | refine List.Mem.tail _ ?_))) hm) (hsb40_1.into (Mem.has_box (by repeat (first | exact List.Mem.head _ | refine List.Mem.tail _ ?_))) hm) (some ⟨b145_12, 0, none⟩) 1 (hsb145_12.into (Mem.has_box (by repeat (first | exact List.Mem.head _ | refine List.Mem.tail _ ?_))) hm)) (fun r146 wa146 wb146 hm146 hb146 hr146 => ?_)
  refine s0 (qv_move rfl) ?_
  refine s0 (qv_extract rfl rfl) ?_
  refine s0 (qv_extract rfl rfl) ?_
  refine s0 (qv_extract rfl rfl) ?_
  refine s0 (qv_assign rfl) ?_
  refine s0 (qv_assign rfl) ?_
  refine s0 (qv_assign rfl) ?_
  refine tl_nil (tp_normal ?_)
  refine tc_seq ?_
  refine tc_region ?_
  refine s0 (qv_build (cells := #[.int .i64 (4), .int .i64 (1), .int .i64 (3), .int .i64 (70)]) bt_56 rfl (by kernel_rfl)) ?_
  refine tl_buildSliceL (enc := encRest) [sanRe] bsl_22_1 (fun b151_13 => ?_) rfl (by kernel_rfl)
  have hsb151_13 := SlAt.ofBox (enc := encRest) (sz := 4) (b := b151_13) (E := 56) (l := [sanRe]) (Nat.le_of_ble_eq_true rfl) (fun x hx => rfl)
  refine s0 (qv_assign rfl) ?_
  refine tl_nil (tp_normal ?_)
  refine tc_seq ?_
  refine tc_region ?_
  refine s0 (qv_move rfl) ?_
  refine s0 (qv_eql rfl rfl) ?_
  refine s0 (qv_move rfl) ?_
  refine s0g (qv_move rfl) ?_
  refine s0g (qv_build (cells := #[.int .i64 (0), .int .i64 (16), .int .i64 (1), .int .i64 (9), .int .i64 (1), .int .i64 (0)]) bt_54 rfl (by kernel_rfl)) ?_
  refine tl_unguard ?_
  refine tl_buildSliceL (enc := encPost) [(⟨0, 16, 1, 9, 1, 0⟩ : Posting)] bsl_40_1 (fun b157_14 => ?_) rfl (by kernel_rfl)
  have hsb157_14 := SlAt.ofBox (enc := encPost) (sz := 6) (b := b157_14) (E := 54) (l := [(⟨0, 16, 1, 9, 1, 0⟩ : Posting)]) (Nat.le_of_ble_eq_true rfl) (fun x hx => rfl)
  refine s0g (qv_call fn_22 rfl (fun w hm => samePosts_self w [(⟨0, 16, 1, 9, 1, 0⟩ : Posting)] r125.1.1 r125.1.2 (some ⟨b157_14, 0, none⟩) 1 (hr125.1.2.into (Mem.has_kept (by first | exact .head _ | exact .tail _ (.head _) | exact .tail _ (.tail _ (.head _)) | exact .tail _ (.tail _ (.tail _ (.head _))))) hm) (hsb157_14.into (Mem.has_box (by repeat (first | exact List.Mem.head _ | refine List.Mem.tail _ ?_))) hm))) ?_
  refine s0 (qv_pickT rfl rfl) ?_
  refine s0 (qv_move rfl) ?_
  refine s0g (qv_move rfl) ?_
  refine s0g (qv_move rfl) ?_
  refine s0g (qv_call fn_23 rfl (fun w hm => sameRests_self w [sanRe] r125.2.1 r125.2.2 (some ⟨b151_13, 0, none⟩) 1 (hr125.2.2.into (Mem.has_kept (by first | exact .head _ | exact .tail _ (.head _) | exact .tail _ (.tail _ (.head _)) | exact .tail _ (.tail _ (.tail _ (.head _))))) hm) (hsb151_13.into (Mem.has_box (by repeat (first | exact List.Mem.head _ | refine List.Mem.tail _ ?_))) hm))) ?_
  refine s0 (qv_pickT rfl rfl) ?_
  refine s0 (qv_assign rfl) ?_
  refine tl_nil (tp_normal ?_)
  refine tc_seq ?_
  refine tc_region ?_
  refine s0 (qv_move rfl) ?_
  refine s0 (qv_eql rfl rfl) ?_
  refine s0 (qv_move rfl) ?_
  refine s0g (qv_move rfl) ?_
  refine s0g (qv_build (cells := #[.int .i64 (1), .int .i64 (16), .int .i64 (1), .int .i64 (10), .int .i64 (3), .int .i64 (0)]) bt_54 rfl (by kernel_rfl)) ?_
  refine tl_unguard ?_
  refine tl_buildSliceL (enc := encPost) [(⟨1, 16, 1, 10, 3, 0⟩ : Posting)] bsl_40_1 (fun b170_15 => ?_) rfl (by kernel_rfl)
  have hsb170_15 := SlAt.ofBox (enc := encPost) (sz := 6) (b := b170_15) (E := 54) (l := [(⟨1, 16, 1, 10, 3, 0⟩ : Posting)]) (Nat.le_of_ble_eq_true rfl) (fun x hx => rfl)
  refine s0g (qv_call fn_22 rfl (fun w hm => samePosts_self w [(⟨1, 16, 1, 10, 3, 0⟩ : Posting)] r137.1.1 r137.1.2 (some ⟨b170_15, 0, none⟩) 1 (hr137.1.2.into (Mem.has_kept (by first | exact .head _ | exact .tail _ (.head _) | exact .tail _ (.tail _ (.head _)) | exact .tail _ (.tail _ (.tail _ (.head _))))) hm) (hsb170_15.into (Mem.has_box (by repeat (first | exact List.Mem.head _ | refine List.Mem.tail _ ?_))) hm))) ?_
  refine s0 (qv_pickT rfl rfl) ?_
  refine s0 (qv_move rfl) ?_
  refine s0g (qv_move rfl) ?_
  refine s0g (qv_move rfl) ?_
  refine s0g (qv_call fn_23 rfl (fun w hm => sameRests_self w [sanRe] r137.2.1 r137.2.2 (some ⟨b151_13, 0, none⟩) 1 (hr137.2.2.into (Mem.has_kept (by first | exact .head _ | exact .tail _ (.head _) | exact .tail _ (.tail _ (.head _)) | exact .tail _ (.tail _ (.tail _ (.head _))))) hm) (hsb151_13.into (Mem.has_box (by repeat (first | exact List.Mem.head _ | refine List.Mem.tail _ ?_))) hm))) ?_
  refine s0 (qv_pickT rfl rfl) ?_
  refine s0 (qv_assign rfl) ?_
  refine tl_nil (tp_normal ?_)
  refine tc_seq ?_
  refine tc_region ?_
  refine s0 (qv_move rfl) ?_
  refine s0 (qv_move rfl) ?_
  refine s0g (qv_move rfl) ?_
  refine s0 (qv_pickT rfl rfl) ?_
  refine s0 (qv_move rfl) ?_
  refine s0g (qv_move rfl) ?_
  refine s0g (qv_eql rfl rfl) ?_
  refine s0 (qv_pickT rfl rfl) ?_
  refine s0 (qv_move rfl) ?_
  refine s0g (qv_move rfl) ?_
  refine s0g (qv_build (cells := #[.int .i64 (12), .int .i64 (1), .int .i64 (3), .int .i64 (10), .int .i64 (5), .int .i64 (0)]) bt_54 rfl (by kernel_rfl)) ?_
  refine tl_unguard ?_
  refine tl_buildSliceL (enc := encPost) [(⟨12, 1, 3, 10, 5, 0⟩ : Posting)] bsl_40_1 (fun b189_16 => ?_) rfl (by kernel_rfl)
  have hsb189_16 := SlAt.ofBox (enc := encPost) (sz := 6) (b := b189_16) (E := 54) (l := [(⟨12, 1, 3, 10, 5, 0⟩ : Posting)]) (Nat.le_of_ble_eq_true rfl) (fun x hx => rfl)
  refine s0g (qv_call fn_22 rfl (fun w hm => samePosts_self w [(⟨12, 1, 3, 10, 5, 0⟩ : Posting)] r146.1.1 r146.1.2 (some ⟨b189_16, 0, none⟩) 1 (hr146.1.2.into (Mem.has_kept (by first | exact .head _ | exact .tail _ (.head _) | exact .tail _ (.tail _ (.head _)) | exact .tail _ (.tail _ (.tail _ (.head _))))) hm) (hsb189_16.into (Mem.has_box (by repeat (first | exact List.Mem.head _ | refine List.Mem.tail _ ?_))) hm))) ?_
  refine s0 (qv_pickT rfl rfl) ?_
  refine s0 (qv_move rfl) ?_
  refine s0g (qv_move rfl) ?_
  refine s0g (qv_len st_22 rfl) ?_
  refine s0g (qv_eql rfl rfl) ?_
  refine s0 (qv_pickT rfl rfl) ?_
  refine s0 (qv_assign rfl) ?_
  refine tl_nil (tp_normal ?_)
  refine tc_ret (tp_end1 rfl rfl ?_)
  intro w' hm
  exact ⟨rfl, hm.below⟩
end Go.Q
namespace Go.Q
open Go Go.Proofs Go.RowKit
theorem ze_52 : Zero Try.prog 52 #[.int .i64 0, .int .i64 0, .int .i64 0] := fun w => ⟨.agg #[.int .i64 0, .int .i64 0, .int .i64 0], by kernel_rfl, rfl⟩
theorem bt_52 : BuildTy Try.prog 52 #[(0, 1), (1, 1), (2, 1)] #[.int .i64 0, .int .i64 0, .int .i64 0] := ⟨_, Try.underlying52, fun w => by kernel_rfl, ze_52⟩
theorem mt_50 : MapTy Try.prog 50 52 3 := Try.underlying50
theorem st_49 : SliceTy Try.prog 49 1 := ⟨5, by kernel_rfl, fun w => by kernel_rfl⟩
theorem sc_5 : Scalar Try.prog 5 := fun w => by kernel_rfl
theorem apt_27 : AppTy Try.prog 27 34 8 80 := ⟨Try.underlying27, ⟨.agg #[.int .i64 0, .int .i64 0, .int .i64 0, .int .i64 0, .int .i64 0, .int .i64 0, .int .i64 0, .slice none 0 0], by kernel_rfl, rfl⟩, by decide⟩
theorem fo_54_3 : FOff Try.prog 54 3 3 := fun b o w => by kernel_rfl
theorem sz_52 : Size Try.prog 52 3 := fun w => by kernel_rfl
theorem ag_52 : Agg Try.prog 52 3 := fun w => ⟨by kernel_rfl, by kernel_rfl⟩
theorem key_52 : KeyTy Try.prog 52 encA3 := by
  have h3 : Try.prog.underlying 3 = some (.int .i64) := Try.underlying3
  refine keyTy_agg (.inl ⟨_, Try.underlying52⟩) (fun b k w => ?_) (fun k k' w => ?_) (fun k => ?_)
  · have h : ∀ n, (Instr.checkKey b (n + 1 + 1) 52 (encA3 k)).run Try.prog w = .ok () w := fun n => by
      simp [encA3, Instr.checkKey, run_underlying Try.underlying52, run_underlying h3, part, aggI, Result.andThen]
    exact h 9998
  · have h := eqStructN (P := Try.prog) (T := 52) (I := 3) (a := [k.1, k.2.1, k.2.2]) (b := [k'.1, k'.2.1, k'.2.2]) (n := 3) (by kernel_rfl) (by kernel_rfl) Try.underlying3 aggI (by kernel_rfl) rfl rfl w
    have e : ∀ q : Int × Int × Int, encA3 q = .agg ([q.1, q.2.1, q.2.2].map (Value.int .i64)).toArray := fun _ => rfl
    have e2 : decide ([k.1, k.2.1, k.2.2] = [k'.1, k'.2.1, k'.2.2]) = decide (k = k') := decide_eq_decide.2 (by simp [Prod.ext_iff])
    rw [e k, e k', h, e2]
  · simp [encA3, Instr.sameBits]
theorem perP_calls (w : World) (per : List Int) (l : List Use) (q : Nat) (ra : Option Addr) (rc : Nat) (t : List Tariff) (ta : Option Addr) (tc : Nat) (n : Net) (na : Option Addr) (nc : Nat) (la : Option Addr) (lc : Nat) (hr : SlIn w 4 encRest ra (restsP per t n l q)) (ht : SlIn w 3 encTar ta t) (hn : SlIn w 50 encLink na n.links) (hk : NetOk n) (hl : SlIn w 8 encUse la (nowOf per l q)) (hins : ∀ u ∈ (nowOf per l q), SlIn w 3 encSend u.sends.a u.sends.l ∧ u.sends.l.length ≤ u.sends.c) :
    Calls Try.prog 20 #[.slice ra (restsP per t n l q).length rc, .slice ta t.length tc, .agg (netA n na nc), .slice la (nowOf per l q).length lc, .int .i64 (10 * (q : Int))] w (fun e w' => ∃ z : (Option Addr × Nat) × (Option Addr × Nat), e = .returned (.tuple #[.slice z.1.1 (perP per t n l q).1.length z.1.2, .slice z.2.1 (restsP per t n l (q + 1)).length z.2.2, .int .i64 (perP per t n l q).2.2]) ∧ Below w.heap.size w w' ∧ (((perP per t n l q).1.length ≤ z.1.2 ∧ SlAt w' w.heap.size w'.heap.size 6 encPost z.1.1 (perP per t n l q).1) ∧ ((restsP per t n l (q + 1)).length ≤ z.2.2 ∧ SlAt w' w.heap.size w'.heap.size 4 encRest z.2.1 (restsP per t n l (q + 1))))) :=
  period_calls w (restsP per t n l q) ra rc t ta tc n na nc (nowOf per l q) la lc (10 * (q : Int)) hr ht hn hk hl hins
set_option maxRecDepth 100000 in
set_option maxHeartbeats 16000000 in
theorem law_adds (w : World) (t : List Tariff) (ta : Option Addr) (tc : Nat) (n : Net) (na : Option Addr) (nc : Nat) (l : List Use) (la : Option Addr) (lc : Nat) (per : List Int) (pa : Option Addr) (pc : Nat) (ht : SlIn w 3 encTar ta t) (hn : SlIn w 50 encLink na n.links) (hk : NetOk n) (hl : SlIn w 8 encUse la l) (hins : ∀ u ∈ l, SlIn w 3 encSend u.sends.a u.sends.l ∧ u.sends.l.length ≤ u.sends.c) (hp : SlIn w 1 encB8 pa per) (hper : ∀ x ∈ per, 0 ≤ x ∧ x ≤ 255) :
    Calls Try.prog 4 #[.slice ta t.length tc, .agg (netA n na nc), .slice la l.length lc, .slice pa per.length pc] w (fun e w' => e = .returned (.bool true) ∧ Below w.heap.size w w') := by
  have hlent := ht.len
  simp only [maxLen] at hlent
  have hlenn := hn.len
  simp only [maxLen] at hlenn
  have hlenu := hl.len
  simp only [maxLen] at hlenu
  have hlenp := hp.len
  simp only [maxLen] at hlenp
  have hper0 : ∀ x ∈ per, 0 ≤ x := fun x hx => (hper x hx).1
  refine calls_of_tc (N := 226) (vs := [.slice ta t.length tc, .agg (netA n na nc), .slice la l.length lc, .slice pa per.length pc]) Try.func4 rfl rfl (Nat.le_of_ble_eq_true rfl) ?_
  refine tc_rowRoom ?_
  refine tc_seq ?_
  refine tc_region ?_
  refine tl_box rfl (by decide) (fun b5_0 => ?_)
  refine s0 (qv_assign rfl) ?_
  refine tl_nil (tp_normal ?_)
  refine tc_seq ?_
  refine tc_seq ?_
  refine tc_region ?_
  refine s0 (qv_ldBW (i := 0) ag_26 rfl rfl rfl) ?_
  refine s0 (qv_move rfl) ?_
  refine sd (qv_call fn_14 rfl (fun w hm => few9_calls w n na nc l la lc (hn.into Mem.has_base hm) hk (hl.into Mem.has_base hm))) (fun c36 => ?_) (fun c36 => ?_)
  ·
    refine s0 (qv_not rfl) ?_
    refine s0 (qv_move rfl) ?_
    refine s0g (qv_move rfl) ?_
    refine s0g (qv_len st_27 rfl) ?_
    refine sdg (qv_gtr rfl rfl) (fun c41 => ?_) (fun c41 => ?_)
    ·
      refine s0 (qv_pickF rfl rfl) ?_
      refine tl_nil (tp_normal ?_)
      refine tc_true rfl ?_
      refine tc_seq ?_
      refine tc_region ?_
      refine s0 (qv_call fn_15 rfl (fun w hm => sanity9_calls w)) ?_
      refine s0 (qv_assign rfl) ?_
      refine tl_nil (tp_normal ?_)
      refine tc_ret (tp_then_ret (tp_end1 rfl rfl ?_))
      intro w' hm
      exact ⟨rfl, hm.below⟩
    ·
      refine s0 (qv_pickF rfl rfl) ?_
      refine tl_nil (tp_normal ?_)
      refine tc_false rfl ?_
      refine tc_skip (tp_normal ?_)
      refine tc_seq ?_
      refine tc_region ?_
      refine tl_makeMap (fun b44_1 => ?_)
      refine s0 (qv_assign rfl) ?_
      refine tl_nil (tp_normal ?_)
      refine tc_seq ?_
      refine tc_seq ?_
      refine tc_region ?_
      refine s0 (qv_move rfl) ?_
      refine s0 (qv_len st_27 rfl) ?_
      refine s0 (qv_move rfl) ?_
      refine tl_nil (tp_normal ?_)
      refine tc_block (tc_loopG (fun (qq : Nat × Obj) => [(47, .int .i64 (qq.1 : Int))]) (fun (qq : Nat × Obj) => [(0, b44_1, qq.2)]) (fun (qq : Nat × Obj) => []) (fun (qq : Nat × Obj) => [none]) (fun (qq : Nat × Obj) => qq.1 ≤ l.length ∧ (∀ (i : Nat) u, i < qq.1 → l[i]? = some u → (charge t n u).2 = 0) ∧ MapIs encA3 (Value.int .i64) (wantM t n l qq.1) qq.2) (fun (qq : Nat × Obj) => l.length - qq.1) ((0, .map #[] 0)) ⟨Nat.zero_le _, fun _ _ h => absurd h (Nat.not_lt_zero _), MapIs.nil _ _⟩ ⟨rfl, trivial⟩ rfl (fun _ h => h) rfl ?_)
      rintro qq hQ
      refine tc_seq ?_
      refine tc_region ?_
      refine sd (qv_lss rfl rfl) (fun c48 => ?_) (fun c48 => ?_)
      ·
        refine tl_nil (tp_normal ?_)
        refine tc_seq ?_
        refine tc_true rfl ?_
        refine tc_skip (tp_normal ?_)
        refine tc_seq ?_
        refine tc_block ?_
        refine tc_seq ?_
        refine tc_region ?_
        refine sn st_27 hl rfl rfl (by omega) (fun e49 he49 => ?_)
        refine s0 (qv_ldEW ag_34 hl Mem.has_base rfl he49) ?_
        refine tl_alloc ze_34 (by decide) (fun b11_2 => ?_)
        refine tl_storeL (i := 0) sz_34 (hl.szs _ (List.mem_of_getElem? he49)) (one_34 _) rfl rfl rfl rfl ?_
        refine tl_nil (tp_normal ?_)
        refine tc_seq ?_
        refine tc_region ?_
        refine s0 (qv_move rfl) ?_
        refine s0 (qv_ldBW (i := 2) ag_26 rfl rfl rfl) ?_
        refine s0 (qv_ldBW (i := 0) ag_34 rfl rfl rfl) ?_
        refine s0 (qv_call fn_18 rfl (fun w hm => charge_calls w t ta tc n na nc e49 (ht.into Mem.has_base hm) (hn.into Mem.has_base hm) hk ((hins e49 (List.mem_of_getElem? he49)).1.into Mem.has_base hm))) ?_
        refine s0 (qv_move rfl) ?_
        refine s0 (qv_extract rfl rfl) ?_
        refine s0 (qv_extract rfl rfl) ?_
        refine s0 (qv_assign rfl) ?_
        refine s0 (qv_assign rfl) ?_
        refine tl_nil (tp_normal ?_)
        refine tc_seq ?_
        refine tc_seq ?_
        refine tc_region ?_
        refine s0 (qv_move rfl) ?_
        refine sd (qv_neq rfl rfl) (fun c59 => ?_) (fun c59 => ?_)
        ·
          refine tl_nil (tp_normal ?_)
          refine tc_true rfl ?_
          refine tc_seq ?_
          refine tc_region ?_
          refine s0 (qv_call fn_15 rfl (fun w hm => sanity9_calls w)) ?_
          refine s0 (qv_assign rfl) ?_
          refine tl_nil (tp_normal ?_)
          refine tc_ret (tp_then_ret (tp_block_ret (tp_then_ret (tp_then_ret (tp_block_ret (tp_then_ret (tp_end1 rfl rfl ?_)))))))
          intro w' hm
          exact ⟨rfl, hm.below⟩
        ·
          refine tl_nil (tp_normal ?_)
          refine tc_false rfl ?_
          refine tc_skip (tp_normal ?_)
          have hlk := want_bd (t := t) (n := n) (l := l) (by omega) qq.1 (keyU e49)
          have hcb := charge_bound t n e49
          have hle := look_ensure (wantM t n l qq.1) (keyU e49) 0
          refine tc_drawV 13 mixed (by kernel_rfl) (hD_erase 1) ?_
          refine tu_take (i := 0) (ho := rfl) (qv_move rfl) ?_ (by kernel_rfl) (by kernel_rfl)
          refine tu_take (i := 1) (ho := rfl) (qv_fa fo_34_2 rfl) ?_ (by kernel_rfl) (by kernel_rfl)
          refine tu_take (i := 2) (ho := rfl) (qv_ldB (i := 0) sc_3 rfl rfl rfl) ?_ (by kernel_rfl) (by kernel_rfl)
          refine tu_take (i := 3) (ho := rfl) (qv_fa fo_34_1 rfl) ?_ (by kernel_rfl) (by kernel_rfl)
          refine tu_take (i := 4) (ho := rfl) (qv_ldB (i := 0) sc_3 rfl rfl rfl) ?_ (by kernel_rfl) (by kernel_rfl)
          refine tu_take (i := 5) (ho := rfl) (qv_fa fo_34_0 rfl) ?_ (by kernel_rfl) (by kernel_rfl)
          refine tu_take (i := 6) (ho := rfl) (qv_ldB (i := 0) sc_3 rfl rfl rfl) ?_ (by kernel_rfl) (by kernel_rfl)
          refine tu_take (i := 7) (ho := rfl) (qv_build (cells := #[.int .i64 e49.customer, .int .i64 e49.house, .int .i64 e49.kind]) bt_52 rfl (by kernel_rfl)) ?_ (by kernel_rfl) (by kernel_rfl)
          refine tu_take (i := 9) (ho := rfl) (qv_move rfl) ?_ (by kernel_rfl) (by kernel_rfl)
          refine tu_2 8 11 (by kernel_rfl) (by kernel_rfl) (by kernel_rfl) ?_ ?_
          ·
            refine tg_q (qv_lookupM (zv := 0) (k := (keyU e49)) 1 mt_50 key_52 hQ.2.2 mz_3 rfl rfl rfl) ?_ (fun w h => hD_erase 1 w h)
            refine tu_take (i := 10) (ho := rfl) (qv_addI rfl rfl (by omega)) ?_ (by kernel_rfl) (by kernel_rfl)
            refine tu_one 11 ?_ (by kernel_rfl) (by kernel_rfl) (by kernel_rfl)
            refine tg_mapEntry (zv := 0) (k := (keyU e49)) 1 mt_50 key_52 hQ.2.2 mz_3 (fun om7 bn7 hst7 => ?_) (fun o_ w h => hD_eraseSet 1 _ w h)
            refine tu_take (i := 12) (ho := rfl) (qv_extract rfl rfl) ?_ (by kernel_rfl) (by kernel_rfl)
            refine tu_tail rfl rfl rfl (by kernel_rfl) ?_
            refine tl_entryStore 1 hst7 (fun om8 hmm8 => ?_)
            have hmn8 : MapIs encA3 (Value.int .i64) (putM (wantM t n l qq.1) (keyU e49) (look (wantM t n l qq.1) (keyU e49) 0 + (charge t n e49).1)) om8 := by (have h_ := hmm8; simp only [look_ensure, setAt_ensure] at h_; exact h_)
            refine tl_nil (tp_block_normal (tp_normal ?_))
            refine tc_region ?_
            refine s0 (qv_succ rfl rfl (by omega)) ?_
            refine s0 (qv_move rfl) ?_
            exact tl_nil (tp_roundG (qq.1 + 1, om8) ⟨by simp only; omega, none_stepG (P := fun _ (u : Use) => (charge t n u).2 = 0) hQ.2.1 he49 (by omega), by (show MapIs encA3 (Value.int .i64) (sumsM keyU (fun u => (charge t n u).1) [] (l.take (qq.1 + 1))) _; rw [sumsM_take _ _ he49]; exact hmn8)⟩ (by simp only; omega) ⟨rfl, trivial⟩ rfl rfl rfl (by repeat (first | exact List.Sublist.refl _ | refine List.Sublist.cons_cons _ ?_ | refine List.Sublist.cons _ ?_)) (by first | exact List.Sublist.refl _ | exact List.nil_sublist _))
          ·
            refine tg_mapEntry (zv := 0) (k := (keyU e49)) 1 mt_50 key_52 hQ.2.2 mz_3 (fun om9 bn9 hst9 => ?_) (fun o_ w h => hD_eraseSet 1 _ w h)
            refine tu_take (i := 12) (ho := rfl) (qv_extract rfl rfl) ?_ (by kernel_rfl) (by kernel_rfl)
            refine tu_one 8 ?_ (by kernel_rfl) (by kernel_rfl) (by kernel_rfl)
            refine tg_q (qv_lookupM (zv := 0) (k := (keyU e49)) 1 mt_50 key_52 hst9.is mz_3 rfl rfl rfl) ?_ (fun w h => hD_eraseSet 1 _ w h)
            refine tu_take (i := 10) (ho := rfl) (qv_addI rfl rfl (by omega)) ?_ (by kernel_rfl) (by kernel_rfl)
            refine tu_tail rfl rfl rfl (by kernel_rfl) ?_
            refine tl_entryStore 1 hst9 (fun om10 hmm10 => ?_)
            have hmn10 : MapIs encA3 (Value.int .i64) (putM (wantM t n l qq.1) (keyU e49) (look (wantM t n l qq.1) (keyU e49) 0 + (charge t n e49).1)) om10 := by (have h_ := hmm10; simp only [look_ensure, setAt_ensure] at h_; exact h_)
            refine tl_nil (tp_block_normal (tp_normal ?_))
            refine tc_region ?_
            refine s0 (qv_succ rfl rfl (by omega)) ?_
            refine s0 (qv_move rfl) ?_
            exact tl_nil (tp_roundG (qq.1 + 1, om10) ⟨by simp only; omega, none_stepG (P := fun _ (u : Use) => (charge t n u).2 = 0) hQ.2.1 he49 (by omega), by (show MapIs encA3 (Value.int .i64) (sumsM keyU (fun u => (charge t n u).1) [] (l.take (qq.1 + 1))) _; rw [sumsM_take _ _ he49]; exact hmn10)⟩ (by simp only; omega) ⟨rfl, trivial⟩ rfl rfl rfl (by repeat (first | exact List.Sublist.refl _ | refine List.Sublist.cons_cons _ ?_ | refine List.Sublist.cons _ ?_)) (by first | exact List.Sublist.refl _ | exact List.nil_sublist _))
      ·
        refine tl_nil (tp_normal ?_)
        refine tc_seq ?_
        refine tc_false rfl ?_
        refine tc_exit (tp_then_exit (tp_then_exit (tp_block_exit (tp_normal ?_))))
        refine tc_seq ?_
        refine tc_seq ?_
        have hwm : MapIs encA3 (Value.int .i64) (wantM t n l l.length) qq.2 := by (have h_ := hQ.2.2; unfold wantM at h_ ⊢; rwa [List.take_of_length_le (by omega), ← List.take_of_length_le (Nat.le_refl l.length)] at h_)
        refine tc_region ?_
        refine s0 (qv_move rfl) ?_
        refine s0 (qv_move rfl) ?_
        refine s0 (qv_call fn_16 rfl (fun w hm => mcheck_calls w t ta tc l la lc (ht.into Mem.has_base hm) (hl.into Mem.has_base hm))) ?_
        refine sd (qv_neq rfl rfl) (fun c78 => ?_) (fun c78 => ?_)
        ·
          refine tl_nil (tp_normal ?_)
          refine tc_true rfl ?_
          refine tc_seq ?_
          refine tc_region ?_
          refine s0 (qv_call fn_15 rfl (fun w hm => sanity9_calls w)) ?_
          refine s0 (qv_assign rfl) ?_
          refine tl_nil (tp_normal ?_)
          refine tc_ret (tp_then_ret (tp_end1 rfl rfl ?_))
          intro w' hm
          exact ⟨rfl, hm.below⟩
        ·
          refine tl_nil (tp_normal ?_)
          refine tc_false rfl ?_
          refine tc_skip (tp_normal ?_)
          refine tc_seq ?_
          have hc : Chargeable t n l := chargeable_of (by omega) hQ.2.1 (by omega) (by omega)
          have ht12 := (meterCheck_zero hc.check).tl
          refine tc_region ?_
          refine tl_makeMap (fun b80_3 => ?_)
          refine s0 (qv_assign rfl) ?_
          refine tl_nil (tp_normal ?_)
          refine tc_seq ?_
          refine tc_region ?_
          refine s0 (qv_assign rfl) ?_
          refine tl_nil (tp_normal ?_)
          refine tc_seq ?_
          refine tc_seq ?_
          refine tc_region ?_
          refine s0 (qv_move rfl) ?_
          refine tl_nil (tp_normal ?_)
          refine tc_block (tc_loopG (fun (q : Nat × Obj × SlG) => [(81, .int .i64 (q.1 : Int)), (15, .slice q.2.2.a (restsP per t n l q.1).length q.2.2.c)]) (fun (q : Nat × Obj × SlG) => [(0, b80_3, q.2.1)]) (fun (q : Nat × Obj × SlG) => [Kin q.2.2.W q.2.2.lo q.2.2.hi]) (fun (q : Nat × Obj × SlG) => [none]) (fun (q : Nat × Obj × SlG) => q.1 ≤ 5 ∧ OkTo per t n l q.1 ∧ MapIs encA3 (Value.int .i64) (gotM per t n l q.1) q.2.1 ∧ SlAt q.2.2.W q.2.2.lo q.2.2.hi 4 encRest q.2.2.a (restsP per t n l q.1) ∧ (restsP per t n l q.1).length ≤ q.2.2.c) (fun (q : Nat × Obj × SlG) => 5 - q.1) ((0, .map #[] 0, ⟨w, w.heap.size, w.heap.size, none, 0⟩)) ⟨Nat.zero_le _, fun _ h => absurd h (Nat.not_lt_zero _), MapIs.nil _ _, SlAt.none, Nat.le_refl 0⟩ ⟨rfl, rfl, trivial⟩ rfl (hK_nil w) rfl ?_)
          rintro q hI
          refine tc_seq ?_
          refine tc_region ?_
          refine sd (qv_lss rfl rfl) (fun c82 => ?_) (fun c82 => ?_)
          ·
            refine tl_nil (tp_normal ?_)
            refine tc_seq ?_
            refine tc_true rfl ?_
            refine tc_skip (tp_normal ?_)
            refine tc_seq ?_
            refine tc_block ?_
            refine tc_seq ?_
            refine tc_region ?_
            refine s0 (qv_move rfl) ?_
            refine s0 (qv_assign rfl) ?_
            refine tl_nil (tp_normal ?_)
            refine tc_seq ?_
            refine tc_region ?_
            refine s0 (qv_assign rfl) ?_
            refine tl_nil (tp_normal ?_)
            refine tc_seq ?_
            refine tc_seq ?_
            refine tc_region ?_
            refine s0 (qv_move rfl) ?_
            refine s0 (qv_len st_27 rfl) ?_
            refine s0 (qv_move rfl) ?_
            refine tl_nil (tp_normal ?_)
            refine tc_block (tc_loopR 0 34 8 encUse (fun (k : Nat) (v : Value) => [(17, v), (86, .int .i64 (k : Int))]) (fun (k : Nat) => []) (fun (k : Nat) => (nowTo per l q.1 k)) (fun (k : Nat) => k ≤ l.length) (fun (k : Nat) => l.length - k) (0) (RowOf.nil _ _ _) (Nat.zero_le _) ⟨rfl, rfl, trivial⟩ rfl rfl ?_)
            rintro k vr36 or36 hK hrow
            have hnl := nowTo_len per l q.1 k
            refine tc_seq ?_
            refine tc_region ?_
            refine sd (qv_lss rfl rfl) (fun c87 => ?_) (fun c87 => ?_)
            ·
              refine tl_nil (tp_normal ?_)
              refine tc_seq ?_
              refine tc_true rfl ?_
              refine tc_skip (tp_normal ?_)
              refine tc_seq ?_
              refine tc_block ?_
              refine tc_seq ?_
              refine tc_region ?_
              refine s0 (qv_move rfl) ?_
              refine sn st_27 hl rfl rfl (by omega) (fun e89 he89 => ?_)
              refine s0 (qv_ldEW ag_34 hl Mem.has_base rfl he89) ?_
              refine tl_alloc ze_34 (by decide) (fun b19_4 => ?_)
              refine s0 (qv_assign rfl) ?_
              refine tl_storeL (i := 0) sz_34 (hl.szs _ (List.mem_of_getElem? he89)) (one_34 _) rfl rfl rfl rfl ?_
              refine tl_nil (tp_normal ?_)
              refine tc_seq ?_
              refine tc_region ?_
              refine s0 (qv_assign rfl) ?_
              refine tl_nil (tp_normal ?_)
              refine tc_seq ?_
              refine tc_seq ?_
              refine tc_region ?_
              refine s0 (qv_move rfl) ?_
              refine s0 (qv_move rfl) ?_
              refine s0 (qv_len st_49 rfl) ?_
              refine sd (qv_lss rfl rfl) (fun c94 => ?_) (fun c94 => ?_)
              ·
                refine tl_nil (tp_normal ?_)
                refine tc_true rfl ?_
                refine tc_region ?_
                refine s0 (qv_move rfl) ?_
                refine s0 (qv_move rfl) ?_
                refine sn st_49 hp rfl rfl (by omega) (fun e97 he97 => ?_)
                refine s0 (qv_ldE (j := 0) sc_5 hp Mem.has_base rfl rfl he97 rfl) ?_
                have hpe := hper e97 (List.mem_of_getElem? he97)
                refine s0 (qv_convI Try.underlying5 Try.underlying3 rfl (by omega)) ?_
                refine s0 (qv_remI rfl rfl (by decide) (by omega)) ?_
                refine s0 (qv_assign rfl) ?_
                refine tl_nil (tp_normal ?_)
                refine tc_seq ?_
                refine tc_region ?_
                refine s0 (qv_move rfl) ?_
                refine s0 (qv_move rfl) ?_
                refine sd (qv_eql rfl rfl) (fun c103 => ?_) (fun c103 => ?_)
                ·
                  refine tl_nil (tp_normal ?_)
                  refine tc_true rfl ?_
                  refine tc_region ?_
                  refine s0 (qv_move rfl) ?_
                  refine s0 (qv_ldBW (i := 0) ag_34 rfl rfl rfl) ?_
                  refine tl_buildSlice (cells := (encUse e89).toArray) (hc := by kernel_rfl) bsl_27_1 (fun b106_5 => ?_)
                  refine tl_append1 0 0 apt_27 e89 hrow (fun v107 ob107 hr107 => ?_) rfl (one_34 _) (by first | omega | (simp only [List.length_append, List.length_cons, List.length_nil]; omega))
                  refine s0 (qv_assign rfl) ?_
                  refine tl_nil (tp_block_normal (tp_normal ?_))
                  refine tc_region ?_
                  refine s0 (qv_succ rfl rfl (by omega)) ?_
                  refine s0 (qv_move rfl) ?_
                  exact tl_nil (tp_roundR (k + 1) (by first | (rw [nowTo_yes he89 (by rw [mineOf_at he97]; omega)]; exact hr107) | (rw [nowTo_no he89 (by rw [mineOf_at he97]; omega)]; exact hr107) | (rw [nowTo_yes he89 (by rw [mineOf_none (by omega)]; omega)]; exact hr107) | (rw [nowTo_no he89 (by rw [mineOf_none (by omega)]; omega)]; exact hr107)) (by omega) (by omega) ⟨rfl, rfl, trivial⟩ rfl rfl rfl rfl rfl)
                ·
                  refine tl_nil (tp_normal ?_)
                  refine tc_false rfl ?_
                  refine tc_skip (tp_block_normal (tp_normal ?_))
                  refine tc_region ?_
                  refine s0 (qv_succ rfl rfl (by omega)) ?_
                  refine s0 (qv_move rfl) ?_
                  exact tl_nil (tp_roundR (k + 1) (by first | (rw [nowTo_yes he89 (by rw [mineOf_at he97]; omega)]; exact hrow) | (rw [nowTo_no he89 (by rw [mineOf_at he97]; omega)]; exact hrow) | (rw [nowTo_yes he89 (by rw [mineOf_none (by omega)]; omega)]; exact hrow) | (rw [nowTo_no he89 (by rw [mineOf_none (by omega)]; omega)]; exact hrow)) (by omega) (by omega) ⟨rfl, rfl, trivial⟩ rfl rfl rfl rfl rfl)
              ·
                refine tl_nil (tp_normal ?_)
                refine tc_false rfl ?_
                refine tc_skip (tp_normal ?_)
                refine tc_seq ?_
                refine tc_region ?_
                refine s0 (qv_move rfl) ?_
                refine s0 (qv_move rfl) ?_
                refine sd (qv_eql rfl rfl) (fun c103 => ?_) (fun c103 => ?_)
                ·
                  refine tl_nil (tp_normal ?_)
                  refine tc_true rfl ?_
                  refine tc_region ?_
                  refine s0 (qv_move rfl) ?_
                  refine s0 (qv_ldBW (i := 0) ag_34 rfl rfl rfl) ?_
                  refine tl_buildSlice (cells := (encUse e89).toArray) (hc := by kernel_rfl) bsl_27_1 (fun b106_6 => ?_)
                  refine tl_append1 0 0 apt_27 e89 hrow (fun v107 ob107 hr107 => ?_) rfl (one_34 _) (by first | omega | (simp only [List.length_append, List.length_cons, List.length_nil]; omega))
                  refine s0 (qv_assign rfl) ?_
                  refine tl_nil (tp_block_normal (tp_normal ?_))
                  refine tc_region ?_
                  refine s0 (qv_succ rfl rfl (by omega)) ?_
                  refine s0 (qv_move rfl) ?_
                  exact tl_nil (tp_roundR (k + 1) (by first | (rw [nowTo_yes he89 (by rw [mineOf_at he97]; omega)]; exact hr107) | (rw [nowTo_no he89 (by rw [mineOf_at he97]; omega)]; exact hr107) | (rw [nowTo_yes he89 (by rw [mineOf_none (by omega)]; omega)]; exact hr107) | (rw [nowTo_no he89 (by rw [mineOf_none (by omega)]; omega)]; exact hr107)) (by omega) (by omega) ⟨rfl, rfl, trivial⟩ rfl rfl rfl rfl rfl)
                ·
                  refine tl_nil (tp_normal ?_)
                  refine tc_false rfl ?_
                  refine tc_skip (tp_block_normal (tp_normal ?_))
                  refine tc_region ?_
                  refine s0 (qv_succ rfl rfl (by omega)) ?_
                  refine s0 (qv_move rfl) ?_
                  exact tl_nil (tp_roundR (k + 1) (by first | (rw [nowTo_yes he89 (by rw [mineOf_at he97]; omega)]; exact hrow) | (rw [nowTo_no he89 (by rw [mineOf_at he97]; omega)]; exact hrow) | (rw [nowTo_yes he89 (by rw [mineOf_none (by omega)]; omega)]; exact hrow) | (rw [nowTo_no he89 (by rw [mineOf_none (by omega)]; omega)]; exact hrow)) (by omega) (by omega) ⟨rfl, rfl, trivial⟩ rfl rfl rfl rfl rfl)
            ·
              refine tl_nil (tp_normal ?_)
              refine tc_seq ?_
              refine tc_false rfl ?_
              refine tc_exit (tp_then_exit (tp_then_exit (tp_block_exit (tp_normal ?_))))
              refine tc_seq ?_
              rw [nowTo_end (by omega)] at hrow
              refine tc_rowKeep 0 hrow (fun _ => rfl) (fun Wk lok hik ak ck hvk hck_ hsk => ?_)
              subst hvk
              refine tc_region ?_
              refine s0 (qv_move rfl) ?_
              refine s0 (qv_move rfl) ?_
              refine s0 (qv_ldBW (i := 2) ag_26 rfl rfl rfl) ?_
              refine s0 (qv_move rfl) ?_
              refine s0 (qv_move rfl) ?_
              refine s0 (qv_mulI rfl rfl (by omega)) ?_
              refine tl_callR fn_20 rfl (by decide) (fun w hm => perP_calls w per l q.1 q.2.2.a q.2.2.c t ta tc n na nc ak ck  (hI.2.2.2.1.into (Mem.has_kept (by first | exact .head _ | exact .tail _ (.head _) | exact .tail _ (.tail _ (.head _)) | exact .tail _ (.tail _ (.tail _ (.head _))))) hm) (ht.into Mem.has_base hm) (hn.into Mem.has_base hm) hk (hsk.into (Mem.has_kept (by first | exact .head _ | exact .tail _ (.head _) | exact .tail _ (.tail _ (.head _)) | exact .tail _ (.tail _ (.tail _ (.head _))))) hm) (fun v hv => ⟨(hins v (nowTo_mem hv)).1.into Mem.has_base hm, (hins v (nowTo_mem hv)).2⟩)) (fun r116 wa116 wb116 hm116 hb116 hr116 => ?_)
              refine s0 (qv_move rfl) ?_
              refine s0 (qv_extract rfl rfl) ?_
              refine s0 (qv_extract rfl rfl) ?_
              refine s0 (qv_extract rfl rfl) ?_
              refine s0 (qv_assign rfl) ?_
              refine s0 (qv_assign rfl) ?_
              refine s0 (qv_assign rfl) ?_
              refine tl_nil (tp_normal ?_)
              refine tc_seq ?_
              refine tc_seq ?_
              refine tc_region ?_
              refine s0 (qv_move rfl) ?_
              refine sd (qv_neq rfl rfl) (fun c121 => ?_) (fun c121 => ?_)
              ·
                refine tl_nil (tp_normal ?_)
                refine tc_true rfl ?_
                refine tc_seq ?_
                refine tc_region ?_
                refine s0 (qv_call fn_15 rfl (fun w hm => sanity9_calls w)) ?_
                refine s0 (qv_move rfl) ?_
                refine s0g (qv_move rfl) ?_
                refine s0g (qv_eql rfl rfl) ?_
                refine s0 (qv_pickT rfl rfl) ?_
                refine s0 (qv_assign rfl) ?_
                refine tl_nil (tp_normal ?_)
                refine tc_ret (tp_then_ret (tp_block_ret (tp_then_ret (tp_then_ret (tp_block_ret (tp_then_ret (tp_end1 rfl rfl ?_)))))))
                intro w' hm
                exact ⟨by rw [decide_eq_true ((perP_err hc (show q.1 < 5 by omega) hI.2.1).resolve_left c121)], hm.below⟩
              ·
                refine tl_nil (tp_normal ?_)
                refine tc_false rfl ?_
                refine tc_skip (tp_normal ?_)
                refine tc_seq ?_
                have hok1 : OkTo per t n l (q.1 + 1) := okTo_succ hI.2.1 (by omega)
                have hpl := perP_len (hok1 q.1 (by omega)) ht12
                refine tc_region ?_
                refine s0 (qv_move rfl) ?_
                refine s0 (qv_assign rfl) ?_
                refine tl_nil (tp_normal ?_)
                refine tc_seq ?_
                refine tc_region ?_
                refine s0 (qv_move rfl) ?_
                refine s0 (qv_len st_40 rfl) ?_
                refine s0 (qv_move rfl) ?_
                refine tl_nil (tp_normal ?_)
                refine tc_block (tc_loopG (fun (jj : Nat × Obj) => [(130, .int .i64 (jj.1 : Int))]) (fun (jj : Nat × Obj) => [(0, b80_3, jj.2)]) (fun (jj : Nat × Obj) => []) (fun (jj : Nat × Obj) => [none]) (fun (jj : Nat × Obj) => jj.1 ≤ (perP per t n l q.1).1.length ∧ MapIs encA3 (Value.int .i64) (sumsM keyP (fun x => 1000 * x.amount) (gotM per t n l q.1) ((perP per t n l q.1).1.take jj.1)) jj.2) (fun (jj : Nat × Obj) => (perP per t n l q.1).1.length - jj.1) ((0, q.2.1)) ⟨Nat.zero_le _, hI.2.2.1⟩ ⟨rfl, trivial⟩ rfl (fun _ h => h) rfl ?_)
                rintro jj hJ
                refine tc_seq ?_
                refine tc_region ?_
                refine sd (qv_lss rfl rfl) (fun c131 => ?_) (fun c131 => ?_)
                ·
                  refine tl_nil (tp_normal ?_)
                  refine tc_seq ?_
                  refine tc_true rfl ?_
                  refine tc_skip (tp_normal ?_)
                  refine tc_seq ?_
                  refine tc_block ?_
                  refine tc_seq ?_
                  refine tc_region ?_
                  refine sn st_40 hr116.1.2 rfl rfl (by omega) (fun e132 he132 => ?_)
                  refine s0 (qv_ldEW ag_54 hr116.1.2 (Mem.has_kept (by first | exact .head _ | exact .tail _ (.head _) | exact .tail _ (.tail _ (.head _)) | exact .tail _ (.tail _ (.tail _ (.head _))))) rfl he132) ?_
                  refine tl_alloc ze_54 (by decide) (fun b25_7 => ?_)
                  refine tl_storeL (i := 0) sz_54 (hr116.1.2.szs _ (List.mem_of_getElem? he132)) (one_54 _) rfl rfl rfl rfl ?_
                  refine tl_nil (tp_normal ?_)
                  refine tc_seq ?_
                  obtain ⟨pp1, pp2, pp3, pp4, pp5, pp6, pp7⟩ := perP_post (hok1 q.1 (by omega)) ht12 (List.mem_of_getElem? he132)
                  refine tc_draws mixed (by kernel_rfl) ?_
                  refine q0 (qv_fa fo_54_0 rfl) ?_
                  refine q0 (qv_ldB (i := 0) sc_3 rfl rfl rfl) ?_
                  refine q0 (qv_fa fo_54_1 rfl) ?_
                  refine q0 (qv_ldB (i := 0) sc_3 rfl rfl rfl) ?_
                  refine q0 (qv_subI rfl rfl (by omega)) ?_
                  refine q0 (qv_assign rfl) ?_
                  refine q0 (qv_assign rfl) ?_
                  refine tq_nil (tp_normal ?_)
                  refine tc_seq ?_
                  refine tc_seq ?_
                  refine tc_region ?_
                  refine s0 (qv_fa fo_54_4 rfl) ?_
                  refine s0 (qv_ldB (i := 0) sc_3 rfl rfl rfl) ?_
                  refine sd (qv_eql rfl rfl) (fun c141 => ?_) (fun c141 => ?_)
                  ·
                    refine tl_nil (tp_normal ?_)
                    refine tc_true rfl ?_
                    refine tc_draws mixed (by kernel_rfl) ?_
                    refine q0 (qv_fa fo_54_1 rfl) ?_
                    refine q0 (qv_ldB (i := 0) sc_3 rfl rfl rfl) ?_
                    refine q0 (qv_fa fo_54_0 rfl) ?_
                    refine q0 (qv_ldB (i := 0) sc_3 rfl rfl rfl) ?_
                    refine q0 (qv_subI rfl rfl (by omega)) ?_
                    refine q0 (qv_assign rfl) ?_
                    refine q0 (qv_assign rfl) ?_
                    refine tq_nil (tp_normal ?_)
                    refine tc_seq ?_
                    refine tc_seq ?_
                    refine tc_region ?_
                    refine s0 (qv_fa fo_54_3 rfl) ?_
                    refine s0 (qv_ldB (i := 0) sc_3 rfl rfl rfl) ?_
                    refine s0 (qv_move rfl) ?_
                    refine s0 (qv_mulI rfl rfl (by omega)) ?_
                    refine sd (qv_neq rfl rfl) (fun c151 => ?_) (fun c151 => ?_)
                    ·
                      refine s0 (qv_move rfl) ?_
                      refine sk ?_
                      refine sk ?_
                      refine sk ?_
                      refine s0 (qv_pickT rfl rfl) ?_
                      refine tl_nil (tp_normal ?_)
                      refine tc_true rfl ?_
                      refine tc_seq ?_
                      refine tc_region ?_
                      refine s0 (qv_assign rfl) ?_
                      refine tl_nil (tp_normal ?_)
                      refine tc_ret (tp_then_ret (tp_block_ret (tp_then_ret (tp_then_ret (tp_block_ret (tp_block_ret (tp_then_ret (tp_then_ret (tp_block_ret (tp_then_ret (tp_end1 rfl rfl ?_)))))))))))
                      intro w' hm
                      exfalso
                      omega
                    ·
                      refine s0 (qv_move rfl) ?_
                      refine s0g (qv_fa fo_54_2 rfl) ?_
                      refine s0g (qv_ldB (i := 0) sc_3 rfl rfl rfl) ?_
                      refine sdg (qv_lss rfl rfl) (fun c155 => ?_) (fun c155 => ?_)
                      ·
                        refine s0 (qv_pickF rfl rfl) ?_
                        refine tl_nil (tp_normal ?_)
                        refine tc_true rfl ?_
                        refine tc_seq ?_
                        refine tc_region ?_
                        refine s0 (qv_assign rfl) ?_
                        refine tl_nil (tp_normal ?_)
                        refine tc_ret (tp_then_ret (tp_block_ret (tp_then_ret (tp_then_ret (tp_block_ret (tp_block_ret (tp_then_ret (tp_then_ret (tp_block_ret (tp_then_ret (tp_end1 rfl rfl ?_)))))))))))
                        intro w' hm
                        exfalso
                        omega
                      ·
                        refine s0 (qv_pickF rfl rfl) ?_
                        refine tl_nil (tp_normal ?_)
                        refine tc_false rfl ?_
                        refine tc_skip (tp_normal ?_)
                        have hgj := gotj_bd hper0 hc (show q.1 < 5 by omega) hok1 ht12 jj.1 ((e132.debit - (12)), e132.credit, e132.why)
                        have hle := look_ensure (sumsM keyP (fun x => 1000 * x.amount) (gotM per t n l q.1) ((perP per t n l q.1).1.take jj.1)) ((e132.debit - (12)), e132.credit, e132.why) 0
                        refine tc_drawV 13 mixed (by kernel_rfl) (hD_erase 1) ?_
                        refine tu_take (i := 0) (ho := rfl) (qv_move rfl) ?_ (by kernel_rfl) (by kernel_rfl)
                        refine tu_take (i := 1) (ho := rfl) (qv_move rfl) ?_ (by kernel_rfl) (by kernel_rfl)
                        refine tu_take (i := 2) (ho := rfl) (qv_move rfl) ?_ (by kernel_rfl) (by kernel_rfl)
                        refine tu_take (i := 3) (ho := rfl) (qv_fa fo_54_4 rfl) ?_ (by kernel_rfl) (by kernel_rfl)
                        refine tu_take (i := 4) (ho := rfl) (qv_ldB (i := 0) sc_3 rfl rfl rfl) ?_ (by kernel_rfl) (by kernel_rfl)
                        refine tu_take (i := 5) (ho := rfl) (qv_build (cells := #[.int .i64 (e132.debit - (12)), .int .i64 e132.credit, .int .i64 e132.why]) bt_52 rfl (by kernel_rfl)) ?_ (by kernel_rfl) (by kernel_rfl)
                        refine tu_take (i := 7) (ho := rfl) (qv_fa fo_54_2 rfl) ?_ (by kernel_rfl) (by kernel_rfl)
                        refine tu_take (i := 8) (ho := rfl) (qv_ldB (i := 0) sc_3 rfl rfl rfl) ?_ (by kernel_rfl) (by kernel_rfl)
                        refine tu_take (i := 9) (ho := rfl) (qv_mulI rfl rfl (by omega)) ?_ (by kernel_rfl) (by kernel_rfl)
                        refine tu_2 6 11 (by kernel_rfl) (by kernel_rfl) (by kernel_rfl) ?_ ?_
                        ·
                          refine tg_q (qv_lookupM (zv := 0) (k := ((e132.debit - (12)), e132.credit, e132.why)) 1 mt_50 key_52 hJ.2 mz_3 rfl rfl rfl) ?_ (fun w h => hD_erase 1 w h)
                          refine tu_take (i := 10) (ho := rfl) (qv_addI rfl rfl (by omega)) ?_ (by kernel_rfl) (by kernel_rfl)
                          refine tu_one 11 ?_ (by kernel_rfl) (by kernel_rfl) (by kernel_rfl)
                          refine tg_mapEntry (zv := 0) (k := ((e132.debit - (12)), e132.credit, e132.why)) 1 mt_50 key_52 hJ.2 mz_3 (fun om11 bn11 hst11 => ?_) (fun o_ w h => hD_eraseSet 1 _ w h)
                          refine tu_take (i := 12) (ho := rfl) (qv_extract rfl rfl) ?_ (by kernel_rfl) (by kernel_rfl)
                          refine tu_tail rfl rfl rfl (by kernel_rfl) ?_
                          refine tl_entryStore 1 hst11 (fun om12 hmm12 => ?_)
                          have hmn12 : MapIs encA3 (Value.int .i64) (putM (sumsM keyP (fun x => 1000 * x.amount) (gotM per t n l q.1) ((perP per t n l q.1).1.take jj.1)) ((e132.debit - (12)), e132.credit, e132.why) (look (sumsM keyP (fun x => 1000 * x.amount) (gotM per t n l q.1) ((perP per t n l q.1).1.take jj.1)) ((e132.debit - (12)), e132.credit, e132.why) 0 + 1000 * e132.amount)) om12 := by (have h_ := hmm12; simp only [look_ensure, setAt_ensure] at h_; exact h_)
                          refine tl_nil (tp_block_normal (tp_normal ?_))
                          refine tc_region ?_
                          refine s0 (qv_succ rfl rfl (by omega)) ?_
                          refine s0 (qv_move rfl) ?_
                          exact tl_nil (tp_roundG (jj.1 + 1, om12) ⟨by simp only; omega, by (show MapIs encA3 (Value.int .i64) (sumsM keyP (fun x => 1000 * x.amount) (gotM per t n l q.1) ((perP per t n l q.1).1.take (jj.1 + 1))) _; rw [sumsM_take _ _ he132, show keyP e132 = ((e132.debit - (12)), e132.credit, e132.why) by (unfold keyP; first | rw [if_pos c141] | rw [if_neg c141])]; exact hmn12)⟩ (by simp only; omega) ⟨rfl, trivial⟩ rfl rfl rfl (by repeat (first | exact List.Sublist.refl _ | refine List.Sublist.cons_cons _ ?_ | refine List.Sublist.cons _ ?_)) (by first | exact List.Sublist.refl _ | exact List.nil_sublist _))
                        ·
                          refine tg_mapEntry (zv := 0) (k := ((e132.debit - (12)), e132.credit, e132.why)) 1 mt_50 key_52 hJ.2 mz_3 (fun om13 bn13 hst13 => ?_) (fun o_ w h => hD_eraseSet 1 _ w h)
                          refine tu_take (i := 12) (ho := rfl) (qv_extract rfl rfl) ?_ (by kernel_rfl) (by kernel_rfl)
                          refine tu_one 6 ?_ (by kernel_rfl) (by kernel_rfl) (by kernel_rfl)
                          refine tg_q (qv_lookupM (zv := 0) (k := ((e132.debit - (12)), e132.credit, e132.why)) 1 mt_50 key_52 hst13.is mz_3 rfl rfl rfl) ?_ (fun w h => hD_eraseSet 1 _ w h)
                          refine tu_take (i := 10) (ho := rfl) (qv_addI rfl rfl (by omega)) ?_ (by kernel_rfl) (by kernel_rfl)
                          refine tu_tail rfl rfl rfl (by kernel_rfl) ?_
                          refine tl_entryStore 1 hst13 (fun om14 hmm14 => ?_)
                          have hmn14 : MapIs encA3 (Value.int .i64) (putM (sumsM keyP (fun x => 1000 * x.amount) (gotM per t n l q.1) ((perP per t n l q.1).1.take jj.1)) ((e132.debit - (12)), e132.credit, e132.why) (look (sumsM keyP (fun x => 1000 * x.amount) (gotM per t n l q.1) ((perP per t n l q.1).1.take jj.1)) ((e132.debit - (12)), e132.credit, e132.why) 0 + 1000 * e132.amount)) om14 := by (have h_ := hmm14; simp only [look_ensure, setAt_ensure] at h_; exact h_)
                          refine tl_nil (tp_block_normal (tp_normal ?_))
                          refine tc_region ?_
                          refine s0 (qv_succ rfl rfl (by omega)) ?_
                          refine s0 (qv_move rfl) ?_
                          exact tl_nil (tp_roundG (jj.1 + 1, om14) ⟨by simp only; omega, by (show MapIs encA3 (Value.int .i64) (sumsM keyP (fun x => 1000 * x.amount) (gotM per t n l q.1) ((perP per t n l q.1).1.take (jj.1 + 1))) _; rw [sumsM_take _ _ he132, show keyP e132 = ((e132.debit - (12)), e132.credit, e132.why) by (unfold keyP; first | rw [if_pos c141] | rw [if_neg c141])]; exact hmn14)⟩ (by simp only; omega) ⟨rfl, trivial⟩ rfl rfl rfl (by repeat (first | exact List.Sublist.refl _ | refine List.Sublist.cons_cons _ ?_ | refine List.Sublist.cons _ ?_)) (by first | exact List.Sublist.refl _ | exact List.nil_sublist _))
                  ·
                    refine tl_nil (tp_normal ?_)
                    refine tc_false rfl ?_
                    refine tc_skip (tp_normal ?_)
                    refine tc_seq ?_
                    refine tc_seq ?_
                    refine tc_region ?_
                    refine s0 (qv_fa fo_54_3 rfl) ?_
                    refine s0 (qv_ldB (i := 0) sc_3 rfl rfl rfl) ?_
                    refine s0 (qv_move rfl) ?_
                    refine s0 (qv_mulI rfl rfl (by omega)) ?_
                    refine sd (qv_neq rfl rfl) (fun c151 => ?_) (fun c151 => ?_)
                    ·
                      refine s0 (qv_move rfl) ?_
                      refine sk ?_
                      refine sk ?_
                      refine sk ?_
                      refine s0 (qv_pickT rfl rfl) ?_
                      refine tl_nil (tp_normal ?_)
                      refine tc_true rfl ?_
                      refine tc_seq ?_
                      refine tc_region ?_
                      refine s0 (qv_assign rfl) ?_
                      refine tl_nil (tp_normal ?_)
                      refine tc_ret (tp_then_ret (tp_block_ret (tp_then_ret (tp_then_ret (tp_block_ret (tp_block_ret (tp_then_ret (tp_then_ret (tp_block_ret (tp_then_ret (tp_end1 rfl rfl ?_)))))))))))
                      intro w' hm
                      exfalso
                      omega
                    ·
                      refine s0 (qv_move rfl) ?_
                      refine s0g (qv_fa fo_54_2 rfl) ?_
                      refine s0g (qv_ldB (i := 0) sc_3 rfl rfl rfl) ?_
                      refine sdg (qv_lss rfl rfl) (fun c155 => ?_) (fun c155 => ?_)
                      ·
                        refine s0 (qv_pickF rfl rfl) ?_
                        refine tl_nil (tp_normal ?_)
                        refine tc_true rfl ?_
                        refine tc_seq ?_
                        refine tc_region ?_
                        refine s0 (qv_assign rfl) ?_
                        refine tl_nil (tp_normal ?_)
                        refine tc_ret (tp_then_ret (tp_block_ret (tp_then_ret (tp_then_ret (tp_block_ret (tp_block_ret (tp_then_ret (tp_then_ret (tp_block_ret (tp_then_ret (tp_end1 rfl rfl ?_)))))))))))
                        intro w' hm
                        exfalso
                        omega
                      ·
                        refine s0 (qv_pickF rfl rfl) ?_
                        refine tl_nil (tp_normal ?_)
                        refine tc_false rfl ?_
                        refine tc_skip (tp_normal ?_)
                        have hgj := gotj_bd hper0 hc (show q.1 < 5 by omega) hok1 ht12 jj.1 ((e132.credit - (12)), e132.debit, e132.why)
                        have hle := look_ensure (sumsM keyP (fun x => 1000 * x.amount) (gotM per t n l q.1) ((perP per t n l q.1).1.take jj.1)) ((e132.credit - (12)), e132.debit, e132.why) 0
                        refine tc_drawV 13 mixed (by kernel_rfl) (hD_erase 1) ?_
                        refine tu_take (i := 0) (ho := rfl) (qv_move rfl) ?_ (by kernel_rfl) (by kernel_rfl)
                        refine tu_take (i := 1) (ho := rfl) (qv_move rfl) ?_ (by kernel_rfl) (by kernel_rfl)
                        refine tu_take (i := 2) (ho := rfl) (qv_move rfl) ?_ (by kernel_rfl) (by kernel_rfl)
                        refine tu_take (i := 3) (ho := rfl) (qv_fa fo_54_4 rfl) ?_ (by kernel_rfl) (by kernel_rfl)
                        refine tu_take (i := 4) (ho := rfl) (qv_ldB (i := 0) sc_3 rfl rfl rfl) ?_ (by kernel_rfl) (by kernel_rfl)
                        refine tu_take (i := 5) (ho := rfl) (qv_build (cells := #[.int .i64 (e132.credit - (12)), .int .i64 e132.debit, .int .i64 e132.why]) bt_52 rfl (by kernel_rfl)) ?_ (by kernel_rfl) (by kernel_rfl)
                        refine tu_take (i := 7) (ho := rfl) (qv_fa fo_54_2 rfl) ?_ (by kernel_rfl) (by kernel_rfl)
                        refine tu_take (i := 8) (ho := rfl) (qv_ldB (i := 0) sc_3 rfl rfl rfl) ?_ (by kernel_rfl) (by kernel_rfl)
                        refine tu_take (i := 9) (ho := rfl) (qv_mulI rfl rfl (by omega)) ?_ (by kernel_rfl) (by kernel_rfl)
                        refine tu_2 6 11 (by kernel_rfl) (by kernel_rfl) (by kernel_rfl) ?_ ?_
                        ·
                          refine tg_q (qv_lookupM (zv := 0) (k := ((e132.credit - (12)), e132.debit, e132.why)) 1 mt_50 key_52 hJ.2 mz_3 rfl rfl rfl) ?_ (fun w h => hD_erase 1 w h)
                          refine tu_take (i := 10) (ho := rfl) (qv_addI rfl rfl (by omega)) ?_ (by kernel_rfl) (by kernel_rfl)
                          refine tu_one 11 ?_ (by kernel_rfl) (by kernel_rfl) (by kernel_rfl)
                          refine tg_mapEntry (zv := 0) (k := ((e132.credit - (12)), e132.debit, e132.why)) 1 mt_50 key_52 hJ.2 mz_3 (fun om15 bn15 hst15 => ?_) (fun o_ w h => hD_eraseSet 1 _ w h)
                          refine tu_take (i := 12) (ho := rfl) (qv_extract rfl rfl) ?_ (by kernel_rfl) (by kernel_rfl)
                          refine tu_tail rfl rfl rfl (by kernel_rfl) ?_
                          refine tl_entryStore 1 hst15 (fun om16 hmm16 => ?_)
                          have hmn16 : MapIs encA3 (Value.int .i64) (putM (sumsM keyP (fun x => 1000 * x.amount) (gotM per t n l q.1) ((perP per t n l q.1).1.take jj.1)) ((e132.credit - (12)), e132.debit, e132.why) (look (sumsM keyP (fun x => 1000 * x.amount) (gotM per t n l q.1) ((perP per t n l q.1).1.take jj.1)) ((e132.credit - (12)), e132.debit, e132.why) 0 + 1000 * e132.amount)) om16 := by (have h_ := hmm16; simp only [look_ensure, setAt_ensure] at h_; exact h_)
                          refine tl_nil (tp_block_normal (tp_normal ?_))
                          refine tc_region ?_
                          refine s0 (qv_succ rfl rfl (by omega)) ?_
                          refine s0 (qv_move rfl) ?_
                          exact tl_nil (tp_roundG (jj.1 + 1, om16) ⟨by simp only; omega, by (show MapIs encA3 (Value.int .i64) (sumsM keyP (fun x => 1000 * x.amount) (gotM per t n l q.1) ((perP per t n l q.1).1.take (jj.1 + 1))) _; rw [sumsM_take _ _ he132, show keyP e132 = ((e132.credit - (12)), e132.debit, e132.why) by (unfold keyP; first | rw [if_pos c141] | rw [if_neg c141])]; exact hmn16)⟩ (by simp only; omega) ⟨rfl, trivial⟩ rfl rfl rfl (by repeat (first | exact List.Sublist.refl _ | refine List.Sublist.cons_cons _ ?_ | refine List.Sublist.cons _ ?_)) (by first | exact List.Sublist.refl _ | exact List.nil_sublist _))
                        ·
                          refine tg_mapEntry (zv := 0) (k := ((e132.credit - (12)), e132.debit, e132.why)) 1 mt_50 key_52 hJ.2 mz_3 (fun om17 bn17 hst17 => ?_) (fun o_ w h => hD_eraseSet 1 _ w h)
                          refine tu_take (i := 12) (ho := rfl) (qv_extract rfl rfl) ?_ (by kernel_rfl) (by kernel_rfl)
                          refine tu_one 6 ?_ (by kernel_rfl) (by kernel_rfl) (by kernel_rfl)
                          refine tg_q (qv_lookupM (zv := 0) (k := ((e132.credit - (12)), e132.debit, e132.why)) 1 mt_50 key_52 hst17.is mz_3 rfl rfl rfl) ?_ (fun w h => hD_eraseSet 1 _ w h)
                          refine tu_take (i := 10) (ho := rfl) (qv_addI rfl rfl (by omega)) ?_ (by kernel_rfl) (by kernel_rfl)
                          refine tu_tail rfl rfl rfl (by kernel_rfl) ?_
                          refine tl_entryStore 1 hst17 (fun om18 hmm18 => ?_)
                          have hmn18 : MapIs encA3 (Value.int .i64) (putM (sumsM keyP (fun x => 1000 * x.amount) (gotM per t n l q.1) ((perP per t n l q.1).1.take jj.1)) ((e132.credit - (12)), e132.debit, e132.why) (look (sumsM keyP (fun x => 1000 * x.amount) (gotM per t n l q.1) ((perP per t n l q.1).1.take jj.1)) ((e132.credit - (12)), e132.debit, e132.why) 0 + 1000 * e132.amount)) om18 := by (have h_ := hmm18; simp only [look_ensure, setAt_ensure] at h_; exact h_)
                          refine tl_nil (tp_block_normal (tp_normal ?_))
                          refine tc_region ?_
                          refine s0 (qv_succ rfl rfl (by omega)) ?_
                          refine s0 (qv_move rfl) ?_
                          exact tl_nil (tp_roundG (jj.1 + 1, om18) ⟨by simp only; omega, by (show MapIs encA3 (Value.int .i64) (sumsM keyP (fun x => 1000 * x.amount) (gotM per t n l q.1) ((perP per t n l q.1).1.take (jj.1 + 1))) _; rw [sumsM_take _ _ he132, show keyP e132 = ((e132.credit - (12)), e132.debit, e132.why) by (unfold keyP; first | rw [if_pos c141] | rw [if_neg c141])]; exact hmn18)⟩ (by simp only; omega) ⟨rfl, trivial⟩ rfl rfl rfl (by repeat (first | exact List.Sublist.refl _ | refine List.Sublist.cons_cons _ ?_ | refine List.Sublist.cons _ ?_)) (by first | exact List.Sublist.refl _ | exact List.nil_sublist _))
                ·
                  refine tl_nil (tp_normal ?_)
                  refine tc_seq ?_
                  refine tc_false rfl ?_
                  refine tc_exit (tp_then_exit (tp_then_exit (tp_block_exit (tp_block_normal (tp_normal ?_)))))
                  refine tc_region ?_
                  refine s0 (qv_succ rfl rfl (by omega)) ?_
                  refine s0 (qv_move rfl) ?_
                  exact tl_nil (tp_roundG (q.1 + 1, jj.2, ⟨wb116, wa116.heap.size, wb116.heap.size, r116.2.1, r116.2.2⟩) ⟨by simp only; omega, hok1, by (have h_ := hJ.2; rwa [got_end (by omega)] at h_), hr116.2.2, hr116.2.1⟩ (by simp only; omega) ⟨rfl, rfl, trivial⟩ rfl rfl rfl (by repeat (first | exact List.Sublist.refl _ | refine List.Sublist.cons_cons _ ?_ | refine List.Sublist.cons _ ?_)) (by first | exact List.Sublist.refl _ | exact List.nil_sublist _))
          ·
            refine tl_nil (tp_normal ?_)
            refine tc_seq ?_
            refine tc_false rfl ?_
            refine tc_exit (tp_then_exit (tp_then_exit (tp_block_exit (tp_normal ?_))))
            refine tc_seq ?_
            refine tc_seq ?_
            have hp5 : q.1 = 5 := by omega
            have hok5 : OkTo per t n l 5 := hp5 ▸ hI.2.1
            have hrl5 := restsP_len q.1 hI.2.1 ht12
            refine tc_region ?_
            refine s0 (qv_move rfl) ?_
            refine s0 (qv_len st_22 rfl) ?_
            refine s0 (qv_move rfl) ?_
            refine tl_nil (tp_normal ?_)
            refine tc_block (tc_loopG (fun (jj : Nat × Obj) => [(174, .int .i64 (jj.1 : Int))]) (fun (jj : Nat × Obj) => [(0, b80_3, jj.2)]) (fun (jj : Nat × Obj) => []) (fun (jj : Nat × Obj) => [none]) (fun (jj : Nat × Obj) => jj.1 ≤ (restsP per t n l q.1).length ∧ MapIs encA3 (Value.int .i64) (sumsM keyR (fun r => r.milli) (gotM per t n l q.1) ((restsP per t n l q.1).take jj.1)) jj.2) (fun (jj : Nat × Obj) => (restsP per t n l q.1).length - jj.1) ((0, q.2.1)) ⟨Nat.zero_le _, hI.2.2.1⟩ ⟨rfl, trivial⟩ rfl (fun _ h => h) rfl ?_)
            rintro jj hJ
            refine tc_seq ?_
            refine tc_region ?_
            refine sd (qv_lss rfl rfl) (fun c175 => ?_) (fun c175 => ?_)
            ·
              refine tl_nil (tp_normal ?_)
              refine tc_seq ?_
              refine tc_true rfl ?_
              refine tc_skip (tp_normal ?_)
              refine tc_seq ?_
              refine tc_block ?_
              refine tc_seq ?_
              refine tc_region ?_
              refine sn st_22 hI.2.2.2.1 rfl rfl (by omega) (fun e176 he176 => ?_)
              refine s0 (qv_ldEW ag_56 hI.2.2.2.1 (Mem.has_kept (by first | exact .head _ | exact .tail _ (.head _) | exact .tail _ (.tail _ (.head _)) | exact .tail _ (.tail _ (.tail _ (.head _))))) rfl he176) ?_
              refine tl_alloc ze_56 (by decide) (fun b29_8 => ?_)
              refine tl_storeL (i := 0) sz_56 (hI.2.2.2.1.szs _ (List.mem_of_getElem? he176)) (one_56 _) rfl rfl rfl rfl ?_
              refine tl_nil (tp_normal ?_)
              refine tc_seq ?_
              refine tc_seq ?_
              have hrf := rest_fine hI.2.1 (List.mem_of_getElem? he176)
              refine tc_region ?_
              refine s0 (qv_fa fo_56_3 rfl) ?_
              refine s0 (qv_ldB (i := 0) sc_3 rfl rfl rfl) ?_
              refine sd (qv_lss rfl rfl) (fun c180 => ?_) (fun c180 => ?_)
              ·
                refine s0 (qv_move rfl) ?_
                refine sk ?_
                refine sk ?_
                refine sk ?_
                refine s0 (qv_pickT rfl rfl) ?_
                refine tl_nil (tp_normal ?_)
                refine tc_true rfl ?_
                refine tc_seq ?_
                refine tc_region ?_
                refine s0 (qv_assign rfl) ?_
                refine tl_nil (tp_normal ?_)
                refine tc_ret (tp_then_ret (tp_block_ret (tp_then_ret (tp_then_ret (tp_block_ret (tp_then_ret (tp_end1 rfl rfl ?_)))))))
                intro w' hm
                exfalso
                omega
              ·
                refine s0 (qv_move rfl) ?_
                refine s0g (qv_fa fo_56_3 rfl) ?_
                refine s0g (qv_ldB (i := 0) sc_3 rfl rfl rfl) ?_
                refine sdg (qv_gtr rfl rfl) (fun c184 => ?_) (fun c184 => ?_)
                ·
                  refine s0 (qv_pickF rfl rfl) ?_
                  refine tl_nil (tp_normal ?_)
                  refine tc_true rfl ?_
                  refine tc_seq ?_
                  refine tc_region ?_
                  refine s0 (qv_assign rfl) ?_
                  refine tl_nil (tp_normal ?_)
                  refine tc_ret (tp_then_ret (tp_block_ret (tp_then_ret (tp_then_ret (tp_block_ret (tp_then_ret (tp_end1 rfl rfl ?_)))))))
                  intro w' hm
                  exfalso
                  omega
                ·
                  refine s0 (qv_pickF rfl rfl) ?_
                  refine tl_nil (tp_normal ?_)
                  refine tc_false rfl ?_
                  refine tc_skip (tp_normal ?_)
                  have hgj := gote_bd5 hper0 hc hp5 hI.2.1 jj.1 (keyR e176)
                  have hle := look_ensure (sumsM keyR (fun r => r.milli) (gotM per t n l q.1) ((restsP per t n l q.1).take jj.1)) (keyR e176) 0
                  refine tc_drawV 14 mixed (by kernel_rfl) (hD_erase 1) ?_
                  refine tu_take (i := 0) (ho := rfl) (qv_move rfl) ?_ (by kernel_rfl) (by kernel_rfl)
                  refine tu_take (i := 1) (ho := rfl) (qv_fa fo_56_0 rfl) ?_ (by kernel_rfl) (by kernel_rfl)
                  refine tu_take (i := 2) (ho := rfl) (qv_ldB (i := 0) sc_3 rfl rfl rfl) ?_ (by kernel_rfl) (by kernel_rfl)
                  refine tu_take (i := 3) (ho := rfl) (qv_fa fo_56_1 rfl) ?_ (by kernel_rfl) (by kernel_rfl)
                  refine tu_take (i := 4) (ho := rfl) (qv_ldB (i := 0) sc_3 rfl rfl rfl) ?_ (by kernel_rfl) (by kernel_rfl)
                  refine tu_take (i := 5) (ho := rfl) (qv_fa fo_56_2 rfl) ?_ (by kernel_rfl) (by kernel_rfl)
                  refine tu_take (i := 6) (ho := rfl) (qv_ldB (i := 0) sc_3 rfl rfl rfl) ?_ (by kernel_rfl) (by kernel_rfl)
                  refine tu_take (i := 7) (ho := rfl) (qv_build (cells := #[.int .i64 e176.customer, .int .i64 e176.house, .int .i64 e176.kind]) bt_52 rfl (by kernel_rfl)) ?_ (by kernel_rfl) (by kernel_rfl)
                  refine tu_take (i := 9) (ho := rfl) (qv_fa fo_56_3 rfl) ?_ (by kernel_rfl) (by kernel_rfl)
                  refine tu_take (i := 10) (ho := rfl) (qv_ldB (i := 0) sc_3 rfl rfl rfl) ?_ (by kernel_rfl) (by kernel_rfl)
                  refine tu_2 8 12 (by kernel_rfl) (by kernel_rfl) (by kernel_rfl) ?_ ?_
                  ·
                    refine tg_q (qv_lookupM (zv := 0) (k := (keyR e176)) 1 mt_50 key_52 hJ.2 mz_3 rfl rfl rfl) ?_ (fun w h => hD_erase 1 w h)
                    refine tu_take (i := 11) (ho := rfl) (qv_addI rfl rfl (by omega)) ?_ (by kernel_rfl) (by kernel_rfl)
                    refine tu_one 12 ?_ (by kernel_rfl) (by kernel_rfl) (by kernel_rfl)
                    refine tg_mapEntry (zv := 0) (k := (keyR e176)) 1 mt_50 key_52 hJ.2 mz_3 (fun om19 bn19 hst19 => ?_) (fun o_ w h => hD_eraseSet 1 _ w h)
                    refine tu_take (i := 13) (ho := rfl) (qv_extract rfl rfl) ?_ (by kernel_rfl) (by kernel_rfl)
                    refine tu_tail rfl rfl rfl (by kernel_rfl) ?_
                    refine tl_entryStore 1 hst19 (fun om20 hmm20 => ?_)
                    have hmn20 : MapIs encA3 (Value.int .i64) (putM (sumsM keyR (fun r => r.milli) (gotM per t n l q.1) ((restsP per t n l q.1).take jj.1)) (keyR e176) (look (sumsM keyR (fun r => r.milli) (gotM per t n l q.1) ((restsP per t n l q.1).take jj.1)) (keyR e176) 0 + e176.milli)) om20 := by (have h_ := hmm20; simp only [look_ensure, setAt_ensure] at h_; exact h_)
                    refine tl_nil (tp_block_normal (tp_normal ?_))
                    refine tc_region ?_
                    refine s0 (qv_succ rfl rfl (by omega)) ?_
                    refine s0 (qv_move rfl) ?_
                    exact tl_nil (tp_roundG (jj.1 + 1, om20) ⟨by simp only; omega, by (show MapIs encA3 (Value.int .i64) (sumsM keyR (fun r => r.milli) (gotM per t n l q.1) ((restsP per t n l q.1).take (jj.1 + 1))) _; rw [sumsM_take _ _ he176]; exact hmn20)⟩ (by simp only; omega) ⟨rfl, trivial⟩ rfl rfl rfl (by repeat (first | exact List.Sublist.refl _ | refine List.Sublist.cons_cons _ ?_ | refine List.Sublist.cons _ ?_)) (by first | exact List.Sublist.refl _ | exact List.nil_sublist _))
                  ·
                    refine tg_mapEntry (zv := 0) (k := (keyR e176)) 1 mt_50 key_52 hJ.2 mz_3 (fun om21 bn21 hst21 => ?_) (fun o_ w h => hD_eraseSet 1 _ w h)
                    refine tu_take (i := 13) (ho := rfl) (qv_extract rfl rfl) ?_ (by kernel_rfl) (by kernel_rfl)
                    refine tu_one 8 ?_ (by kernel_rfl) (by kernel_rfl) (by kernel_rfl)
                    refine tg_q (qv_lookupM (zv := 0) (k := (keyR e176)) 1 mt_50 key_52 hst21.is mz_3 rfl rfl rfl) ?_ (fun w h => hD_eraseSet 1 _ w h)
                    refine tu_take (i := 11) (ho := rfl) (qv_addI rfl rfl (by omega)) ?_ (by kernel_rfl) (by kernel_rfl)
                    refine tu_tail rfl rfl rfl (by kernel_rfl) ?_
                    refine tl_entryStore 1 hst21 (fun om22 hmm22 => ?_)
                    have hmn22 : MapIs encA3 (Value.int .i64) (putM (sumsM keyR (fun r => r.milli) (gotM per t n l q.1) ((restsP per t n l q.1).take jj.1)) (keyR e176) (look (sumsM keyR (fun r => r.milli) (gotM per t n l q.1) ((restsP per t n l q.1).take jj.1)) (keyR e176) 0 + e176.milli)) om22 := by (have h_ := hmm22; simp only [look_ensure, setAt_ensure] at h_; exact h_)
                    refine tl_nil (tp_block_normal (tp_normal ?_))
                    refine tc_region ?_
                    refine s0 (qv_succ rfl rfl (by omega)) ?_
                    refine s0 (qv_move rfl) ?_
                    exact tl_nil (tp_roundG (jj.1 + 1, om22) ⟨by simp only; omega, by (show MapIs encA3 (Value.int .i64) (sumsM keyR (fun r => r.milli) (gotM per t n l q.1) ((restsP per t n l q.1).take (jj.1 + 1))) _; rw [sumsM_take _ _ he176]; exact hmn22)⟩ (by simp only; omega) ⟨rfl, trivial⟩ rfl rfl rfl (by repeat (first | exact List.Sublist.refl _ | refine List.Sublist.cons_cons _ ?_ | refine List.Sublist.cons _ ?_)) (by first | exact List.Sublist.refl _ | exact List.nil_sublist _))
            ·
              refine tl_nil (tp_normal ?_)
              refine tc_seq ?_
              refine tc_false rfl ?_
              refine tc_exit (tp_then_exit (tp_then_exit (tp_block_exit (tp_normal ?_))))
              refine tc_seq ?_
              refine tc_seq ?_
              have hge : MapIs encA3 (Value.int .i64) (gotE per t n l) jj.2 := by (have h_ := hJ.2; rwa [gotE_end hp5 (by omega)] at h_)
              refine tc_region ?_
              refine s0 (qv_move rfl) ?_
              refine tl_range 1 mt_50 hwm (fun r202 oi202 hri202 => ?_)
              refine tl_nil (tp_normal ?_)
              refine tc_block (tc_loopG (fun (z : (List (K3 × Int) × List (K3 × Int)) × Obj) => []) (fun (z : (List (K3 × Int) × List (K3 × Int)) × Obj) => [(0, r202, z.2)]) (fun (z : (List (K3 × Int) × List (K3 × Int)) × Obj) => []) (fun (z : (List (K3 × Int) × List (K3 × Int)) × Obj) => [none]) (fun (z : (List (K3 × Int) × List (K3 × Int)) × Obj) => RangeIs encA3 (Value.int .i64) b44_1 (wantM t n l l.length) qq.2 z.2 z.1.2 ∧ (z.1.1 ++ z.1.2).Perm (wantM t n l l.length)) (fun (z : (List (K3 × Int) × List (K3 × Int)) × Obj) => z.1.2.length) ((([], (wantM t n l l.length)), oi202)) ⟨hri202, .refl _⟩ trivial rfl (fun _ h => h) rfl ?_)
              rintro z hZ
              refine tc_seq ?_
              refine tc_region ?_
              refine tl_next 2 0 hZ.1 (fun hnil203 => ?_) (fun p203 rest203 oi203 hperm203 hri203 hnow203 => ?_)
              ·
                refine s0 (qv_extract rfl rfl) ?_
                refine tl_nil (tp_normal ?_)
                refine tc_seq ?_
                refine tc_false rfl ?_
                refine tc_exit (tp_then_exit (tp_then_exit (tp_block_exit (tp_normal ?_))))
                refine tc_seq ?_
                refine tc_seq ?_
                refine tc_region ?_
                refine s0 (qv_move rfl) ?_
                refine tl_range 1 mt_50 hge (fun r214 oi214 hri214 => ?_)
                refine tl_nil (tp_normal ?_)
                refine tc_block (tc_loopG (fun (z2 : (List (K3 × Int) × List (K3 × Int)) × Obj) => []) (fun (z2 : (List (K3 × Int) × List (K3 × Int)) × Obj) => [(0, r214, z2.2)]) (fun (z2 : (List (K3 × Int) × List (K3 × Int)) × Obj) => []) (fun (z2 : (List (K3 × Int) × List (K3 × Int)) × Obj) => [none]) (fun (z2 : (List (K3 × Int) × List (K3 × Int)) × Obj) => RangeIs encA3 (Value.int .i64) b80_3 (gotE per t n l) jj.2 z2.2 z2.1.2 ∧ (z2.1.1 ++ z2.1.2).Perm (gotE per t n l)) (fun (z2 : (List (K3 × Int) × List (K3 × Int)) × Obj) => z2.1.2.length) ((([], (gotE per t n l)), oi214)) ⟨hri214, .refl _⟩ trivial rfl (fun _ h => h) rfl ?_)
                rintro z2 hZ2
                refine tc_seq ?_
                refine tc_region ?_
                refine tl_next 2 0 hZ2.1 (fun hnil215 => ?_) (fun p215 rest215 oi215 hperm215 hri215 hnow215 => ?_)
                ·
                  refine s0 (qv_extract rfl rfl) ?_
                  refine tl_nil (tp_normal ?_)
                  refine tc_seq ?_
                  refine tc_false rfl ?_
                  refine tc_exit (tp_then_exit (tp_then_exit (tp_block_exit (tp_normal ?_))))
                  refine tc_seq ?_
                  refine tc_region ?_
                  refine s0 (qv_call fn_15 rfl (fun w hm => sanity9_calls w)) ?_
                  refine s0 (qv_assign rfl) ?_
                  refine tl_nil (tp_normal ?_)
                  refine tc_ret (tp_end1 rfl rfl ?_)
                  intro w' hm
                  exact ⟨rfl, hm.below⟩
                ·
                  refine s0 (qv_extract rfl rfl) ?_
                  refine tl_nil (tp_normal ?_)
                  refine tc_seq ?_
                  refine tc_true rfl ?_
                  refine tc_skip (tp_normal ?_)
                  refine tc_block ?_
                  refine tc_seq ?_
                  refine tc_region ?_
                  refine tl_entry 2 0 hnow215 ?_
                  refine s0 (qv_extract rfl rfl) ?_
                  refine s0 (qv_extract rfl rfl) ?_
                  refine tl_alloc ze_52 (by decide) (fun b32_9 => ?_)
                  refine tl_storeO (i := 0) sz_52 rfl rfl rfl rfl rfl rfl rfl ?_
                  refine s0 (qv_assign rfl) ?_
                  refine tl_nil (tp_normal ?_)
                  refine tc_seq ?_
                  refine tc_region ?_
                  refine s0 (qv_move rfl) ?_
                  refine s0 (qv_ldBW (i := 0) ag_52 rfl rfl rfl) ?_
                  refine s0 (qv_lookupM (zv := 0) (k := p215.1) 4 mt_50 key_52 hwm mz_3 rfl rfl rfl) ?_
                  refine s0 (qv_move rfl) ?_
                  refine sd (qv_neq rfl rfl) (fun c224 => ?_) (fun c224 => ?_)
                  ·
                    refine tl_nil (tp_normal ?_)
                    refine tc_true rfl ?_
                    refine tc_seq ?_
                    refine tc_region ?_
                    refine s0 (qv_assign rfl) ?_
                    refine tl_nil (tp_normal ?_)
                    refine tc_ret (tp_block_ret (tp_then_ret (tp_block_ret (tp_then_ret (tp_end1 rfl rfl ?_)))))
                    intro w' hm
                    exact absurd (got_entry hper0 hok5 hge hZ2.2 hperm215) c224
                  ·
                    refine tl_nil (tp_normal ?_)
                    refine tc_false rfl ?_
                    exact tc_skip (tp_block_normal (tp_roundG (((z2.1.1 ++ [p215], rest215), oi215)) ⟨hri215, perm_step hZ2.2 hperm215⟩ (by (have h_ := hperm215.length_eq; simp only [List.length_cons] at h_; simp only; omega)) trivial rfl rfl rfl (by repeat (first | exact List.Sublist.refl _ | refine List.Sublist.cons_cons _ ?_ | refine List.Sublist.cons _ ?_)) (by first | exact List.Sublist.refl _ | exact List.nil_sublist _)))
              ·
                refine s0 (qv_extract rfl rfl) ?_
                refine tl_nil (tp_normal ?_)
                refine tc_seq ?_
                refine tc_true rfl ?_
                refine tc_skip (tp_normal ?_)
                refine tc_block ?_
                refine tc_seq ?_
                refine tc_region ?_
                refine tl_entry 2 0 hnow203 ?_
                refine s0 (qv_extract rfl rfl) ?_
                refine s0 (qv_extract rfl rfl) ?_
                refine tl_alloc ze_52 (by decide) (fun b30_10 => ?_)
                refine tl_storeO (i := 0) sz_52 rfl rfl rfl rfl rfl rfl rfl ?_
                refine s0 (qv_assign rfl) ?_
                refine tl_nil (tp_normal ?_)
                refine tc_seq ?_
                refine tc_region ?_
                refine s0 (qv_move rfl) ?_
                refine s0 (qv_ldBW (i := 0) ag_52 rfl rfl rfl) ?_
                refine s0 (qv_lookupM (zv := 0) (k := p203.1) 2 mt_50 key_52 hge mz_3 rfl rfl rfl) ?_
                refine s0 (qv_move rfl) ?_
                refine sd (qv_neq rfl rfl) (fun c212 => ?_) (fun c212 => ?_)
                ·
                  refine tl_nil (tp_normal ?_)
                  refine tc_true rfl ?_
                  refine tc_seq ?_
                  refine tc_region ?_
                  refine s0 (qv_assign rfl) ?_
                  refine tl_nil (tp_normal ?_)
                  refine tc_ret (tp_block_ret (tp_then_ret (tp_block_ret (tp_then_ret (tp_end1 rfl rfl ?_)))))
                  intro w' hm
                  exact absurd (want_entry hper0 hok5 hwm hZ.2 hperm203) c212
                ·
                  refine tl_nil (tp_normal ?_)
                  refine tc_false rfl ?_
                  exact tc_skip (tp_block_normal (tp_roundG (((z.1.1 ++ [p203], rest203), oi203)) ⟨hri203, perm_step hZ.2 hperm203⟩ (by (have h_ := hperm203.length_eq; simp only [List.length_cons] at h_; simp only; omega)) trivial rfl rfl rfl (by repeat (first | exact List.Sublist.refl _ | refine List.Sublist.cons_cons _ ?_ | refine List.Sublist.cons _ ?_)) (by first | exact List.Sublist.refl _ | exact List.nil_sublist _)))
  ·
    refine s0 (qv_not rfl) ?_
    refine s0 (qv_move rfl) ?_
    refine sk ?_
    refine sk ?_
    refine sk ?_
    refine s0 (qv_pickT rfl rfl) ?_
    refine tl_nil (tp_normal ?_)
    refine tc_true rfl ?_
    refine tc_seq ?_
    refine tc_region ?_
    refine s0 (qv_call fn_15 rfl (fun w hm => sanity9_calls w)) ?_
    refine s0 (qv_assign rfl) ?_
    refine tl_nil (tp_normal ?_)
    refine tc_ret (tp_then_ret (tp_end1 rfl rfl ?_))
    intro w' hm
    exact ⟨rfl, hm.below⟩
end Go.Q
