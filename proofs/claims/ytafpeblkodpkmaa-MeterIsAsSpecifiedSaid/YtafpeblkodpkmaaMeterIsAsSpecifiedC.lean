/- A part of the proof: see the last text. -/
import Derived.WalkKit
import Derived.Deep.Quiet
import Derived.KernelRfl
import Derived.RangeFuncNested
import Derived.RangeFuncCalls
import Derived.OrdersIn
import Derived.TacticsIn
import Derived.Maps.AppendAt
import Derived.OwnWalkIn
import Derived.Maps.RangeRun
import Derived.Laws.StructEq
import Derived.Shelf.SlSortCmp.InsertionK
import Derived.Sort.OwnSortedInts
import Derived.OpenShut
import Derived.WideShapes
import Derived.ChangeArms
import Derived.ChangeKeysEq
import GoSem.Core.Value
import Derived.Test.YtafpeblkodpkmaaProg
import Derived.Sort.Grow
import Derived.Deep.Draws
import Derived.Shelf.SlSortCmp.NoneTotal
import Derived.Shelf.Small.Bits
import Derived.Test.YtafpeblkodpkmaaShelf
import Derived.Test.YtafpeblkodpkmaaMeterIsAsSpecifiedB
set_option linter.unusedVariables false
set_option linter.unusedSimpArgs false
set_option linter.unusedSectionVars false
namespace Go.Q
open Go Go.Proofs Go.RowKit
theorem st_23 : SliceTy Try.prog 23 3 := ⟨113, by kernel_rfl, fun w => by kernel_rfl⟩
theorem fn_49 : IsFn Try.prog 49 := isFn_of Try.func49 (by kernel_rfl) rfl
theorem fo_113_1 : FOff Try.prog 113 1 1 := fun b o w => by kernel_rfl
theorem fo_113_2 : FOff Try.prog 113 2 2 := fun b o w => by kernel_rfl
theorem fn_92 : IsFn Try.prog 92 := isFn_of Try.func92 (by kernel_rfl) rfl
theorem fn_93 : IsFn Try.prog 93 := isFn_of Try.func93 (by kernel_rfl) rfl
theorem fn_94 : IsFn Try.prog 94 := isFn_of Try.func94 (by kernel_rfl) rfl
theorem ze_126 : Zero Try.prog 126 #[.int .i64 0, .int .i64 0, .nilFunc] := fun w => ⟨.agg #[.int .i64 0, .int .i64 0, .nilFunc], by kernel_rfl, rfl⟩
theorem bt_126 : BuildTy Try.prog 126 #[(0, 1), (1, 1), (2, 1)] #[.int .i64 0, .int .i64 0, .nilFunc] := ⟨_, Try.underlying126, fun w => by kernel_rfl, ze_126⟩
theorem sz_126 : Size Try.prog 126 3 := fun w => by kernel_rfl
theorem bsl_122_3 : BuildSl Try.prog 122 3 126 3 #[.int .i64 0, .int .i64 0, .nilFunc, .int .i64 0, .int .i64 0, .nilFunc, .int .i64 0, .int .i64 0, .nilFunc] := ⟨Try.underlying122, sz_126, by decide, by decide, _, ze_126, by kernel_rfl⟩
theorem ag_113 : Agg Try.prog 113 3 := fun w => ⟨by kernel_rfl, by kernel_rfl⟩
theorem ze_113 : Zero Try.prog 113 #[.int .i64 0, .int .i64 0, .int .i64 0] := fun w => ⟨.agg #[.int .i64 0, .int .i64 0, .int .i64 0], by kernel_rfl, rfl⟩
theorem sz_113 : Size Try.prog 113 3 := fun w => by kernel_rfl
theorem fo_113_0 : FOff Try.prog 113 0 0 := fun b o w => by kernel_rfl
theorem st_27 : SliceTy Try.prog 27 8 := ⟨34, by kernel_rfl, fun w => by kernel_rfl⟩
theorem ag_34 : Agg Try.prog 34 8 := fun w => ⟨by kernel_rfl, by kernel_rfl⟩
theorem ze_34 : Zero Try.prog 34 #[.int .i64 0, .int .i64 0, .int .i64 0, .int .i64 0, .int .i64 0, .int .i64 0, .int .i64 0, .slice none 0 0] := fun w => ⟨.agg #[.int .i64 0, .int .i64 0, .int .i64 0, .int .i64 0, .int .i64 0, .int .i64 0, .int .i64 0, .slice none 0 0], by kernel_rfl, rfl⟩
theorem sz_34 : Size Try.prog 34 8 := fun w => by kernel_rfl
theorem fo_34_0 : FOff Try.prog 34 0 0 := fun b o w => by kernel_rfl
theorem fo_34_1 : FOff Try.prog 34 1 1 := fun b o w => by kernel_rfl
theorem fo_34_2 : FOff Try.prog 34 2 2 := fun b o w => by kernel_rfl
theorem fn_50 : IsFn Try.prog 50 := isFn_of Try.func50 (by kernel_rfl) rfl
theorem fo_34_3 : FOff Try.prog 34 3 3 := fun b o w => by kernel_rfl
theorem fo_34_5 : FOff Try.prog 34 5 5 := fun b o w => by kernel_rfl
theorem fo_34_4 : FOff Try.prog 34 4 4 := fun b o w => by kernel_rfl
theorem fn_51 : IsFn Try.prog 51 := isFn_of Try.func51 (by kernel_rfl) rfl
theorem st_122 : SliceTy Try.prog 122 3 := ⟨126, by kernel_rfl, fun w => by kernel_rfl⟩
theorem ag_126 : Agg Try.prog 126 3 := fun w => ⟨by kernel_rfl, by kernel_rfl⟩
theorem fo_126_0 : FOff Try.prog 126 0 0 := fun b o w => by kernel_rfl
theorem fo_34_6 : FOff Try.prog 34 6 6 := fun b o w => by kernel_rfl
theorem fo_126_1 : FOff Try.prog 126 1 1 := fun b o w => by kernel_rfl
theorem bsl_27_1 : BuildSl Try.prog 27 1 34 8 #[.int .i64 0, .int .i64 0, .int .i64 0, .int .i64 0, .int .i64 0, .int .i64 0, .int .i64 0, .slice none 0 0] := ⟨Try.underlying27, sz_34, by decide, by decide, _, ze_34, by kernel_rfl⟩
theorem fn_16 : IsFn Try.prog 16 := isFn_of Try.func16 (by kernel_rfl) rfl
theorem fo_126_2 : FOff Try.prog 126 2 2 := fun b o w => by kernel_rfl
theorem sc_124 : Scalar Try.prog 124 := fun w => by kernel_rfl
theorem fo_34_7 : FOff Try.prog 34 7 7 := fun b o w => by kernel_rfl
theorem sc_32 : Scalar Try.prog 32 := fun w => by kernel_rfl
theorem fn_25 : IsFn Try.prog 25 := isFn_of Try.func25 (by kernel_rfl) rfl
theorem fn_24 : IsFn Try.prog 24 := isFn_of Try.func24 (by kernel_rfl) rfl
theorem fn_52 : IsFn Try.prog 52 := isFn_of Try.func52 (by kernel_rfl) rfl
theorem fn_53 : IsFn Try.prog 53 := isFn_of Try.func53 (by kernel_rfl) rfl
theorem ze_38 : Zero Try.prog 38 #[.int .i64 0, .int .i64 0] := fun w => ⟨.agg #[.int .i64 0, .int .i64 0], by kernel_rfl, rfl⟩
theorem fn_17 : IsFn Try.prog 17 := isFn_of Try.func17 (by kernel_rfl) rfl
theorem bt_38 : BuildTy Try.prog 38 #[(0, 1), (1, 1)] #[.int .i64 0, .int .i64 0] := ⟨_, Try.underlying38, fun w => by kernel_rfl, ze_38⟩
theorem sz_38 : Size Try.prog 38 2 := fun w => by kernel_rfl
theorem ag_38 : Agg Try.prog 38 2 := fun w => ⟨by kernel_rfl, by kernel_rfl⟩
theorem fn_54 : IsFn Try.prog 54 := isFn_of Try.func54 (by kernel_rfl) rfl
theorem fn_55 : IsFn Try.prog 55 := isFn_of Try.func55 (by kernel_rfl) rfl
theorem fo_129_0 : FOff Try.prog 129 0 0 := fun b o w => by kernel_rfl
theorem ze_114 : Zero Try.prog 114 #[.int .i64 0, .int .i64 0, .int .i64 0, .int .i64 0, .int .i64 0, .int .i64 0, .int .i64 0, .int .i64 0, .int .i64 0, .int .i64 0, .int .i64 0, .int .i64 0, .int .i64 0, .int .i64 0, .int .i64 0, .int .i64 0, .int .i64 0, .int .i64 0, .int .i64 0, .int .i64 0, .int .i64 0, .int .i64 0, .int .i64 0, .int .i64 0] := fun w => ⟨.agg #[.int .i64 0, .int .i64 0, .int .i64 0, .int .i64 0, .int .i64 0, .int .i64 0, .int .i64 0, .int .i64 0, .int .i64 0, .int .i64 0, .int .i64 0, .int .i64 0, .int .i64 0, .int .i64 0, .int .i64 0, .int .i64 0, .int .i64 0, .int .i64 0, .int .i64 0, .int .i64 0, .int .i64 0, .int .i64 0, .int .i64 0, .int .i64 0], by kernel_rfl, rfl⟩
theorem sz_3 : Size Try.prog 3 1 := fun w => by kernel_rfl
theorem ag_114 : Agg Try.prog 114 24 := fun w => ⟨by kernel_rfl, by kernel_rfl⟩
theorem sz_114 : Size Try.prog 114 24 := fun w => by kernel_rfl
abbrev pricesL : List Price := pricesOf 92 93 94
theorem one_113 (x : Tariff) : ∀ u ∈ encTar x, u.oneCell' = true := by
  intro u hu
  simp [encTar] at hu
  rcases hu with rfl | rfl | rfl <;> rfl
theorem one_34 (x : Use) : ∀ u ∈ encUse x, u.oneCell' = true := by
  intro u hu
  simp [encUse] at hu
  rcases hu with rfl | rfl | rfl | rfl | rfl | rfl | rfl | rfl <;> rfl
theorem one_126 (x : Price) : ∀ u ∈ encPrice x, u.oneCell' = true := by
  intro u hu
  simp [encPrice] at hu
  rcases hu with rfl | rfl | rfl <;> rfl
set_option maxRecDepth 100000 in
theorem within_calls (w : World) (n m : Int)  :
    Calls Try.prog 49 #[.int .i64 n, .int .i64 m] w (fun e w' => e = .returned (.bool (decide (inTo n m))) ∧ Below w.heap.size w w') := by
  refine calls_of_tc (N := 12) (vs := [.int .i64 n, .int .i64 m]) Try.func49 rfl rfl (Nat.le_of_ble_eq_true rfl) ?_
  refine tc_seq ?_
  refine tc_region ?_
  refine s0 (qv_assign rfl) ?_
  refine tl_nil (tp_normal ?_)
  refine tc_seq ?_
  refine tc_region ?_
  refine s0 (qv_move rfl) ?_
  refine sd (qv_geq rfl rfl) (fun c6 => ?_) (fun c6 => ?_)
  ·
    refine s0 (qv_move rfl) ?_
    refine s0g (qv_move rfl) ?_
    refine s0g (qv_move rfl) ?_
    refine s0g (qv_leq rfl rfl) ?_
    refine s0 (qv_pickT rfl rfl) ?_
    refine s0 (qv_assign rfl) ?_
    refine tl_nil (tp_normal ?_)
    refine tc_ret (tp_end1 rfl rfl ?_)
    intro w' hm
    exact ⟨by simp [inTo, *], hm.below⟩
  ·
    refine s0 (qv_move rfl) ?_
    refine sk ?_
    refine sk ?_
    refine sk ?_
    refine s0 (qv_pickF rfl rfl) ?_
    refine s0 (qv_assign rfl) ?_
    refine tl_nil (tp_normal ?_)
    refine tc_ret (tp_end1 rfl rfl ?_)
    intro w' hm
    exact ⟨by simp [inTo, *], hm.below⟩
set_option maxRecDepth 100000 in
theorem party_calls (w : World) (t : List Tariff) (ta : Option Addr) (tc : Nat) (kind house customer : Int) (hlent : t.length ≤ 1000000000000000) :
    Calls Try.prog 50 #[.slice ta t.length tc, .int .i64 kind, .int .i64 house, .int .i64 customer] w (fun e w' => e = .returned (.bool (decide (partyIs t kind house customer))) ∧ Below w.heap.size w w') := by
  refine calls_of_tc (N := 26) (vs := [.slice ta t.length tc, .int .i64 kind, .int .i64 house, .int .i64 customer]) Try.func50 rfl rfl (Nat.le_of_ble_eq_true rfl) ?_
  refine tc_seq ?_
  refine tc_region ?_
  refine s0 (qv_assign rfl) ?_
  refine tl_nil (tp_normal ?_)
  refine tc_seq ?_
  refine tc_region ?_
  refine s0 (qv_move rfl) ?_
  refine sd (qv_geq rfl rfl) (fun c10 => ?_) (fun c10 => ?_)
  ·
    refine s0 (qv_move rfl) ?_
    refine s0g (qv_move rfl) ?_
    refine sdg (qv_leq rfl rfl) (fun c13 => ?_) (fun c13 => ?_)
    ·
      refine s0 (qv_pickT rfl rfl) ?_
      refine s0 (qv_move rfl) ?_
      refine s0g (qv_move rfl) ?_
      refine s0g (qv_move rfl) ?_
      refine s0g (qv_len st_23 rfl) ?_
      refine s0g (qv_subI rfl rfl (by omega)) ?_
      refine sdg (qv_call fn_49 rfl (fun w hm => within_calls w house ((t.length : Int) - (1)))) (fun c20 => ?_) (fun c20 => ?_)
      ·
        refine s0 (qv_pickT rfl rfl) ?_
        refine s0 (qv_move rfl) ?_
        refine s0g (qv_move rfl) ?_
        refine s0g (qv_call fn_49 rfl (fun w hm => within_calls w customer (27))) ?_
        refine s0 (qv_pickT rfl rfl) ?_
        refine s0 (qv_assign rfl) ?_
        refine tl_nil (tp_normal ?_)
        refine tc_ret (tp_end1 rfl rfl ?_)
        intro w' hm
        first | exact ⟨by rw [decide_eq_false (p := partyIs t kind house customer) (by simp only [partyIs, inTo] at *; omega)], hm.below⟩ | exact ⟨by rw [decide_eq_true (p := partyIs t kind house customer) (by simp only [partyIs, inTo] at *; omega)], hm.below⟩ | exact ⟨by rw [show decide (inTo customer 27) = decide (partyIs t kind house customer) from decide_eq_decide.2 (by simp only [partyIs, inTo] at *; omega)], hm.below⟩
      ·
        refine s0 (qv_pickT rfl rfl) ?_
        refine s0 (qv_move rfl) ?_
        refine sk ?_
        refine sk ?_
        refine s0 (qv_pickF rfl rfl) ?_
        refine s0 (qv_assign rfl) ?_
        refine tl_nil (tp_normal ?_)
        refine tc_ret (tp_end1 rfl rfl ?_)
        intro w' hm
        first | exact ⟨by rw [decide_eq_false (p := partyIs t kind house customer) (by simp only [partyIs, inTo] at *; omega)], hm.below⟩ | exact ⟨by rw [decide_eq_true (p := partyIs t kind house customer) (by simp only [partyIs, inTo] at *; omega)], hm.below⟩ | exact ⟨by rw [show decide (inTo customer 27) = decide (partyIs t kind house customer) from decide_eq_decide.2 (by simp only [partyIs, inTo] at *; omega)], hm.below⟩
    ·
      refine s0 (qv_pickT rfl rfl) ?_
      refine s0 (qv_move rfl) ?_
      refine sk ?_
      refine sk ?_
      refine sk ?_
      refine sk ?_
      refine sk ?_
      refine s0 (qv_pickF rfl rfl) ?_
      refine s0 (qv_move rfl) ?_
      refine sk ?_
      refine sk ?_
      refine s0 (qv_pickF rfl rfl) ?_
      refine s0 (qv_assign rfl) ?_
      refine tl_nil (tp_normal ?_)
      refine tc_ret (tp_end1 rfl rfl ?_)
      intro w' hm
      first | exact ⟨by rw [decide_eq_false (p := partyIs t kind house customer) (by simp only [partyIs, inTo] at *; omega)], hm.below⟩ | exact ⟨by rw [decide_eq_true (p := partyIs t kind house customer) (by simp only [partyIs, inTo] at *; omega)], hm.below⟩ | exact ⟨by rw [show decide (inTo customer 27) = decide (partyIs t kind house customer) from decide_eq_decide.2 (by simp only [partyIs, inTo] at *; omega)], hm.below⟩
  ·
    refine s0 (qv_move rfl) ?_
    refine sk ?_
    refine sk ?_
    refine s0 (qv_pickF rfl rfl) ?_
    refine s0 (qv_move rfl) ?_
    refine sk ?_
    refine sk ?_
    refine sk ?_
    refine sk ?_
    refine sk ?_
    refine s0 (qv_pickF rfl rfl) ?_
    refine s0 (qv_move rfl) ?_
    refine sk ?_
    refine sk ?_
    refine s0 (qv_pickF rfl rfl) ?_
    refine s0 (qv_assign rfl) ?_
    refine tl_nil (tp_normal ?_)
    refine tc_ret (tp_end1 rfl rfl ?_)
    intro w' hm
    first | exact ⟨by rw [decide_eq_false (p := partyIs t kind house customer) (by simp only [partyIs, inTo] at *; omega)], hm.below⟩ | exact ⟨by rw [decide_eq_true (p := partyIs t kind house customer) (by simp only [partyIs, inTo] at *; omega)], hm.below⟩ | exact ⟨by rw [show decide (inTo customer 27) = decide (partyIs t kind house customer) from decide_eq_decide.2 (by simp only [partyIs, inTo] at *; omega)], hm.below⟩
set_option maxRecDepth 100000 in
theorem each1_calls (w : World) (x : Tariff)  :
    Calls Try.prog 92 #[.agg (encTar x).toArray] w (fun e w' => e = .returned (.int .i64 x.read) ∧ Below w.heap.size w w') := by
  refine calls_of_tc (N := 5) (vs := [.agg (encTar x).toArray]) Try.func92 rfl rfl (Nat.le_of_ble_eq_true rfl) ?_
  refine tc_seq ?_
  refine tc_region ?_
  refine tl_box rfl (by decide) (fun b1_0 => ?_)
  refine s0 (qv_assign rfl) ?_
  refine tl_nil (tp_normal ?_)
  refine tc_seq ?_
  refine tc_region ?_
  refine s0 (qv_fa fo_113_1 rfl) ?_
  refine s0 (qv_ldB (i := 0) sc_3 rfl rfl rfl) ?_
  refine s0 (qv_assign rfl) ?_
  refine tl_nil (tp_normal ?_)
  refine tc_ret (tp_end1 rfl rfl ?_)
  intro w' hm
  exact ⟨rfl, hm.below⟩
set_option maxRecDepth 100000 in
theorem each2_calls (w : World) (x : Tariff)  :
    Calls Try.prog 93 #[.agg (encTar x).toArray] w (fun e w' => e = .returned (.int .i64 x.audit) ∧ Below w.heap.size w w') := by
  refine calls_of_tc (N := 5) (vs := [.agg (encTar x).toArray]) Try.func93 rfl rfl (Nat.le_of_ble_eq_true rfl) ?_
  refine tc_seq ?_
  refine tc_region ?_
  refine tl_box rfl (by decide) (fun b1_0 => ?_)
  refine s0 (qv_assign rfl) ?_
  refine tl_nil (tp_normal ?_)
  refine tc_seq ?_
  refine tc_region ?_
  refine s0 (qv_fa fo_113_2 rfl) ?_
  refine s0 (qv_ldB (i := 0) sc_3 rfl rfl rfl) ?_
  refine s0 (qv_assign rfl) ?_
  refine tl_nil (tp_normal ?_)
  refine tc_ret (tp_end1 rfl rfl ?_)
  intro w' hm
  exact ⟨rfl, hm.below⟩
set_option maxRecDepth 100000 in
theorem each3_calls (w : World) (x : Tariff)  :
    Calls Try.prog 94 #[.agg (encTar x).toArray] w (fun e w' => e = .returned (.int .i64 1000) ∧ Below w.heap.size w w') := by
  refine calls_of_tc (N := 3) (vs := [.agg (encTar x).toArray]) Try.func94 rfl rfl (Nat.le_of_ble_eq_true rfl) ?_
  refine tc_seq ?_
  refine tc_region ?_
  refine tl_box rfl (by decide) (fun b1_0 => ?_)
  refine s0 (qv_assign rfl) ?_
  refine tl_nil (tp_normal ?_)
  refine tc_seq ?_
  refine tc_region ?_
  refine s0 (qv_assign rfl) ?_
  refine tl_nil (tp_normal ?_)
  refine tc_ret (tp_end1 rfl rfl ?_)
  intro w' hm
  exact ⟨rfl, hm.below⟩
theorem fn_price {p : Price} (hp : p ∈ pricesL) : IsFn Try.prog p.fn := by
  simp only [pricesOf, List.mem_cons, List.not_mem_nil, or_false] at hp
  rcases hp with rfl | rfl | rfl
  · exact fn_92
  · exact fn_93
  · exact fn_94
theorem each_calls (w : World) (p : Price) (hp : p ∈ pricesL) (x : Tariff) : Calls Try.prog p.fn #[.agg (encTar x).toArray] w (fun e w' => e = .returned (.int .i64 (eachOf p.kind x)) ∧ Below w.heap.size w w') := by
  simp only [pricesOf, List.mem_cons, List.not_mem_nil, or_false] at hp
  rcases hp with rfl | rfl | rfl
  · exact each1_calls w x
  · exact each2_calls w x
  · exact each3_calls w x
set_option maxRecDepth 100000 in
theorem prices_calls (w : World)   :
    Calls Try.prog 51 #[] w (fun e w' => ∃ r : Option Addr × Nat, e = .returned (.slice r.1 pricesL.length r.2) ∧ Below w.heap.size w w' ∧ (pricesL.length ≤ r.2 ∧ SlAt w' w.heap.size w'.heap.size 3 encPrice r.1 pricesL)) := by
  refine calls_of_tc (N := 5) (vs := []) Try.func51 rfl rfl (Nat.le_of_ble_eq_true rfl) ?_
  refine tc_seq ?_
  refine tc_region ?_
  refine s0 (qv_assign rfl) ?_
  refine tl_nil (tp_normal ?_)
  refine tc_seq ?_
  refine tc_region ?_
  refine s0 (qv_build bt_126 rfl rfl) ?_
  refine s0 (qv_build bt_126 rfl rfl) ?_
  refine s0 (qv_build bt_126 rfl rfl) ?_
  refine tl_buildSliceL (enc := encPrice) pricesL bsl_122_3 (fun b4_0 => ?_) rfl (by kernel_rfl)
  have hsb4_0 := SlAt.ofBox (enc := encPrice) (sz := 3) (b := b4_0) (E := 126) (l := pricesL) (Nat.le_of_ble_eq_true rfl) (fun x hx => rfl)
  refine s0 (qv_assign rfl) ?_
  refine tl_nil (tp_normal ?_)
  refine tc_ret (tp_end1 rfl rfl ?_)
  intro w' hm
  have h_ := (Mem.has_box (b := b4_0) (by first | exact .head _ | exact .tail _ (.head _))) _ hm
  exact ⟨(some ⟨b4_0, 0, none⟩, 3), rfl, hm.below, Nat.le_refl 3, hsb4_0.move h_.2 (hm.boxOf (List.mem_of_getElem? (i := 0) rfl)).1 h_.1⟩
set_option maxRecDepth 100000 in
set_option maxHeartbeats 4000000 in
theorem mcheck_calls (w : World) (t : List Tariff) (ta : Option Addr) (tc : Nat) (l : List Use) (la : Option Addr) (lc : Nat) (ht : SlIn w 3 encTar ta t) (hl : SlIn w 8 encUse la l) :
    Calls Try.prog 16 #[.slice ta t.length tc, .slice la l.length lc] w (fun e w' => e = .returned (.int .i64 (meterCheck t l)) ∧ Below w.heap.size w w') := by
  have hlent := ht.len
  simp only [maxLen] at hlent
  have hlenu := hl.len
  simp only [maxLen] at hlenu
  have hpl : pricesL.length = 3 := rfl
  refine calls_of_tc (N := 99) (vs := [.slice ta t.length tc, .slice la l.length lc]) Try.func16 rfl rfl (Nat.le_of_ble_eq_true rfl) ?_
  refine tc_seq ?_
  refine tc_region ?_
  refine s0 (qv_assign rfl) ?_
  refine tl_nil (tp_normal ?_)
  refine tc_seq ?_
  refine tc_seq ?_
  refine tc_region ?_
  refine s0 (qv_move rfl) ?_
  refine s0 (qv_len st_23 rfl) ?_
  refine sd (qv_gtr rfl rfl) (fun c13 => ?_) (fun c13 => ?_)
  ·
    refine tl_nil (tp_normal ?_)
    refine tc_true rfl ?_
    refine tc_seq ?_
    refine tc_region ?_
    refine s0 (qv_assign rfl) ?_
    refine tl_nil (tp_normal ?_)
    refine tc_ret (tp_then_ret (tp_end1 rfl rfl ?_))
    intro w' hm
    exact ⟨by rw [meterCheck, if_pos (by omega)], hm.below⟩
  ·
    refine tl_nil (tp_normal ?_)
    refine tc_false rfl ?_
    refine tc_skip (tp_normal ?_)
    refine tc_seq ?_
    refine tc_seq ?_
    refine tc_region ?_
    refine s0 (qv_move rfl) ?_
    refine s0 (qv_len st_23 rfl) ?_
    refine s0 (qv_move rfl) ?_
    refine tl_nil (tp_normal ?_)
    refine tc_block (tc_loopS (fun (k : Nat) => [(16, .int .i64 (k : Int))]) (fun (k : Nat) => k ≤ t.length ∧ meterCheck t l = checkFrom t l k) (fun (k : Nat) => t.length - k) (0) ⟨Nat.zero_le _, checkFrom_zero (by omega)⟩ ⟨rfl, trivial⟩ ?_)
    rintro k hI
    refine tc_seq ?_
    refine tc_region ?_
    refine sd (qv_lss rfl rfl) (fun c17 => ?_) (fun c17 => ?_)
    ·
      refine tl_nil (tp_normal ?_)
      refine tc_seq ?_
      refine tc_true rfl ?_
      refine tc_skip (tp_normal ?_)
      refine tc_seq ?_
      refine tc_block ?_
      refine tc_seq ?_
      refine tc_region ?_
      refine sn st_23 ht rfl rfl (by omega) (fun e18 he18 => ?_)
      refine s0 (qv_ldEW ag_113 ht Mem.has_base rfl he18) ?_
      refine tl_alloc ze_113 (by decide) (fun b6_0 => ?_)
      refine tl_storeL (i := 0) sz_113 (ht.szs _ (List.mem_of_getElem? he18)) (one_113 _) rfl rfl rfl rfl ?_
      refine tl_nil (tp_normal ?_)
      refine tc_seq ?_
      refine tc_region ?_
      refine s0 (qv_fa fo_113_0 rfl) ?_
      refine s0 (qv_ldB (i := 0) sc_3 rfl rfl rfl) ?_
      refine sd (qv_call fn_49 rfl (fun w hm => within_calls w e18.keep (1000))) (fun c22 => ?_) (fun c22 => ?_)
      ·
        refine s0 (qv_not rfl) ?_
        refine s0 (qv_move rfl) ?_
        refine s0g (qv_fa fo_113_1 rfl) ?_
        refine s0g (qv_ldB (i := 0) sc_3 rfl rfl rfl) ?_
        refine sdg (qv_call fn_49 rfl (fun w hm => within_calls w e18.read (1000))) (fun c27 => ?_) (fun c27 => ?_)
        ·
          refine s0g (qv_not rfl) ?_
          refine s0 (qv_pickF rfl rfl) ?_
          refine s0 (qv_move rfl) ?_
          refine s0g (qv_fa fo_113_2 rfl) ?_
          refine s0g (qv_ldB (i := 0) sc_3 rfl rfl rfl) ?_
          refine sdg (qv_call fn_49 rfl (fun w hm => within_calls w e18.audit (1000))) (fun c33 => ?_) (fun c33 => ?_)
          ·
            refine s0g (qv_not rfl) ?_
            refine s0 (qv_pickF rfl rfl) ?_
            refine tl_nil (tp_normal ?_)
            refine tc_false rfl ?_
            refine tc_skip (tp_block_normal (tp_normal ?_))
            refine tc_region ?_
            refine s0 (qv_succ rfl rfl (by omega)) ?_
            refine s0 (qv_move rfl) ?_
            exact tl_nil (tp_roundS (k + 1) ⟨by omega, by rw [hI.2, checkFrom_ok he18 (by unfold tarBad inTo at *; omega)]⟩ (by omega) ⟨rfl, trivial⟩ rfl rfl rfl rfl)
          ·
            refine s0g (qv_not rfl) ?_
            refine s0 (qv_pickF rfl rfl) ?_
            refine tl_nil (tp_normal ?_)
            refine tc_true rfl ?_
            refine tc_seq ?_
            refine tc_region ?_
            refine s0 (qv_assign rfl) ?_
            refine tl_nil (tp_normal ?_)
            refine tc_ret (tp_block_ret (tp_then_ret (tp_then_ret (tp_block_ret (tp_then_ret (tp_end1 rfl rfl ?_))))))
            intro w' hm
            exact ⟨by rw [hI.2, checkFrom_bad he18 (by unfold tarBad inTo at *; omega)], hm.below⟩
        ·
          refine s0g (qv_not rfl) ?_
          refine s0 (qv_pickF rfl rfl) ?_
          refine s0 (qv_move rfl) ?_
          refine sk ?_
          refine sk ?_
          refine sk ?_
          refine sk ?_
          refine s0 (qv_pickT rfl rfl) ?_
          refine tl_nil (tp_normal ?_)
          refine tc_true rfl ?_
          refine tc_seq ?_
          refine tc_region ?_
          refine s0 (qv_assign rfl) ?_
          refine tl_nil (tp_normal ?_)
          refine tc_ret (tp_block_ret (tp_then_ret (tp_then_ret (tp_block_ret (tp_then_ret (tp_end1 rfl rfl ?_))))))
          intro w' hm
          exact ⟨by rw [hI.2, checkFrom_bad he18 (by unfold tarBad inTo at *; omega)], hm.below⟩
      ·
        refine s0 (qv_not rfl) ?_
        refine s0 (qv_move rfl) ?_
        refine sk ?_
        refine sk ?_
        refine sk ?_
        refine sk ?_
        refine s0 (qv_pickT rfl rfl) ?_
        refine s0 (qv_move rfl) ?_
        refine sk ?_
        refine sk ?_
        refine sk ?_
        refine sk ?_
        refine s0 (qv_pickT rfl rfl) ?_
        refine tl_nil (tp_normal ?_)
        refine tc_true rfl ?_
        refine tc_seq ?_
        refine tc_region ?_
        refine s0 (qv_assign rfl) ?_
        refine tl_nil (tp_normal ?_)
        refine tc_ret (tp_block_ret (tp_then_ret (tp_then_ret (tp_block_ret (tp_then_ret (tp_end1 rfl rfl ?_))))))
        intro w' hm
        exact ⟨by rw [hI.2, checkFrom_bad he18 (by unfold tarBad inTo at *; omega)], hm.below⟩
    ·
      refine tl_nil (tp_normal ?_)
      refine tc_seq ?_
      refine tc_false rfl ?_
      refine tc_exit (tp_then_exit (tp_then_exit (tp_block_exit (tp_normal ?_))))
      refine tc_seq ?_
      refine tc_seq ?_
      refine tc_region ?_
      refine s0 (qv_move rfl) ?_
      refine s0 (qv_len st_27 rfl) ?_
      refine sd (qv_gtr rfl rfl) (fun c39 => ?_) (fun c39 => ?_)
      ·
        refine tl_nil (tp_normal ?_)
        refine tc_true rfl ?_
        refine tc_seq ?_
        refine tc_region ?_
        refine s0 (qv_assign rfl) ?_
        refine tl_nil (tp_normal ?_)
        refine tc_ret (tp_then_ret (tp_end1 rfl rfl ?_))
        intro w' hm
        exact ⟨by rw [hI.2, checkFrom_end (by omega), if_pos (by omega)], hm.below⟩
      ·
        refine tl_nil (tp_normal ?_)
        refine tc_false rfl ?_
        refine tc_skip (tp_normal ?_)
        refine tc_seq ?_
        refine tc_seq ?_
        refine tc_region ?_
        refine s0 (qv_move rfl) ?_
        refine s0 (qv_len st_27 rfl) ?_
        refine s0 (qv_move rfl) ?_
        refine tl_nil (tp_normal ?_)
        refine tc_block (tc_loopS (fun (k : Nat) => [(42, .int .i64 (k : Int))]) (fun (k : Nat) => k ≤ l.length ∧ meterCheck t l = useErrs t (l.drop k)) (fun (k : Nat) => l.length - k) (0) ⟨Nat.zero_le _, by rw [hI.2, checkFrom_end (by omega), if_neg (by omega), List.drop_zero]⟩ ⟨rfl, trivial⟩ ?_)
        rintro k hJ
        refine tc_seq ?_
        refine tc_region ?_
        refine sd (qv_lss rfl rfl) (fun c43 => ?_) (fun c43 => ?_)
        ·
          refine tl_nil (tp_normal ?_)
          refine tc_seq ?_
          refine tc_true rfl ?_
          refine tc_skip (tp_normal ?_)
          refine tc_seq ?_
          refine tc_block ?_
          refine tc_seq ?_
          refine tc_region ?_
          refine sn st_27 hl rfl rfl (by omega) (fun e44 he44 => ?_)
          refine s0 (qv_ldEW ag_34 hl Mem.has_base rfl he44) ?_
          refine tl_alloc ze_34 (by decide) (fun b8_1 => ?_)
          refine tl_storeL (i := 0) sz_34 (hl.szs _ (List.mem_of_getElem? he44)) (one_34 _) rfl rfl rfl rfl ?_
          refine tl_nil (tp_normal ?_)
          refine tc_seq ?_
          refine tc_seq ?_
          refine tc_region ?_
          refine s0 (qv_move rfl) ?_
          refine s0 (qv_fa fo_34_0 rfl) ?_
          refine s0 (qv_ldB (i := 0) sc_3 rfl rfl rfl) ?_
          refine s0 (qv_fa fo_34_1 rfl) ?_
          refine s0 (qv_ldB (i := 0) sc_3 rfl rfl rfl) ?_
          refine s0 (qv_fa fo_34_2 rfl) ?_
          refine s0 (qv_ldB (i := 0) sc_3 rfl rfl rfl) ?_
          refine sd (qv_call fn_50 rfl (fun w hm => party_calls w t ta tc e44.kind e44.house e44.customer (by omega))) (fun c53 => ?_) (fun c53 => ?_)
          ·
            refine s0 (qv_not rfl) ?_
            refine tl_nil (tp_normal ?_)
            refine tc_false rfl ?_
            refine tc_skip (tp_normal ?_)
            refine tc_seq ?_
            refine tc_seq ?_
            refine tc_region ?_
            refine s0 (qv_fa fo_34_0 rfl) ?_
            refine s0 (qv_ldB (i := 0) sc_3 rfl rfl rfl) ?_
            refine sd (qv_eql rfl rfl) (fun c57 => ?_) (fun c57 => ?_)
            ·
              refine s0 (qv_move rfl) ?_
              refine s0g (qv_fa fo_34_3 rfl) ?_
              refine s0g (qv_ldB (i := 0) sc_3 rfl rfl rfl) ?_
              refine sdg (qv_call fn_49 rfl (fun w hm => within_calls w e44.bytes (16777216))) (fun c61 => ?_) (fun c61 => ?_)
              ·
                refine s0g (qv_not rfl) ?_
                refine s0g (qv_move rfl) ?_
                refine s0g (qv_fa fo_34_5 rfl) ?_
                refine s0g (qv_ldB (i := 0) sc_3 rfl rfl rfl) ?_
                refine sdg (qv_call fn_49 rfl (fun w hm => within_calls w e44.till (1000000))) (fun c66 => ?_) (fun c66 => ?_)
                ·
                  refine s0g (qv_not rfl) ?_
                  refine s0g (qv_pickF rfl rfl) ?_
                  refine s0g (qv_move rfl) ?_
                  refine s0g (qv_fa fo_34_4 rfl) ?_
                  refine s0g (qv_ldB (i := 0) sc_3 rfl rfl rfl) ?_
                  refine s0g (qv_fa fo_34_5 rfl) ?_
                  refine s0g (qv_ldB (i := 0) sc_3 rfl rfl rfl) ?_
                  refine sdg (qv_call fn_49 rfl (fun w hm => within_calls w e44.since e44.till)) (fun c74 => ?_) (fun c74 => ?_)
                  ·
                    refine s0g (qv_not rfl) ?_
                    refine s0g (qv_pickF rfl rfl) ?_
                    refine s0 (qv_pickT rfl rfl) ?_
                    refine tl_nil (tp_normal ?_)
                    refine tc_false rfl ?_
                    refine tc_skip (tp_normal ?_)
                    refine tc_seq ?_
                    refine tc_region ?_
                    refine tl_callR fn_51 rfl (by decide) (fun w hm => prices_calls w) (fun r78 wa78 wb78 hm78 hb78 hr78 => ?_)
                    refine s0 (qv_len st_122 rfl) ?_
                    refine s0 (qv_move rfl) ?_
                    refine tl_nil (tp_normal ?_)
                    refine tc_block (tc_loopS (fun (j : Nat) => [(80, .int .i64 (j : Int))]) (fun (j : Nat) => j ≤ pricesL.length ∧ ∀ (i : Nat) p, i < j → pricesL[i]? = some p → ¬ priceBad e44 p) (fun (j : Nat) => pricesL.length - j) (0) ⟨Nat.zero_le _, fun _ _ h => absurd h (Nat.not_lt_zero _)⟩ ⟨rfl, trivial⟩ ?_)
                    rintro j hK
                    refine tc_seq ?_
                    refine tc_region ?_
                    refine sd (qv_lss rfl rfl) (fun c81 => ?_) (fun c81 => ?_)
                    ·
                      refine tl_nil (tp_normal ?_)
                      refine tc_seq ?_
                      refine tc_true rfl ?_
                      refine tc_skip (tp_normal ?_)
                      refine tc_seq ?_
                      refine tc_block ?_
                      refine tc_seq ?_
                      refine tc_region ?_
                      refine sn st_122 hr78.2 rfl rfl (by omega) (fun e82 he82 => ?_)
                      refine s0 (qv_ldEW ag_126 hr78.2 (Mem.has_kept (by first | exact .head _ | exact .tail _ (.head _) | exact .tail _ (.tail _ (.head _)) | exact .tail _ (.tail _ (.tail _ (.head _))))) rfl he82) ?_
                      refine tl_alloc ze_126 (by decide) (fun b10_2 => ?_)
                      refine tl_storeL (i := 0) sz_126 (hr78.2.szs _ (List.mem_of_getElem? he82)) (one_126 _) rfl rfl rfl rfl ?_
                      refine tl_nil (tp_normal ?_)
                      refine tc_seq ?_
                      refine tc_region ?_
                      refine s0 (qv_fa fo_126_0 rfl) ?_
                      refine s0 (qv_ldB (i := 0) sc_3 rfl rfl rfl) ?_
                      refine s0 (qv_fa fo_34_0 rfl) ?_
                      refine s0 (qv_ldB (i := 1) sc_3 rfl rfl rfl) ?_
                      refine sd (qv_eql rfl rfl) (fun c88 => ?_) (fun c88 => ?_)
                      ·
                        refine s0 (qv_move rfl) ?_
                        refine s0g (qv_fa fo_34_6 rfl) ?_
                        refine s0g (qv_ldB (i := 1) sc_3 rfl rfl rfl) ?_
                        refine s0g (qv_fa fo_126_1 rfl) ?_
                        refine s0g (qv_ldB (i := 0) sc_3 rfl rfl rfl) ?_
                        refine sdg (qv_call fn_49 rfl (fun w hm => within_calls w e44.count e82.most)) (fun c94 => ?_) (fun c94 => ?_)
                        ·
                          refine s0g (qv_not rfl) ?_
                          refine s0 (qv_pickT rfl rfl) ?_
                          refine tl_nil (tp_normal ?_)
                          refine tc_false rfl ?_
                          refine tc_skip (tp_block_normal (tp_normal ?_))
                          refine tc_region ?_
                          refine s0 (qv_succ rfl rfl (by omega)) ?_
                          refine s0 (qv_move rfl) ?_
                          exact tl_nil (tp_roundS (j + 1) ⟨by omega, none_stepG (P := fun _ (p : Price) => ¬ priceBad e44 p) hK.2 he82 (fun h => by first | exact absurd h.1 (by assumption) | exact h.2 (by assumption))⟩ (by omega) ⟨rfl, trivial⟩ rfl rfl rfl rfl)
                        ·
                          refine s0g (qv_not rfl) ?_
                          refine s0 (qv_pickT rfl rfl) ?_
                          refine tl_nil (tp_normal ?_)
                          refine tc_true rfl ?_
                          refine tc_seq ?_
                          refine tc_region ?_
                          refine s0 (qv_assign rfl) ?_
                          refine tl_nil (tp_normal ?_)
                          refine tc_ret (tp_block_ret (tp_then_ret (tp_then_ret (tp_block_ret (tp_block_ret (tp_then_ret (tp_then_ret (tp_block_ret (tp_then_ret (tp_end1 rfl rfl ?_))))))))))
                          intro w' hm
                          have hub : useBad e44 := price_bad he82 ⟨c88, c94⟩
                          exact ⟨by rw [hJ.2, useErrs_bad he44 (by rw [useErr_bad c53 hub]; decide), useErr_bad c53 hub], hm.below⟩
                      ·
                        refine s0 (qv_move rfl) ?_
                        refine sk ?_
                        refine sk ?_
                        refine sk ?_
                        refine sk ?_
                        refine sk ?_
                        refine sk ?_
                        refine s0 (qv_pickF rfl rfl) ?_
                        refine tl_nil (tp_normal ?_)
                        refine tc_false rfl ?_
                        refine tc_skip (tp_block_normal (tp_normal ?_))
                        refine tc_region ?_
                        refine s0 (qv_succ rfl rfl (by omega)) ?_
                        refine s0 (qv_move rfl) ?_
                        exact tl_nil (tp_roundS (j + 1) ⟨by omega, none_stepG (P := fun _ (p : Price) => ¬ priceBad e44 p) hK.2 he82 (fun h => by first | exact absurd h.1 (by assumption) | exact h.2 (by assumption))⟩ (by omega) ⟨rfl, trivial⟩ rfl rfl rfl rfl)
                    ·
                      refine tl_nil (tp_normal ?_)
                      refine tc_seq ?_
                      refine tc_false rfl ?_
                      refine tc_exit (tp_then_exit (tp_then_exit (tp_block_exit (tp_block_normal (tp_normal ?_)))))
                      refine tc_region ?_
                      refine s0 (qv_succ rfl rfl (by omega)) ?_
                      refine s0 (qv_move rfl) ?_
                      exact tl_nil (tp_roundS (k + 1) ⟨by omega, by rw [hJ.2, useErrs_ok he44 (useErr_ok c53 (use_fine (fun h => by first | exact c57 h.1 | (rcases h.2 with h_ | h_ | h_ <;> contradiction)) (by omega) hK.2))]⟩ (by omega) ⟨rfl, trivial⟩ rfl rfl rfl rfl)
                  ·
                    refine s0g (qv_not rfl) ?_
                    refine s0g (qv_pickF rfl rfl) ?_
                    refine s0 (qv_pickT rfl rfl) ?_
                    refine tl_nil (tp_normal ?_)
                    refine tc_true rfl ?_
                    refine tc_seq ?_
                    refine tc_region ?_
                    refine s0 (qv_assign rfl) ?_
                    refine tl_nil (tp_normal ?_)
                    refine tc_ret (tp_then_ret (tp_block_ret (tp_then_ret (tp_then_ret (tp_block_ret (tp_then_ret (tp_end1 rfl rfl ?_)))))))
                    intro w' hm
                    have hub : useBad e44 := .inl ⟨c57, by first | exact .inl c61 | exact .inr (.inl c66) | exact .inr (.inr c74)⟩
                    exact ⟨by rw [hJ.2, useErrs_bad he44 (by rw [useErr_bad c53 hub]; decide), useErr_bad c53 hub], hm.below⟩
                ·
                  refine s0g (qv_not rfl) ?_
                  refine s0g (qv_pickF rfl rfl) ?_
                  refine s0g (qv_move rfl) ?_
                  refine sk ?_
                  refine sk ?_
                  refine sk ?_
                  refine sk ?_
                  refine sk ?_
                  refine sk ?_
                  refine s0g (qv_pickT rfl rfl) ?_
                  refine s0 (qv_pickT rfl rfl) ?_
                  refine tl_nil (tp_normal ?_)
                  refine tc_true rfl ?_
                  refine tc_seq ?_
                  refine tc_region ?_
                  refine s0 (qv_assign rfl) ?_
                  refine tl_nil (tp_normal ?_)
                  refine tc_ret (tp_then_ret (tp_block_ret (tp_then_ret (tp_then_ret (tp_block_ret (tp_then_ret (tp_end1 rfl rfl ?_)))))))
                  intro w' hm
                  have hub : useBad e44 := .inl ⟨c57, by first | exact .inl c61 | exact .inr (.inl c66) | exact .inr (.inr c74)⟩
                  exact ⟨by rw [hJ.2, useErrs_bad he44 (by rw [useErr_bad c53 hub]; decide), useErr_bad c53 hub], hm.below⟩
              ·
                refine s0g (qv_not rfl) ?_
                refine s0g (qv_move rfl) ?_
                refine sk ?_
                refine sk ?_
                refine sk ?_
                refine sk ?_
                refine s0g (qv_pickT rfl rfl) ?_
                refine s0g (qv_move rfl) ?_
                refine sk ?_
                refine sk ?_
                refine sk ?_
                refine sk ?_
                refine sk ?_
                refine sk ?_
                refine s0g (qv_pickT rfl rfl) ?_
                refine s0 (qv_pickT rfl rfl) ?_
                refine tl_nil (tp_normal ?_)
                refine tc_true rfl ?_
                refine tc_seq ?_
                refine tc_region ?_
                refine s0 (qv_assign rfl) ?_
                refine tl_nil (tp_normal ?_)
                refine tc_ret (tp_then_ret (tp_block_ret (tp_then_ret (tp_then_ret (tp_block_ret (tp_then_ret (tp_end1 rfl rfl ?_)))))))
                intro w' hm
                have hub : useBad e44 := .inl ⟨c57, by first | exact .inl c61 | exact .inr (.inl c66) | exact .inr (.inr c74)⟩
                exact ⟨by rw [hJ.2, useErrs_bad he44 (by rw [useErr_bad c53 hub]; decide), useErr_bad c53 hub], hm.below⟩
            ·
              refine s0 (qv_move rfl) ?_
              refine sk ?_
              refine sk ?_
              refine sk ?_
              refine sk ?_
              refine sk ?_
              refine sk ?_
              refine sk ?_
              refine sk ?_
              refine sk ?_
              refine sk ?_
              refine sk ?_
              refine sk ?_
              refine sk ?_
              refine sk ?_
              refine sk ?_
              refine sk ?_
              refine sk ?_
              refine sk ?_
              refine s0 (qv_pickF rfl rfl) ?_
              refine tl_nil (tp_normal ?_)
              refine tc_false rfl ?_
              refine tc_skip (tp_normal ?_)
              refine tc_seq ?_
              refine tc_region ?_
              refine tl_callR fn_51 rfl (by decide) (fun w hm => prices_calls w) (fun r78 wa78 wb78 hm78 hb78 hr78 => ?_)
              refine s0 (qv_len st_122 rfl) ?_
              refine s0 (qv_move rfl) ?_
              refine tl_nil (tp_normal ?_)
              refine tc_block (tc_loopS (fun (j : Nat) => [(80, .int .i64 (j : Int))]) (fun (j : Nat) => j ≤ pricesL.length ∧ ∀ (i : Nat) p, i < j → pricesL[i]? = some p → ¬ priceBad e44 p) (fun (j : Nat) => pricesL.length - j) (0) ⟨Nat.zero_le _, fun _ _ h => absurd h (Nat.not_lt_zero _)⟩ ⟨rfl, trivial⟩ ?_)
              rintro j hK
              refine tc_seq ?_
              refine tc_region ?_
              refine sd (qv_lss rfl rfl) (fun c81 => ?_) (fun c81 => ?_)
              ·
                refine tl_nil (tp_normal ?_)
                refine tc_seq ?_
                refine tc_true rfl ?_
                refine tc_skip (tp_normal ?_)
                refine tc_seq ?_
                refine tc_block ?_
                refine tc_seq ?_
                refine tc_region ?_
                refine sn st_122 hr78.2 rfl rfl (by omega) (fun e82 he82 => ?_)
                refine s0 (qv_ldEW ag_126 hr78.2 (Mem.has_kept (by first | exact .head _ | exact .tail _ (.head _) | exact .tail _ (.tail _ (.head _)) | exact .tail _ (.tail _ (.tail _ (.head _))))) rfl he82) ?_
                refine tl_alloc ze_126 (by decide) (fun b10_3 => ?_)
                refine tl_storeL (i := 0) sz_126 (hr78.2.szs _ (List.mem_of_getElem? he82)) (one_126 _) rfl rfl rfl rfl ?_
                refine tl_nil (tp_normal ?_)
                refine tc_seq ?_
                refine tc_region ?_
                refine s0 (qv_fa fo_126_0 rfl) ?_
                refine s0 (qv_ldB (i := 0) sc_3 rfl rfl rfl) ?_
                refine s0 (qv_fa fo_34_0 rfl) ?_
                refine s0 (qv_ldB (i := 1) sc_3 rfl rfl rfl) ?_
                refine sd (qv_eql rfl rfl) (fun c88 => ?_) (fun c88 => ?_)
                ·
                  refine s0 (qv_move rfl) ?_
                  refine s0g (qv_fa fo_34_6 rfl) ?_
                  refine s0g (qv_ldB (i := 1) sc_3 rfl rfl rfl) ?_
                  refine s0g (qv_fa fo_126_1 rfl) ?_
                  refine s0g (qv_ldB (i := 0) sc_3 rfl rfl rfl) ?_
                  refine sdg (qv_call fn_49 rfl (fun w hm => within_calls w e44.count e82.most)) (fun c94 => ?_) (fun c94 => ?_)
                  ·
                    refine s0g (qv_not rfl) ?_
                    refine s0 (qv_pickT rfl rfl) ?_
                    refine tl_nil (tp_normal ?_)
                    refine tc_false rfl ?_
                    refine tc_skip (tp_block_normal (tp_normal ?_))
                    refine tc_region ?_
                    refine s0 (qv_succ rfl rfl (by omega)) ?_
                    refine s0 (qv_move rfl) ?_
                    exact tl_nil (tp_roundS (j + 1) ⟨by omega, none_stepG (P := fun _ (p : Price) => ¬ priceBad e44 p) hK.2 he82 (fun h => by first | exact absurd h.1 (by assumption) | exact h.2 (by assumption))⟩ (by omega) ⟨rfl, trivial⟩ rfl rfl rfl rfl)
                  ·
                    refine s0g (qv_not rfl) ?_
                    refine s0 (qv_pickT rfl rfl) ?_
                    refine tl_nil (tp_normal ?_)
                    refine tc_true rfl ?_
                    refine tc_seq ?_
                    refine tc_region ?_
                    refine s0 (qv_assign rfl) ?_
                    refine tl_nil (tp_normal ?_)
                    refine tc_ret (tp_block_ret (tp_then_ret (tp_then_ret (tp_block_ret (tp_block_ret (tp_then_ret (tp_then_ret (tp_block_ret (tp_then_ret (tp_end1 rfl rfl ?_))))))))))
                    intro w' hm
                    have hub : useBad e44 := price_bad he82 ⟨c88, c94⟩
                    exact ⟨by rw [hJ.2, useErrs_bad he44 (by rw [useErr_bad c53 hub]; decide), useErr_bad c53 hub], hm.below⟩
                ·
                  refine s0 (qv_move rfl) ?_
                  refine sk ?_
                  refine sk ?_
                  refine sk ?_
                  refine sk ?_
                  refine sk ?_
                  refine sk ?_
                  refine s0 (qv_pickF rfl rfl) ?_
                  refine tl_nil (tp_normal ?_)
                  refine tc_false rfl ?_
                  refine tc_skip (tp_block_normal (tp_normal ?_))
                  refine tc_region ?_
                  refine s0 (qv_succ rfl rfl (by omega)) ?_
                  refine s0 (qv_move rfl) ?_
                  exact tl_nil (tp_roundS (j + 1) ⟨by omega, none_stepG (P := fun _ (p : Price) => ¬ priceBad e44 p) hK.2 he82 (fun h => by first | exact absurd h.1 (by assumption) | exact h.2 (by assumption))⟩ (by omega) ⟨rfl, trivial⟩ rfl rfl rfl rfl)
              ·
                refine tl_nil (tp_normal ?_)
                refine tc_seq ?_
                refine tc_false rfl ?_
                refine tc_exit (tp_then_exit (tp_then_exit (tp_block_exit (tp_block_normal (tp_normal ?_)))))
                refine tc_region ?_
                refine s0 (qv_succ rfl rfl (by omega)) ?_
                refine s0 (qv_move rfl) ?_
                exact tl_nil (tp_roundS (k + 1) ⟨by omega, by rw [hJ.2, useErrs_ok he44 (useErr_ok c53 (use_fine (fun h => by first | exact c57 h.1 | (rcases h.2 with h_ | h_ | h_ <;> contradiction)) (by omega) hK.2))]⟩ (by omega) ⟨rfl, trivial⟩ rfl rfl rfl rfl)
          ·
            refine s0 (qv_not rfl) ?_
            refine tl_nil (tp_normal ?_)
            refine tc_true rfl ?_
            refine tc_seq ?_
            refine tc_region ?_
            refine s0 (qv_assign rfl) ?_
            refine tl_nil (tp_normal ?_)
            refine tc_ret (tp_then_ret (tp_block_ret (tp_then_ret (tp_then_ret (tp_block_ret (tp_then_ret (tp_end1 rfl rfl ?_)))))))
            intro w' hm
            exact ⟨by rw [hJ.2, useErrs_bad he44 (by rw [useErr_party c53]; decide), useErr_party c53], hm.below⟩
        ·
          refine tl_nil (tp_normal ?_)
          refine tc_seq ?_
          refine tc_false rfl ?_
          refine tc_exit (tp_then_exit (tp_then_exit (tp_block_exit (tp_normal ?_))))
          refine tc_seq ?_
          refine tc_region ?_
          refine s0 (qv_assign rfl) ?_
          refine tl_nil (tp_normal ?_)
          refine tc_ret (tp_end1 rfl rfl ?_)
          intro w' hm
          exact ⟨by rw [hJ.2, List.drop_eq_nil_of_le (by omega)]; rfl, hm.below⟩
set_option maxRecDepth 100000 in
set_option maxHeartbeats 4000000 in
theorem charge_calls (w : World) (t : List Tariff) (ta : Option Addr) (tc : Nat) (n : Net) (na : Option Addr) (nc : Nat) (u : Use) (ht : SlIn w 3 encTar ta t) (hn : SlIn w 50 encLink na n.links) (hk : NetOk n) (hs : SlIn w 3 encSend u.sends.a u.sends.l) :
    Calls Try.prog 18 #[.slice ta t.length tc, .agg (netA n na nc), .agg (encUse u).toArray] w (fun e w' => e = .returned (.tuple #[.int .i64 (charge t n u).1, .int .i64 (charge t n u).2]) ∧ Below w.heap.size w w') := by
  have hlent := ht.len
  simp only [maxLen] at hlent
  have hlenn := hn.len
  simp only [maxLen] at hlenn
  have hlen := hs.len
  simp only [maxLen] at hlen
  have hpl : pricesL.length = 3 := rfl
  refine calls_of_tc (N := 83) (vs := [.slice ta t.length tc, .agg (netA n na nc), .agg (encUse u).toArray]) Try.func18 rfl rfl (Nat.le_of_ble_eq_true rfl) ?_
  refine tc_seq ?_
  refine tc_region ?_
  refine tl_box rfl (by decide) (fun b4_0 => ?_)
  refine tl_box rfl (by decide) (fun b5_1 => ?_)
  refine s0 (qv_assign rfl) ?_
  refine s0 (qv_assign rfl) ?_
  refine tl_nil (tp_normal ?_)
  refine tc_seq ?_
  refine tc_seq ?_
  refine tc_region ?_
  refine s0 (qv_move rfl) ?_
  refine s0 (qv_ldBW (i := 0) ag_34 rfl rfl rfl) ?_
  refine tl_buildSliceL (enc := encUse) [u] bsl_27_1 (fun b16_2 => ?_) rfl (by kernel_rfl)
  have hsb16_2 := SlAt.ofBox (enc := encUse) (sz := 8) (b := b16_2) (E := 34) (l := [u]) (Nat.le_of_ble_eq_true rfl) (fun x hx => rfl)
  refine s0 (qv_call fn_16 rfl (fun w hm => mcheck_calls w t ta tc [u] (some ⟨b16_2, 0, none⟩) 1 (ht.into Mem.has_base hm) (hsb16_2.into (Mem.has_box (by repeat (first | exact List.Mem.head _ | refine List.Mem.tail _ ?_))) hm))) ?_
  refine s0 (qv_assign rfl) ?_
  refine tl_nil (tp_normal ?_)
  refine tc_seq ?_
  refine tc_region ?_
  refine s0 (qv_move rfl) ?_
  refine sd (qv_neq rfl rfl) (fun c19 => ?_) (fun c19 => ?_)
  ·
    refine tl_nil (tp_normal ?_)
    refine tc_true rfl ?_
    refine tc_seq ?_
    refine tc_region ?_
    refine s0 (qv_move rfl) ?_
    refine s0 (qv_assign rfl) ?_
    refine s0 (qv_assign rfl) ?_
    refine tl_nil (tp_normal ?_)
    refine tc_ret (tp_then_ret (tp_end2 rfl rfl rfl ?_))
    intro w' hm
    exact ⟨by rw [charge_err (by omega)], hm.below⟩
  ·
    refine tl_nil (tp_normal ?_)
    refine tc_false rfl ?_
    refine tc_skip (tp_normal ?_)
    refine tc_seq ?_
    refine tc_seq ?_
    have hc := charged (t := t) (u := u) (by omega)
    have hh0 := hc.h0
    have hh1 := hc.h1
    refine tc_region ?_
    refine tl_callR fn_51 rfl (by decide) (fun w hm => prices_calls w) (fun r21 wa21 wb21 hm21 hb21 hr21 => ?_)
    refine s0 (qv_len st_122 rfl) ?_
    refine s0 (qv_move rfl) ?_
    refine tl_nil (tp_normal ?_)
    refine tc_block (tc_loopS (fun (k : Nat) => [(23, .int .i64 (k : Int))]) (fun (k : Nat) => k ≤ pricesL.length ∧ ∀ (i : Nat) p, i < k → pricesL[i]? = some p → ¬ p.kind = u.kind) (fun (k : Nat) => pricesL.length - k) (0) ⟨Nat.zero_le _, fun _ _ h => absurd h (Nat.not_lt_zero _)⟩ ⟨rfl, trivial⟩ ?_)
    rintro k hI
    refine tc_seq ?_
    refine tc_region ?_
    refine sd (qv_lss rfl rfl) (fun c24 => ?_) (fun c24 => ?_)
    ·
      refine tl_nil (tp_normal ?_)
      refine tc_seq ?_
      refine tc_true rfl ?_
      refine tc_skip (tp_normal ?_)
      refine tc_seq ?_
      refine tc_block ?_
      refine tc_seq ?_
      refine tc_region ?_
      refine sn st_122 hr21.2 rfl rfl (by omega) (fun e25 he25 => ?_)
      refine s0 (qv_ldEW ag_126 hr21.2 (Mem.has_kept (by first | exact .head _ | exact .tail _ (.head _) | exact .tail _ (.tail _ (.head _)) | exact .tail _ (.tail _ (.tail _ (.head _))))) rfl he25) ?_
      refine tl_alloc ze_126 (by decide) (fun b10_3 => ?_)
      refine tl_storeL (i := 0) sz_126 (hr21.2.szs _ (List.mem_of_getElem? he25)) (one_126 _) rfl rfl rfl rfl ?_
      refine tl_nil (tp_normal ?_)
      refine tc_seq ?_
      refine tc_region ?_
      refine s0 (qv_fa fo_126_0 rfl) ?_
      refine s0 (qv_ldB (i := 0) sc_3 rfl rfl rfl) ?_
      refine s0 (qv_fa fo_34_0 rfl) ?_
      refine s0 (qv_ldB (i := 2) sc_3 rfl rfl rfl) ?_
      refine sd (qv_eql rfl rfl) (fun c31 => ?_) (fun c31 => ?_)
      ·
        refine tl_nil (tp_normal ?_)
        refine tc_true rfl ?_
        refine tc_seq ?_
        refine tc_draws mixed (by kernel_rfl) ?_
        refine q0 (qv_fa fo_34_6 rfl) ?_
        refine q0 (qv_ldB (i := 2) sc_3 rfl rfl rfl) ?_
        refine q0 (qv_fa fo_126_2 rfl) ?_
        refine q0 (qv_ldB (i := 0) sc_124 rfl rfl rfl) ?_
        refine q0 (qv_move rfl) ?_
        refine q0 (qv_fa fo_34_1 rfl) ?_
        refine q0 (qv_ldB (i := 2) sc_3 rfl rfl rfl) ?_
        refine qi st_23 ht rfl rfl (by omega) (fun e39 he39 => ?_)
        refine q0 (qv_ldEW ag_113 ht Mem.has_base rfl he39) ?_
        refine q0 (qv_callV (vs := [.agg (encTar e39).toArray]) (caps := []) (fn_price (List.mem_of_getElem? he25)) rfl rfl (fun w hm => each_calls w e25 (List.mem_of_getElem? he25) e39)) ?_
        have heb := each_bd hc he25
        rw [tarOf_eq he39] at heb
        have hct := hc.count (by (rcases prices_at he25 with h_ | h_ | h_ <;> rw [h_] at c31 <;> simp only at c31 <;> omega))
        have hmb := mul_bd hct heb
        refine q0 (qv_mulI rfl rfl (by omega)) ?_
        refine q0 (qv_assign rfl) ?_
        refine q0 (qv_assign rfl) ?_
        refine tq_nil (tp_normal ?_)
        refine tc_ret (tp_block_ret (tp_then_ret (tp_then_ret (tp_block_ret (tp_then_ret (tp_end2 rfl rfl rfl ?_))))))
        intro w' hm
        exact ⟨by rw [charge_price (by omega) he25 c31, tarOf_eq he39], hm.below⟩
      ·
        refine tl_nil (tp_normal ?_)
        refine tc_false rfl ?_
        refine tc_skip (tp_block_normal (tp_normal ?_))
        refine tc_region ?_
        refine s0 (qv_succ rfl rfl (by omega)) ?_
        refine s0 (qv_move rfl) ?_
        exact tl_nil (tp_roundS (k + 1) ⟨by omega, none_stepG (P := fun _ (p : Price) => ¬ p.kind = u.kind) hI.2 he25 c31⟩ (by omega) ⟨rfl, trivial⟩ rfl rfl rfl rfl)
    ·
      refine tl_nil (tp_normal ?_)
      refine tc_seq ?_
      refine tc_false rfl ?_
      refine tc_exit (tp_then_exit (tp_then_exit (tp_block_exit (tp_normal ?_))))
      refine tc_seq ?_
      refine tc_seq ?_
      obtain ⟨hp3, hp4, hp5⟩ := no_price (u := u) (by omega) hI.2
      refine tc_region ?_
      refine s0 (qv_fa fo_34_0 rfl) ?_
      refine s0 (qv_ldB (i := 1) sc_3 rfl rfl rfl) ?_
      refine sd (qv_eql rfl rfl) (fun c46 => ?_) (fun c46 => ?_)
      ·
        refine tl_nil (tp_normal ?_)
        refine tc_true rfl ?_
        refine tc_seq ?_
        refine tc_draws mixed (by kernel_rfl) ?_
        refine q0 (qv_fa fo_34_3 rfl) ?_
        refine q0 (qv_ldB (i := 1) sc_3 rfl rfl rfl) ?_
        refine q0 (qv_fa fo_34_5 rfl) ?_
        refine q0 (qv_ldB (i := 1) sc_3 rfl rfl rfl) ?_
        refine q0 (qv_fa fo_34_4 rfl) ?_
        refine q0 (qv_ldB (i := 1) sc_3 rfl rfl rfl) ?_
        obtain ⟨hk2, hk3, hk4, hk5⟩ := hc.kept c46
        refine q0 (qv_subI rfl rfl (by omega)) ?_
        have hmb1 := mul_bd hk2 (show 0 ≤ u.till - u.since ∧ u.till - u.since ≤ 1000000 by omega)
        refine q0 (qv_mulI rfl rfl (by omega)) ?_
        refine q0 (qv_move rfl) ?_
        refine q0 (qv_fa fo_34_1 rfl) ?_
        refine q0 (qv_ldB (i := 1) sc_3 rfl rfl rfl) ?_
        refine qi st_23 ht rfl rfl (by omega) (fun e58 he58 => ?_)
        refine q0 (qv_fa fo_113_0 rfl) ?_
        refine q0 (qv_ldE (j := 0) sc_3 ht Mem.has_base rfl rfl he58 rfl) ?_
        have hkp := hc.keep
        rw [tarOf_eq he58] at hkp
        have hmb2 := mul_bd hmb1 hkp
        refine q0 (qv_mulI rfl rfl (by omega)) ?_
        refine q0 (qv_assign rfl) ?_
        refine q0 (qv_assign rfl) ?_
        refine tq_nil (tp_normal ?_)
        refine tc_ret (tp_then_ret (tp_end2 rfl rfl rfl ?_))
        intro w' hm
        exact ⟨by rw [charge_keep (by omega) c46, tarOf_eq he58], hm.below⟩
      ·
        refine tl_nil (tp_normal ?_)
        refine tc_false rfl ?_
        refine tc_skip (tp_normal ?_)
        refine tc_seq ?_
        refine tc_seq ?_
        refine tc_region ?_
        refine s0 (qv_ldBW (i := 2) ag_26 rfl rfl rfl) ?_
        refine s0 (qv_fa fo_34_7 rfl) ?_
        refine s0 (qv_ldB (i := 1) sc_32 rfl rfl rfl) ?_
        refine s0 (qv_call fn_25 rfl (fun w hm => fits_calls w n na nc u.sends.l u.sends.a u.sends.c (hn.into Mem.has_base hm) hk (hs.into Mem.has_base hm))) ?_
        refine s0 (qv_assign rfl) ?_
        refine tl_nil (tp_normal ?_)
        refine tc_seq ?_
        refine tc_region ?_
        refine s0 (qv_move rfl) ?_
        refine sd (qv_neq rfl rfl) (fun c67 => ?_) (fun c67 => ?_)
        ·
          refine tl_nil (tp_normal ?_)
          refine tc_true rfl ?_
          refine tc_seq ?_
          refine tc_region ?_
          refine s0 (qv_move rfl) ?_
          refine s0 (qv_assign rfl) ?_
          refine s0 (qv_assign rfl) ?_
          refine tl_nil (tp_normal ?_)
          refine tc_ret (tp_then_ret (tp_end2 rfl rfl rfl ?_))
          intro w' hm
          exact ⟨by rw [charge_move (by omega) hp3 hp4 hp5 c46, if_pos c67], hm.below⟩
        ·
          refine tl_nil (tp_normal ?_)
          refine tc_false rfl ?_
          refine tc_skip (tp_normal ?_)
          refine tc_seq ?_
          refine tc_region ?_
          refine s0 (qv_ldBW (i := 2) ag_26 rfl rfl rfl) ?_
          refine s0 (qv_fa fo_34_7 rfl) ?_
          refine s0 (qv_ldB (i := 1) sc_32 rfl rfl rfl) ?_
          refine s0 (qv_call fn_24 rfl (fun w hm => cost_calls w n na nc u.sends.l u.sends.a u.sends.c (hn.into Mem.has_base hm) hk (hs.into Mem.has_base hm))) ?_
          refine s0 (qv_move rfl) ?_
          refine s0 (qv_extract rfl rfl) ?_
          refine s0 (qv_extract rfl rfl) ?_
          refine s0 (qv_assign rfl) ?_
          refine s0 (qv_assign rfl) ?_
          refine tl_nil (tp_normal ?_)
          refine tc_seq ?_
          refine tc_seq ?_
          have hfc := fits_cost (n := n) (l := u.sends.l) (by omega)
          refine tc_region ?_
          refine s0 (qv_move rfl) ?_
          refine sd (qv_neq rfl rfl) (fun c77 => ?_) (fun c77 => ?_)
          ·
            refine tl_nil (tp_normal ?_)
            refine tc_true rfl ?_
            refine tc_seq ?_
            refine tc_region ?_
            refine s0 (qv_move rfl) ?_
            refine s0 (qv_assign rfl) ?_
            refine s0 (qv_assign rfl) ?_
            refine tl_nil (tp_normal ?_)
            refine tc_ret (tp_then_ret (tp_end2 rfl rfl rfl ?_))
            intro w' hm
            exact absurd hfc.1 c77
          ·
            refine tl_nil (tp_normal ?_)
            refine tc_false rfl ?_
            refine tc_skip (tp_normal ?_)
            refine tc_seq ?_
            refine tc_seq ?_
            refine tc_region ?_
            refine s0 (qv_move rfl) ?_
            refine sd (qv_gtr rfl rfl) (fun c80 => ?_) (fun c80 => ?_)
            ·
              refine tl_nil (tp_normal ?_)
              refine tc_true rfl ?_
              refine tc_seq ?_
              refine tc_region ?_
              refine s0 (qv_assign rfl) ?_
              refine s0 (qv_assign rfl) ?_
              refine tl_nil (tp_normal ?_)
              refine tc_ret (tp_then_ret (tp_end2 rfl rfl rfl ?_))
              intro w' hm
              exact ⟨by rw [charge_move (by omega) hp3 hp4 hp5 c46, if_neg c67, if_pos (by omega)], hm.below⟩
            ·
              refine tl_nil (tp_normal ?_)
              refine tc_false rfl ?_
              refine tc_skip (tp_normal ?_)
              refine tc_seq ?_
              refine tc_region ?_
              refine s0 (qv_move rfl) ?_
              refine s0 (qv_mulI rfl rfl (by omega)) ?_
              refine s0 (qv_assign rfl) ?_
              refine s0 (qv_assign rfl) ?_
              refine tl_nil (tp_normal ?_)
              refine tc_ret (tp_end2 rfl rfl rfl ?_)
              intro w' hm
              exact ⟨by rw [charge_move (by omega) hp3 hp4 hp5 c46, if_neg c67, if_neg (by omega)], hm.below⟩
set_option maxRecDepth 100000 in
theorem rate_calls (w : World) (n : Int)  :
    Calls Try.prog 52 #[.int .i64 n] w (fun e w' => e = .returned (.bool (decide (inTo n 1000))) ∧ Below w.heap.size w w') := by
  refine calls_of_tc (N := 9) (vs := [.int .i64 n]) Try.func52 rfl rfl (Nat.le_of_ble_eq_true rfl) ?_
  refine tc_seq ?_
  refine tc_region ?_
  refine s0 (qv_assign rfl) ?_
  refine tl_nil (tp_normal ?_)
  refine tc_seq ?_
  refine tc_region ?_
  refine s0 (qv_move rfl) ?_
  refine sd (qv_geq rfl rfl) (fun c4 => ?_) (fun c4 => ?_)
  ·
    refine s0 (qv_move rfl) ?_
    refine s0g (qv_move rfl) ?_
    refine s0g (qv_leq rfl rfl) ?_
    refine s0 (qv_pickT rfl rfl) ?_
    refine s0 (qv_assign rfl) ?_
    refine tl_nil (tp_normal ?_)
    refine tc_ret (tp_end1 rfl rfl ?_)
    intro w' hm
    exact ⟨by simp [inTo, *], hm.below⟩
  ·
    refine s0 (qv_move rfl) ?_
    refine sk ?_
    refine sk ?_
    refine s0 (qv_pickF rfl rfl) ?_
    refine s0 (qv_assign rfl) ?_
    refine tl_nil (tp_normal ?_)
    refine tc_ret (tp_end1 rfl rfl ?_)
    intro w' hm
    exact ⟨by simp [inTo, *], hm.below⟩
set_option maxRecDepth 100000 in
theorem rparty_calls (w : World) (t : List Tariff) (ta : Option Addr) (tc : Nat) (kind house customer : Int)  :
    Calls Try.prog 53 #[.slice ta t.length tc, .int .i64 kind, .int .i64 house, .int .i64 customer] w (fun e w' => e = .returned (.int .i64 (if partyIs t kind house customer then 0 else 1)) ∧ Below w.heap.size w w') := by
  refine calls_of_tc (N := 33) (vs := [.slice ta t.length tc, .int .i64 kind, .int .i64 house, .int .i64 customer]) Try.func53 rfl rfl (Nat.le_of_ble_eq_true rfl) ?_
  refine tc_seq ?_
  refine tc_region ?_
  refine s0 (qv_assign rfl) ?_
  refine tl_nil (tp_normal ?_)
  refine tc_seq ?_
  refine tc_seq ?_
  refine tc_region ?_
  refine s0 (qv_move rfl) ?_
  refine sd (qv_lss rfl rfl) (fun c10 => ?_) (fun c10 => ?_)
  ·
    refine s0 (qv_move rfl) ?_
    refine sk ?_
    refine sk ?_
    refine s0 (qv_pickT rfl rfl) ?_
    refine s0 (qv_move rfl) ?_
    refine sk ?_
    refine sk ?_
    refine s0 (qv_pickT rfl rfl) ?_
    refine s0 (qv_move rfl) ?_
    refine sk ?_
    refine sk ?_
    refine sk ?_
    refine sk ?_
    refine s0 (qv_pickT rfl rfl) ?_
    refine s0 (qv_move rfl) ?_
    refine sk ?_
    refine sk ?_
    refine s0 (qv_pickT rfl rfl) ?_
    refine s0 (qv_move rfl) ?_
    refine sk ?_
    refine sk ?_
    refine s0 (qv_pickT rfl rfl) ?_
    refine tl_nil (tp_normal ?_)
    refine tc_true rfl ?_
    refine tc_seq ?_
    refine tc_region ?_
    refine s0 (qv_assign rfl) ?_
    refine tl_nil (tp_normal ?_)
    refine tc_ret (tp_then_ret (tp_end1 rfl rfl ?_))
    intro w' hm
    exact ⟨by rw [if_neg (by unfold partyIs; omega)], hm.below⟩
  ·
    refine s0 (qv_move rfl) ?_
    refine s0g (qv_move rfl) ?_
    refine sdg (qv_gtr rfl rfl) (fun c13 => ?_) (fun c13 => ?_)
    ·
      refine s0 (qv_pickF rfl rfl) ?_
      refine s0 (qv_move rfl) ?_
      refine sk ?_
      refine sk ?_
      refine s0 (qv_pickT rfl rfl) ?_
      refine s0 (qv_move rfl) ?_
      refine sk ?_
      refine sk ?_
      refine sk ?_
      refine sk ?_
      refine s0 (qv_pickT rfl rfl) ?_
      refine s0 (qv_move rfl) ?_
      refine sk ?_
      refine sk ?_
      refine s0 (qv_pickT rfl rfl) ?_
      refine s0 (qv_move rfl) ?_
      refine sk ?_
      refine sk ?_
      refine s0 (qv_pickT rfl rfl) ?_
      refine tl_nil (tp_normal ?_)
      refine tc_true rfl ?_
      refine tc_seq ?_
      refine tc_region ?_
      refine s0 (qv_assign rfl) ?_
      refine tl_nil (tp_normal ?_)
      refine tc_ret (tp_then_ret (tp_end1 rfl rfl ?_))
      intro w' hm
      exact ⟨by rw [if_neg (by unfold partyIs; omega)], hm.below⟩
    ·
      refine s0 (qv_pickF rfl rfl) ?_
      refine s0 (qv_move rfl) ?_
      refine s0g (qv_move rfl) ?_
      refine sdg (qv_lss rfl rfl) (fun c17 => ?_) (fun c17 => ?_)
      ·
        refine s0 (qv_pickF rfl rfl) ?_
        refine s0 (qv_move rfl) ?_
        refine sk ?_
        refine sk ?_
        refine sk ?_
        refine sk ?_
        refine s0 (qv_pickT rfl rfl) ?_
        refine s0 (qv_move rfl) ?_
        refine sk ?_
        refine sk ?_
        refine s0 (qv_pickT rfl rfl) ?_
        refine s0 (qv_move rfl) ?_
        refine sk ?_
        refine sk ?_
        refine s0 (qv_pickT rfl rfl) ?_
        refine tl_nil (tp_normal ?_)
        refine tc_true rfl ?_
        refine tc_seq ?_
        refine tc_region ?_
        refine s0 (qv_assign rfl) ?_
        refine tl_nil (tp_normal ?_)
        refine tc_ret (tp_then_ret (tp_end1 rfl rfl ?_))
        intro w' hm
        exact ⟨by rw [if_neg (by unfold partyIs; omega)], hm.below⟩
      ·
        refine s0 (qv_pickF rfl rfl) ?_
        refine s0 (qv_move rfl) ?_
        refine s0g (qv_move rfl) ?_
        refine s0g (qv_move rfl) ?_
        refine s0g (qv_len st_23 rfl) ?_
        refine sdg (qv_geq rfl rfl) (fun c23 => ?_) (fun c23 => ?_)
        ·
          refine s0 (qv_pickF rfl rfl) ?_
          refine s0 (qv_move rfl) ?_
          refine sk ?_
          refine sk ?_
          refine s0 (qv_pickT rfl rfl) ?_
          refine s0 (qv_move rfl) ?_
          refine sk ?_
          refine sk ?_
          refine s0 (qv_pickT rfl rfl) ?_
          refine tl_nil (tp_normal ?_)
          refine tc_true rfl ?_
          refine tc_seq ?_
          refine tc_region ?_
          refine s0 (qv_assign rfl) ?_
          refine tl_nil (tp_normal ?_)
          refine tc_ret (tp_then_ret (tp_end1 rfl rfl ?_))
          intro w' hm
          exact ⟨by rw [if_neg (by unfold partyIs; omega)], hm.below⟩
        ·
          refine s0 (qv_pickF rfl rfl) ?_
          refine s0 (qv_move rfl) ?_
          refine s0g (qv_move rfl) ?_
          refine sdg (qv_lss rfl rfl) (fun c27 => ?_) (fun c27 => ?_)
          ·
            refine s0 (qv_pickF rfl rfl) ?_
            refine s0 (qv_move rfl) ?_
            refine sk ?_
            refine sk ?_
            refine s0 (qv_pickT rfl rfl) ?_
            refine tl_nil (tp_normal ?_)
            refine tc_true rfl ?_
            refine tc_seq ?_
            refine tc_region ?_
            refine s0 (qv_assign rfl) ?_
            refine tl_nil (tp_normal ?_)
            refine tc_ret (tp_then_ret (tp_end1 rfl rfl ?_))
            intro w' hm
            exact ⟨by rw [if_neg (by unfold partyIs; omega)], hm.below⟩
          ·
            refine s0 (qv_pickF rfl rfl) ?_
            refine s0 (qv_move rfl) ?_
            refine s0g (qv_move rfl) ?_
            refine sdg (qv_geq rfl rfl) (fun c31 => ?_) (fun c31 => ?_)
            ·
              refine s0 (qv_pickF rfl rfl) ?_
              refine tl_nil (tp_normal ?_)
              refine tc_true rfl ?_
              refine tc_seq ?_
              refine tc_region ?_
              refine s0 (qv_assign rfl) ?_
              refine tl_nil (tp_normal ?_)
              refine tc_ret (tp_then_ret (tp_end1 rfl rfl ?_))
              intro w' hm
              exact ⟨by rw [if_neg (by unfold partyIs; omega)], hm.below⟩
            ·
              refine s0 (qv_pickF rfl rfl) ?_
              refine tl_nil (tp_normal ?_)
              refine tc_false rfl ?_
              refine tc_skip (tp_normal ?_)
              refine tc_seq ?_
              refine tc_region ?_
              refine s0 (qv_assign rfl) ?_
              refine tl_nil (tp_normal ?_)
              refine tc_ret (tp_end1 rfl rfl ?_)
              intro w' hm
              exact ⟨by rw [if_pos (by unfold partyIs; omega)], hm.below⟩
set_option maxRecDepth 100000 in
set_option maxHeartbeats 4000000 in
theorem rmcheck_calls (w : World) (t : List Tariff) (ta : Option Addr) (tc : Nat) (l : List Use) (la : Option Addr) (lc : Nat) (ht : SlIn w 3 encTar ta t) (hl : SlIn w 8 encUse la l) :
    Calls Try.prog 17 #[.slice ta t.length tc, .slice la l.length lc] w (fun e w' => e = .returned (.int .i64 (meterCheck t l)) ∧ Below w.heap.size w w') := by
  have hlent := ht.len
  simp only [maxLen] at hlent
  have hlenu := hl.len
  simp only [maxLen] at hlenu
  refine calls_of_tc (N := 134) (vs := [.slice ta t.length tc, .slice la l.length lc]) Try.func17 rfl rfl (Nat.le_of_ble_eq_true rfl) ?_
  refine tc_seq ?_
  refine tc_region ?_
  refine s0 (qv_assign rfl) ?_
  refine tl_nil (tp_normal ?_)
  refine tc_seq ?_
  refine tc_seq ?_
  refine tc_region ?_
  refine s0 (qv_move rfl) ?_
  refine s0 (qv_len st_23 rfl) ?_
  refine sd (qv_gtr rfl rfl) (fun c14 => ?_) (fun c14 => ?_)
  ·
    refine tl_nil (tp_normal ?_)
    refine tc_true rfl ?_
    refine tc_seq ?_
    refine tc_region ?_
    refine s0 (qv_assign rfl) ?_
    refine tl_nil (tp_normal ?_)
    refine tc_ret (tp_then_ret (tp_end1 rfl rfl ?_))
    intro w' hm
    exact ⟨by rw [meterCheck, if_pos (by omega)], hm.below⟩
  ·
    refine tl_nil (tp_normal ?_)
    refine tc_false rfl ?_
    refine tc_skip (tp_normal ?_)
    refine tc_seq ?_
    refine tc_seq ?_
    refine tc_region ?_
    refine s0 (qv_assign rfl) ?_
    refine tl_nil (tp_normal ?_)
    refine tc_block (tc_loopS (fun (k : Nat) => [(5, .int .i64 (k : Int))]) (fun (k : Nat) => k ≤ t.length ∧ meterCheck t l = checkFrom t l k) (fun (k : Nat) => t.length - k) (0) ⟨Nat.zero_le _, checkFrom_zero (by omega)⟩ ⟨rfl, trivial⟩ ?_)
    rintro k hI
    refine tc_seq ?_
    refine tc_seq ?_
    refine tc_region ?_
    refine s0 (qv_move rfl) ?_
    refine s0 (qv_move rfl) ?_
    refine s0 (qv_len st_23 rfl) ?_
    refine sd (qv_lss rfl rfl) (fun c18 => ?_) (fun c18 => ?_)
    ·
      refine tl_nil (tp_normal ?_)
      refine tc_true rfl ?_
      refine tc_skip (tp_normal ?_)
      refine tc_seq ?_
      refine tc_block ?_
      refine tc_seq ?_
      refine tc_region ?_
      refine s0 (qv_move rfl) ?_
      refine s0 (qv_move rfl) ?_
      refine sn st_23 ht rfl rfl (by omega) (fun e23 he23 => ?_)
      refine s0 (qv_fa fo_113_0 rfl) ?_
      refine s0 (qv_ldE (j := 0) sc_3 ht Mem.has_base rfl rfl he23 rfl) ?_
      refine sd (qv_call fn_52 rfl (fun w hm => rate_calls w e23.keep)) (fun c26 => ?_) (fun c26 => ?_)
      ·
        refine s0 (qv_assign rfl) ?_
        refine tl_nil (tp_normal ?_)
        refine tc_seq ?_
        refine tc_region ?_
        refine s0 (qv_move rfl) ?_
        refine s0 (qv_move rfl) ?_
        refine sn st_23 ht rfl rfl (by omega) (fun e29 he29 => ?_)
        obtain rfl : e23 = e29 := Option.some.inj (he23.symm.trans he29)
        refine s0 (qv_fa fo_113_1 rfl) ?_
        refine s0 (qv_ldE (j := 1) sc_3 ht Mem.has_base rfl rfl he23 rfl) ?_
        refine sd (qv_call fn_52 rfl (fun w hm => rate_calls w e23.read)) (fun c32 => ?_) (fun c32 => ?_)
        ·
          refine s0 (qv_assign rfl) ?_
          refine tl_nil (tp_normal ?_)
          refine tc_seq ?_
          refine tc_region ?_
          refine s0 (qv_move rfl) ?_
          refine s0 (qv_move rfl) ?_
          refine sn st_23 ht rfl rfl (by omega) (fun e35 he35 => ?_)
          obtain rfl : e23 = e35 := Option.some.inj (he23.symm.trans he35)
          refine s0 (qv_fa fo_113_2 rfl) ?_
          refine s0 (qv_ldE (j := 2) sc_3 ht Mem.has_base rfl rfl he23 rfl) ?_
          refine sd (qv_call fn_52 rfl (fun w hm => rate_calls w e23.audit)) (fun c38 => ?_) (fun c38 => ?_)
          ·
            refine s0 (qv_assign rfl) ?_
            refine tl_nil (tp_normal ?_)
            refine tc_seq ?_
            refine tc_region ?_
            refine s0 (qv_move rfl) ?_
            refine s0 (qv_not rfl) ?_
            refine s0 (qv_move rfl) ?_
            refine s0g (qv_move rfl) ?_
            refine s0g (qv_not rfl) ?_
            refine s0 (qv_pickF rfl rfl) ?_
            refine s0 (qv_move rfl) ?_
            refine s0g (qv_move rfl) ?_
            refine s0g (qv_not rfl) ?_
            refine s0 (qv_pickF rfl rfl) ?_
            refine tl_nil (tp_normal ?_)
            refine tc_false rfl ?_
            refine tc_skip (tp_block_normal (tp_normal ?_))
            refine tc_region ?_
            refine s0 (qv_move rfl) ?_
            refine s0 (qv_succ rfl rfl (by omega)) ?_
            refine s0 (qv_assign rfl) ?_
            exact tl_nil (tp_roundS (k + 1) ⟨by omega, by rw [hI.2, checkFrom_ok he23 (by unfold tarBad inTo at *; omega)]⟩ (by omega) ⟨rfl, trivial⟩ rfl rfl rfl rfl)
          ·
            refine s0 (qv_assign rfl) ?_
            refine tl_nil (tp_normal ?_)
            refine tc_seq ?_
            refine tc_region ?_
            refine s0 (qv_move rfl) ?_
            refine s0 (qv_not rfl) ?_
            refine s0 (qv_move rfl) ?_
            refine s0g (qv_move rfl) ?_
            refine s0g (qv_not rfl) ?_
            refine s0 (qv_pickF rfl rfl) ?_
            refine s0 (qv_move rfl) ?_
            refine s0g (qv_move rfl) ?_
            refine s0g (qv_not rfl) ?_
            refine s0 (qv_pickF rfl rfl) ?_
            refine tl_nil (tp_normal ?_)
            refine tc_true rfl ?_
            refine tc_seq ?_
            refine tc_region ?_
            refine s0 (qv_assign rfl) ?_
            refine tl_nil (tp_normal ?_)
            refine tc_ret (tp_block_ret (tp_then_ret (tp_then_ret (tp_block_ret (tp_then_ret (tp_end1 rfl rfl ?_))))))
            intro w' hm
            exact ⟨by rw [hI.2, checkFrom_bad he23 (by unfold tarBad inTo at *; omega)], hm.below⟩
        ·
          refine s0 (qv_assign rfl) ?_
          refine tl_nil (tp_normal ?_)
          refine tc_seq ?_
          refine tc_region ?_
          refine s0 (qv_move rfl) ?_
          refine s0 (qv_move rfl) ?_
          refine sn st_23 ht rfl rfl (by omega) (fun e35 he35 => ?_)
          obtain rfl : e23 = e35 := Option.some.inj (he23.symm.trans he35)
          refine s0 (qv_fa fo_113_2 rfl) ?_
          refine s0 (qv_ldE (j := 2) sc_3 ht Mem.has_base rfl rfl he23 rfl) ?_
          refine sd (qv_call fn_52 rfl (fun w hm => rate_calls w e23.audit)) (fun c38 => ?_) (fun c38 => ?_)
          ·
            refine s0 (qv_assign rfl) ?_
            refine tl_nil (tp_normal ?_)
            refine tc_seq ?_
            refine tc_region ?_
            refine s0 (qv_move rfl) ?_
            refine s0 (qv_not rfl) ?_
            refine s0 (qv_move rfl) ?_
            refine s0g (qv_move rfl) ?_
            refine s0g (qv_not rfl) ?_
            refine s0 (qv_pickF rfl rfl) ?_
            refine s0 (qv_move rfl) ?_
            refine sk ?_
            refine sk ?_
            refine s0 (qv_pickT rfl rfl) ?_
            refine tl_nil (tp_normal ?_)
            refine tc_true rfl ?_
            refine tc_seq ?_
            refine tc_region ?_
            refine s0 (qv_assign rfl) ?_
            refine tl_nil (tp_normal ?_)
            refine tc_ret (tp_block_ret (tp_then_ret (tp_then_ret (tp_block_ret (tp_then_ret (tp_end1 rfl rfl ?_))))))
            intro w' hm
            exact ⟨by rw [hI.2, checkFrom_bad he23 (by unfold tarBad inTo at *; omega)], hm.below⟩
          ·
            refine s0 (qv_assign rfl) ?_
            refine tl_nil (tp_normal ?_)
            refine tc_seq ?_
            refine tc_region ?_
            refine s0 (qv_move rfl) ?_
            refine s0 (qv_not rfl) ?_
            refine s0 (qv_move rfl) ?_
            refine s0g (qv_move rfl) ?_
            refine s0g (qv_not rfl) ?_
            refine s0 (qv_pickF rfl rfl) ?_
            refine s0 (qv_move rfl) ?_
            refine sk ?_
            refine sk ?_
            refine s0 (qv_pickT rfl rfl) ?_
            refine tl_nil (tp_normal ?_)
            refine tc_true rfl ?_
            refine tc_seq ?_
            refine tc_region ?_
            refine s0 (qv_assign rfl) ?_
            refine tl_nil (tp_normal ?_)
            refine tc_ret (tp_block_ret (tp_then_ret (tp_then_ret (tp_block_ret (tp_then_ret (tp_end1 rfl rfl ?_))))))
            intro w' hm
            exact ⟨by rw [hI.2, checkFrom_bad he23 (by unfold tarBad inTo at *; omega)], hm.below⟩
      ·
        refine s0 (qv_assign rfl) ?_
        refine tl_nil (tp_normal ?_)
        refine tc_seq ?_
        refine tc_region ?_
        refine s0 (qv_move rfl) ?_
        refine s0 (qv_move rfl) ?_
        refine sn st_23 ht rfl rfl (by omega) (fun e29 he29 => ?_)
        obtain rfl : e23 = e29 := Option.some.inj (he23.symm.trans he29)
        refine s0 (qv_fa fo_113_1 rfl) ?_
        refine s0 (qv_ldE (j := 1) sc_3 ht Mem.has_base rfl rfl he23 rfl) ?_
        refine sd (qv_call fn_52 rfl (fun w hm => rate_calls w e23.read)) (fun c32 => ?_) (fun c32 => ?_)
        ·
          refine s0 (qv_assign rfl) ?_
          refine tl_nil (tp_normal ?_)
          refine tc_seq ?_
          refine tc_region ?_
          refine s0 (qv_move rfl) ?_
          refine s0 (qv_move rfl) ?_
          refine sn st_23 ht rfl rfl (by omega) (fun e35 he35 => ?_)
          obtain rfl : e23 = e35 := Option.some.inj (he23.symm.trans he35)
          refine s0 (qv_fa fo_113_2 rfl) ?_
          refine s0 (qv_ldE (j := 2) sc_3 ht Mem.has_base rfl rfl he23 rfl) ?_
          refine sd (qv_call fn_52 rfl (fun w hm => rate_calls w e23.audit)) (fun c38 => ?_) (fun c38 => ?_)
          ·
            refine s0 (qv_assign rfl) ?_
            refine tl_nil (tp_normal ?_)
            refine tc_seq ?_
            refine tc_region ?_
            refine s0 (qv_move rfl) ?_
            refine s0 (qv_not rfl) ?_
            refine s0 (qv_move rfl) ?_
            refine sk ?_
            refine sk ?_
            refine s0 (qv_pickT rfl rfl) ?_
            refine s0 (qv_move rfl) ?_
            refine sk ?_
            refine sk ?_
            refine s0 (qv_pickT rfl rfl) ?_
            refine tl_nil (tp_normal ?_)
            refine tc_true rfl ?_
            refine tc_seq ?_
            refine tc_region ?_
            refine s0 (qv_assign rfl) ?_
            refine tl_nil (tp_normal ?_)
            refine tc_ret (tp_block_ret (tp_then_ret (tp_then_ret (tp_block_ret (tp_then_ret (tp_end1 rfl rfl ?_))))))
            intro w' hm
            exact ⟨by rw [hI.2, checkFrom_bad he23 (by unfold tarBad inTo at *; omega)], hm.below⟩
          ·
            refine s0 (qv_assign rfl) ?_
            refine tl_nil (tp_normal ?_)
            refine tc_seq ?_
            refine tc_region ?_
            refine s0 (qv_move rfl) ?_
            refine s0 (qv_not rfl) ?_
            refine s0 (qv_move rfl) ?_
            refine sk ?_
            refine sk ?_
            refine s0 (qv_pickT rfl rfl) ?_
            refine s0 (qv_move rfl) ?_
            refine sk ?_
            refine sk ?_
            refine s0 (qv_pickT rfl rfl) ?_
            refine tl_nil (tp_normal ?_)
            refine tc_true rfl ?_
            refine tc_seq ?_
            refine tc_region ?_
            refine s0 (qv_assign rfl) ?_
            refine tl_nil (tp_normal ?_)
            refine tc_ret (tp_block_ret (tp_then_ret (tp_then_ret (tp_block_ret (tp_then_ret (tp_end1 rfl rfl ?_))))))
            intro w' hm
            exact ⟨by rw [hI.2, checkFrom_bad he23 (by unfold tarBad inTo at *; omega)], hm.below⟩
        ·
          refine s0 (qv_assign rfl) ?_
          refine tl_nil (tp_normal ?_)
          refine tc_seq ?_
          refine tc_region ?_
          refine s0 (qv_move rfl) ?_
          refine s0 (qv_move rfl) ?_
          refine sn st_23 ht rfl rfl (by omega) (fun e35 he35 => ?_)
          obtain rfl : e23 = e35 := Option.some.inj (he23.symm.trans he35)
          refine s0 (qv_fa fo_113_2 rfl) ?_
          refine s0 (qv_ldE (j := 2) sc_3 ht Mem.has_base rfl rfl he23 rfl) ?_
          refine sd (qv_call fn_52 rfl (fun w hm => rate_calls w e23.audit)) (fun c38 => ?_) (fun c38 => ?_)
          ·
            refine s0 (qv_assign rfl) ?_
            refine tl_nil (tp_normal ?_)
            refine tc_seq ?_
            refine tc_region ?_
            refine s0 (qv_move rfl) ?_
            refine s0 (qv_not rfl) ?_
            refine s0 (qv_move rfl) ?_
            refine sk ?_
            refine sk ?_
            refine s0 (qv_pickT rfl rfl) ?_
            refine s0 (qv_move rfl) ?_
            refine sk ?_
            refine sk ?_
            refine s0 (qv_pickT rfl rfl) ?_
            refine tl_nil (tp_normal ?_)
            refine tc_true rfl ?_
            refine tc_seq ?_
            refine tc_region ?_
            refine s0 (qv_assign rfl) ?_
            refine tl_nil (tp_normal ?_)
            refine tc_ret (tp_block_ret (tp_then_ret (tp_then_ret (tp_block_ret (tp_then_ret (tp_end1 rfl rfl ?_))))))
            intro w' hm
            exact ⟨by rw [hI.2, checkFrom_bad he23 (by unfold tarBad inTo at *; omega)], hm.below⟩
          ·
            refine s0 (qv_assign rfl) ?_
            refine tl_nil (tp_normal ?_)
            refine tc_seq ?_
            refine tc_region ?_
            refine s0 (qv_move rfl) ?_
            refine s0 (qv_not rfl) ?_
            refine s0 (qv_move rfl) ?_
            refine sk ?_
            refine sk ?_
            refine s0 (qv_pickT rfl rfl) ?_
            refine s0 (qv_move rfl) ?_
            refine sk ?_
            refine sk ?_
            refine s0 (qv_pickT rfl rfl) ?_
            refine tl_nil (tp_normal ?_)
            refine tc_true rfl ?_
            refine tc_seq ?_
            refine tc_region ?_
            refine s0 (qv_assign rfl) ?_
            refine tl_nil (tp_normal ?_)
            refine tc_ret (tp_block_ret (tp_then_ret (tp_then_ret (tp_block_ret (tp_then_ret (tp_end1 rfl rfl ?_))))))
            intro w' hm
            exact ⟨by rw [hI.2, checkFrom_bad he23 (by unfold tarBad inTo at *; omega)], hm.below⟩
    ·
      refine tl_nil (tp_normal ?_)
      refine tc_false rfl ?_
      refine tc_exit (tp_then_exit (tp_then_exit (tp_block_exit (tp_normal ?_))))
      refine tc_seq ?_
      refine tc_seq ?_
      refine tc_region ?_
      refine s0 (qv_move rfl) ?_
      refine s0 (qv_len st_27 rfl) ?_
      refine sd (qv_gtr rfl rfl) (fun c51 => ?_) (fun c51 => ?_)
      ·
        refine tl_nil (tp_normal ?_)
        refine tc_true rfl ?_
        refine tc_seq ?_
        refine tc_region ?_
        refine s0 (qv_assign rfl) ?_
        refine tl_nil (tp_normal ?_)
        refine tc_ret (tp_then_ret (tp_end1 rfl rfl ?_))
        intro w' hm
        exact ⟨by rw [hI.2, checkFrom_end (by omega), if_pos (by omega)], hm.below⟩
      ·
        refine tl_nil (tp_normal ?_)
        refine tc_false rfl ?_
        refine tc_skip (tp_normal ?_)
        refine tc_seq ?_
        refine tc_seq ?_
        refine tc_region ?_
        refine s0 (qv_assign rfl) ?_
        refine tl_nil (tp_normal ?_)
        refine tc_block (tc_loopS (fun (k : Nat) => [(9, .int .i64 (k : Int))]) (fun (k : Nat) => k ≤ l.length ∧ meterCheck t l = useErrs t (l.drop k)) (fun (k : Nat) => l.length - k) (0) ⟨Nat.zero_le _, by rw [hI.2, checkFrom_end (by omega), if_neg (by omega), List.drop_zero]⟩ ⟨rfl, trivial⟩ ?_)
        rintro k hJ
        refine tc_seq ?_
        refine tc_seq ?_
        refine tc_region ?_
        refine s0 (qv_move rfl) ?_
        refine s0 (qv_move rfl) ?_
        refine s0 (qv_len st_27 rfl) ?_
        refine sd (qv_lss rfl rfl) (fun c55 => ?_) (fun c55 => ?_)
        ·
          refine tl_nil (tp_normal ?_)
          refine tc_true rfl ?_
          refine tc_skip (tp_normal ?_)
          refine tc_seq ?_
          refine tc_block ?_
          refine tc_seq ?_
          refine tc_region ?_
          refine s0 (qv_move rfl) ?_
          refine s0 (qv_move rfl) ?_
          refine sn st_27 hl rfl rfl (by omega) (fun e60 he60 => ?_)
          refine s0 (qv_ldEW ag_34 hl Mem.has_base rfl he60) ?_
          refine tl_alloc ze_34 (by decide) (fun b10_0 => ?_)
          refine tl_storeL (i := 0) sz_34 (hl.szs _ (List.mem_of_getElem? he60)) (one_34 _) rfl rfl rfl rfl ?_
          refine tl_nil (tp_normal ?_)
          refine tc_seq ?_
          refine tc_region ?_
          refine s0 (qv_move rfl) ?_
          refine s0 (qv_fa fo_34_0 rfl) ?_
          refine s0 (qv_ldB (i := 0) sc_3 rfl rfl rfl) ?_
          refine s0 (qv_fa fo_34_1 rfl) ?_
          refine s0 (qv_ldB (i := 0) sc_3 rfl rfl rfl) ?_
          refine s0 (qv_fa fo_34_2 rfl) ?_
          refine s0 (qv_ldB (i := 0) sc_3 rfl rfl rfl) ?_
          refine s0 (qv_call fn_53 rfl (fun w hm => rparty_calls w t ta tc e60.kind e60.house e60.customer)) ?_
          refine s0 (qv_assign rfl) ?_
          refine tl_nil (tp_normal ?_)
          refine tc_seq ?_
          refine tc_seq ?_
          refine tc_region ?_
          refine s0 (qv_move rfl) ?_
          refine sd (qv_neq rfl rfl) (fun c71 => ?_) (fun c71 => ?_)
          ·
            refine tl_nil (tp_normal ?_)
            refine tc_true rfl ?_
            refine tc_seq ?_
            refine tc_region ?_
            refine s0 (qv_move rfl) ?_
            refine s0 (qv_assign rfl) ?_
            refine tl_nil (tp_normal ?_)
            refine tc_ret (tp_then_ret (tp_block_ret (tp_then_ret (tp_then_ret (tp_block_ret (tp_then_ret (tp_end1 rfl rfl ?_)))))))
            intro w' hm
            have hpn : ¬ partyIs t e60.kind e60.house e60.customer := fun h => c71 (by rw [if_pos h])
            exact ⟨by rw [hJ.2, useErrs_bad he60 (by rw [useErr_party hpn]; decide), useErr_party hpn, if_neg hpn], hm.below⟩
          ·
            refine tl_nil (tp_normal ?_)
            refine tc_false rfl ?_
            refine tc_skip (tp_normal ?_)
            refine tc_seq ?_
            refine tc_seq ?_
            have hpt : partyIs t e60.kind e60.house e60.customer := Classical.byContradiction fun h => c71 (by rw [if_neg h]; decide)
            refine tc_region ?_
            refine s0 (qv_fa fo_34_0 rfl) ?_
            refine s0 (qv_ldB (i := 0) sc_3 rfl rfl rfl) ?_
            refine sd (qv_eql rfl rfl) (fun c75 => ?_) (fun c75 => ?_)
            ·
              refine s0 (qv_move rfl) ?_
              refine s0g (qv_fa fo_34_3 rfl) ?_
              refine s0g (qv_ldB (i := 0) sc_3 rfl rfl rfl) ?_
              refine sdg (qv_lss rfl rfl) (fun c79 => ?_) (fun c79 => ?_)
              ·
                refine s0g (qv_move rfl) ?_
                refine sk ?_
                refine sk ?_
                refine sk ?_
                refine s0g (qv_pickT rfl rfl) ?_
                refine s0g (qv_move rfl) ?_
                refine sk ?_
                refine sk ?_
                refine sk ?_
                refine s0g (qv_pickT rfl rfl) ?_
                refine s0g (qv_move rfl) ?_
                refine sk ?_
                refine sk ?_
                refine sk ?_
                refine sk ?_
                refine sk ?_
                refine s0g (qv_pickT rfl rfl) ?_
                refine s0g (qv_move rfl) ?_
                refine sk ?_
                refine sk ?_
                refine sk ?_
                refine s0g (qv_pickT rfl rfl) ?_
                refine s0 (qv_pickT rfl rfl) ?_
                refine tl_nil (tp_normal ?_)
                refine tc_true rfl ?_
                refine tc_seq ?_
                refine tc_region ?_
                refine s0 (qv_assign rfl) ?_
                refine tl_nil (tp_normal ?_)
                refine tc_ret (tp_then_ret (tp_block_ret (tp_then_ret (tp_then_ret (tp_block_ret (tp_then_ret (tp_end1 rfl rfl ?_)))))))
                intro w' hm
                have hub : useBad e60 := by unfold useBad inTo; omega
                exact ⟨by rw [hJ.2, useErrs_bad he60 (by rw [useErr_bad hpt hub]; decide), useErr_bad hpt hub], hm.below⟩
              ·
                refine s0g (qv_move rfl) ?_
                refine s0g (qv_fa fo_34_3 rfl) ?_
                refine s0g (qv_ldB (i := 0) sc_3 rfl rfl rfl) ?_
                refine sdg (qv_gtr rfl rfl) (fun c83 => ?_) (fun c83 => ?_)
                ·
                  refine s0g (qv_pickF rfl rfl) ?_
                  refine s0g (qv_move rfl) ?_
                  refine sk ?_
                  refine sk ?_
                  refine sk ?_
                  refine s0g (qv_pickT rfl rfl) ?_
                  refine s0g (qv_move rfl) ?_
                  refine sk ?_
                  refine sk ?_
                  refine sk ?_
                  refine sk ?_
                  refine sk ?_
                  refine s0g (qv_pickT rfl rfl) ?_
                  refine s0g (qv_move rfl) ?_
                  refine sk ?_
                  refine sk ?_
                  refine sk ?_
                  refine s0g (qv_pickT rfl rfl) ?_
                  refine s0 (qv_pickT rfl rfl) ?_
                  refine tl_nil (tp_normal ?_)
                  refine tc_true rfl ?_
                  refine tc_seq ?_
                  refine tc_region ?_
                  refine s0 (qv_assign rfl) ?_
                  refine tl_nil (tp_normal ?_)
                  refine tc_ret (tp_then_ret (tp_block_ret (tp_then_ret (tp_then_ret (tp_block_ret (tp_then_ret (tp_end1 rfl rfl ?_)))))))
                  intro w' hm
                  have hub : useBad e60 := by unfold useBad inTo; omega
                  exact ⟨by rw [hJ.2, useErrs_bad he60 (by rw [useErr_bad hpt hub]; decide), useErr_bad hpt hub], hm.below⟩
                ·
                  refine s0g (qv_pickF rfl rfl) ?_
                  refine s0g (qv_move rfl) ?_
                  refine s0g (qv_fa fo_34_4 rfl) ?_
                  refine s0g (qv_ldB (i := 0) sc_3 rfl rfl rfl) ?_
                  refine sdg (qv_lss rfl rfl) (fun c88 => ?_) (fun c88 => ?_)
                  ·
                    refine s0g (qv_pickF rfl rfl) ?_
                    refine s0g (qv_move rfl) ?_
                    refine sk ?_
                    refine sk ?_
                    refine sk ?_
                    refine sk ?_
                    refine sk ?_
                    refine s0g (qv_pickT rfl rfl) ?_
                    refine s0g (qv_move rfl) ?_
                    refine sk ?_
                    refine sk ?_
                    refine sk ?_
                    refine s0g (qv_pickT rfl rfl) ?_
                    refine s0 (qv_pickT rfl rfl) ?_
                    refine tl_nil (tp_normal ?_)
                    refine tc_true rfl ?_
                    refine tc_seq ?_
                    refine tc_region ?_
                    refine s0 (qv_assign rfl) ?_
                    refine tl_nil (tp_normal ?_)
                    refine tc_ret (tp_then_ret (tp_block_ret (tp_then_ret (tp_then_ret (tp_block_ret (tp_then_ret (tp_end1 rfl rfl ?_)))))))
                    intro w' hm
                    have hub : useBad e60 := by unfold useBad inTo; omega
                    exact ⟨by rw [hJ.2, useErrs_bad he60 (by rw [useErr_bad hpt hub]; decide), useErr_bad hpt hub], hm.below⟩
                  ·
                    refine s0g (qv_pickF rfl rfl) ?_
                    refine s0g (qv_move rfl) ?_
                    refine s0g (qv_fa fo_34_4 rfl) ?_
                    refine s0g (qv_ldB (i := 0) sc_3 rfl rfl rfl) ?_
                    refine s0g (qv_fa fo_34_5 rfl) ?_
                    refine s0g (qv_ldB (i := 0) sc_3 rfl rfl rfl) ?_
                    refine sdg (qv_gtr rfl rfl) (fun c95 => ?_) (fun c95 => ?_)
                    ·
                      refine s0g (qv_pickF rfl rfl) ?_
                      refine s0g (qv_move rfl) ?_
                      refine sk ?_
                      refine sk ?_
                      refine sk ?_
                      refine s0g (qv_pickT rfl rfl) ?_
                      refine s0 (qv_pickT rfl rfl) ?_
                      refine tl_nil (tp_normal ?_)
                      refine tc_true rfl ?_
                      refine tc_seq ?_
                      refine tc_region ?_
                      refine s0 (qv_assign rfl) ?_
                      refine tl_nil (tp_normal ?_)
                      refine tc_ret (tp_then_ret (tp_block_ret (tp_then_ret (tp_then_ret (tp_block_ret (tp_then_ret (tp_end1 rfl rfl ?_)))))))
                      intro w' hm
                      have hub : useBad e60 := by unfold useBad inTo; omega
                      exact ⟨by rw [hJ.2, useErrs_bad he60 (by rw [useErr_bad hpt hub]; decide), useErr_bad hpt hub], hm.below⟩
                    ·
                      refine s0g (qv_pickF rfl rfl) ?_
                      refine s0g (qv_move rfl) ?_
                      refine s0g (qv_fa fo_34_5 rfl) ?_
                      refine s0g (qv_ldB (i := 0) sc_3 rfl rfl rfl) ?_
                      refine sdg (qv_gtr rfl rfl) (fun c100 => ?_) (fun c100 => ?_)
                      ·
                        refine s0g (qv_pickF rfl rfl) ?_
                        refine s0 (qv_pickT rfl rfl) ?_
                        refine tl_nil (tp_normal ?_)
                        refine tc_true rfl ?_
                        refine tc_seq ?_
                        refine tc_region ?_
                        refine s0 (qv_assign rfl) ?_
                        refine tl_nil (tp_normal ?_)
                        refine tc_ret (tp_then_ret (tp_block_ret (tp_then_ret (tp_then_ret (tp_block_ret (tp_then_ret (tp_end1 rfl rfl ?_)))))))
                        intro w' hm
                        have hub : useBad e60 := by unfold useBad inTo; omega
                        exact ⟨by rw [hJ.2, useErrs_bad he60 (by rw [useErr_bad hpt hub]; decide), useErr_bad hpt hub], hm.below⟩
                      ·
                        refine s0g (qv_pickF rfl rfl) ?_
                        refine s0 (qv_pickT rfl rfl) ?_
                        refine tl_nil (tp_normal ?_)
                        refine tc_false rfl ?_
                        refine tc_skip (tp_normal ?_)
                        refine tc_seq ?_
                        refine tc_seq ?_
                        refine tc_region ?_
                        refine s0 (qv_fa fo_34_0 rfl) ?_
                        refine s0 (qv_ldB (i := 0) sc_3 rfl rfl rfl) ?_
                        refine sd (qv_eql rfl rfl) (fun c105 => ?_) (fun c105 => ?_)
                        ·
                          refine s0 (qv_move rfl) ?_
                          refine sk ?_
                          refine sk ?_
                          refine sk ?_
                          refine s0 (qv_pickT rfl rfl) ?_
                          refine s0 (qv_move rfl) ?_
                          refine s0g (qv_fa fo_34_6 rfl) ?_
                          refine s0g (qv_ldB (i := 0) sc_3 rfl rfl rfl) ?_
                          refine sdg (qv_lss rfl rfl) (fun c114 => ?_) (fun c114 => ?_)
                          ·
                            refine s0g (qv_move rfl) ?_
                            refine sk ?_
                            refine sk ?_
                            refine sk ?_
                            refine s0g (qv_pickT rfl rfl) ?_
                            refine s0 (qv_pickT rfl rfl) ?_
                            refine tl_nil (tp_normal ?_)
                            refine tc_true rfl ?_
                            refine tc_seq ?_
                            refine tc_region ?_
                            refine s0 (qv_assign rfl) ?_
                            refine tl_nil (tp_normal ?_)
                            refine tc_ret (tp_then_ret (tp_block_ret (tp_then_ret (tp_then_ret (tp_block_ret (tp_then_ret (tp_end1 rfl rfl ?_)))))))
                            intro w' hm
                            have hub : useBad e60 := by unfold useBad inTo; omega
                            exact ⟨by rw [hJ.2, useErrs_bad he60 (by rw [useErr_bad hpt hub]; decide), useErr_bad hpt hub], hm.below⟩
                          ·
                            refine s0g (qv_move rfl) ?_
                            refine s0g (qv_fa fo_34_6 rfl) ?_
                            refine s0g (qv_ldB (i := 0) sc_3 rfl rfl rfl) ?_
                            refine sdg (qv_gtr rfl rfl) (fun c118 => ?_) (fun c118 => ?_)
                            ·
                              refine s0g (qv_pickF rfl rfl) ?_
                              refine s0 (qv_pickT rfl rfl) ?_
                              refine tl_nil (tp_normal ?_)
                              refine tc_true rfl ?_
                              refine tc_seq ?_
                              refine tc_region ?_
                              refine s0 (qv_assign rfl) ?_
                              refine tl_nil (tp_normal ?_)
                              refine tc_ret (tp_then_ret (tp_block_ret (tp_then_ret (tp_then_ret (tp_block_ret (tp_then_ret (tp_end1 rfl rfl ?_)))))))
                              intro w' hm
                              have hub : useBad e60 := by unfold useBad inTo; omega
                              exact ⟨by rw [hJ.2, useErrs_bad he60 (by rw [useErr_bad hpt hub]; decide), useErr_bad hpt hub], hm.below⟩
                            ·
                              refine s0g (qv_pickF rfl rfl) ?_
                              refine s0 (qv_pickT rfl rfl) ?_
                              refine tl_nil (tp_normal ?_)
                              refine tc_false rfl ?_
                              refine tc_skip (tp_normal ?_)
                              refine tc_seq ?_
                              refine tc_region ?_
                              refine s0 (qv_fa fo_34_0 rfl) ?_
                              refine s0 (qv_ldB (i := 0) sc_3 rfl rfl rfl) ?_
                              refine sd (qv_eql rfl rfl) (fun c123 => ?_) (fun c123 => ?_)
                              ·
                                refine s0 (qv_move rfl) ?_
                                refine s0g (qv_fa fo_34_6 rfl) ?_
                                refine s0g (qv_ldB (i := 0) sc_3 rfl rfl rfl) ?_
                                refine sdg (qv_lss rfl rfl) (fun c127 => ?_) (fun c127 => ?_)
                                ·
                                  refine s0g (qv_move rfl) ?_
                                  refine sk ?_
                                  refine sk ?_
                                  refine sk ?_
                                  refine s0g (qv_pickT rfl rfl) ?_
                                  refine s0 (qv_pickT rfl rfl) ?_
                                  refine tl_nil (tp_normal ?_)
                                  refine tc_true rfl ?_
                                  refine tc_seq ?_
                                  refine tc_region ?_
                                  refine s0 (qv_assign rfl) ?_
                                  refine tl_nil (tp_normal ?_)
                                  refine tc_ret (tp_block_ret (tp_then_ret (tp_then_ret (tp_block_ret (tp_then_ret (tp_end1 rfl rfl ?_))))))
                                  intro w' hm
                                  have hub : useBad e60 := by unfold useBad inTo; omega
                                  exact ⟨by rw [hJ.2, useErrs_bad he60 (by rw [useErr_bad hpt hub]; decide), useErr_bad hpt hub], hm.below⟩
                                ·
                                  refine s0g (qv_move rfl) ?_
                                  refine s0g (qv_fa fo_34_6 rfl) ?_
                                  refine s0g (qv_ldB (i := 0) sc_3 rfl rfl rfl) ?_
                                  refine sdg (qv_gtr rfl rfl) (fun c131 => ?_) (fun c131 => ?_)
                                  ·
                                    refine s0g (qv_pickF rfl rfl) ?_
                                    refine s0 (qv_pickT rfl rfl) ?_
                                    refine tl_nil (tp_normal ?_)
                                    refine tc_true rfl ?_
                                    refine tc_seq ?_
                                    refine tc_region ?_
                                    refine s0 (qv_assign rfl) ?_
                                    refine tl_nil (tp_normal ?_)
                                    refine tc_ret (tp_block_ret (tp_then_ret (tp_then_ret (tp_block_ret (tp_then_ret (tp_end1 rfl rfl ?_))))))
                                    intro w' hm
                                    have hub : useBad e60 := by unfold useBad inTo; omega
                                    exact ⟨by rw [hJ.2, useErrs_bad he60 (by rw [useErr_bad hpt hub]; decide), useErr_bad hpt hub], hm.below⟩
                                  ·
                                    refine s0g (qv_pickF rfl rfl) ?_
                                    refine s0 (qv_pickT rfl rfl) ?_
                                    refine tl_nil (tp_normal ?_)
                                    refine tc_false rfl ?_
                                    refine tc_skip (tp_block_normal (tp_normal ?_))
                                    refine tc_region ?_
                                    refine s0 (qv_move rfl) ?_
                                    refine s0 (qv_succ rfl rfl (by omega)) ?_
                                    refine s0 (qv_assign rfl) ?_
                                    exact tl_nil (tp_roundS (k + 1) ⟨by omega, by rw [hJ.2, useErrs_ok he60 (useErr_ok hpt (by unfold useBad inTo; omega))]⟩ (by omega) ⟨rfl, trivial⟩ rfl rfl rfl rfl)
                              ·
                                refine s0 (qv_move rfl) ?_
                                refine sk ?_
                                refine sk ?_
                                refine sk ?_
                                refine sk ?_
                                refine sk ?_
                                refine sk ?_
                                refine sk ?_
                                refine sk ?_
                                refine s0 (qv_pickF rfl rfl) ?_
                                refine tl_nil (tp_normal ?_)
                                refine tc_false rfl ?_
                                refine tc_skip (tp_block_normal (tp_normal ?_))
                                refine tc_region ?_
                                refine s0 (qv_move rfl) ?_
                                refine s0 (qv_succ rfl rfl (by omega)) ?_
                                refine s0 (qv_assign rfl) ?_
                                exact tl_nil (tp_roundS (k + 1) ⟨by omega, by rw [hJ.2, useErrs_ok he60 (useErr_ok hpt (by unfold useBad inTo; omega))]⟩ (by omega) ⟨rfl, trivial⟩ rfl rfl rfl rfl)
                        ·
                          refine s0 (qv_move rfl) ?_
                          refine s0g (qv_fa fo_34_0 rfl) ?_
                          refine s0g (qv_ldB (i := 0) sc_3 rfl rfl rfl) ?_
                          refine sdg (qv_eql rfl rfl) (fun c109 => ?_) (fun c109 => ?_)
                          ·
                            refine s0 (qv_pickF rfl rfl) ?_
                            refine s0 (qv_move rfl) ?_
                            refine s0g (qv_fa fo_34_6 rfl) ?_
                            refine s0g (qv_ldB (i := 0) sc_3 rfl rfl rfl) ?_
                            refine sdg (qv_lss rfl rfl) (fun c114 => ?_) (fun c114 => ?_)
                            ·
                              refine s0g (qv_move rfl) ?_
                              refine sk ?_
                              refine sk ?_
                              refine sk ?_
                              refine s0g (qv_pickT rfl rfl) ?_
                              refine s0 (qv_pickT rfl rfl) ?_
                              refine tl_nil (tp_normal ?_)
                              refine tc_true rfl ?_
                              refine tc_seq ?_
                              refine tc_region ?_
                              refine s0 (qv_assign rfl) ?_
                              refine tl_nil (tp_normal ?_)
                              refine tc_ret (tp_then_ret (tp_block_ret (tp_then_ret (tp_then_ret (tp_block_ret (tp_then_ret (tp_end1 rfl rfl ?_)))))))
                              intro w' hm
                              have hub : useBad e60 := by unfold useBad inTo; omega
                              exact ⟨by rw [hJ.2, useErrs_bad he60 (by rw [useErr_bad hpt hub]; decide), useErr_bad hpt hub], hm.below⟩
                            ·
                              refine s0g (qv_move rfl) ?_
                              refine s0g (qv_fa fo_34_6 rfl) ?_
                              refine s0g (qv_ldB (i := 0) sc_3 rfl rfl rfl) ?_
                              refine sdg (qv_gtr rfl rfl) (fun c118 => ?_) (fun c118 => ?_)
                              ·
                                refine s0g (qv_pickF rfl rfl) ?_
                                refine s0 (qv_pickT rfl rfl) ?_
                                refine tl_nil (tp_normal ?_)
                                refine tc_true rfl ?_
                                refine tc_seq ?_
                                refine tc_region ?_
                                refine s0 (qv_assign rfl) ?_
                                refine tl_nil (tp_normal ?_)
                                refine tc_ret (tp_then_ret (tp_block_ret (tp_then_ret (tp_then_ret (tp_block_ret (tp_then_ret (tp_end1 rfl rfl ?_)))))))
                                intro w' hm
                                have hub : useBad e60 := by unfold useBad inTo; omega
                                exact ⟨by rw [hJ.2, useErrs_bad he60 (by rw [useErr_bad hpt hub]; decide), useErr_bad hpt hub], hm.below⟩
                              ·
                                refine s0g (qv_pickF rfl rfl) ?_
                                refine s0 (qv_pickT rfl rfl) ?_
                                refine tl_nil (tp_normal ?_)
                                refine tc_false rfl ?_
                                refine tc_skip (tp_normal ?_)
                                refine tc_seq ?_
                                refine tc_region ?_
                                refine s0 (qv_fa fo_34_0 rfl) ?_
                                refine s0 (qv_ldB (i := 0) sc_3 rfl rfl rfl) ?_
                                refine sd (qv_eql rfl rfl) (fun c123 => ?_) (fun c123 => ?_)
                                ·
                                  refine s0 (qv_move rfl) ?_
                                  refine s0g (qv_fa fo_34_6 rfl) ?_
                                  refine s0g (qv_ldB (i := 0) sc_3 rfl rfl rfl) ?_
                                  refine sdg (qv_lss rfl rfl) (fun c127 => ?_) (fun c127 => ?_)
                                  ·
                                    refine s0g (qv_move rfl) ?_
                                    refine sk ?_
                                    refine sk ?_
                                    refine sk ?_
                                    refine s0g (qv_pickT rfl rfl) ?_
                                    refine s0 (qv_pickT rfl rfl) ?_
                                    refine tl_nil (tp_normal ?_)
                                    refine tc_true rfl ?_
                                    refine tc_seq ?_
                                    refine tc_region ?_
                                    refine s0 (qv_assign rfl) ?_
                                    refine tl_nil (tp_normal ?_)
                                    refine tc_ret (tp_block_ret (tp_then_ret (tp_then_ret (tp_block_ret (tp_then_ret (tp_end1 rfl rfl ?_))))))
                                    intro w' hm
                                    have hub : useBad e60 := by unfold useBad inTo; omega
                                    exact ⟨by rw [hJ.2, useErrs_bad he60 (by rw [useErr_bad hpt hub]; decide), useErr_bad hpt hub], hm.below⟩
                                  ·
                                    refine s0g (qv_move rfl) ?_
                                    refine s0g (qv_fa fo_34_6 rfl) ?_
                                    refine s0g (qv_ldB (i := 0) sc_3 rfl rfl rfl) ?_
                                    refine sdg (qv_gtr rfl rfl) (fun c131 => ?_) (fun c131 => ?_)
                                    ·
                                      refine s0g (qv_pickF rfl rfl) ?_
                                      refine s0 (qv_pickT rfl rfl) ?_
                                      refine tl_nil (tp_normal ?_)
                                      refine tc_true rfl ?_
                                      refine tc_seq ?_
                                      refine tc_region ?_
                                      refine s0 (qv_assign rfl) ?_
                                      refine tl_nil (tp_normal ?_)
                                      refine tc_ret (tp_block_ret (tp_then_ret (tp_then_ret (tp_block_ret (tp_then_ret (tp_end1 rfl rfl ?_))))))
                                      intro w' hm
                                      have hub : useBad e60 := by unfold useBad inTo; omega
                                      exact ⟨by rw [hJ.2, useErrs_bad he60 (by rw [useErr_bad hpt hub]; decide), useErr_bad hpt hub], hm.below⟩
                                    ·
                                      refine s0g (qv_pickF rfl rfl) ?_
                                      refine s0 (qv_pickT rfl rfl) ?_
                                      refine tl_nil (tp_normal ?_)
                                      refine tc_false rfl ?_
                                      refine tc_skip (tp_block_normal (tp_normal ?_))
                                      refine tc_region ?_
                                      refine s0 (qv_move rfl) ?_
                                      refine s0 (qv_succ rfl rfl (by omega)) ?_
                                      refine s0 (qv_assign rfl) ?_
                                      exact tl_nil (tp_roundS (k + 1) ⟨by omega, by rw [hJ.2, useErrs_ok he60 (useErr_ok hpt (by unfold useBad inTo; omega))]⟩ (by omega) ⟨rfl, trivial⟩ rfl rfl rfl rfl)
                                ·
                                  refine s0 (qv_move rfl) ?_
                                  refine sk ?_
                                  refine sk ?_
                                  refine sk ?_
                                  refine sk ?_
                                  refine sk ?_
                                  refine sk ?_
                                  refine sk ?_
                                  refine sk ?_
                                  refine s0 (qv_pickF rfl rfl) ?_
                                  refine tl_nil (tp_normal ?_)
                                  refine tc_false rfl ?_
                                  refine tc_skip (tp_block_normal (tp_normal ?_))
                                  refine tc_region ?_
                                  refine s0 (qv_move rfl) ?_
                                  refine s0 (qv_succ rfl rfl (by omega)) ?_
                                  refine s0 (qv_assign rfl) ?_
                                  exact tl_nil (tp_roundS (k + 1) ⟨by omega, by rw [hJ.2, useErrs_ok he60 (useErr_ok hpt (by unfold useBad inTo; omega))]⟩ (by omega) ⟨rfl, trivial⟩ rfl rfl rfl rfl)
                          ·
                            refine s0 (qv_pickF rfl rfl) ?_
                            refine s0 (qv_move rfl) ?_
                            refine sk ?_
                            refine sk ?_
                            refine sk ?_
                            refine sk ?_
                            refine sk ?_
                            refine sk ?_
                            refine sk ?_
                            refine sk ?_
                            refine s0 (qv_pickF rfl rfl) ?_
                            refine tl_nil (tp_normal ?_)
                            refine tc_false rfl ?_
                            refine tc_skip (tp_normal ?_)
                            refine tc_seq ?_
                            refine tc_region ?_
                            refine s0 (qv_fa fo_34_0 rfl) ?_
                            refine s0 (qv_ldB (i := 0) sc_3 rfl rfl rfl) ?_
                            refine sd (qv_eql rfl rfl) (fun c123 => ?_) (fun c123 => ?_)
                            ·
                              refine s0 (qv_move rfl) ?_
                              refine s0g (qv_fa fo_34_6 rfl) ?_
                              refine s0g (qv_ldB (i := 0) sc_3 rfl rfl rfl) ?_
                              refine sdg (qv_lss rfl rfl) (fun c127 => ?_) (fun c127 => ?_)
                              ·
                                refine s0g (qv_move rfl) ?_
                                refine sk ?_
                                refine sk ?_
                                refine sk ?_
                                refine s0g (qv_pickT rfl rfl) ?_
                                refine s0 (qv_pickT rfl rfl) ?_
                                refine tl_nil (tp_normal ?_)
                                refine tc_true rfl ?_
                                refine tc_seq ?_
                                refine tc_region ?_
                                refine s0 (qv_assign rfl) ?_
                                refine tl_nil (tp_normal ?_)
                                refine tc_ret (tp_block_ret (tp_then_ret (tp_then_ret (tp_block_ret (tp_then_ret (tp_end1 rfl rfl ?_))))))
                                intro w' hm
                                have hub : useBad e60 := by unfold useBad inTo; omega
                                exact ⟨by rw [hJ.2, useErrs_bad he60 (by rw [useErr_bad hpt hub]; decide), useErr_bad hpt hub], hm.below⟩
                              ·
                                refine s0g (qv_move rfl) ?_
                                refine s0g (qv_fa fo_34_6 rfl) ?_
                                refine s0g (qv_ldB (i := 0) sc_3 rfl rfl rfl) ?_
                                refine sdg (qv_gtr rfl rfl) (fun c131 => ?_) (fun c131 => ?_)
                                ·
                                  refine s0g (qv_pickF rfl rfl) ?_
                                  refine s0 (qv_pickT rfl rfl) ?_
                                  refine tl_nil (tp_normal ?_)
                                  refine tc_true rfl ?_
                                  refine tc_seq ?_
                                  refine tc_region ?_
                                  refine s0 (qv_assign rfl) ?_
                                  refine tl_nil (tp_normal ?_)
                                  refine tc_ret (tp_block_ret (tp_then_ret (tp_then_ret (tp_block_ret (tp_then_ret (tp_end1 rfl rfl ?_))))))
                                  intro w' hm
                                  have hub : useBad e60 := by unfold useBad inTo; omega
                                  exact ⟨by rw [hJ.2, useErrs_bad he60 (by rw [useErr_bad hpt hub]; decide), useErr_bad hpt hub], hm.below⟩
                                ·
                                  refine s0g (qv_pickF rfl rfl) ?_
                                  refine s0 (qv_pickT rfl rfl) ?_
                                  refine tl_nil (tp_normal ?_)
                                  refine tc_false rfl ?_
                                  refine tc_skip (tp_block_normal (tp_normal ?_))
                                  refine tc_region ?_
                                  refine s0 (qv_move rfl) ?_
                                  refine s0 (qv_succ rfl rfl (by omega)) ?_
                                  refine s0 (qv_assign rfl) ?_
                                  exact tl_nil (tp_roundS (k + 1) ⟨by omega, by rw [hJ.2, useErrs_ok he60 (useErr_ok hpt (by unfold useBad inTo; omega))]⟩ (by omega) ⟨rfl, trivial⟩ rfl rfl rfl rfl)
                            ·
                              refine s0 (qv_move rfl) ?_
                              refine sk ?_
                              refine sk ?_
                              refine sk ?_
                              refine sk ?_
                              refine sk ?_
                              refine sk ?_
                              refine sk ?_
                              refine sk ?_
                              refine s0 (qv_pickF rfl rfl) ?_
                              refine tl_nil (tp_normal ?_)
                              refine tc_false rfl ?_
                              refine tc_skip (tp_block_normal (tp_normal ?_))
                              refine tc_region ?_
                              refine s0 (qv_move rfl) ?_
                              refine s0 (qv_succ rfl rfl (by omega)) ?_
                              refine s0 (qv_assign rfl) ?_
                              exact tl_nil (tp_roundS (k + 1) ⟨by omega, by rw [hJ.2, useErrs_ok he60 (useErr_ok hpt (by unfold useBad inTo; omega))]⟩ (by omega) ⟨rfl, trivial⟩ rfl rfl rfl rfl)
            ·
              refine s0 (qv_move rfl) ?_
              refine sk ?_
              refine sk ?_
              refine sk ?_
              refine sk ?_
              refine sk ?_
              refine sk ?_
              refine sk ?_
              refine sk ?_
              refine sk ?_
              refine sk ?_
              refine sk ?_
              refine sk ?_
              refine sk ?_
              refine sk ?_
              refine sk ?_
              refine sk ?_
              refine sk ?_
              refine sk ?_
              refine sk ?_
              refine sk ?_
              refine sk ?_
              refine sk ?_
              refine sk ?_
              refine sk ?_
              refine sk ?_
              refine s0 (qv_pickF rfl rfl) ?_
              refine tl_nil (tp_normal ?_)
              refine tc_false rfl ?_
              refine tc_skip (tp_normal ?_)
              refine tc_seq ?_
              refine tc_seq ?_
              refine tc_region ?_
              refine s0 (qv_fa fo_34_0 rfl) ?_
              refine s0 (qv_ldB (i := 0) sc_3 rfl rfl rfl) ?_
              refine sd (qv_eql rfl rfl) (fun c105 => ?_) (fun c105 => ?_)
              ·
                refine s0 (qv_move rfl) ?_
                refine sk ?_
                refine sk ?_
                refine sk ?_
                refine s0 (qv_pickT rfl rfl) ?_
                refine s0 (qv_move rfl) ?_
                refine s0g (qv_fa fo_34_6 rfl) ?_
                refine s0g (qv_ldB (i := 0) sc_3 rfl rfl rfl) ?_
                refine sdg (qv_lss rfl rfl) (fun c114 => ?_) (fun c114 => ?_)
                ·
                  refine s0g (qv_move rfl) ?_
                  refine sk ?_
                  refine sk ?_
                  refine sk ?_
                  refine s0g (qv_pickT rfl rfl) ?_
                  refine s0 (qv_pickT rfl rfl) ?_
                  refine tl_nil (tp_normal ?_)
                  refine tc_true rfl ?_
                  refine tc_seq ?_
                  refine tc_region ?_
                  refine s0 (qv_assign rfl) ?_
                  refine tl_nil (tp_normal ?_)
                  refine tc_ret (tp_then_ret (tp_block_ret (tp_then_ret (tp_then_ret (tp_block_ret (tp_then_ret (tp_end1 rfl rfl ?_)))))))
                  intro w' hm
                  have hub : useBad e60 := by unfold useBad inTo; omega
                  exact ⟨by rw [hJ.2, useErrs_bad he60 (by rw [useErr_bad hpt hub]; decide), useErr_bad hpt hub], hm.below⟩
                ·
                  refine s0g (qv_move rfl) ?_
                  refine s0g (qv_fa fo_34_6 rfl) ?_
                  refine s0g (qv_ldB (i := 0) sc_3 rfl rfl rfl) ?_
                  refine sdg (qv_gtr rfl rfl) (fun c118 => ?_) (fun c118 => ?_)
                  ·
                    refine s0g (qv_pickF rfl rfl) ?_
                    refine s0 (qv_pickT rfl rfl) ?_
                    refine tl_nil (tp_normal ?_)
                    refine tc_true rfl ?_
                    refine tc_seq ?_
                    refine tc_region ?_
                    refine s0 (qv_assign rfl) ?_
                    refine tl_nil (tp_normal ?_)
                    refine tc_ret (tp_then_ret (tp_block_ret (tp_then_ret (tp_then_ret (tp_block_ret (tp_then_ret (tp_end1 rfl rfl ?_)))))))
                    intro w' hm
                    have hub : useBad e60 := by unfold useBad inTo; omega
                    exact ⟨by rw [hJ.2, useErrs_bad he60 (by rw [useErr_bad hpt hub]; decide), useErr_bad hpt hub], hm.below⟩
                  ·
                    refine s0g (qv_pickF rfl rfl) ?_
                    refine s0 (qv_pickT rfl rfl) ?_
                    refine tl_nil (tp_normal ?_)
                    refine tc_false rfl ?_
                    refine tc_skip (tp_normal ?_)
                    refine tc_seq ?_
                    refine tc_region ?_
                    refine s0 (qv_fa fo_34_0 rfl) ?_
                    refine s0 (qv_ldB (i := 0) sc_3 rfl rfl rfl) ?_
                    refine sd (qv_eql rfl rfl) (fun c123 => ?_) (fun c123 => ?_)
                    ·
                      refine s0 (qv_move rfl) ?_
                      refine s0g (qv_fa fo_34_6 rfl) ?_
                      refine s0g (qv_ldB (i := 0) sc_3 rfl rfl rfl) ?_
                      refine sdg (qv_lss rfl rfl) (fun c127 => ?_) (fun c127 => ?_)
                      ·
                        refine s0g (qv_move rfl) ?_
                        refine sk ?_
                        refine sk ?_
                        refine sk ?_
                        refine s0g (qv_pickT rfl rfl) ?_
                        refine s0 (qv_pickT rfl rfl) ?_
                        refine tl_nil (tp_normal ?_)
                        refine tc_true rfl ?_
                        refine tc_seq ?_
                        refine tc_region ?_
                        refine s0 (qv_assign rfl) ?_
                        refine tl_nil (tp_normal ?_)
                        refine tc_ret (tp_block_ret (tp_then_ret (tp_then_ret (tp_block_ret (tp_then_ret (tp_end1 rfl rfl ?_))))))
                        intro w' hm
                        have hub : useBad e60 := by unfold useBad inTo; omega
                        exact ⟨by rw [hJ.2, useErrs_bad he60 (by rw [useErr_bad hpt hub]; decide), useErr_bad hpt hub], hm.below⟩
                      ·
                        refine s0g (qv_move rfl) ?_
                        refine s0g (qv_fa fo_34_6 rfl) ?_
                        refine s0g (qv_ldB (i := 0) sc_3 rfl rfl rfl) ?_
                        refine sdg (qv_gtr rfl rfl) (fun c131 => ?_) (fun c131 => ?_)
                        ·
                          refine s0g (qv_pickF rfl rfl) ?_
                          refine s0 (qv_pickT rfl rfl) ?_
                          refine tl_nil (tp_normal ?_)
                          refine tc_true rfl ?_
                          refine tc_seq ?_
                          refine tc_region ?_
                          refine s0 (qv_assign rfl) ?_
                          refine tl_nil (tp_normal ?_)
                          refine tc_ret (tp_block_ret (tp_then_ret (tp_then_ret (tp_block_ret (tp_then_ret (tp_end1 rfl rfl ?_))))))
                          intro w' hm
                          have hub : useBad e60 := by unfold useBad inTo; omega
                          exact ⟨by rw [hJ.2, useErrs_bad he60 (by rw [useErr_bad hpt hub]; decide), useErr_bad hpt hub], hm.below⟩
                        ·
                          refine s0g (qv_pickF rfl rfl) ?_
                          refine s0 (qv_pickT rfl rfl) ?_
                          refine tl_nil (tp_normal ?_)
                          refine tc_false rfl ?_
                          refine tc_skip (tp_block_normal (tp_normal ?_))
                          refine tc_region ?_
                          refine s0 (qv_move rfl) ?_
                          refine s0 (qv_succ rfl rfl (by omega)) ?_
                          refine s0 (qv_assign rfl) ?_
                          exact tl_nil (tp_roundS (k + 1) ⟨by omega, by rw [hJ.2, useErrs_ok he60 (useErr_ok hpt (by unfold useBad inTo; omega))]⟩ (by omega) ⟨rfl, trivial⟩ rfl rfl rfl rfl)
                    ·
                      refine s0 (qv_move rfl) ?_
                      refine sk ?_
                      refine sk ?_
                      refine sk ?_
                      refine sk ?_
                      refine sk ?_
                      refine sk ?_
                      refine sk ?_
                      refine sk ?_
                      refine s0 (qv_pickF rfl rfl) ?_
                      refine tl_nil (tp_normal ?_)
                      refine tc_false rfl ?_
                      refine tc_skip (tp_block_normal (tp_normal ?_))
                      refine tc_region ?_
                      refine s0 (qv_move rfl) ?_
                      refine s0 (qv_succ rfl rfl (by omega)) ?_
                      refine s0 (qv_assign rfl) ?_
                      exact tl_nil (tp_roundS (k + 1) ⟨by omega, by rw [hJ.2, useErrs_ok he60 (useErr_ok hpt (by unfold useBad inTo; omega))]⟩ (by omega) ⟨rfl, trivial⟩ rfl rfl rfl rfl)
              ·
                refine s0 (qv_move rfl) ?_
                refine s0g (qv_fa fo_34_0 rfl) ?_
                refine s0g (qv_ldB (i := 0) sc_3 rfl rfl rfl) ?_
                refine sdg (qv_eql rfl rfl) (fun c109 => ?_) (fun c109 => ?_)
                ·
                  refine s0 (qv_pickF rfl rfl) ?_
                  refine s0 (qv_move rfl) ?_
                  refine s0g (qv_fa fo_34_6 rfl) ?_
                  refine s0g (qv_ldB (i := 0) sc_3 rfl rfl rfl) ?_
                  refine sdg (qv_lss rfl rfl) (fun c114 => ?_) (fun c114 => ?_)
                  ·
                    refine s0g (qv_move rfl) ?_
                    refine sk ?_
                    refine sk ?_
                    refine sk ?_
                    refine s0g (qv_pickT rfl rfl) ?_
                    refine s0 (qv_pickT rfl rfl) ?_
                    refine tl_nil (tp_normal ?_)
                    refine tc_true rfl ?_
                    refine tc_seq ?_
                    refine tc_region ?_
                    refine s0 (qv_assign rfl) ?_
                    refine tl_nil (tp_normal ?_)
                    refine tc_ret (tp_then_ret (tp_block_ret (tp_then_ret (tp_then_ret (tp_block_ret (tp_then_ret (tp_end1 rfl rfl ?_)))))))
                    intro w' hm
                    have hub : useBad e60 := by unfold useBad inTo; omega
                    exact ⟨by rw [hJ.2, useErrs_bad he60 (by rw [useErr_bad hpt hub]; decide), useErr_bad hpt hub], hm.below⟩
                  ·
                    refine s0g (qv_move rfl) ?_
                    refine s0g (qv_fa fo_34_6 rfl) ?_
                    refine s0g (qv_ldB (i := 0) sc_3 rfl rfl rfl) ?_
                    refine sdg (qv_gtr rfl rfl) (fun c118 => ?_) (fun c118 => ?_)
                    ·
                      refine s0g (qv_pickF rfl rfl) ?_
                      refine s0 (qv_pickT rfl rfl) ?_
                      refine tl_nil (tp_normal ?_)
                      refine tc_true rfl ?_
                      refine tc_seq ?_
                      refine tc_region ?_
                      refine s0 (qv_assign rfl) ?_
                      refine tl_nil (tp_normal ?_)
                      refine tc_ret (tp_then_ret (tp_block_ret (tp_then_ret (tp_then_ret (tp_block_ret (tp_then_ret (tp_end1 rfl rfl ?_)))))))
                      intro w' hm
                      have hub : useBad e60 := by unfold useBad inTo; omega
                      exact ⟨by rw [hJ.2, useErrs_bad he60 (by rw [useErr_bad hpt hub]; decide), useErr_bad hpt hub], hm.below⟩
                    ·
                      refine s0g (qv_pickF rfl rfl) ?_
                      refine s0 (qv_pickT rfl rfl) ?_
                      refine tl_nil (tp_normal ?_)
                      refine tc_false rfl ?_
                      refine tc_skip (tp_normal ?_)
                      refine tc_seq ?_
                      refine tc_region ?_
                      refine s0 (qv_fa fo_34_0 rfl) ?_
                      refine s0 (qv_ldB (i := 0) sc_3 rfl rfl rfl) ?_
                      refine sd (qv_eql rfl rfl) (fun c123 => ?_) (fun c123 => ?_)
                      ·
                        refine s0 (qv_move rfl) ?_
                        refine s0g (qv_fa fo_34_6 rfl) ?_
                        refine s0g (qv_ldB (i := 0) sc_3 rfl rfl rfl) ?_
                        refine sdg (qv_lss rfl rfl) (fun c127 => ?_) (fun c127 => ?_)
                        ·
                          refine s0g (qv_move rfl) ?_
                          refine sk ?_
                          refine sk ?_
                          refine sk ?_
                          refine s0g (qv_pickT rfl rfl) ?_
                          refine s0 (qv_pickT rfl rfl) ?_
                          refine tl_nil (tp_normal ?_)
                          refine tc_true rfl ?_
                          refine tc_seq ?_
                          refine tc_region ?_
                          refine s0 (qv_assign rfl) ?_
                          refine tl_nil (tp_normal ?_)
                          refine tc_ret (tp_block_ret (tp_then_ret (tp_then_ret (tp_block_ret (tp_then_ret (tp_end1 rfl rfl ?_))))))
                          intro w' hm
                          have hub : useBad e60 := by unfold useBad inTo; omega
                          exact ⟨by rw [hJ.2, useErrs_bad he60 (by rw [useErr_bad hpt hub]; decide), useErr_bad hpt hub], hm.below⟩
                        ·
                          refine s0g (qv_move rfl) ?_
                          refine s0g (qv_fa fo_34_6 rfl) ?_
                          refine s0g (qv_ldB (i := 0) sc_3 rfl rfl rfl) ?_
                          refine sdg (qv_gtr rfl rfl) (fun c131 => ?_) (fun c131 => ?_)
                          ·
                            refine s0g (qv_pickF rfl rfl) ?_
                            refine s0 (qv_pickT rfl rfl) ?_
                            refine tl_nil (tp_normal ?_)
                            refine tc_true rfl ?_
                            refine tc_seq ?_
                            refine tc_region ?_
                            refine s0 (qv_assign rfl) ?_
                            refine tl_nil (tp_normal ?_)
                            refine tc_ret (tp_block_ret (tp_then_ret (tp_then_ret (tp_block_ret (tp_then_ret (tp_end1 rfl rfl ?_))))))
                            intro w' hm
                            have hub : useBad e60 := by unfold useBad inTo; omega
                            exact ⟨by rw [hJ.2, useErrs_bad he60 (by rw [useErr_bad hpt hub]; decide), useErr_bad hpt hub], hm.below⟩
                          ·
                            refine s0g (qv_pickF rfl rfl) ?_
                            refine s0 (qv_pickT rfl rfl) ?_
                            refine tl_nil (tp_normal ?_)
                            refine tc_false rfl ?_
                            refine tc_skip (tp_block_normal (tp_normal ?_))
                            refine tc_region ?_
                            refine s0 (qv_move rfl) ?_
                            refine s0 (qv_succ rfl rfl (by omega)) ?_
                            refine s0 (qv_assign rfl) ?_
                            exact tl_nil (tp_roundS (k + 1) ⟨by omega, by rw [hJ.2, useErrs_ok he60 (useErr_ok hpt (by unfold useBad inTo; omega))]⟩ (by omega) ⟨rfl, trivial⟩ rfl rfl rfl rfl)
                      ·
                        refine s0 (qv_move rfl) ?_
                        refine sk ?_
                        refine sk ?_
                        refine sk ?_
                        refine sk ?_
                        refine sk ?_
                        refine sk ?_
                        refine sk ?_
                        refine sk ?_
                        refine s0 (qv_pickF rfl rfl) ?_
                        refine tl_nil (tp_normal ?_)
                        refine tc_false rfl ?_
                        refine tc_skip (tp_block_normal (tp_normal ?_))
                        refine tc_region ?_
                        refine s0 (qv_move rfl) ?_
                        refine s0 (qv_succ rfl rfl (by omega)) ?_
                        refine s0 (qv_assign rfl) ?_
                        exact tl_nil (tp_roundS (k + 1) ⟨by omega, by rw [hJ.2, useErrs_ok he60 (useErr_ok hpt (by unfold useBad inTo; omega))]⟩ (by omega) ⟨rfl, trivial⟩ rfl rfl rfl rfl)
                ·
                  refine s0 (qv_pickF rfl rfl) ?_
                  refine s0 (qv_move rfl) ?_
                  refine sk ?_
                  refine sk ?_
                  refine sk ?_
                  refine sk ?_
                  refine sk ?_
                  refine sk ?_
                  refine sk ?_
                  refine sk ?_
                  refine s0 (qv_pickF rfl rfl) ?_
                  refine tl_nil (tp_normal ?_)
                  refine tc_false rfl ?_
                  refine tc_skip (tp_normal ?_)
                  refine tc_seq ?_
                  refine tc_region ?_
                  refine s0 (qv_fa fo_34_0 rfl) ?_
                  refine s0 (qv_ldB (i := 0) sc_3 rfl rfl rfl) ?_
                  refine sd (qv_eql rfl rfl) (fun c123 => ?_) (fun c123 => ?_)
                  ·
                    refine s0 (qv_move rfl) ?_
                    refine s0g (qv_fa fo_34_6 rfl) ?_
                    refine s0g (qv_ldB (i := 0) sc_3 rfl rfl rfl) ?_
                    refine sdg (qv_lss rfl rfl) (fun c127 => ?_) (fun c127 => ?_)
                    ·
                      refine s0g (qv_move rfl) ?_
                      refine sk ?_
                      refine sk ?_
                      refine sk ?_
                      refine s0g (qv_pickT rfl rfl) ?_
                      refine s0 (qv_pickT rfl rfl) ?_
                      refine tl_nil (tp_normal ?_)
                      refine tc_true rfl ?_
                      refine tc_seq ?_
                      refine tc_region ?_
                      refine s0 (qv_assign rfl) ?_
                      refine tl_nil (tp_normal ?_)
                      refine tc_ret (tp_block_ret (tp_then_ret (tp_then_ret (tp_block_ret (tp_then_ret (tp_end1 rfl rfl ?_))))))
                      intro w' hm
                      have hub : useBad e60 := by unfold useBad inTo; omega
                      exact ⟨by rw [hJ.2, useErrs_bad he60 (by rw [useErr_bad hpt hub]; decide), useErr_bad hpt hub], hm.below⟩
                    ·
                      refine s0g (qv_move rfl) ?_
                      refine s0g (qv_fa fo_34_6 rfl) ?_
                      refine s0g (qv_ldB (i := 0) sc_3 rfl rfl rfl) ?_
                      refine sdg (qv_gtr rfl rfl) (fun c131 => ?_) (fun c131 => ?_)
                      ·
                        refine s0g (qv_pickF rfl rfl) ?_
                        refine s0 (qv_pickT rfl rfl) ?_
                        refine tl_nil (tp_normal ?_)
                        refine tc_true rfl ?_
                        refine tc_seq ?_
                        refine tc_region ?_
                        refine s0 (qv_assign rfl) ?_
                        refine tl_nil (tp_normal ?_)
                        refine tc_ret (tp_block_ret (tp_then_ret (tp_then_ret (tp_block_ret (tp_then_ret (tp_end1 rfl rfl ?_))))))
                        intro w' hm
                        have hub : useBad e60 := by unfold useBad inTo; omega
                        exact ⟨by rw [hJ.2, useErrs_bad he60 (by rw [useErr_bad hpt hub]; decide), useErr_bad hpt hub], hm.below⟩
                      ·
                        refine s0g (qv_pickF rfl rfl) ?_
                        refine s0 (qv_pickT rfl rfl) ?_
                        refine tl_nil (tp_normal ?_)
                        refine tc_false rfl ?_
                        refine tc_skip (tp_block_normal (tp_normal ?_))
                        refine tc_region ?_
                        refine s0 (qv_move rfl) ?_
                        refine s0 (qv_succ rfl rfl (by omega)) ?_
                        refine s0 (qv_assign rfl) ?_
                        exact tl_nil (tp_roundS (k + 1) ⟨by omega, by rw [hJ.2, useErrs_ok he60 (useErr_ok hpt (by unfold useBad inTo; omega))]⟩ (by omega) ⟨rfl, trivial⟩ rfl rfl rfl rfl)
                  ·
                    refine s0 (qv_move rfl) ?_
                    refine sk ?_
                    refine sk ?_
                    refine sk ?_
                    refine sk ?_
                    refine sk ?_
                    refine sk ?_
                    refine sk ?_
                    refine sk ?_
                    refine s0 (qv_pickF rfl rfl) ?_
                    refine tl_nil (tp_normal ?_)
                    refine tc_false rfl ?_
                    refine tc_skip (tp_block_normal (tp_normal ?_))
                    refine tc_region ?_
                    refine s0 (qv_move rfl) ?_
                    refine s0 (qv_succ rfl rfl (by omega)) ?_
                    refine s0 (qv_assign rfl) ?_
                    exact tl_nil (tp_roundS (k + 1) ⟨by omega, by rw [hJ.2, useErrs_ok he60 (useErr_ok hpt (by unfold useBad inTo; omega))]⟩ (by omega) ⟨rfl, trivial⟩ rfl rfl rfl rfl)
        ·
          refine tl_nil (tp_normal ?_)
          refine tc_false rfl ?_
          refine tc_exit (tp_then_exit (tp_then_exit (tp_block_exit (tp_normal ?_))))
          refine tc_seq ?_
          refine tc_region ?_
          refine s0 (qv_assign rfl) ?_
          refine tl_nil (tp_normal ?_)
          refine tc_ret (tp_end1 rfl rfl ?_)
          intro w' hm
          exact ⟨by rw [hJ.2, List.drop_eq_nil_of_le (by omega)]; rfl, hm.below⟩
set_option maxRecDepth 100000 in
set_option maxHeartbeats 4000000 in
theorem rcharge_calls (w : World) (t : List Tariff) (ta : Option Addr) (tc : Nat) (n : Net) (na : Option Addr) (nc : Nat) (u : Use) (ht : SlIn w 3 encTar ta t) (hn : SlIn w 50 encLink na n.links) (hk : NetOk n) (hs : SlIn w 3 encSend u.sends.a u.sends.l) :
    Calls Try.prog 19 #[.slice ta t.length tc, .agg (netA n na nc), .agg (encUse u).toArray] w (fun e w' => e = .returned (.agg #[.int .i64 (charge t n u).1, .int .i64 (charge t n u).2]) ∧ Below w.heap.size w w') := by
  have hlent := ht.len
  simp only [maxLen] at hlent
  have hlenn := hn.len
  simp only [maxLen] at hlenn
  have hlen := hs.len
  simp only [maxLen] at hlen
  refine calls_of_tc (N := 89) (vs := [.slice ta t.length tc, .agg (netA n na nc), .agg (encUse u).toArray]) Try.func19 rfl rfl (Nat.le_of_ble_eq_true rfl) ?_
  refine tc_seq ?_
  refine tc_region ?_
  refine tl_box rfl (by decide) (fun b4_0 => ?_)
  refine tl_box rfl (by decide) (fun b5_1 => ?_)
  refine tl_alloc ze_38 (by decide) (fun b6_2 => ?_)
  refine tl_nil (tp_normal ?_)
  refine tc_seq ?_
  refine tc_region ?_
  refine s0 (qv_move rfl) ?_
  refine s0 (qv_ldBW (i := 1) ag_34 rfl rfl rfl) ?_
  refine tl_buildSliceL (enc := encUse) [u] bsl_27_1 (fun b12_3 => ?_) rfl (by kernel_rfl)
  have hsb12_3 := SlAt.ofBox (enc := encUse) (sz := 8) (b := b12_3) (E := 34) (l := [u]) (Nat.le_of_ble_eq_true rfl) (fun x hx => rfl)
  refine s0 (qv_call fn_17 rfl (fun w hm => rmcheck_calls w t ta tc [u] (some ⟨b12_3, 0, none⟩) 1 (ht.into Mem.has_base hm) (hsb12_3.into (Mem.has_box (by repeat (first | exact List.Mem.head _ | refine List.Mem.tail _ ?_))) hm))) ?_
  refine s0 (qv_assign rfl) ?_
  refine tl_nil (tp_normal ?_)
  refine tc_seq ?_
  refine tc_seq ?_
  refine tc_region ?_
  refine s0 (qv_move rfl) ?_
  refine sd (qv_neq rfl rfl) (fun c15 => ?_) (fun c15 => ?_)
  ·
    refine tl_nil (tp_normal ?_)
    refine tc_true rfl ?_
    refine tc_seq ?_
    refine tc_region ?_
    refine s0 (qv_move rfl) ?_
    refine s0 (qv_build (cells := #[.int .i64 (0), .int .i64 (meterCheck t [u])]) bt_38 rfl (by kernel_rfl)) ?_
    refine tl_storeO (i := 1) sz_38 rfl rfl rfl rfl rfl rfl rfl ?_
    refine tl_nil (tp_normal ?_)
    refine tc_ret (tp_then_ret (tp_endC (i := 1) rfl rfl ag_38 rfl rfl ?_))
    intro w' hm
    exact ⟨by rw [charge_err (by omega)]; rfl, hm.below⟩
  ·
    refine tl_nil (tp_normal ?_)
    refine tc_false rfl ?_
    refine tc_skip (tp_normal ?_)
    refine tc_seq ?_
    refine tc_seq ?_
    have hc := charged (t := t) (u := u) (by omega)
    have hh0 := hc.h0
    have hh1 := hc.h1
    have hk1 := hc.k1
    have hk5_ := hc.k5
    refine tc_region ?_
    refine s0 (qv_fa fo_34_0 rfl) ?_
    refine s0 (qv_ldB (i := 2) sc_3 rfl rfl rfl) ?_
    refine sd (qv_eql rfl rfl) (fun c20 => ?_) (fun c20 => ?_)
    ·
      refine tl_nil (tp_normal ?_)
      refine tc_true rfl ?_
      refine tc_seq ?_
      refine tc_region ?_
      refine s0 (qv_ldBW (i := 3) ag_26 rfl rfl rfl) ?_
      refine s0 (qv_fa fo_34_7 rfl) ?_
      refine s0 (qv_ldB (i := 2) sc_32 rfl rfl rfl) ?_
      refine s0 (qv_call fn_54 rfl (fun w hm => rfits_calls w n na nc u.sends.l u.sends.a u.sends.c (hn.into Mem.has_base hm) hk (hs.into Mem.has_base hm))) ?_
      refine s0 (qv_assign rfl) ?_
      refine tl_nil (tp_normal ?_)
      refine tc_seq ?_
      refine tc_seq ?_
      refine tc_region ?_
      refine s0 (qv_move rfl) ?_
      refine sd (qv_neq rfl rfl) (fun c26 => ?_) (fun c26 => ?_)
      ·
        refine tl_nil (tp_normal ?_)
        refine tc_true rfl ?_
        refine tc_seq ?_
        refine tc_region ?_
        refine s0 (qv_move rfl) ?_
        refine s0 (qv_build bt_38 rfl rfl) ?_
        refine tl_storeO (i := 1) sz_38 rfl rfl rfl rfl rfl rfl rfl ?_
        refine tl_nil (tp_normal ?_)
        refine tc_ret (tp_then_ret (tp_then_ret (tp_endC (i := 1) rfl rfl ag_38 rfl rfl ?_)))
        intro w' hm
        exact ⟨by rw [charge_moves (by omega) c20, if_pos c26]; rfl, hm.below⟩
      ·
        refine tl_nil (tp_normal ?_)
        refine tc_false rfl ?_
        refine tc_skip (tp_normal ?_)
        refine tc_seq ?_
        refine tc_region ?_
        refine s0 (qv_ldBW (i := 3) ag_26 rfl rfl rfl) ?_
        refine s0 (qv_fa fo_34_7 rfl) ?_
        refine s0 (qv_ldB (i := 2) sc_32 rfl rfl rfl) ?_
        refine s0 (qv_call fn_55 rfl (fun w hm => rcost_calls w n na nc u.sends.l u.sends.a u.sends.c (hn.into Mem.has_base hm) hk (hs.into Mem.has_base hm))) ?_
        refine tl_alloc ze_129 (by decide) (fun b9_4 => ?_)
        refine tl_storeO (i := 0) sz_129 rfl rfl rfl rfl rfl rfl rfl ?_
        refine tl_nil (tp_normal ?_)
        refine tc_seq ?_
        refine tc_seq ?_
        have hfc := fits_cost (n := n) (l := u.sends.l) (by omega)
        refine tc_region ?_
        refine s0 (qv_fa fo_129_0 rfl) ?_
        refine s0 (qv_ldB (i := 0) sc_3 rfl rfl rfl) ?_
        refine sd (qv_gtr rfl rfl) (fun c35 => ?_) (fun c35 => ?_)
        ·
          refine tl_nil (tp_normal ?_)
          refine tc_true rfl ?_
          refine tc_seq ?_
          refine tc_region ?_
          refine s0 (qv_build (cells := #[.int .i64 (0), .int .i64 (2)]) bt_38 rfl (by kernel_rfl)) ?_
          refine tl_storeO (i := 2) sz_38 rfl rfl rfl rfl rfl rfl rfl ?_
          refine tl_nil (tp_normal ?_)
          refine tc_ret (tp_then_ret (tp_then_ret (tp_endC (i := 2) rfl rfl ag_38 rfl rfl ?_)))
          intro w' hm
          exact ⟨by rw [charge_moves (by omega) c20, if_neg c26, if_pos (by omega)]; rfl, hm.below⟩
        ·
          refine tl_nil (tp_normal ?_)
          refine tc_false rfl ?_
          refine tc_skip (tp_normal ?_)
          refine tc_seq ?_
          refine tc_region ?_
          refine s0 (qv_fa fo_129_0 rfl) ?_
          refine s0 (qv_ldB (i := 0) sc_3 rfl rfl rfl) ?_
          refine s0 (qv_mulI rfl rfl (by omega)) ?_
          refine s0 (qv_build (cells := #[.int .i64 ((1000) * ((cost n u.sends.l).1)), .int .i64 (0)]) bt_38 rfl (by kernel_rfl)) ?_
          refine tl_storeO (i := 2) sz_38 rfl rfl rfl rfl rfl rfl rfl ?_
          refine tl_nil (tp_normal ?_)
          refine tc_ret (tp_then_ret (tp_endC (i := 2) rfl rfl ag_38 rfl rfl ?_))
          intro w' hm
          exact ⟨by rw [charge_moves (by omega) c20, if_neg c26, if_neg (by omega)]; rfl, hm.below⟩
    ·
      refine tl_nil (tp_normal ?_)
      refine tc_false rfl ?_
      refine tc_skip (tp_normal ?_)
      refine tc_seq ?_
      refine tc_seq ?_
      refine tc_region ?_
      refine s0 (qv_fa fo_34_0 rfl) ?_
      refine s0 (qv_ldB (i := 2) sc_3 rfl rfl rfl) ?_
      refine tl_nil (tp_normal ?_)
      refine tc_block ?_
      refine tc_seq ?_
      refine tc_region ?_
      refine sd (qv_eql rfl rfl) (fun c44 => ?_) (fun c44 => ?_)
      ·
        refine s0 (qv_assign rfl) ?_
        refine tl_nil (tp_normal ?_)
        refine tc_true rfl ?_
        refine tc_seq ?_
        refine tc_drawU 16 16 mixed (by kernel_rfl) ?_
        refine q0 (qv_fa fo_34_3 rfl) ?_
        refine q0 (qv_ldB (i := 2) sc_3 rfl rfl rfl) ?_
        refine q0 (qv_fa fo_34_5 rfl) ?_
        refine q0 (qv_ldB (i := 2) sc_3 rfl rfl rfl) ?_
        refine q0 (qv_fa fo_34_4 rfl) ?_
        refine q0 (qv_ldB (i := 2) sc_3 rfl rfl rfl) ?_
        obtain ⟨hk2, hk3, hk4, hk5⟩ := hc.kept c44
        refine q0 (qv_subI rfl rfl (by omega)) ?_
        have hmb1 := mul_bd hk2 (show 0 ≤ u.till - u.since ∧ u.till - u.since ≤ 1000000 by omega)
        refine q0 (qv_mulI rfl rfl (by omega)) ?_
        refine q0 (qv_move rfl) ?_
        refine q0 (qv_fa fo_34_1 rfl) ?_
        refine q0 (qv_ldB (i := 2) sc_3 rfl rfl rfl) ?_
        refine qi st_23 ht rfl rfl (by omega) (fun e56 he56 => ?_)
        refine q0 (qv_fa fo_113_0 rfl) ?_
        refine q0 (qv_ldE (j := 0) sc_3 ht Mem.has_base rfl rfl he56 rfl) ?_
        have hkp := hc.keep
        rw [tarOf_eq he56] at hkp
        have hmb2 := mul_bd hmb1 hkp
        refine q0 (qv_mulI rfl rfl (by omega)) ?_
        refine q0 (qv_build (cells := #[.int .i64 ((u.bytes * (u.till - u.since)) * e56.keep), .int .i64 (0)]) bt_38 rfl (by kernel_rfl)) ?_
        refine tq_up ?_
        refine tu_tail rfl rfl rfl (by kernel_rfl) ?_
        refine tl_storeO (i := 1) sz_38 rfl rfl rfl rfl rfl rfl rfl ?_
        refine tl_nil (tp_normal ?_)
        refine tc_ret (tp_block_ret (tp_then_ret (tp_endC (i := 1) rfl rfl ag_38 rfl rfl ?_)))
        intro w' hm
        exact ⟨by rw [charge_keep (by omega) c44, tarOf_eq he56]; rfl, hm.below⟩
      ·
        refine s0 (qv_assign rfl) ?_
        refine tl_nil (tp_normal ?_)
        refine tc_false rfl ?_
        refine tc_seq ?_
        refine tc_region ?_
        refine sd (qv_eql rfl rfl) (fun c62 => ?_) (fun c62 => ?_)
        ·
          refine s0 (qv_assign rfl) ?_
          refine tl_nil (tp_normal ?_)
          refine tc_true rfl ?_
          refine tc_seq ?_
          refine tc_drawU 10 10 mixed (by kernel_rfl) ?_
          refine q0 (qv_fa fo_34_6 rfl) ?_
          refine q0 (qv_ldB (i := 2) sc_3 rfl rfl rfl) ?_
          refine q0 (qv_move rfl) ?_
          refine q0 (qv_fa fo_34_1 rfl) ?_
          refine q0 (qv_ldB (i := 2) sc_3 rfl rfl rfl) ?_
          refine qi st_23 ht rfl rfl (by omega) (fun e68 he68 => ?_)
          refine q0 (qv_fa fo_113_1 rfl) ?_
          refine q0 (qv_ldE (j := 1) sc_3 ht Mem.has_base rfl rfl he68 rfl) ?_
          have hkp := hc.read
          rw [tarOf_eq he68] at hkp
          have hmb := mul_bd (hc.count (by omega)) hkp
          refine q0 (qv_mulI rfl rfl (by omega)) ?_
          refine q0 (qv_build (cells := #[.int .i64 (u.count * e68.read), .int .i64 (0)]) bt_38 rfl (by kernel_rfl)) ?_
          refine tq_up ?_
          refine tu_tail rfl rfl rfl (by kernel_rfl) ?_
          refine tl_storeO (i := 1) sz_38 rfl rfl rfl rfl rfl rfl rfl ?_
          refine tl_nil (tp_normal ?_)
          refine tc_ret (tp_block_ret (tp_then_ret (tp_endC (i := 1) rfl rfl ag_38 rfl rfl ?_)))
          intro w' hm
          exact ⟨by rw [charge_read (by omega) c62, tarOf_eq he68]; rfl, hm.below⟩
        ·
          refine s0 (qv_assign rfl) ?_
          refine tl_nil (tp_normal ?_)
          refine tc_false rfl ?_
          refine tc_seq ?_
          refine tc_region ?_
          refine sd (qv_eql rfl rfl) (fun c74 => ?_) (fun c74 => ?_)
          ·
            refine s0 (qv_assign rfl) ?_
            refine tl_nil (tp_normal ?_)
            refine tc_true rfl ?_
            refine tc_seq ?_
            refine tc_drawU 10 10 mixed (by kernel_rfl) ?_
            refine q0 (qv_fa fo_34_6 rfl) ?_
            refine q0 (qv_ldB (i := 2) sc_3 rfl rfl rfl) ?_
            refine q0 (qv_move rfl) ?_
            refine q0 (qv_fa fo_34_1 rfl) ?_
            refine q0 (qv_ldB (i := 2) sc_3 rfl rfl rfl) ?_
            refine qi st_23 ht rfl rfl (by omega) (fun e80 he80 => ?_)
            refine q0 (qv_fa fo_113_2 rfl) ?_
            refine q0 (qv_ldE (j := 2) sc_3 ht Mem.has_base rfl rfl he80 rfl) ?_
            have hkp := hc.audit
            rw [tarOf_eq he80] at hkp
            have hmb := mul_bd (hc.count (by omega)) hkp
            refine q0 (qv_mulI rfl rfl (by omega)) ?_
            refine q0 (qv_build (cells := #[.int .i64 (u.count * e80.audit), .int .i64 (0)]) bt_38 rfl (by kernel_rfl)) ?_
            refine tq_up ?_
            refine tu_tail rfl rfl rfl (by kernel_rfl) ?_
            refine tl_storeO (i := 1) sz_38 rfl rfl rfl rfl rfl rfl rfl ?_
            refine tl_nil (tp_normal ?_)
            refine tc_ret (tp_block_ret (tp_then_ret (tp_endC (i := 1) rfl rfl ag_38 rfl rfl ?_)))
            intro w' hm
            exact ⟨by rw [charge_audit (by omega) c74, tarOf_eq he80]; rfl, hm.below⟩
          ·
            refine s0 (qv_assign rfl) ?_
            refine tl_nil (tp_normal ?_)
            refine tc_false rfl ?_
            refine tc_skip (tp_block_normal (tp_normal ?_))
            refine tc_seq ?_
            have hct := hc.count (by omega)
            refine tc_region ?_
            refine s0 (qv_fa fo_34_6 rfl) ?_
            refine s0 (qv_ldB (i := 2) sc_3 rfl rfl rfl) ?_
            refine s0 (qv_mulI rfl rfl (by omega)) ?_
            refine s0 (qv_build (cells := #[.int .i64 ((1000) * u.count), .int .i64 (0)]) bt_38 rfl (by kernel_rfl)) ?_
            refine tl_storeO (i := 1) sz_38 rfl rfl rfl rfl rfl rfl rfl ?_
            refine tl_nil (tp_normal ?_)
            refine tc_ret (tp_endC (i := 1) rfl rfl ag_38 rfl rfl ?_)
            intro w' hm
            exact ⟨by rw [charge_fine (by omega) (by omega)]; rfl, hm.below⟩
set_option maxRecDepth 100000 in
theorem few9_calls (w : World) (n : Net) (na : Option Addr) (nc : Nat) (l : List Use) (la : Option Addr) (lc : Nat) (hn : SlIn w 50 encLink na n.links) (hk : NetOk n) (hl : SlIn w 8 encUse la l) :
    Calls Try.prog 14 #[.agg (netA n na nc), .slice la l.length lc] w (fun e w' => e = .returned (.bool (decide (few9 n l))) ∧ Below w.heap.size w w') := by
  have hlenn := hn.len
  simp only [maxLen] at hlenn
  have hlenu := hl.len
  simp only [maxLen] at hlenu
  refine calls_of_tc (N := 37) (vs := [.agg (netA n na nc), .slice la l.length lc]) Try.func14 rfl rfl (Nat.le_of_ble_eq_true rfl) ?_
  refine tc_seq ?_
  refine tc_region ?_
  refine tl_box rfl (by decide) (fun b2_0 => ?_)
  refine s0 (qv_assign rfl) ?_
  refine tl_nil (tp_normal ?_)
  refine tc_seq ?_
  refine tc_seq ?_
  refine tc_region ?_
  refine s0 (qv_fa fo_26_1 rfl) ?_
  refine s0 (qv_ldB (i := 0) sc_24 rfl rfl rfl) ?_
  refine s0 (qv_len st_24 rfl) ?_
  refine sd (qv_gtr rfl rfl) (fun c10 => ?_) (fun c10 => ?_)
  ·
    refine s0 (qv_move rfl) ?_
    refine sk ?_
    refine sk ?_
    refine sk ?_
    refine sk ?_
    refine sk ?_
    refine sk ?_
    refine sk ?_
    refine sk ?_
    refine s0 (qv_pickT rfl rfl) ?_
    refine s0 (qv_move rfl) ?_
    refine sk ?_
    refine sk ?_
    refine sk ?_
    refine s0 (qv_pickT rfl rfl) ?_
    refine tl_nil (tp_normal ?_)
    refine tc_true rfl ?_
    refine tc_seq ?_
    refine tc_region ?_
    refine s0 (qv_assign rfl) ?_
    refine tl_nil (tp_normal ?_)
    refine tc_ret (tp_then_ret (tp_end1 rfl rfl ?_))
    intro w' hm
    exact ⟨by rw [decide_eq_false (fun h => by unfold few9 at h; omega)], hm.below⟩
  ·
    refine s0 (qv_move rfl) ?_
    refine s0g (qv_move rfl) ?_
    refine s0g (qv_len st_27 rfl) ?_
    refine sdg (qv_gtr rfl rfl) (fun c14 => ?_) (fun c14 => ?_)
    ·
      refine s0g (qv_move rfl) ?_
      refine s0g (qv_move rfl) ?_
      refine s0g (qv_len st_27 rfl) ?_
      refine sdg (qv_leq rfl rfl) (fun c18 => ?_) (fun c18 => ?_)
      ·
        refine s0g (qv_pickT rfl rfl) ?_
        refine s0 (qv_pickF rfl rfl) ?_
        refine s0 (qv_move rfl) ?_
        refine sk ?_
        refine sk ?_
        refine sk ?_
        refine s0 (qv_pickT rfl rfl) ?_
        refine tl_nil (tp_normal ?_)
        refine tc_true rfl ?_
        refine tc_seq ?_
        refine tc_region ?_
        refine s0 (qv_assign rfl) ?_
        refine tl_nil (tp_normal ?_)
        refine tc_ret (tp_then_ret (tp_end1 rfl rfl ?_))
        intro w' hm
        exact ⟨by rw [decide_eq_false (fun h => by unfold few9 at h; omega)], hm.below⟩
      ·
        refine s0g (qv_pickT rfl rfl) ?_
        refine s0 (qv_pickF rfl rfl) ?_
        refine s0 (qv_move rfl) ?_
        refine s0g (qv_move rfl) ?_
        refine s0g (qv_len st_27 rfl) ?_
        refine sdg (qv_gtr rfl rfl) (fun c24 => ?_) (fun c24 => ?_)
        ·
          refine s0 (qv_pickF rfl rfl) ?_
          refine tl_nil (tp_normal ?_)
          refine tc_true rfl ?_
          refine tc_seq ?_
          refine tc_region ?_
          refine s0 (qv_assign rfl) ?_
          refine tl_nil (tp_normal ?_)
          refine tc_ret (tp_then_ret (tp_end1 rfl rfl ?_))
          intro w' hm
          exact ⟨by rw [decide_eq_false (fun h => by unfold few9 at h; omega)], hm.below⟩
        ·
          refine s0 (qv_pickF rfl rfl) ?_
          refine tl_nil (tp_normal ?_)
          refine tc_false rfl ?_
          refine tc_skip (tp_normal ?_)
          refine tc_seq ?_
          refine tc_seq ?_
          refine tc_region ?_
          refine s0 (qv_move rfl) ?_
          refine s0 (qv_len st_27 rfl) ?_
          refine s0 (qv_move rfl) ?_
          refine tl_nil (tp_normal ?_)
          refine tc_block (tc_loopS (fun (k : Nat) => [(28, .int .i64 (k : Int))]) (fun (k : Nat) => k ≤ l.length ∧ ∀ (j : Nat) u, j < k → l[j]? = some u → ¬ 10 < u.sends.l.length) (fun (k : Nat) => l.length - k) (0) ⟨Nat.zero_le _, fun _ _ h => absurd h (Nat.not_lt_zero _)⟩ ⟨rfl, trivial⟩ ?_)
          rintro k hI
          refine tc_seq ?_
          refine tc_region ?_
          refine sd (qv_lss rfl rfl) (fun c29 => ?_) (fun c29 => ?_)
          ·
            refine tl_nil (tp_normal ?_)
            refine tc_seq ?_
            refine tc_true rfl ?_
            refine tc_skip (tp_normal ?_)
            refine tc_seq ?_
            refine tc_block ?_
            refine tc_seq ?_
            refine tc_region ?_
            refine sn st_27 hl rfl rfl (by omega) (fun e30 he30 => ?_)
            refine s0 (qv_ldEW ag_34 hl Mem.has_base rfl he30) ?_
            refine tl_alloc ze_34 (by decide) (fun b6_1 => ?_)
            refine tl_storeL (i := 0) sz_34 (hl.szs _ (List.mem_of_getElem? he30)) (one_34 _) rfl rfl rfl rfl ?_
            refine tl_nil (tp_normal ?_)
            refine tc_seq ?_
            refine tc_region ?_
            refine s0 (qv_fa fo_34_7 rfl) ?_
            refine s0 (qv_ldB (i := 0) sc_32 rfl rfl rfl) ?_
            refine s0 (qv_len st_32 rfl) ?_
            refine sd (qv_gtr rfl rfl) (fun c35 => ?_) (fun c35 => ?_)
            ·
              refine tl_nil (tp_normal ?_)
              refine tc_true rfl ?_
              refine tc_seq ?_
              refine tc_region ?_
              refine s0 (qv_assign rfl) ?_
              refine tl_nil (tp_normal ?_)
              refine tc_ret (tp_block_ret (tp_then_ret (tp_then_ret (tp_block_ret (tp_then_ret (tp_end1 rfl rfl ?_))))))
              intro w' hm
              exact ⟨by rw [decide_eq_false (fun h => by have := h.2.2 _ (List.mem_of_getElem? he30); omega)], hm.below⟩
            ·
              refine tl_nil (tp_normal ?_)
              refine tc_false rfl ?_
              refine tc_skip (tp_block_normal (tp_normal ?_))
              refine tc_region ?_
              refine s0 (qv_succ rfl rfl (by omega)) ?_
              refine s0 (qv_move rfl) ?_
              exact tl_nil (tp_roundS (k + 1) ⟨by omega, none_stepG (P := fun _ (u : Use) => ¬ 10 < u.sends.l.length) hI.2 he30 (by omega)⟩ (by omega) ⟨rfl, trivial⟩ rfl rfl rfl rfl)
          ·
            refine tl_nil (tp_normal ?_)
            refine tc_seq ?_
            refine tc_false rfl ?_
            refine tc_exit (tp_then_exit (tp_then_exit (tp_block_exit (tp_normal ?_))))
            refine tc_seq ?_
            refine tc_region ?_
            refine s0 (qv_assign rfl) ?_
            refine tl_nil (tp_normal ?_)
            refine tc_ret (tp_end1 rfl rfl ?_)
            intro w' hm
            exact ⟨by rw [decide_eq_true (few9_all (by omega) (by omega) (by omega) hI.2)], hm.below⟩
    ·
      refine s0g (qv_move rfl) ?_
      refine sk ?_
      refine sk ?_
      refine sk ?_
      refine s0g (qv_pickF rfl rfl) ?_
      refine s0 (qv_pickF rfl rfl) ?_
      refine s0 (qv_move rfl) ?_
      refine s0g (qv_move rfl) ?_
      refine s0g (qv_len st_27 rfl) ?_
      refine sdg (qv_gtr rfl rfl) (fun c24 => ?_) (fun c24 => ?_)
      ·
        refine s0 (qv_pickF rfl rfl) ?_
        refine tl_nil (tp_normal ?_)
        refine tc_true rfl ?_
        refine tc_seq ?_
        refine tc_region ?_
        refine s0 (qv_assign rfl) ?_
        refine tl_nil (tp_normal ?_)
        refine tc_ret (tp_then_ret (tp_end1 rfl rfl ?_))
        intro w' hm
        exact ⟨by rw [decide_eq_false (fun h => by unfold few9 at h; omega)], hm.below⟩
      ·
        refine s0 (qv_pickF rfl rfl) ?_
        refine tl_nil (tp_normal ?_)
        refine tc_false rfl ?_
        refine tc_skip (tp_normal ?_)
        refine tc_seq ?_
        refine tc_seq ?_
        refine tc_region ?_
        refine s0 (qv_move rfl) ?_
        refine s0 (qv_len st_27 rfl) ?_
        refine s0 (qv_move rfl) ?_
        refine tl_nil (tp_normal ?_)
        refine tc_block (tc_loopS (fun (k : Nat) => [(28, .int .i64 (k : Int))]) (fun (k : Nat) => k ≤ l.length ∧ ∀ (j : Nat) u, j < k → l[j]? = some u → ¬ 10 < u.sends.l.length) (fun (k : Nat) => l.length - k) (0) ⟨Nat.zero_le _, fun _ _ h => absurd h (Nat.not_lt_zero _)⟩ ⟨rfl, trivial⟩ ?_)
        rintro k hI
        refine tc_seq ?_
        refine tc_region ?_
        refine sd (qv_lss rfl rfl) (fun c29 => ?_) (fun c29 => ?_)
        ·
          refine tl_nil (tp_normal ?_)
          refine tc_seq ?_
          refine tc_true rfl ?_
          refine tc_skip (tp_normal ?_)
          refine tc_seq ?_
          refine tc_block ?_
          refine tc_seq ?_
          refine tc_region ?_
          refine sn st_27 hl rfl rfl (by omega) (fun e30 he30 => ?_)
          refine s0 (qv_ldEW ag_34 hl Mem.has_base rfl he30) ?_
          refine tl_alloc ze_34 (by decide) (fun b6_2 => ?_)
          refine tl_storeL (i := 0) sz_34 (hl.szs _ (List.mem_of_getElem? he30)) (one_34 _) rfl rfl rfl rfl ?_
          refine tl_nil (tp_normal ?_)
          refine tc_seq ?_
          refine tc_region ?_
          refine s0 (qv_fa fo_34_7 rfl) ?_
          refine s0 (qv_ldB (i := 0) sc_32 rfl rfl rfl) ?_
          refine s0 (qv_len st_32 rfl) ?_
          refine sd (qv_gtr rfl rfl) (fun c35 => ?_) (fun c35 => ?_)
          ·
            refine tl_nil (tp_normal ?_)
            refine tc_true rfl ?_
            refine tc_seq ?_
            refine tc_region ?_
            refine s0 (qv_assign rfl) ?_
            refine tl_nil (tp_normal ?_)
            refine tc_ret (tp_block_ret (tp_then_ret (tp_then_ret (tp_block_ret (tp_then_ret (tp_end1 rfl rfl ?_))))))
            intro w' hm
            exact ⟨by rw [decide_eq_false (fun h => by have := h.2.2 _ (List.mem_of_getElem? he30); omega)], hm.below⟩
          ·
            refine tl_nil (tp_normal ?_)
            refine tc_false rfl ?_
            refine tc_skip (tp_block_normal (tp_normal ?_))
            refine tc_region ?_
            refine s0 (qv_succ rfl rfl (by omega)) ?_
            refine s0 (qv_move rfl) ?_
            exact tl_nil (tp_roundS (k + 1) ⟨by omega, none_stepG (P := fun _ (u : Use) => ¬ 10 < u.sends.l.length) hI.2 he30 (by omega)⟩ (by omega) ⟨rfl, trivial⟩ rfl rfl rfl rfl)
        ·
          refine tl_nil (tp_normal ?_)
          refine tc_seq ?_
          refine tc_false rfl ?_
          refine tc_exit (tp_then_exit (tp_then_exit (tp_block_exit (tp_normal ?_))))
          refine tc_seq ?_
          refine tc_region ?_
          refine s0 (qv_assign rfl) ?_
          refine tl_nil (tp_normal ?_)
          refine tc_ret (tp_end1 rfl rfl ?_)
          intro w' hm
          exact ⟨by rw [decide_eq_true (few9_all (by omega) (by omega) (by omega) hI.2)], hm.below⟩
set_option maxRecDepth 100000 in
theorem always_calls (w : World) (v : Int)  :
    Calls Try.prog 48 #[.int .i64 v] w (fun e w' => e = .returned (.agg (alwaysL v 24).toArray) ∧ Below w.heap.size w w') := by
  refine calls_of_tc (N := 13) (vs := [.int .i64 v]) Try.func48 rfl rfl (Nat.le_of_ble_eq_true rfl) ?_
  refine tc_seq ?_
  refine tc_region ?_
  refine tl_alloc ze_114 (by decide) (fun b2_0 => ?_)
  refine tl_nil (tp_normal ?_)
  refine tc_seq ?_
  refine tc_region ?_
  refine tl_alloc ze_114 (by decide) (fun b3_1 => ?_)
  refine tl_nil (tp_normal ?_)
  refine tc_seq ?_
  refine tc_seq ?_
  refine tc_region ?_
  refine s0 (qv_move rfl) ?_
  refine tl_nil (tp_normal ?_)
  refine tc_block (tc_loopB (fun (k : Nat) => [(5, .int .i64 (k : Int))]) (fun (k : Nat) => [(0, b3_1, .cells (alwaysL v k).toArray 114 (0, 0))]) (fun (k : Nat) => k ≤ 24) (fun (k : Nat) => 24 - k) (0) (Nat.zero_le _) ⟨rfl, trivial⟩ rfl ?_)
  rintro k hI
  refine tc_seq ?_
  refine tc_region ?_
  refine sd (qv_lss rfl rfl) (fun c6 => ?_) (fun c6 => ?_)
  ·
    refine tl_nil (tp_normal ?_)
    refine tc_seq ?_
    refine tc_true rfl ?_
    refine tc_skip (tp_normal ?_)
    refine tc_seq ?_
    refine tc_block ?_
    refine tc_seq ?_
    refine tc_region ?_
    refine s0 (qv_move rfl) ?_
    refine s0 (qv_assign rfl) ?_
    refine tl_nil (tp_normal ?_)
    refine tc_region ?_
    refine s0 (qv_move rfl) ?_
    refine s0 (qv_move rfl) ?_
    refine s0 (qv_iA at_114 rfl rfl (by omega)) ?_
    refine tl_store1 (i := 0) sz_3 rfl rfl rfl rfl rfl (by simp [alwaysL]; omega) ?_
    refine tl_nil (tp_block_normal (tp_normal ?_))
    refine tc_region ?_
    refine s0 (qv_succ rfl rfl (by omega)) ?_
    refine s0 (qv_move rfl) ?_
    exact tl_nil (tp_roundB (k + 1) (by omega) (by omega) ⟨rfl, trivial⟩ rfl rfl (by simp only [Nat.zero_add, Nat.mul_one, Int.toNat_natCast, always_step (show k < 24 by omega)]; rfl) rfl)
  ·
    refine tl_nil (tp_normal ?_)
    refine tc_seq ?_
    refine tc_false rfl ?_
    refine tc_exit (tp_then_exit (tp_then_exit (tp_block_exit (tp_normal ?_))))
    refine tc_seq ?_
    obtain rfl : k = 24 := by omega
    refine tc_region ?_
    refine s0 (qv_ldBW (i := 0) ag_114 rfl rfl rfl) ?_
    refine tl_storeO (i := 1) sz_114 rfl rfl rfl rfl rfl rfl rfl ?_
    refine tl_nil (tp_normal ?_)
    refine tc_ret (tp_endC (i := 1) rfl rfl ag_114 rfl rfl ?_)
    intro w' hm
    exact ⟨rfl, hm.below⟩
end Go.Q
namespace Go.Q
open Go Go.Proofs Go.RowKit
theorem ze_133 : Zero Try.prog 133 #[.int .i64 0, .int .i64 0, .int .i64 0] := fun w => ⟨.agg #[.int .i64 0, .int .i64 0, .int .i64 0], by kernel_rfl, rfl⟩
theorem fo_56_0 : FOff Try.prog 56 0 0 := fun b o w => by kernel_rfl
theorem fo_56_1 : FOff Try.prog 56 1 1 := fun b o w => by kernel_rfl
theorem fo_56_2 : FOff Try.prog 56 2 2 := fun b o w => by kernel_rfl
theorem ba_133 : BuildArr Try.prog 133 1 #[.int .i64 0, .int .i64 0, .int .i64 0] := ⟨_, _, Try.underlying133, sz_3, ze_133⟩
theorem sz_133 : Size Try.prog 133 3 := fun w => by kernel_rfl
theorem ag_133 : Agg Try.prog 133 3 := fun w => ⟨by kernel_rfl, by kernel_rfl⟩
theorem st_22 : SliceTy Try.prog 22 4 := ⟨56, by kernel_rfl, fun w => by kernel_rfl⟩
theorem ag_56 : Agg Try.prog 56 4 := fun w => ⟨by kernel_rfl, by kernel_rfl⟩
theorem ze_56 : Zero Try.prog 56 #[.int .i64 0, .int .i64 0, .int .i64 0, .int .i64 0] := fun w => ⟨.agg #[.int .i64 0, .int .i64 0, .int .i64 0, .int .i64 0], by kernel_rfl, rfl⟩
theorem sz_56 : Size Try.prog 56 4 := fun w => by kernel_rfl
theorem fo_56_3 : FOff Try.prog 56 3 3 := fun b o w => by kernel_rfl
theorem fn_99 : IsFn Try.prog 99 := isFn_of Try.func99 (by kernel_rfl) rfl
theorem fn_57 : IsFn Try.prog 57 := isFn_of Try.func57 (by kernel_rfl) rfl
theorem fn_56 : IsFn Try.prog 56 := isFn_of Try.func56 (by kernel_rfl) rfl
theorem mt_131 : MapTy Try.prog 131 133 3 := Try.underlying131
theorem mz_3 (w : World) : (zeroValue 3).run Try.prog w = .ok (.int .i64 0) w := by kernel_rfl
theorem fn_18 : IsFn Try.prog 18 := isFn_of Try.func18 (by kernel_rfl) rfl
theorem fn_58 : IsFn Try.prog 58 := isFn_of Try.func58 (by kernel_rfl) rfl
theorem st_135 : SliceTy Try.prog 135 3 := ⟨133, by kernel_rfl, fun w => by kernel_rfl⟩
theorem at_133 : ArrTy Try.prog 133 3 1 := ⟨3, by kernel_rfl, fun w => by kernel_rfl⟩
theorem ze_54 : Zero Try.prog 54 #[.int .i64 0, .int .i64 0, .int .i64 0, .int .i64 0, .int .i64 0, .int .i64 0] := fun w => ⟨.agg #[.int .i64 0, .int .i64 0, .int .i64 0, .int .i64 0, .int .i64 0, .int .i64 0], by kernel_rfl, rfl⟩
theorem bt_54 : BuildTy Try.prog 54 #[(0, 1), (1, 1), (2, 1), (3, 1), (4, 1), (5, 1)] #[.int .i64 0, .int .i64 0, .int .i64 0, .int .i64 0, .int .i64 0, .int .i64 0] := ⟨_, Try.underlying54, fun w => by kernel_rfl, ze_54⟩
theorem sz_54 : Size Try.prog 54 6 := fun w => by kernel_rfl
theorem fo_54_4 : FOff Try.prog 54 4 4 := fun b o w => by kernel_rfl
theorem fo_54_1 : FOff Try.prog 54 1 1 := fun b o w => by kernel_rfl
theorem fo_54_0 : FOff Try.prog 54 0 0 := fun b o w => by kernel_rfl
theorem fo_54_2 : FOff Try.prog 54 2 2 := fun b o w => by kernel_rfl
theorem ag_54 : Agg Try.prog 54 6 := fun w => ⟨by kernel_rfl, by kernel_rfl⟩
theorem bsl_40_1 : BuildSl Try.prog 40 1 54 6 #[.int .i64 0, .int .i64 0, .int .i64 0, .int .i64 0, .int .i64 0, .int .i64 0] := ⟨Try.underlying40, sz_54, by decide, by decide, _, ze_54, by kernel_rfl⟩
theorem apt_40 : AppTy Try.prog 40 54 6 48 := ⟨Try.underlying40, ⟨.agg #[.int .i64 0, .int .i64 0, .int .i64 0, .int .i64 0, .int .i64 0, .int .i64 0], by kernel_rfl, rfl⟩, by decide⟩
theorem bt_56 : BuildTy Try.prog 56 #[(0, 1), (1, 1), (2, 1), (3, 1)] #[.int .i64 0, .int .i64 0, .int .i64 0, .int .i64 0] := ⟨_, Try.underlying56, fun w => by kernel_rfl, ze_56⟩
theorem bsl_22_1 : BuildSl Try.prog 22 1 56 4 #[.int .i64 0, .int .i64 0, .int .i64 0, .int .i64 0] := ⟨Try.underlying22, sz_56, by decide, by decide, _, ze_56, by kernel_rfl⟩
theorem apt_22 : AppTy Try.prog 22 56 4 32 := ⟨Try.underlying22, ⟨.agg #[.int .i64 0, .int .i64 0, .int .i64 0, .int .i64 0], by kernel_rfl, rfl⟩, by decide⟩
theorem bsl_135_1 : BuildSl Try.prog 135 1 133 3 #[.int .i64 0, .int .i64 0, .int .i64 0] := ⟨Try.underlying135, sz_133, by decide, by decide, _, ze_133, by kernel_rfl⟩
theorem apt_135 : AppTy Try.prog 135 133 3 24 := ⟨Try.underlying135, ⟨.agg #[.int .i64 0, .int .i64 0, .int .i64 0], by kernel_rfl, rfl⟩, by decide⟩
theorem one_54 (x : Posting) : ∀ u ∈ encPost x, u.oneCell' = true := by
  intro u hu
  simp [encPost] at hu
  rcases hu with rfl | rfl | rfl | rfl | rfl | rfl <;> rfl
theorem one_56 (x : Rest) : ∀ u ∈ encRest x, u.oneCell' = true := by
  intro u hu
  simp [encRest] at hu
  rcases hu with rfl | rfl | rfl | rfl <;> rfl
theorem one_133 (x : K3) : ∀ u ∈ encK x, u.oneCell' = true := by
  intro u hu
  simp [encK] at hu
  rcases hu with rfl | rfl | rfl <;> rfl
set_option maxRecDepth 100000 in
theorem key_calls (w : World) (x : Rest)  :
    Calls Try.prog 57 #[.agg (encRest x).toArray] w (fun e w' => e = .returned (encA3 (keyR x)) ∧ Below w.heap.size w w') := by
  refine calls_of_tc (N := 10) (vs := [.agg (encRest x).toArray]) Try.func57 rfl rfl (Nat.le_of_ble_eq_true rfl) ?_
  refine tc_seq ?_
  refine tc_region ?_
  refine tl_box rfl (by decide) (fun b1_0 => ?_)
  refine tl_alloc ze_133 (by decide) (fun b2_1 => ?_)
  refine tl_nil (tp_normal ?_)
  refine tc_seq ?_
  refine tc_region ?_
  refine s0 (qv_fa fo_56_0 rfl) ?_
  refine s0 (qv_ldB (i := 1) sc_3 rfl rfl rfl) ?_
  refine s0 (qv_fa fo_56_1 rfl) ?_
  refine s0 (qv_ldB (i := 1) sc_3 rfl rfl rfl) ?_
  refine s0 (qv_fa fo_56_2 rfl) ?_
  refine s0 (qv_ldB (i := 1) sc_3 rfl rfl rfl) ?_
  refine s0 (qv_buildA ba_133 rfl rfl) ?_
  refine tl_storeO (i := 0) sz_133 rfl rfl rfl rfl rfl rfl rfl ?_
  refine tl_nil (tp_normal ?_)
  refine tc_ret (tp_endC (i := 0) rfl rfl ag_133 rfl rfl ?_)
  intro w' hm
  exact ⟨rfl, hm.below⟩
theorem order_callsK (w : World) (x y : K3) : Calls Try.prog 56 #[encA3 x, encA3 y] w (fun e w' => e = .returned (.int .i64 (cmp3 x y)) ∧ Below w.heap.size w w') := (Go.D.order_calls w x.1 x.2.1 x.2.2 y.1 y.2.1 y.2.2).mono fun e w' ⟨he, hb⟩ => ⟨he, hb.os, hb.tape, hb.output, hb.size, hb.block⟩
set_option maxRecDepth 100000 in
theorem before_calls (w : World) (x y : Rest)  :
    Calls Try.prog 99 #[.agg (encRest x).toArray, .agg (encRest y).toArray] w (fun e w' => e = .returned (.bool (decide (before3 (keyR x) (keyR y)))) ∧ Below w.heap.size w w') := by
  refine calls_of_tc (N := 30) (vs := [.agg (encRest x).toArray, .agg (encRest y).toArray]) Try.func99 rfl rfl (Nat.le_of_ble_eq_true rfl) ?_
  refine tc_seq ?_
  refine tc_region ?_
  refine tl_box rfl (by decide) (fun b2_0 => ?_)
  refine tl_box rfl (by decide) (fun b3_1 => ?_)
  refine s0 (qv_assign rfl) ?_
  refine tl_nil (tp_normal ?_)
  refine tc_seq ?_
  refine tc_seq ?_
  refine tc_region ?_
  refine s0 (qv_fa fo_56_0 rfl) ?_
  refine s0 (qv_ldB (i := 1) sc_3 rfl rfl rfl) ?_
  refine s0 (qv_fa fo_56_0 rfl) ?_
  refine s0 (qv_ldB (i := 0) sc_3 rfl rfl rfl) ?_
  refine sd (qv_neq rfl rfl) (fun c9 => ?_) (fun c9 => ?_)
  ·
    refine tl_nil (tp_normal ?_)
    refine tc_true rfl ?_
    refine tc_seq ?_
    refine tc_region ?_
    refine s0 (qv_fa fo_56_0 rfl) ?_
    refine s0 (qv_ldB (i := 1) sc_3 rfl rfl rfl) ?_
    refine s0 (qv_fa fo_56_0 rfl) ?_
    refine s0 (qv_ldB (i := 0) sc_3 rfl rfl rfl) ?_
    refine s0 (qv_lss rfl rfl) ?_
    refine s0 (qv_assign rfl) ?_
    refine tl_nil (tp_normal ?_)
    refine tc_ret (tp_then_ret (tp_end1 rfl rfl ?_))
    intro w' hm
    exact ⟨by rw [show decide (before3 (keyR x) (keyR y)) = decide (x.customer < y.customer) from decide_eq_decide.2 (by simp only [before3, keyR]; omega)], hm.below⟩
  ·
    refine tl_nil (tp_normal ?_)
    refine tc_false rfl ?_
    refine tc_skip (tp_normal ?_)
    refine tc_seq ?_
    refine tc_seq ?_
    refine tc_region ?_
    refine s0 (qv_fa fo_56_1 rfl) ?_
    refine s0 (qv_ldB (i := 1) sc_3 rfl rfl rfl) ?_
    refine s0 (qv_fa fo_56_1 rfl) ?_
    refine s0 (qv_ldB (i := 0) sc_3 rfl rfl rfl) ?_
    refine sd (qv_neq rfl rfl) (fun c19 => ?_) (fun c19 => ?_)
    ·
      refine tl_nil (tp_normal ?_)
      refine tc_true rfl ?_
      refine tc_seq ?_
      refine tc_region ?_
      refine s0 (qv_fa fo_56_1 rfl) ?_
      refine s0 (qv_ldB (i := 1) sc_3 rfl rfl rfl) ?_
      refine s0 (qv_fa fo_56_1 rfl) ?_
      refine s0 (qv_ldB (i := 0) sc_3 rfl rfl rfl) ?_
      refine s0 (qv_lss rfl rfl) ?_
      refine s0 (qv_assign rfl) ?_
      refine tl_nil (tp_normal ?_)
      refine tc_ret (tp_then_ret (tp_end1 rfl rfl ?_))
      intro w' hm
      exact ⟨by rw [show decide (before3 (keyR x) (keyR y)) = decide (x.house < y.house) from decide_eq_decide.2 (by simp only [before3, keyR]; omega)], hm.below⟩
    ·
      refine tl_nil (tp_normal ?_)
      refine tc_false rfl ?_
      refine tc_skip (tp_normal ?_)
      refine tc_seq ?_
      refine tc_region ?_
      refine s0 (qv_fa fo_56_2 rfl) ?_
      refine s0 (qv_ldB (i := 1) sc_3 rfl rfl rfl) ?_
      refine s0 (qv_fa fo_56_2 rfl) ?_
      refine s0 (qv_ldB (i := 0) sc_3 rfl rfl rfl) ?_
      refine s0 (qv_lss rfl rfl) ?_
      refine s0 (qv_assign rfl) ?_
      refine tl_nil (tp_normal ?_)
      refine tc_ret (tp_end1 rfl rfl ?_)
      intro w' hm
      exact ⟨by rw [show decide (before3 (keyR x) (keyR y)) = decide (x.kind < y.kind) from decide_eq_decide.2 (by simp only [before3, keyR]; omega)], hm.below⟩
set_option maxRecDepth 100000 in
theorem rright9_calls (w : World) (r : List Rest) (ra : Option Addr) (rc : Nat) (t : List Tariff) (ta : Option Addr) (tc : Nat) (hr : SlIn w 4 encRest ra r) (ht : SlIn w 3 encTar ta t) :
    Calls Try.prog 59 #[.slice ra r.length rc, .slice ta t.length tc] w (fun e w' => e = .returned (.bool (decide (restsBad t none r = false))) ∧ Below w.heap.size w w') := by
  have hlent := ht.len
  simp only [maxLen] at hlent
  have hlenr := hr.len
  simp only [maxLen] at hlenr
  refine calls_of_tc (N := 54) (vs := [.slice ra r.length rc, .slice ta t.length tc]) Try.func59 rfl rfl (Nat.le_of_ble_eq_true rfl) ?_
  refine tc_seq ?_
  refine tc_region ?_
  refine s0 (qv_assign rfl) ?_
  refine tl_nil (tp_normal ?_)
  refine tc_seq ?_
  refine tc_seq ?_
  refine tc_region ?_
  refine s0 (qv_assign rfl) ?_
  refine tl_nil (tp_normal ?_)
  refine tc_block (tc_loopS (fun (k : Nat) => [(5, .int .i64 (k : Int))]) (fun (k : Nat) => k ≤ r.length ∧ restsBad t none r = restsBad t (prevR r k) (r.drop k)) (fun (k : Nat) => r.length - k) (0) ⟨Nat.zero_le _, rfl⟩ ⟨rfl, trivial⟩ ?_)
  rintro k hI
  refine tc_seq ?_
  refine tc_seq ?_
  refine tc_region ?_
  refine s0 (qv_move rfl) ?_
  refine s0 (qv_move rfl) ?_
  refine s0 (qv_len st_22 rfl) ?_
  refine sd (qv_lss rfl rfl) (fun c12 => ?_) (fun c12 => ?_)
  ·
    refine tl_nil (tp_normal ?_)
    refine tc_true rfl ?_
    refine tc_skip (tp_normal ?_)
    refine tc_seq ?_
    refine tc_block ?_
    refine tc_seq ?_
    refine tc_region ?_
    refine s0 (qv_move rfl) ?_
    refine s0 (qv_move rfl) ?_
    refine sn st_22 hr rfl rfl (by omega) (fun e17 he17 => ?_)
    refine s0 (qv_ldEW ag_56 hr Mem.has_base rfl he17) ?_
    refine tl_alloc ze_56 (by decide) (fun b6_0 => ?_)
    refine tl_storeL (i := 0) sz_56 (hr.szs _ (List.mem_of_getElem? he17)) (one_56 _) rfl rfl rfl rfl ?_
    refine tl_nil (tp_normal ?_)
    refine tc_seq ?_
    refine tc_region ?_
    refine s0 (qv_move rfl) ?_
    refine s0 (qv_fa fo_56_2 rfl) ?_
    refine s0 (qv_ldB (i := 0) sc_3 rfl rfl rfl) ?_
    refine s0 (qv_fa fo_56_1 rfl) ?_
    refine s0 (qv_ldB (i := 0) sc_3 rfl rfl rfl) ?_
    refine s0 (qv_fa fo_56_0 rfl) ?_
    refine s0 (qv_ldB (i := 0) sc_3 rfl rfl rfl) ?_
    refine s0 (qv_call fn_53 rfl (fun w hm => rparty_calls w t ta tc e17.kind e17.house e17.customer)) ?_
    refine s0 (qv_assign rfl) ?_
    refine tl_nil (tp_normal ?_)
    refine tc_seq ?_
    refine tc_draws mixed (by kernel_rfl) ?_
    refine q0 (qv_move rfl) ?_
    refine qd (qv_eql rfl rfl) (fun c28 => ?_) (fun c28 => ?_)
    ·
      refine q0 (qv_move rfl) ?_
      refine qk ?_
      refine qk ?_
      refine qk ?_
      refine qk ?_
      refine qk ?_
      refine qk ?_
      refine qk ?_
      refine q0 (qv_pickT rfl rfl) ?_
      refine q0 (qv_assign rfl) ?_
      refine tq_nil (tp_normal ?_)
      refine tc_seq ?_
      refine tc_region ?_
      refine s0 (qv_move rfl) ?_
      refine sd (qv_neq rfl rfl) (fun c39 => ?_) (fun c39 => ?_)
      ·
        refine s0 (qv_move rfl) ?_
        refine sk ?_
        refine sk ?_
        refine s0 (qv_pickT rfl rfl) ?_
        refine s0 (qv_move rfl) ?_
        refine sk ?_
        refine sk ?_
        refine sk ?_
        refine s0 (qv_pickT rfl rfl) ?_
        refine s0 (qv_move rfl) ?_
        refine sk ?_
        refine sk ?_
        refine sk ?_
        refine s0 (qv_pickT rfl rfl) ?_
        refine tl_nil (tp_normal ?_)
        refine tc_true rfl ?_
        refine tc_seq ?_
        refine tc_region ?_
        refine s0 (qv_assign rfl) ?_
        refine tl_nil (tp_normal ?_)
        refine tc_ret (tp_block_ret (tp_then_ret (tp_then_ret (tp_block_ret (tp_then_ret (tp_end1 rfl rfl ?_))))))
        intro w' hm
        exact ⟨by rw [decide_eq_false (by rw [hI.2, restsBad_stop he17 (by first | exact .inl (fun h => c39 (if_pos h)) | exact .inr (.inr (.inr ⟨e33, prevR_at (by omega) he33, c36⟩)) | exact .inr (.inl c47) | exact .inr (.inr (.inl c52)))]; decide)], hm.below⟩
      ·
        refine s0 (qv_move rfl) ?_
        refine s0g (qv_move rfl) ?_
        refine s0g (qv_not rfl) ?_
        refine s0 (qv_pickF rfl rfl) ?_
        refine s0 (qv_move rfl) ?_
        refine s0g (qv_fa fo_56_3 rfl) ?_
        refine s0g (qv_ldB (i := 0) sc_3 rfl rfl rfl) ?_
        refine sdg (qv_lss rfl rfl) (fun c47 => ?_) (fun c47 => ?_)
        ·
          refine s0 (qv_pickF rfl rfl) ?_
          refine s0 (qv_move rfl) ?_
          refine sk ?_
          refine sk ?_
          refine sk ?_
          refine s0 (qv_pickT rfl rfl) ?_
          refine tl_nil (tp_normal ?_)
          refine tc_true rfl ?_
          refine tc_seq ?_
          refine tc_region ?_
          refine s0 (qv_assign rfl) ?_
          refine tl_nil (tp_normal ?_)
          refine tc_ret (tp_block_ret (tp_then_ret (tp_then_ret (tp_block_ret (tp_then_ret (tp_end1 rfl rfl ?_))))))
          intro w' hm
          exact ⟨by rw [decide_eq_false (by rw [hI.2, restsBad_stop he17 (by first | exact .inl (fun h => c39 (if_pos h)) | exact .inr (.inr (.inr ⟨e33, prevR_at (by omega) he33, c36⟩)) | exact .inr (.inl c47) | exact .inr (.inr (.inl c52)))]; decide)], hm.below⟩
        ·
          refine s0 (qv_pickF rfl rfl) ?_
          refine s0 (qv_move rfl) ?_
          refine s0g (qv_fa fo_56_3 rfl) ?_
          refine s0g (qv_ldB (i := 0) sc_3 rfl rfl rfl) ?_
          refine sdg (qv_gtr rfl rfl) (fun c52 => ?_) (fun c52 => ?_)
          ·
            refine s0 (qv_pickF rfl rfl) ?_
            refine tl_nil (tp_normal ?_)
            refine tc_true rfl ?_
            refine tc_seq ?_
            refine tc_region ?_
            refine s0 (qv_assign rfl) ?_
            refine tl_nil (tp_normal ?_)
            refine tc_ret (tp_block_ret (tp_then_ret (tp_then_ret (tp_block_ret (tp_then_ret (tp_end1 rfl rfl ?_))))))
            intro w' hm
            exact ⟨by rw [decide_eq_false (by rw [hI.2, restsBad_stop he17 (by first | exact .inl (fun h => c39 (if_pos h)) | exact .inr (.inr (.inr ⟨e33, prevR_at (by omega) he33, c36⟩)) | exact .inr (.inl c47) | exact .inr (.inr (.inl c52)))]; decide)], hm.below⟩
          ·
            refine s0 (qv_pickF rfl rfl) ?_
            refine tl_nil (tp_normal ?_)
            refine tc_false rfl ?_
            refine tc_skip (tp_block_normal (tp_normal ?_))
            refine tc_region ?_
            refine s0 (qv_move rfl) ?_
            refine s0 (qv_succ rfl rfl (by omega)) ?_
            refine s0 (qv_assign rfl) ?_
            exact tl_nil (tp_roundS (k + 1) ⟨by omega, by rw [hI.2]; exact restsBad_step he17 (rest_not_bad (Classical.byContradiction fun h => c39 (by rw [if_neg h]; decide)) c47 c52 (by first | exact prevR_zero (by omega) | exact prevR_all (by omega) he33 c36))⟩ (by omega) ⟨rfl, trivial⟩ rfl rfl rfl rfl)
    ·
      refine q0 (qv_move rfl) ?_
      refine q0g (qv_move rfl) ?_
      refine q0g (qv_move rfl) ?_
      refine q0g (qv_subI rfl rfl (by omega)) ?_
      refine qig st_22 hr rfl rfl (by omega) (fun e33 he33 => ?_)
      refine q0g (qv_ldEW ag_56 hr Mem.has_base rfl he33) ?_
      refine q0g (qv_ldBW (i := 0) ag_56 rfl rfl rfl) ?_
      refine qdg (qv_call fn_99 rfl (fun w hm => before_calls w e33 e17)) (fun c36 => ?_) (fun c36 => ?_)
      ·
        refine q0 (qv_pickF rfl rfl) ?_
        refine q0 (qv_assign rfl) ?_
        refine tq_nil (tp_normal ?_)
        refine tc_seq ?_
        refine tc_region ?_
        refine s0 (qv_move rfl) ?_
        refine sd (qv_neq rfl rfl) (fun c39 => ?_) (fun c39 => ?_)
        ·
          refine s0 (qv_move rfl) ?_
          refine sk ?_
          refine sk ?_
          refine s0 (qv_pickT rfl rfl) ?_
          refine s0 (qv_move rfl) ?_
          refine sk ?_
          refine sk ?_
          refine sk ?_
          refine s0 (qv_pickT rfl rfl) ?_
          refine s0 (qv_move rfl) ?_
          refine sk ?_
          refine sk ?_
          refine sk ?_
          refine s0 (qv_pickT rfl rfl) ?_
          refine tl_nil (tp_normal ?_)
          refine tc_true rfl ?_
          refine tc_seq ?_
          refine tc_region ?_
          refine s0 (qv_assign rfl) ?_
          refine tl_nil (tp_normal ?_)
          refine tc_ret (tp_block_ret (tp_then_ret (tp_then_ret (tp_block_ret (tp_then_ret (tp_end1 rfl rfl ?_))))))
          intro w' hm
          exact ⟨by rw [decide_eq_false (by rw [hI.2, restsBad_stop he17 (by first | exact .inl (fun h => c39 (if_pos h)) | exact .inr (.inr (.inr ⟨e33, prevR_at (by omega) he33, c36⟩)) | exact .inr (.inl c47) | exact .inr (.inr (.inl c52)))]; decide)], hm.below⟩
        ·
          refine s0 (qv_move rfl) ?_
          refine s0g (qv_move rfl) ?_
          refine s0g (qv_not rfl) ?_
          refine s0 (qv_pickF rfl rfl) ?_
          refine s0 (qv_move rfl) ?_
          refine s0g (qv_fa fo_56_3 rfl) ?_
          refine s0g (qv_ldB (i := 0) sc_3 rfl rfl rfl) ?_
          refine sdg (qv_lss rfl rfl) (fun c47 => ?_) (fun c47 => ?_)
          ·
            refine s0 (qv_pickF rfl rfl) ?_
            refine s0 (qv_move rfl) ?_
            refine sk ?_
            refine sk ?_
            refine sk ?_
            refine s0 (qv_pickT rfl rfl) ?_
            refine tl_nil (tp_normal ?_)
            refine tc_true rfl ?_
            refine tc_seq ?_
            refine tc_region ?_
            refine s0 (qv_assign rfl) ?_
            refine tl_nil (tp_normal ?_)
            refine tc_ret (tp_block_ret (tp_then_ret (tp_then_ret (tp_block_ret (tp_then_ret (tp_end1 rfl rfl ?_))))))
            intro w' hm
            exact ⟨by rw [decide_eq_false (by rw [hI.2, restsBad_stop he17 (by first | exact .inl (fun h => c39 (if_pos h)) | exact .inr (.inr (.inr ⟨e33, prevR_at (by omega) he33, c36⟩)) | exact .inr (.inl c47) | exact .inr (.inr (.inl c52)))]; decide)], hm.below⟩
          ·
            refine s0 (qv_pickF rfl rfl) ?_
            refine s0 (qv_move rfl) ?_
            refine s0g (qv_fa fo_56_3 rfl) ?_
            refine s0g (qv_ldB (i := 0) sc_3 rfl rfl rfl) ?_
            refine sdg (qv_gtr rfl rfl) (fun c52 => ?_) (fun c52 => ?_)
            ·
              refine s0 (qv_pickF rfl rfl) ?_
              refine tl_nil (tp_normal ?_)
              refine tc_true rfl ?_
              refine tc_seq ?_
              refine tc_region ?_
              refine s0 (qv_assign rfl) ?_
              refine tl_nil (tp_normal ?_)
              refine tc_ret (tp_block_ret (tp_then_ret (tp_then_ret (tp_block_ret (tp_then_ret (tp_end1 rfl rfl ?_))))))
              intro w' hm
              exact ⟨by rw [decide_eq_false (by rw [hI.2, restsBad_stop he17 (by first | exact .inl (fun h => c39 (if_pos h)) | exact .inr (.inr (.inr ⟨e33, prevR_at (by omega) he33, c36⟩)) | exact .inr (.inl c47) | exact .inr (.inr (.inl c52)))]; decide)], hm.below⟩
            ·
              refine s0 (qv_pickF rfl rfl) ?_
              refine tl_nil (tp_normal ?_)
              refine tc_false rfl ?_
              refine tc_skip (tp_block_normal (tp_normal ?_))
              refine tc_region ?_
              refine s0 (qv_move rfl) ?_
              refine s0 (qv_succ rfl rfl (by omega)) ?_
              refine s0 (qv_assign rfl) ?_
              exact tl_nil (tp_roundS (k + 1) ⟨by omega, by rw [hI.2]; exact restsBad_step he17 (rest_not_bad (Classical.byContradiction fun h => c39 (by rw [if_neg h]; decide)) c47 c52 (by first | exact prevR_zero (by omega) | exact prevR_all (by omega) he33 c36))⟩ (by omega) ⟨rfl, trivial⟩ rfl rfl rfl rfl)
      ·
        refine q0 (qv_pickF rfl rfl) ?_
        refine q0 (qv_assign rfl) ?_
        refine tq_nil (tp_normal ?_)
        refine tc_seq ?_
        refine tc_region ?_
        refine s0 (qv_move rfl) ?_
        refine sd (qv_neq rfl rfl) (fun c39 => ?_) (fun c39 => ?_)
        ·
          refine s0 (qv_move rfl) ?_
          refine sk ?_
          refine sk ?_
          refine s0 (qv_pickT rfl rfl) ?_
          refine s0 (qv_move rfl) ?_
          refine sk ?_
          refine sk ?_
          refine sk ?_
          refine s0 (qv_pickT rfl rfl) ?_
          refine s0 (qv_move rfl) ?_
          refine sk ?_
          refine sk ?_
          refine sk ?_
          refine s0 (qv_pickT rfl rfl) ?_
          refine tl_nil (tp_normal ?_)
          refine tc_true rfl ?_
          refine tc_seq ?_
          refine tc_region ?_
          refine s0 (qv_assign rfl) ?_
          refine tl_nil (tp_normal ?_)
          refine tc_ret (tp_block_ret (tp_then_ret (tp_then_ret (tp_block_ret (tp_then_ret (tp_end1 rfl rfl ?_))))))
          intro w' hm
          exact ⟨by rw [decide_eq_false (by rw [hI.2, restsBad_stop he17 (by first | exact .inl (fun h => c39 (if_pos h)) | exact .inr (.inr (.inr ⟨e33, prevR_at (by omega) he33, c36⟩)) | exact .inr (.inl c47) | exact .inr (.inr (.inl c52)))]; decide)], hm.below⟩
        ·
          refine s0 (qv_move rfl) ?_
          refine s0g (qv_move rfl) ?_
          refine s0g (qv_not rfl) ?_
          refine s0 (qv_pickF rfl rfl) ?_
          refine s0 (qv_move rfl) ?_
          refine sk ?_
          refine sk ?_
          refine sk ?_
          refine s0 (qv_pickT rfl rfl) ?_
          refine s0 (qv_move rfl) ?_
          refine sk ?_
          refine sk ?_
          refine sk ?_
          refine s0 (qv_pickT rfl rfl) ?_
          refine tl_nil (tp_normal ?_)
          refine tc_true rfl ?_
          refine tc_seq ?_
          refine tc_region ?_
          refine s0 (qv_assign rfl) ?_
          refine tl_nil (tp_normal ?_)
          refine tc_ret (tp_block_ret (tp_then_ret (tp_then_ret (tp_block_ret (tp_then_ret (tp_end1 rfl rfl ?_))))))
          intro w' hm
          exact ⟨by rw [decide_eq_false (by rw [hI.2, restsBad_stop he17 (by first | exact .inl (fun h => c39 (if_pos h)) | exact .inr (.inr (.inr ⟨e33, prevR_at (by omega) he33, c36⟩)) | exact .inr (.inl c47) | exact .inr (.inr (.inl c52)))]; decide)], hm.below⟩
  ·
    refine tl_nil (tp_normal ?_)
    refine tc_false rfl ?_
    refine tc_exit (tp_then_exit (tp_then_exit (tp_block_exit (tp_normal ?_))))
    refine tc_seq ?_
    refine tc_region ?_
    refine s0 (qv_assign rfl) ?_
    refine tl_nil (tp_normal ?_)
    refine tc_ret (tp_end1 rfl rfl ?_)
    intro w' hm
    exact ⟨by rw [decide_eq_true (by rw [hI.2, restsBad_end (by omega)])], hm.below⟩
set_option maxRecDepth 100000 in
set_option maxHeartbeats 8000000 in
theorem period_calls (w : World) (r : List Rest) (ra : Option Addr) (rc : Nat) (t : List Tariff) (ta : Option Addr) (tc : Nat) (n : Net) (na : Option Addr) (nc : Nat) (l : List Use) (la : Option Addr) (lc : Nat) (tick : Int) (hr : SlIn w 4 encRest ra r) (ht : SlIn w 3 encTar ta t) (hn : SlIn w 50 encLink na n.links) (hk : NetOk n) (hl : SlIn w 8 encUse la l) (hins : ∀ u ∈ l, SlIn w 3 encSend u.sends.a u.sends.l ∧ u.sends.l.length ≤ u.sends.c) :
    Calls Try.prog 20 #[.slice ra r.length rc, .slice ta t.length tc, .agg (netA n na nc), .slice la l.length lc, .int .i64 tick] w (fun e w' => ∃ q : (Option Addr × Nat) × (Option Addr × Nat), e = .returned (.tuple #[.slice q.1.1 (period r t n l tick).1.length q.1.2, .slice q.2.1 (period r t n l tick).2.1.length q.2.2, .int .i64 (period r t n l tick).2.2]) ∧ Below w.heap.size w w' ∧ (((period r t n l tick).1.length ≤ q.1.2 ∧ SlAt w' w.heap.size w'.heap.size 6 encPost q.1.1 (period r t n l tick).1) ∧ ((period r t n l tick).2.1.length ≤ q.2.2 ∧ SlAt w' w.heap.size w'.heap.size 4 encRest q.2.1 (period r t n l tick).2.1))) := by
  have hlent := ht.len
  simp only [maxLen] at hlent
  have hlenn := hn.len
  simp only [maxLen] at hlenn
  have hlenu := hl.len
  simp only [maxLen] at hlenu
  have hlenr := hr.len
  simp only [maxLen] at hlenr
  refine calls_of_tc (N := 189) (vs := [.slice ra r.length rc, .slice ta t.length tc, .agg (netA n na nc), .slice la l.length lc, .int .i64 tick]) Try.func20 rfl rfl (Nat.le_of_ble_eq_true rfl) ?_
  refine tc_rowRoom ?_
  refine tc_rowRoom ?_
  refine tc_rowRoom ?_
  refine tc_seq ?_
  refine tc_region ?_
  refine tl_box rfl (by decide) (fun b7_0 => ?_)
  refine s0 (qv_assign rfl) ?_
  refine s0 (qv_assign rfl) ?_
  refine s0 (qv_assign rfl) ?_
  refine tl_nil (tp_normal ?_)
  refine tc_seq ?_
  refine tc_seq ?_
  refine tc_region ?_
  refine s0 (qv_move rfl) ?_
  refine s0 (qv_move rfl) ?_
  refine s0 (qv_call fn_16 rfl (fun w hm => mcheck_calls w t ta tc l la lc (ht.into Mem.has_base hm) (hl.into Mem.has_base hm))) ?_
  refine s0 (qv_assign rfl) ?_
  refine tl_nil (tp_normal ?_)
  refine tc_seq ?_
  refine tc_region ?_
  refine s0 (qv_move rfl) ?_
  refine sd (qv_neq rfl rfl) (fun c34 => ?_) (fun c34 => ?_)
  ·
    refine tl_nil (tp_normal ?_)
    refine tc_true rfl ?_
    refine tc_seq ?_
    refine tc_region ?_
    refine s0 (qv_move rfl) ?_
    refine s0 (qv_assign rfl) ?_
    refine s0 (qv_assign rfl) ?_
    refine s0 (qv_assign rfl) ?_
    refine tl_nil (tp_normal ?_)
    refine tc_ret (tp_then_ret (tp_end3 rfl rfl rfl rfl ?_))
    intro w' hm
    rw [period_check (by omega)]
    exact ⟨((none, 0), (none, 0)), rfl, hm.below, ⟨Nat.le_refl 0, SlAt.nothing⟩, Nat.le_refl 0, SlAt.nothing⟩
  ·
    refine tl_nil (tp_normal ?_)
    refine tc_false rfl ?_
    refine tc_skip (tp_normal ?_)
    refine tc_seq ?_
    refine tc_seq ?_
    have hck : meterCheck t l = 0 := by omega
    have hmz := meterCheck_zero hck
    have htl := hmz.tl
    have hll := hmz.ll
    refine tc_region ?_
    refine s0 (qv_move rfl) ?_
    refine sd (qv_call fn_49 rfl (fun w hm => within_calls w tick (1000000))) (fun c37 => ?_) (fun c37 => ?_)
    ·
      refine s0 (qv_not rfl) ?_
      refine tl_nil (tp_normal ?_)
      refine tc_false rfl ?_
      refine tc_skip (tp_normal ?_)
      refine tc_seq ?_
      have htk : inTo tick 1000000 := c37
      refine tc_region ?_
      refine tl_makeMap (fun b39_1 => ?_)
      refine s0 (qv_assign rfl) ?_
      refine tl_nil (tp_normal ?_)
      refine tc_seq ?_
      refine tc_seq ?_
      refine tc_region ?_
      refine s0 (qv_move rfl) ?_
      refine s0 (qv_len st_22 rfl) ?_
      refine s0 (qv_move rfl) ?_
      refine tl_nil (tp_normal ?_)
      refine tc_block (tc_loopB (fun (q : Nat × Obj) => [(42, .int .i64 (q.1 : Int))]) (fun (q : Nat × Obj) => [(0, b39_1, q.2)]) (fun (q : Nat × Obj) => q.1 ≤ r.length ∧ restsBad t none r = restsBad t (prevR r q.1) (r.drop q.1) ∧ MapIs encA3 (Value.int .i64) (restM (r.take q.1)) q.2) (fun (q : Nat × Obj) => r.length - q.1) ((0, .map #[] 0)) ⟨Nat.zero_le _, rfl, MapIs.nil _ _⟩ ⟨rfl, trivial⟩ rfl ?_)
      rintro q hI
      refine tc_seq ?_
      refine tc_region ?_
      refine sd (qv_lss rfl rfl) (fun c43 => ?_) (fun c43 => ?_)
      ·
        refine tl_nil (tp_normal ?_)
        refine tc_seq ?_
        refine tc_true rfl ?_
        refine tc_skip (tp_normal ?_)
        refine tc_seq ?_
        refine tc_block ?_
        refine tc_seq ?_
        refine tc_region ?_
        refine s0 (qv_move rfl) ?_
        refine sn st_22 hr rfl rfl (by omega) (fun e45 he45 => ?_)
        refine s0 (qv_ldEW ag_56 hr Mem.has_base rfl he45) ?_
        refine tl_alloc ze_56 (by decide) (fun b16_2 => ?_)
        refine s0 (qv_assign rfl) ?_
        refine tl_storeL (i := 0) sz_56 (hr.szs _ (List.mem_of_getElem? he45)) (one_56 _) rfl rfl rfl rfl ?_
        refine tl_nil (tp_normal ?_)
        refine tc_seq ?_
        refine tc_seq ?_
        refine tc_draws mixed (by kernel_rfl) ?_
        refine q0 (qv_move rfl) ?_
        refine q0 (qv_fa fo_56_2 rfl) ?_
        refine q0 (qv_ldB (i := 0) sc_3 rfl rfl rfl) ?_
        refine q0 (qv_fa fo_56_1 rfl) ?_
        refine q0 (qv_ldB (i := 0) sc_3 rfl rfl rfl) ?_
        refine q0 (qv_fa fo_56_0 rfl) ?_
        refine q0 (qv_ldB (i := 0) sc_3 rfl rfl rfl) ?_
        refine qd (qv_call fn_50 rfl (fun w hm => party_calls w t ta tc e45.kind e45.house e45.customer (by omega))) (fun c54 => ?_) (fun c54 => ?_)
        ·
          refine q0 (qv_not rfl) ?_
          refine q0 (qv_move rfl) ?_
          refine q0g (qv_fa fo_56_3 rfl) ?_
          refine q0g (qv_ldB (i := 0) sc_3 rfl rfl rfl) ?_
          refine qdg (qv_lss rfl rfl) (fun c59 => ?_) (fun c59 => ?_)
          ·
            refine q0 (qv_pickF rfl rfl) ?_
            refine q0 (qv_move rfl) ?_
            refine qk ?_
            refine qk ?_
            refine qk ?_
            refine q0 (qv_pickT rfl rfl) ?_
            refine q0 (qv_move rfl) ?_
            refine qk ?_
            refine qk ?_
            refine qk ?_
            refine qk ?_
            refine qk ?_
            refine qk ?_
            refine qk ?_
            refine qk ?_
            refine qk ?_
            refine qk ?_
            refine qk ?_
            refine qk ?_
            refine qk ?_
            refine qk ?_
            refine q0 (qv_pickT rfl rfl) ?_
            refine tq_nil (tp_normal ?_)
            refine tc_true rfl ?_
            refine tc_seq ?_
            refine tc_region ?_
            refine s0 (qv_assign rfl) ?_
            refine s0 (qv_assign rfl) ?_
            refine s0 (qv_assign rfl) ?_
            refine tl_nil (tp_normal ?_)
            refine tc_ret (tp_then_ret (tp_block_ret (tp_then_ret (tp_then_ret (tp_block_ret (tp_then_ret (tp_end3 rfl rfl rfl rfl ?_)))))))
            intro w' hm
            rw [period_rest hck htk (by rw [hI.2.1, restsBad_stop he45 (by first | exact .inl c54 | exact .inr (.inr (.inr ⟨e73, prevR_at (by omega) he73, cmp3_ge c79⟩)) | exact .inr (.inl c59) | exact .inr (.inr (.inl c64)))])]
            exact ⟨((none, 0), (none, 0)), rfl, hm.below, ⟨Nat.le_refl 0, SlAt.nothing⟩, Nat.le_refl 0, SlAt.nothing⟩
          ·
            refine q0 (qv_pickF rfl rfl) ?_
            refine q0 (qv_move rfl) ?_
            refine q0g (qv_fa fo_56_3 rfl) ?_
            refine q0g (qv_ldB (i := 0) sc_3 rfl rfl rfl) ?_
            refine qdg (qv_gtr rfl rfl) (fun c64 => ?_) (fun c64 => ?_)
            ·
              refine q0 (qv_pickF rfl rfl) ?_
              refine q0 (qv_move rfl) ?_
              refine qk ?_
              refine qk ?_
              refine qk ?_
              refine qk ?_
              refine qk ?_
              refine qk ?_
              refine qk ?_
              refine qk ?_
              refine qk ?_
              refine qk ?_
              refine qk ?_
              refine qk ?_
              refine qk ?_
              refine qk ?_
              refine q0 (qv_pickT rfl rfl) ?_
              refine tq_nil (tp_normal ?_)
              refine tc_true rfl ?_
              refine tc_seq ?_
              refine tc_region ?_
              refine s0 (qv_assign rfl) ?_
              refine s0 (qv_assign rfl) ?_
              refine s0 (qv_assign rfl) ?_
              refine tl_nil (tp_normal ?_)
              refine tc_ret (tp_then_ret (tp_block_ret (tp_then_ret (tp_then_ret (tp_block_ret (tp_then_ret (tp_end3 rfl rfl rfl rfl ?_)))))))
              intro w' hm
              rw [period_rest hck htk (by rw [hI.2.1, restsBad_stop he45 (by first | exact .inl c54 | exact .inr (.inr (.inr ⟨e73, prevR_at (by omega) he73, cmp3_ge c79⟩)) | exact .inr (.inl c59) | exact .inr (.inr (.inl c64)))])]
              exact ⟨((none, 0), (none, 0)), rfl, hm.below, ⟨Nat.le_refl 0, SlAt.nothing⟩, Nat.le_refl 0, SlAt.nothing⟩
            ·
              refine q0 (qv_pickF rfl rfl) ?_
              refine q0 (qv_move rfl) ?_
              refine q0g (qv_move rfl) ?_
              refine qdg (qv_gtr rfl rfl) (fun c68 => ?_) (fun c68 => ?_)
              ·
                refine q0g (qv_move rfl) ?_
                refine q0g (qv_move rfl) ?_
                refine q0g (qv_move rfl) ?_
                refine q0g (qv_subI rfl rfl (by omega)) ?_
                refine qig st_22 hr rfl rfl (by omega) (fun e73 he73 => ?_)
                refine q0g (qv_ldEW ag_56 hr Mem.has_base rfl he73) ?_
                refine q0g (qv_call fn_57 rfl (fun w hm => key_calls w e73)) ?_
                refine q0g (qv_ldBW (i := 0) ag_56 rfl rfl rfl) ?_
                refine q0g (qv_call fn_57 rfl (fun w hm => key_calls w e45)) ?_
                refine q0g (qv_call fn_56 rfl (fun w hm => order_callsK w (keyR e73) (keyR e45))) ?_
                refine qdg (qv_geq rfl rfl) (fun c79 => ?_) (fun c79 => ?_)
                ·
                  refine q0g (qv_pickT rfl rfl) ?_
                  refine q0 (qv_pickF rfl rfl) ?_
                  refine tq_nil (tp_normal ?_)
                  refine tc_true rfl ?_
                  refine tc_seq ?_
                  refine tc_region ?_
                  refine s0 (qv_assign rfl) ?_
                  refine s0 (qv_assign rfl) ?_
                  refine s0 (qv_assign rfl) ?_
                  refine tl_nil (tp_normal ?_)
                  refine tc_ret (tp_then_ret (tp_block_ret (tp_then_ret (tp_then_ret (tp_block_ret (tp_then_ret (tp_end3 rfl rfl rfl rfl ?_)))))))
                  intro w' hm
                  rw [period_rest hck htk (by rw [hI.2.1, restsBad_stop he45 (by first | exact .inl c54 | exact .inr (.inr (.inr ⟨e73, prevR_at (by omega) he73, cmp3_ge c79⟩)) | exact .inr (.inl c59) | exact .inr (.inr (.inl c64)))])]
                  exact ⟨((none, 0), (none, 0)), rfl, hm.below, ⟨Nat.le_refl 0, SlAt.nothing⟩, Nat.le_refl 0, SlAt.nothing⟩
                ·
                  refine q0g (qv_pickT rfl rfl) ?_
                  refine q0 (qv_pickF rfl rfl) ?_
                  refine tq_nil (tp_normal ?_)
                  refine tc_false rfl ?_
                  refine tc_skip (tp_normal ?_)
                  refine tc_drawU 5 5 mixed (by kernel_rfl) ?_
                  refine q0 (qv_move rfl) ?_
                  refine q0 (qv_ldBW (i := 0) ag_56 rfl rfl rfl) ?_
                  refine q0 (qv_call fn_57 rfl (fun w hm => key_calls w e45)) ?_
                  refine q0 (qv_fa fo_56_3 rfl) ?_
                  refine q0 (qv_ldB (i := 0) sc_3 rfl rfl rfl) ?_
                  refine tq_up ?_
                  refine tu_tail rfl rfl rfl (by kernel_rfl) ?_
                  refine tl_mapUpdate (k := (keyR e45)) (v := e45.milli) 1 mt_131 key_133 hI.2.2 (fun om1 hmn1 => ?_)
                  refine tl_nil (tp_block_normal (tp_normal ?_))
                  refine tc_region ?_
                  refine s0 (qv_succ rfl rfl (by omega)) ?_
                  refine s0 (qv_move rfl) ?_
                  exact tl_nil (tp_roundB (q.1 + 1, om1) ⟨by simp only; omega, by rw [hI.2.1]; exact restsBad_step he45 (rest_not_bad c54 c59 c64 (by first | exact prevR_zero (by omega) | exact prevR_all (by omega) he73 (cmp3_not c79))), by rw [restM_take he45]; exact hmn1⟩ (by simp only; omega) ⟨rfl, trivial⟩ rfl rfl rfl rfl)
              ·
                refine q0g (qv_move rfl) ?_
                refine qk ?_
                refine qk ?_
                refine qk ?_
                refine qk ?_
                refine qk ?_
                refine qk ?_
                refine qk ?_
                refine qk ?_
                refine qk ?_
                refine qk ?_
                refine q0g (qv_pickF rfl rfl) ?_
                refine q0 (qv_pickF rfl rfl) ?_
                refine tq_nil (tp_normal ?_)
                refine tc_false rfl ?_
                refine tc_skip (tp_normal ?_)
                refine tc_drawU 5 5 mixed (by kernel_rfl) ?_
                refine q0 (qv_move rfl) ?_
                refine q0 (qv_ldBW (i := 0) ag_56 rfl rfl rfl) ?_
                refine q0 (qv_call fn_57 rfl (fun w hm => key_calls w e45)) ?_
                refine q0 (qv_fa fo_56_3 rfl) ?_
                refine q0 (qv_ldB (i := 0) sc_3 rfl rfl rfl) ?_
                refine tq_up ?_
                refine tu_tail rfl rfl rfl (by kernel_rfl) ?_
                refine tl_mapUpdate (k := (keyR e45)) (v := e45.milli) 1 mt_131 key_133 hI.2.2 (fun om2 hmn2 => ?_)
                refine tl_nil (tp_block_normal (tp_normal ?_))
                refine tc_region ?_
                refine s0 (qv_succ rfl rfl (by omega)) ?_
                refine s0 (qv_move rfl) ?_
                exact tl_nil (tp_roundB (q.1 + 1, om2) ⟨by simp only; omega, by rw [hI.2.1]; exact restsBad_step he45 (rest_not_bad c54 c59 c64 (by first | exact prevR_zero (by omega) | exact prevR_all (by omega) he73 (cmp3_not c79))), by rw [restM_take he45]; exact hmn2⟩ (by simp only; omega) ⟨rfl, trivial⟩ rfl rfl rfl rfl)
        ·
          refine q0 (qv_not rfl) ?_
          refine q0 (qv_move rfl) ?_
          refine qk ?_
          refine qk ?_
          refine qk ?_
          refine q0 (qv_pickT rfl rfl) ?_
          refine q0 (qv_move rfl) ?_
          refine qk ?_
          refine qk ?_
          refine qk ?_
          refine q0 (qv_pickT rfl rfl) ?_
          refine q0 (qv_move rfl) ?_
          refine qk ?_
          refine qk ?_
          refine qk ?_
          refine qk ?_
          refine qk ?_
          refine qk ?_
          refine qk ?_
          refine qk ?_
          refine qk ?_
          refine qk ?_
          refine qk ?_
          refine qk ?_
          refine qk ?_
          refine qk ?_
          refine q0 (qv_pickT rfl rfl) ?_
          refine tq_nil (tp_normal ?_)
          refine tc_true rfl ?_
          refine tc_seq ?_
          refine tc_region ?_
          refine s0 (qv_assign rfl) ?_
          refine s0 (qv_assign rfl) ?_
          refine s0 (qv_assign rfl) ?_
          refine tl_nil (tp_normal ?_)
          refine tc_ret (tp_then_ret (tp_block_ret (tp_then_ret (tp_then_ret (tp_block_ret (tp_then_ret (tp_end3 rfl rfl rfl rfl ?_)))))))
          intro w' hm
          rw [period_rest hck htk (by rw [hI.2.1, restsBad_stop he45 (by first | exact .inl c54 | exact .inr (.inr (.inr ⟨e73, prevR_at (by omega) he73, cmp3_ge c79⟩)) | exact .inr (.inl c59) | exact .inr (.inr (.inl c64)))])]
          exact ⟨((none, 0), (none, 0)), rfl, hm.below, ⟨Nat.le_refl 0, SlAt.nothing⟩, Nat.le_refl 0, SlAt.nothing⟩
      ·
        refine tl_nil (tp_normal ?_)
        refine tc_seq ?_
        refine tc_false rfl ?_
        refine tc_exit (tp_then_exit (tp_then_exit (tp_block_exit (tp_normal ?_))))
        refine tc_seq ?_
        refine tc_seq ?_
        have hrb : restsBad t none r = false := by rw [hI.2.1, restsBad_end (by omega)]
        have hrf := rests_fine hrb
        refine tc_region ?_
        refine s0 (qv_move rfl) ?_
        refine s0 (qv_len st_27 rfl) ?_
        refine s0 (qv_move rfl) ?_
        refine tl_nil (tp_normal ?_)
        refine tc_block (tc_loopB (fun (qq : Nat × Obj) => [(90, .int .i64 (qq.1 : Int))]) (fun (qq : Nat × Obj) => [(0, b39_1, qq.2)]) (fun (qq : Nat × Obj) => qq.1 ≤ l.length ∧ chargeErrs t n l = chargeErrs t n (l.drop qq.1) ∧ MapIs encA3 (Value.int .i64) (useM t n (restM r) (l.take qq.1)) qq.2) (fun (qq : Nat × Obj) => l.length - qq.1) ((0, q.2)) ⟨Nat.zero_le _, rfl, by (have h_ := hI.2.2; rw [show r.take q.1 = r from List.take_of_length_le (by omega)] at h_; exact h_)⟩ ⟨rfl, trivial⟩ rfl ?_)
        rintro qq hJ
        refine tc_seq ?_
        refine tc_region ?_
        refine sd (qv_lss rfl rfl) (fun c91 => ?_) (fun c91 => ?_)
        ·
          refine tl_nil (tp_normal ?_)
          refine tc_seq ?_
          refine tc_true rfl ?_
          refine tc_skip (tp_normal ?_)
          refine tc_seq ?_
          refine tc_block ?_
          refine tc_seq ?_
          refine tc_region ?_
          refine sn st_27 hl rfl rfl (by omega) (fun e92 he92 => ?_)
          refine s0 (qv_ldEW ag_34 hl Mem.has_base rfl he92) ?_
          refine tl_alloc ze_34 (by decide) (fun b18_3 => ?_)
          refine tl_storeL (i := 0) sz_34 (hl.szs _ (List.mem_of_getElem? he92)) (one_34 _) rfl rfl rfl rfl ?_
          refine tl_nil (tp_normal ?_)
          refine tc_seq ?_
          refine tc_region ?_
          refine s0 (qv_move rfl) ?_
          refine s0 (qv_ldBW (i := 2) ag_26 rfl rfl rfl) ?_
          refine s0 (qv_ldBW (i := 0) ag_34 rfl rfl rfl) ?_
          refine s0 (qv_call fn_18 rfl (fun w hm => charge_calls w t ta tc n na nc e92 (ht.into Mem.has_base hm) (hn.into Mem.has_base hm) hk ((hins e92 (List.mem_of_getElem? he92)).1.into Mem.has_base hm))) ?_
          refine s0 (qv_move rfl) ?_
          refine s0 (qv_extract rfl rfl) ?_
          refine s0 (qv_extract rfl rfl) ?_
          refine s0 (qv_assign rfl) ?_
          refine s0 (qv_assign rfl) ?_
          refine tl_nil (tp_normal ?_)
          refine tc_seq ?_
          refine tc_seq ?_
          refine tc_region ?_
          refine s0 (qv_move rfl) ?_
          refine sd (qv_neq rfl rfl) (fun c102 => ?_) (fun c102 => ?_)
          ·
            refine tl_nil (tp_normal ?_)
            refine tc_true rfl ?_
            refine tc_seq ?_
            refine tc_region ?_
            refine s0 (qv_move rfl) ?_
            refine s0 (qv_assign rfl) ?_
            refine s0 (qv_assign rfl) ?_
            refine s0 (qv_assign rfl) ?_
            refine tl_nil (tp_normal ?_)
            refine tc_ret (tp_then_ret (tp_block_ret (tp_then_ret (tp_then_ret (tp_block_ret (tp_then_ret (tp_end3 rfl rfl rfl rfl ?_)))))))
            intro w' hm
            rw [period_charge hck htk hrb (by rw [hJ.2.1, chargeErrs_stop he92 c102]; exact c102), hJ.2.1, chargeErrs_stop he92 c102]
            exact ⟨((none, 0), (none, 0)), rfl, hm.below, ⟨Nat.le_refl 0, SlAt.nothing⟩, Nat.le_refl 0, SlAt.nothing⟩
          ·
            refine tl_nil (tp_normal ?_)
            refine tc_false rfl ?_
            refine tc_skip (tp_normal ?_)
            have hlk := sums_take (t := t) (n := n) hrf.2 (by omega) qq.1 (keyU e92)
            have hcb := charge_bound t n e92
            have hle := look_ensure (useM t n (restM r) (l.take qq.1)) (keyU e92) 0
            refine tc_drawV 13 mixed (by kernel_rfl) (hD_erase 1) ?_
            refine tu_take (i := 0) (ho := rfl) (qv_move rfl) ?_ (by kernel_rfl) (by kernel_rfl)
            refine tu_take (i := 1) (ho := rfl) (qv_fa fo_34_2 rfl) ?_ (by kernel_rfl) (by kernel_rfl)
            refine tu_take (i := 2) (ho := rfl) (qv_ldB (i := 0) sc_3 rfl rfl rfl) ?_ (by kernel_rfl) (by kernel_rfl)
            refine tu_take (i := 3) (ho := rfl) (qv_fa fo_34_1 rfl) ?_ (by kernel_rfl) (by kernel_rfl)
            refine tu_take (i := 4) (ho := rfl) (qv_ldB (i := 0) sc_3 rfl rfl rfl) ?_ (by kernel_rfl) (by kernel_rfl)
            refine tu_take (i := 5) (ho := rfl) (qv_fa fo_34_0 rfl) ?_ (by kernel_rfl) (by kernel_rfl)
            refine tu_take (i := 6) (ho := rfl) (qv_ldB (i := 0) sc_3 rfl rfl rfl) ?_ (by kernel_rfl) (by kernel_rfl)
            refine tu_take (i := 7) (ho := rfl) (qv_buildA ba_133 rfl rfl) ?_ (by kernel_rfl) (by kernel_rfl)
            refine tu_take (i := 9) (ho := rfl) (qv_move rfl) ?_ (by kernel_rfl) (by kernel_rfl)
            refine tu_2 8 11 (by kernel_rfl) (by kernel_rfl) (by kernel_rfl) ?_ ?_
            ·
              refine tg_q (qv_lookupM (zv := 0) (k := (keyU e92)) 1 mt_131 key_133 hJ.2.2 mz_3 rfl rfl rfl) ?_ (fun w h => hD_erase 1 w h)
              refine tu_take (i := 10) (ho := rfl) (qv_addI rfl rfl (by omega)) ?_ (by kernel_rfl) (by kernel_rfl)
              refine tu_one 11 ?_ (by kernel_rfl) (by kernel_rfl) (by kernel_rfl)
              refine tg_mapEntry (zv := 0) (k := (keyU e92)) 1 mt_131 key_133 hJ.2.2 mz_3 (fun om3 bn3 hst3 => ?_) (fun o_ w h => hD_eraseSet 1 _ w h)
              refine tu_take (i := 12) (ho := rfl) (qv_extract rfl rfl) ?_ (by kernel_rfl) (by kernel_rfl)
              refine tu_tail rfl rfl rfl (by kernel_rfl) ?_
              refine tl_entryStore 1 hst3 (fun om4 hmm4 => ?_)
              have hmn4 : MapIs encA3 (Value.int .i64) (putM (useM t n (restM r) (l.take qq.1)) (keyU e92) (look (useM t n (restM r) (l.take qq.1)) (keyU e92) 0 + (charge t n e92).1)) om4 := by (have h_ := hmm4; simp only [look_ensure, setAt_ensure] at h_; exact h_)
              refine tl_nil (tp_block_normal (tp_normal ?_))
              refine tc_region ?_
              refine s0 (qv_succ rfl rfl (by omega)) ?_
              refine s0 (qv_move rfl) ?_
              exact tl_nil (tp_roundB (qq.1 + 1, om4) ⟨by simp only; omega, by rw [hJ.2.1]; exact chargeErrs_step he92 (by omega), by rw [useM_take he92]; exact hmn4⟩ (by simp only; omega) ⟨rfl, trivial⟩ rfl rfl rfl rfl)
            ·
              refine tg_mapEntry (zv := 0) (k := (keyU e92)) 1 mt_131 key_133 hJ.2.2 mz_3 (fun om5 bn5 hst5 => ?_) (fun o_ w h => hD_eraseSet 1 _ w h)
              refine tu_take (i := 12) (ho := rfl) (qv_extract rfl rfl) ?_ (by kernel_rfl) (by kernel_rfl)
              refine tu_one 8 ?_ (by kernel_rfl) (by kernel_rfl) (by kernel_rfl)
              refine tg_q (qv_lookupM (zv := 0) (k := (keyU e92)) 1 mt_131 key_133 hst5.is mz_3 rfl rfl rfl) ?_ (fun w h => hD_eraseSet 1 _ w h)
              refine tu_take (i := 10) (ho := rfl) (qv_addI rfl rfl (by omega)) ?_ (by kernel_rfl) (by kernel_rfl)
              refine tu_tail rfl rfl rfl (by kernel_rfl) ?_
              refine tl_entryStore 1 hst5 (fun om6 hmm6 => ?_)
              have hmn6 : MapIs encA3 (Value.int .i64) (putM (useM t n (restM r) (l.take qq.1)) (keyU e92) (look (useM t n (restM r) (l.take qq.1)) (keyU e92) 0 + (charge t n e92).1)) om6 := by (have h_ := hmm6; simp only [look_ensure, setAt_ensure] at h_; exact h_)
              refine tl_nil (tp_block_normal (tp_normal ?_))
              refine tc_region ?_
              refine s0 (qv_succ rfl rfl (by omega)) ?_
              refine s0 (qv_move rfl) ?_
              exact tl_nil (tp_roundB (qq.1 + 1, om6) ⟨by simp only; omega, by rw [hJ.2.1]; exact chargeErrs_step he92 (by omega), by rw [useM_take he92]; exact hmn6⟩ (by simp only; omega) ⟨rfl, trivial⟩ rfl rfl rfl rfl)
        ·
          refine tl_nil (tp_normal ?_)
          refine tc_seq ?_
          refine tc_false rfl ?_
          refine tc_exit (tp_then_exit (tp_then_exit (tp_block_exit (tp_normal ?_))))
          refine tc_seq ?_
          refine tc_region ?_
          refine s0 (qv_assign rfl) ?_
          refine tl_nil (tp_normal ?_)
          refine tc_seq ?_
          refine tc_seq ?_
          have hce : chargeErrs t n l = 0 := by rw [hJ.2.1, chargeErrs_end (by omega)]
          have hmm : MapIs encA3 (Value.int .i64) (useM t n (restM r) l) qq.2 := by (have h_ := hJ.2.2; rw [show l.take qq.1 = l from List.take_of_length_le (by omega)] at h_; exact h_)
          have hml := mm_len hck hrb hmm
          have hvs := sums_vals (t := t) (n := n) (l := l) hrf.2 (by omega)
          refine tc_region ?_
          refine s0 (qv_move rfl) ?_
          refine tl_range 0 mt_131 hmm (fun r119 oi119 hri119 => ?_)
          refine tl_nil (tp_normal ?_)
          refine tc_block (tc_loopR 0 133 3 encK (fun (z : (List (K3 × Int) × List (K3 × Int)) × Obj) (v : Value) => [(21, v)]) (fun (z : (List (K3 × Int) × List (K3 × Int)) × Obj) => [(0, r119, z.2)]) (fun (z : (List (K3 × Int) × List (K3 × Int)) × Obj) => (z.1.1.map Prod.fst)) (fun (z : (List (K3 × Int) × List (K3 × Int)) × Obj) => RangeIs encA3 (Value.int .i64) b39_1 (useM t n (restM r) l) qq.2 z.2 z.1.2 ∧ (z.1.1 ++ z.1.2).Perm (useM t n (restM r) l) ∧ ∀ p ∈ z.1.1, ¬ 1099511627776 < p.2 / 1000) (fun (z : (List (K3 × Int) × List (K3 × Int)) × Obj) => z.1.2.length) ((([], (useM t n (restM r) l)), oi119)) (RowOf.nil _ _ _) ⟨hri119, .refl _, by simp⟩ ⟨rfl, trivial⟩ rfl rfl ?_)
          rintro z vr24 or24 hZ hrow
          have hlz : z.1.1.length ≤ 1680 := by (have h_ := perm_len hZ.2.1; omega)
          have hlz2 : (z.1.1.map Prod.fst).length ≤ 1680 := by simpa using hlz
          refine tc_seq ?_
          refine tc_region ?_
          refine tl_next 1 0 hZ.1 (fun hnil120 => ?_) (fun p120 rest120 oi120 hperm120 hri120 hnow120 => ?_)
          ·
            refine s0 (qv_extract rfl rfl) ?_
            refine tl_nil (tp_normal ?_)
            refine tc_seq ?_
            refine tc_false rfl ?_
            refine tc_exit (tp_then_exit (tp_then_exit (tp_block_exit (tp_normal ?_))))
            refine tc_seq ?_
            refine tc_region ?_
            refine s0 (qv_move rfl) ?_
            refine tl_sort (α := K3) (enc := encK) (sz := 3) (l := z.1.1.map Prod.fst) 0 fn_58 (fun _ => rfl) (by decide) sort3_none (R := Sorted3 (z.1.1.map Prod.fst)) (fun h => sorted3_nil h) (fun blk cap w hH hb => sort3_some (by omega) blk cap w hH hb) hrow (fun lB obB hlB hsB hrB => ?_)
            refine tl_nil (tp_normal ?_)
            refine tc_seq ?_
            refine tc_region ?_
            refine s0 (qv_assign rfl) ?_
            refine tl_nil (tp_normal ?_)
            refine tc_seq ?_
            refine tc_region ?_
            refine s0 (qv_assign rfl) ?_
            refine tl_nil (tp_normal ?_)
            refine tc_seq ?_
            refine tc_seq ?_
            have hlB2 : lB.length ≤ 1680 := by rw [hlB]; exact hlz2
            refine tc_rowKeep 0 hrB (fun _ => rfl) (fun Wk lok hik ak ck hvk hck_ hsk => ?_)
            subst hvk
            refine tc_region ?_
            refine s0 (qv_move rfl) ?_
            refine s0 (qv_len st_135 rfl) ?_
            refine s0 (qv_move rfl) ?_
            refine tl_nil (tp_normal ?_)
            refine tc_block (tc_loopRR 1 54 6 encPost 2 56 4 encRest (fun (k : Nat) (v u : Value) => [(24, v), (25, u), (136, .int .i64 (k : Int))]) (fun (k : Nat) => []) (fun (k : Nat) => (postsOf tick (fun k_ => look (useM t n (restM r) l) k_ 0) (lB.take k))) (fun (k : Nat) => (leftsOf (fun k_ => look (useM t n (restM r) l) k_ 0) (lB.take k))) (fun (k : Nat) => k ≤ lB.length) (fun (k : Nat) => lB.length - k) (0) (RowOf.nil _ _ _) (RowOf.nil _ _ _) (Nat.zero_le _) ⟨rfl, rfl, rfl, trivial⟩ rfl rfl ?_)
            rintro k vr25 or25 vr25b or25b hK hrw hrwb
            have hpl1 := postsOf_len tick (fun k_ => look (useM t n (restM r) l) k_ 0) (lB.take k)
            have hpl2 := leftsOf_len (fun k_ => look (useM t n (restM r) l) k_ 0) (lB.take k)
            have hpl3 := List.length_take_le' k lB
            refine tc_seq ?_
            refine tc_region ?_
            refine sd (qv_lss rfl rfl) (fun c137 => ?_) (fun c137 => ?_)
            ·
              refine tl_nil (tp_normal ?_)
              refine tc_seq ?_
              refine tc_true rfl ?_
              refine tc_skip (tp_normal ?_)
              refine tc_seq ?_
              refine tc_block ?_
              refine tc_seq ?_
              refine tc_region ?_
              refine sn st_135 hsk rfl rfl (by omega) (fun e138 he138 => ?_)
              refine s0 (qv_ldEW ag_133 hsk (Mem.has_kept (by first | exact .head _ | exact .tail _ (.head _) | exact .tail _ (.tail _ (.head _)) | exact .tail _ (.tail _ (.tail _ (.head _))))) rfl he138) ?_
              refine tl_alloc ze_133 (by decide) (fun b27_4 => ?_)
              refine tl_storeL (i := 0) sz_133 (hsk.szs _ (List.mem_of_getElem? he138)) (one_133 _) rfl rfl rfl rfl ?_
              refine tl_nil (tp_normal ?_)
              refine tc_seq ?_
              have hlk := vals_look hvs (by omega) e138
              have hgr := sorted_grid hck hrb (hnil120 ▸ hZ.2.1) hsB (List.mem_of_getElem? he138)
              refine tc_drawU 14 13 mixed (by kernel_rfl) ?_
              refine q0 (qv_iA at_133 rfl rfl (by omega)) ?_
              refine q0 (qv_ldB (i := 0) sc_3 rfl rfl rfl) ?_
              refine q0 (qv_iA at_133 rfl rfl (by omega)) ?_
              refine q0 (qv_ldB (i := 0) sc_3 rfl rfl rfl) ?_
              refine q0 (qv_addI rfl rfl (by omega)) ?_
              refine q0 (qv_move rfl) ?_
              refine q0 (qv_ldBW (i := 0) ag_133 rfl rfl rfl) ?_
              refine q0 (qv_lookupM (zv := 0) (k := e138) 2 mt_131 key_133 hmm mz_3 rfl rfl rfl) ?_
              refine q0 (qv_quoI rfl rfl (by decide) (by omega) (by omega)) ?_
              refine q0 (qv_move rfl) ?_
              refine q0 (qv_iA at_133 rfl rfl (by omega)) ?_
              refine q0 (qv_ldB (i := 0) sc_3 rfl rfl rfl) ?_
              refine q0 (qv_build (cells := #[.int .i64 e138.2.1, .int .i64 ((12) + e138.1), .int .i64 ((look (useM t n (restM r) l) e138 0) / (1000)), .int .i64 tick, .int .i64 e138.2.2, .int .i64 (0)]) bt_54 rfl (by kernel_rfl)) ?_
              refine tq_up ?_
              refine tu_one 13 ?_ (by kernel_rfl) (by kernel_rfl) (by kernel_rfl)
              refine tg_alloc ze_54 (fun b28_5 => ?_) (fun _ _ h => hD_drop rfl rfl _ h)
              refine tu_tail rfl rfl rfl (by kernel_rfl) ?_
              refine tl_storeO (i := 0) sz_54 rfl rfl rfl rfl rfl rfl rfl ?_
              refine tl_nil (tp_normal ?_)
              refine tc_seq ?_
              refine tc_seq ?_
              refine tc_region ?_
              refine s0 (qv_fa fo_54_4 rfl) ?_
              refine s0 (qv_ldB (i := 0) sc_3 rfl rfl rfl) ?_
              refine sd (qv_eql rfl rfl) (fun c155 => ?_) (fun c155 => ?_)
              ·
                refine tl_nil (tp_normal ?_)
                refine tc_true rfl ?_
                refine tc_region ?_
                refine s0 (qv_fa fo_54_1 rfl) ?_
                refine s0 (qv_ldB (i := 0) sc_3 rfl rfl rfl) ?_
                refine s0 (qv_fa fo_54_0 rfl) ?_
                refine s0 (qv_ldB (i := 0) sc_3 rfl rfl rfl) ?_
                refine s0 (qv_fa fo_54_0 rfl) ?_
                refine tl_store1 (i := 0) sz_3 rfl rfl rfl rfl rfl (Nat.le_of_ble_eq_true rfl) ?_
                refine s0 (qv_fa fo_54_1 rfl) ?_
                refine tl_store1 (i := 0) sz_3 rfl rfl rfl rfl rfl (Nat.le_of_ble_eq_true rfl) ?_
                refine tl_nil (tp_normal ?_)
                refine tc_seq ?_
                refine tc_seq ?_
                refine tc_region ?_
                refine s0 (qv_fa fo_54_2 rfl) ?_
                refine s0 (qv_ldB (i := 0) sc_3 rfl rfl rfl) ?_
                refine sd (qv_gtr rfl rfl) (fun c164 => ?_) (fun c164 => ?_)
                ·
                  refine tl_nil (tp_normal ?_)
                  refine tc_true rfl ?_
                  refine tc_region ?_
                  refine s0 (qv_move rfl) ?_
                  refine s0 (qv_ldBW (i := 0) ag_54 rfl rfl rfl) ?_
                  refine tl_buildSlice (cells := #[.int .i64 ((12) + e138.1), .int .i64 e138.2.1, .int .i64 ((look (useM t n (restM r) l) e138 0) / (1000)), .int .i64 tick, .int .i64 e138.2.2, .int .i64 (0)]) (hc := by kernel_rfl) bsl_40_1 (fun b167_6 => ?_)
                  refine tl_append1 1 0 apt_40 (⟨((12) + e138.1), e138.2.1, ((look (useM t n (restM r) l) e138 0) / (1000)), tick, e138.2.2, (0)⟩ : Posting) hrw (fun v168 ob168 hr168 => ?_) rfl (one_54 _) (by first | omega | (simp only [List.length_append, List.length_cons, List.length_nil]; omega))
                  refine s0 (qv_assign rfl) ?_
                  refine tl_nil (tp_normal ?_)
                  refine tc_seq ?_
                  refine tc_region ?_
                  refine s0 (qv_move rfl) ?_
                  refine s0 (qv_ldBW (i := 2) ag_133 rfl rfl rfl) ?_
                  refine s0 (qv_lookupM (zv := 0) (k := e138) 4 mt_131 key_133 hmm mz_3 rfl rfl rfl) ?_
                  refine s0 (qv_remI rfl rfl (by decide) (by omega)) ?_
                  refine s0 (qv_assign rfl) ?_
                  refine tl_nil (tp_normal ?_)
                  refine tc_seq ?_
                  refine tc_region ?_
                  refine s0 (qv_move rfl) ?_
                  refine sd (qv_gtr rfl rfl) (fun c174 => ?_) (fun c174 => ?_)
                  ·
                    refine tl_nil (tp_normal ?_)
                    refine tc_true rfl ?_
                    refine tc_region ?_
                    refine s0 (qv_move rfl) ?_
                    refine s0 (qv_iA at_133 rfl rfl (by omega)) ?_
                    refine s0 (qv_ldB (i := 2) sc_3 rfl rfl rfl) ?_
                    refine s0 (qv_iA at_133 rfl rfl (by omega)) ?_
                    refine s0 (qv_ldB (i := 2) sc_3 rfl rfl rfl) ?_
                    refine s0 (qv_iA at_133 rfl rfl (by omega)) ?_
                    refine s0 (qv_ldB (i := 2) sc_3 rfl rfl rfl) ?_
                    refine s0 (qv_move rfl) ?_
                    refine s0 (qv_build (cells := #[.int .i64 e138.1, .int .i64 e138.2.1, .int .i64 e138.2.2, .int .i64 ((look (useM t n (restM r) l) e138 0) % (1000))]) bt_56 rfl (by kernel_rfl)) ?_
                    refine tl_buildSlice (cells := #[.int .i64 e138.1, .int .i64 e138.2.1, .int .i64 e138.2.2, .int .i64 ((look (useM t n (restM r) l) e138 0) % (1000))]) (hc := by kernel_rfl) bsl_22_1 (fun b184_7 => ?_)
                    refine tl_append1 2 0 apt_22 (⟨e138.1, e138.2.1, e138.2.2, ((look (useM t n (restM r) l) e138 0) % (1000))⟩ : Rest) hrwb (fun v185 ob185 hr185 => ?_) rfl (one_56 _) (by first | omega | (simp only [List.length_append, List.length_cons, List.length_nil]; omega))
                    refine s0 (qv_assign rfl) ?_
                    refine tl_nil (tp_block_normal (tp_normal ?_))
                    refine tc_region ?_
                    refine s0 (qv_succ rfl rfl (by omega)) ?_
                    refine s0 (qv_move rfl) ?_
                    exact tl_nil (tp_roundRR (k + 1) (by first | (rw [postsOf_no he138 (by assumption)]; exact hr168) | (rw [postsOf_fine he138 (by assumption) (by assumption)]; exact hr168) | (rw [postsOf_use he138 (by assumption) (by assumption)]; exact hr168)) (by first | (rw [leftsOf_no he138 (by assumption)]; exact hr185) | (rw [leftsOf_yes he138 (by assumption)]; exact hr185)) (by omega) (by omega) ⟨rfl, rfl, rfl, trivial⟩ rfl rfl rfl rfl rfl)
                  ·
                    refine tl_nil (tp_normal ?_)
                    refine tc_false rfl ?_
                    refine tc_skip (tp_block_normal (tp_normal ?_))
                    refine tc_region ?_
                    refine s0 (qv_succ rfl rfl (by omega)) ?_
                    refine s0 (qv_move rfl) ?_
                    exact tl_nil (tp_roundRR (k + 1) (by first | (rw [postsOf_no he138 (by assumption)]; exact hr168) | (rw [postsOf_fine he138 (by assumption) (by assumption)]; exact hr168) | (rw [postsOf_use he138 (by assumption) (by assumption)]; exact hr168)) (by first | (rw [leftsOf_no he138 (by assumption)]; exact hrwb) | (rw [leftsOf_yes he138 (by assumption)]; exact hrwb)) (by omega) (by omega) ⟨rfl, rfl, rfl, trivial⟩ rfl rfl rfl rfl rfl)
                ·
                  refine tl_nil (tp_normal ?_)
                  refine tc_false rfl ?_
                  refine tc_skip (tp_normal ?_)
                  refine tc_seq ?_
                  refine tc_region ?_
                  refine s0 (qv_move rfl) ?_
                  refine s0 (qv_ldBW (i := 1) ag_133 rfl rfl rfl) ?_
                  refine s0 (qv_lookupM (zv := 0) (k := e138) 3 mt_131 key_133 hmm mz_3 rfl rfl rfl) ?_
                  refine s0 (qv_remI rfl rfl (by decide) (by omega)) ?_
                  refine s0 (qv_assign rfl) ?_
                  refine tl_nil (tp_normal ?_)
                  refine tc_seq ?_
                  refine tc_region ?_
                  refine s0 (qv_move rfl) ?_
                  refine sd (qv_gtr rfl rfl) (fun c174 => ?_) (fun c174 => ?_)
                  ·
                    refine tl_nil (tp_normal ?_)
                    refine tc_true rfl ?_
                    refine tc_region ?_
                    refine s0 (qv_move rfl) ?_
                    refine s0 (qv_iA at_133 rfl rfl (by omega)) ?_
                    refine s0 (qv_ldB (i := 1) sc_3 rfl rfl rfl) ?_
                    refine s0 (qv_iA at_133 rfl rfl (by omega)) ?_
                    refine s0 (qv_ldB (i := 1) sc_3 rfl rfl rfl) ?_
                    refine s0 (qv_iA at_133 rfl rfl (by omega)) ?_
                    refine s0 (qv_ldB (i := 1) sc_3 rfl rfl rfl) ?_
                    refine s0 (qv_move rfl) ?_
                    refine s0 (qv_build (cells := #[.int .i64 e138.1, .int .i64 e138.2.1, .int .i64 e138.2.2, .int .i64 ((look (useM t n (restM r) l) e138 0) % (1000))]) bt_56 rfl (by kernel_rfl)) ?_
                    refine tl_buildSlice (cells := #[.int .i64 e138.1, .int .i64 e138.2.1, .int .i64 e138.2.2, .int .i64 ((look (useM t n (restM r) l) e138 0) % (1000))]) (hc := by kernel_rfl) bsl_22_1 (fun b184_8 => ?_)
                    refine tl_append1 2 0 apt_22 (⟨e138.1, e138.2.1, e138.2.2, ((look (useM t n (restM r) l) e138 0) % (1000))⟩ : Rest) hrwb (fun v185 ob185 hr185 => ?_) rfl (one_56 _) (by first | omega | (simp only [List.length_append, List.length_cons, List.length_nil]; omega))
                    refine s0 (qv_assign rfl) ?_
                    refine tl_nil (tp_block_normal (tp_normal ?_))
                    refine tc_region ?_
                    refine s0 (qv_succ rfl rfl (by omega)) ?_
                    refine s0 (qv_move rfl) ?_
                    exact tl_nil (tp_roundRR (k + 1) (by first | (rw [postsOf_no he138 (by assumption)]; exact hrw) | (rw [postsOf_fine he138 (by assumption) (by assumption)]; exact hrw) | (rw [postsOf_use he138 (by assumption) (by assumption)]; exact hrw)) (by first | (rw [leftsOf_no he138 (by assumption)]; exact hr185) | (rw [leftsOf_yes he138 (by assumption)]; exact hr185)) (by omega) (by omega) ⟨rfl, rfl, rfl, trivial⟩ rfl rfl rfl rfl rfl)
                  ·
                    refine tl_nil (tp_normal ?_)
                    refine tc_false rfl ?_
                    refine tc_skip (tp_block_normal (tp_normal ?_))
                    refine tc_region ?_
                    refine s0 (qv_succ rfl rfl (by omega)) ?_
                    refine s0 (qv_move rfl) ?_
                    exact tl_nil (tp_roundRR (k + 1) (by first | (rw [postsOf_no he138 (by assumption)]; exact hrw) | (rw [postsOf_fine he138 (by assumption) (by assumption)]; exact hrw) | (rw [postsOf_use he138 (by assumption) (by assumption)]; exact hrw)) (by first | (rw [leftsOf_no he138 (by assumption)]; exact hrwb) | (rw [leftsOf_yes he138 (by assumption)]; exact hrwb)) (by omega) (by omega) ⟨rfl, rfl, rfl, trivial⟩ rfl rfl rfl rfl rfl)
              ·
                refine tl_nil (tp_normal ?_)
                refine tc_false rfl ?_
                refine tc_skip (tp_normal ?_)
                refine tc_seq ?_
                refine tc_seq ?_
                refine tc_region ?_
                refine s0 (qv_fa fo_54_2 rfl) ?_
                refine s0 (qv_ldB (i := 0) sc_3 rfl rfl rfl) ?_
                refine sd (qv_gtr rfl rfl) (fun c164 => ?_) (fun c164 => ?_)
                ·
                  refine tl_nil (tp_normal ?_)
                  refine tc_true rfl ?_
                  refine tc_region ?_
                  refine s0 (qv_move rfl) ?_
                  refine s0 (qv_ldBW (i := 0) ag_54 rfl rfl rfl) ?_
                  refine tl_buildSlice (cells := #[.int .i64 e138.2.1, .int .i64 ((12) + e138.1), .int .i64 ((look (useM t n (restM r) l) e138 0) / (1000)), .int .i64 tick, .int .i64 e138.2.2, .int .i64 (0)]) (hc := by kernel_rfl) bsl_40_1 (fun b167_9 => ?_)
                  refine tl_append1 1 0 apt_40 (⟨e138.2.1, ((12) + e138.1), ((look (useM t n (restM r) l) e138 0) / (1000)), tick, e138.2.2, (0)⟩ : Posting) hrw (fun v168 ob168 hr168 => ?_) rfl (one_54 _) (by first | omega | (simp only [List.length_append, List.length_cons, List.length_nil]; omega))
                  refine s0 (qv_assign rfl) ?_
                  refine tl_nil (tp_normal ?_)
                  refine tc_seq ?_
                  refine tc_region ?_
                  refine s0 (qv_move rfl) ?_
                  refine s0 (qv_ldBW (i := 2) ag_133 rfl rfl rfl) ?_
                  refine s0 (qv_lookupM (zv := 0) (k := e138) 4 mt_131 key_133 hmm mz_3 rfl rfl rfl) ?_
                  refine s0 (qv_remI rfl rfl (by decide) (by omega)) ?_
                  refine s0 (qv_assign rfl) ?_
                  refine tl_nil (tp_normal ?_)
                  refine tc_seq ?_
                  refine tc_region ?_
                  refine s0 (qv_move rfl) ?_
                  refine sd (qv_gtr rfl rfl) (fun c174 => ?_) (fun c174 => ?_)
                  ·
                    refine tl_nil (tp_normal ?_)
                    refine tc_true rfl ?_
                    refine tc_region ?_
                    refine s0 (qv_move rfl) ?_
                    refine s0 (qv_iA at_133 rfl rfl (by omega)) ?_
                    refine s0 (qv_ldB (i := 2) sc_3 rfl rfl rfl) ?_
                    refine s0 (qv_iA at_133 rfl rfl (by omega)) ?_
                    refine s0 (qv_ldB (i := 2) sc_3 rfl rfl rfl) ?_
                    refine s0 (qv_iA at_133 rfl rfl (by omega)) ?_
                    refine s0 (qv_ldB (i := 2) sc_3 rfl rfl rfl) ?_
                    refine s0 (qv_move rfl) ?_
                    refine s0 (qv_build (cells := #[.int .i64 e138.1, .int .i64 e138.2.1, .int .i64 e138.2.2, .int .i64 ((look (useM t n (restM r) l) e138 0) % (1000))]) bt_56 rfl (by kernel_rfl)) ?_
                    refine tl_buildSlice (cells := #[.int .i64 e138.1, .int .i64 e138.2.1, .int .i64 e138.2.2, .int .i64 ((look (useM t n (restM r) l) e138 0) % (1000))]) (hc := by kernel_rfl) bsl_22_1 (fun b184_10 => ?_)
                    refine tl_append1 2 0 apt_22 (⟨e138.1, e138.2.1, e138.2.2, ((look (useM t n (restM r) l) e138 0) % (1000))⟩ : Rest) hrwb (fun v185 ob185 hr185 => ?_) rfl (one_56 _) (by first | omega | (simp only [List.length_append, List.length_cons, List.length_nil]; omega))
                    refine s0 (qv_assign rfl) ?_
                    refine tl_nil (tp_block_normal (tp_normal ?_))
                    refine tc_region ?_
                    refine s0 (qv_succ rfl rfl (by omega)) ?_
                    refine s0 (qv_move rfl) ?_
                    exact tl_nil (tp_roundRR (k + 1) (by first | (rw [postsOf_no he138 (by assumption)]; exact hr168) | (rw [postsOf_fine he138 (by assumption) (by assumption)]; exact hr168) | (rw [postsOf_use he138 (by assumption) (by assumption)]; exact hr168)) (by first | (rw [leftsOf_no he138 (by assumption)]; exact hr185) | (rw [leftsOf_yes he138 (by assumption)]; exact hr185)) (by omega) (by omega) ⟨rfl, rfl, rfl, trivial⟩ rfl rfl rfl rfl rfl)
                  ·
                    refine tl_nil (tp_normal ?_)
                    refine tc_false rfl ?_
                    refine tc_skip (tp_block_normal (tp_normal ?_))
                    refine tc_region ?_
                    refine s0 (qv_succ rfl rfl (by omega)) ?_
                    refine s0 (qv_move rfl) ?_
                    exact tl_nil (tp_roundRR (k + 1) (by first | (rw [postsOf_no he138 (by assumption)]; exact hr168) | (rw [postsOf_fine he138 (by assumption) (by assumption)]; exact hr168) | (rw [postsOf_use he138 (by assumption) (by assumption)]; exact hr168)) (by first | (rw [leftsOf_no he138 (by assumption)]; exact hrwb) | (rw [leftsOf_yes he138 (by assumption)]; exact hrwb)) (by omega) (by omega) ⟨rfl, rfl, rfl, trivial⟩ rfl rfl rfl rfl rfl)
                ·
                  refine tl_nil (tp_normal ?_)
                  refine tc_false rfl ?_
                  refine tc_skip (tp_normal ?_)
                  refine tc_seq ?_
                  refine tc_region ?_
                  refine s0 (qv_move rfl) ?_
                  refine s0 (qv_ldBW (i := 1) ag_133 rfl rfl rfl) ?_
                  refine s0 (qv_lookupM (zv := 0) (k := e138) 3 mt_131 key_133 hmm mz_3 rfl rfl rfl) ?_
                  refine s0 (qv_remI rfl rfl (by decide) (by omega)) ?_
                  refine s0 (qv_assign rfl) ?_
                  refine tl_nil (tp_normal ?_)
                  refine tc_seq ?_
                  refine tc_region ?_
                  refine s0 (qv_move rfl) ?_
                  refine sd (qv_gtr rfl rfl) (fun c174 => ?_) (fun c174 => ?_)
                  ·
                    refine tl_nil (tp_normal ?_)
                    refine tc_true rfl ?_
                    refine tc_region ?_
                    refine s0 (qv_move rfl) ?_
                    refine s0 (qv_iA at_133 rfl rfl (by omega)) ?_
                    refine s0 (qv_ldB (i := 1) sc_3 rfl rfl rfl) ?_
                    refine s0 (qv_iA at_133 rfl rfl (by omega)) ?_
                    refine s0 (qv_ldB (i := 1) sc_3 rfl rfl rfl) ?_
                    refine s0 (qv_iA at_133 rfl rfl (by omega)) ?_
                    refine s0 (qv_ldB (i := 1) sc_3 rfl rfl rfl) ?_
                    refine s0 (qv_move rfl) ?_
                    refine s0 (qv_build (cells := #[.int .i64 e138.1, .int .i64 e138.2.1, .int .i64 e138.2.2, .int .i64 ((look (useM t n (restM r) l) e138 0) % (1000))]) bt_56 rfl (by kernel_rfl)) ?_
                    refine tl_buildSlice (cells := #[.int .i64 e138.1, .int .i64 e138.2.1, .int .i64 e138.2.2, .int .i64 ((look (useM t n (restM r) l) e138 0) % (1000))]) (hc := by kernel_rfl) bsl_22_1 (fun b184_11 => ?_)
                    refine tl_append1 2 0 apt_22 (⟨e138.1, e138.2.1, e138.2.2, ((look (useM t n (restM r) l) e138 0) % (1000))⟩ : Rest) hrwb (fun v185 ob185 hr185 => ?_) rfl (one_56 _) (by first | omega | (simp only [List.length_append, List.length_cons, List.length_nil]; omega))
                    refine s0 (qv_assign rfl) ?_
                    refine tl_nil (tp_block_normal (tp_normal ?_))
                    refine tc_region ?_
                    refine s0 (qv_succ rfl rfl (by omega)) ?_
                    refine s0 (qv_move rfl) ?_
                    exact tl_nil (tp_roundRR (k + 1) (by first | (rw [postsOf_no he138 (by assumption)]; exact hrw) | (rw [postsOf_fine he138 (by assumption) (by assumption)]; exact hrw) | (rw [postsOf_use he138 (by assumption) (by assumption)]; exact hrw)) (by first | (rw [leftsOf_no he138 (by assumption)]; exact hr185) | (rw [leftsOf_yes he138 (by assumption)]; exact hr185)) (by omega) (by omega) ⟨rfl, rfl, rfl, trivial⟩ rfl rfl rfl rfl rfl)
                  ·
                    refine tl_nil (tp_normal ?_)
                    refine tc_false rfl ?_
                    refine tc_skip (tp_block_normal (tp_normal ?_))
                    refine tc_region ?_
                    refine s0 (qv_succ rfl rfl (by omega)) ?_
                    refine s0 (qv_move rfl) ?_
                    exact tl_nil (tp_roundRR (k + 1) (by first | (rw [postsOf_no he138 (by assumption)]; exact hrw) | (rw [postsOf_fine he138 (by assumption) (by assumption)]; exact hrw) | (rw [postsOf_use he138 (by assumption) (by assumption)]; exact hrw)) (by first | (rw [leftsOf_no he138 (by assumption)]; exact hrwb) | (rw [leftsOf_yes he138 (by assumption)]; exact hrwb)) (by omega) (by omega) ⟨rfl, rfl, rfl, trivial⟩ rfl rfl rfl rfl rfl)
            ·
              refine tl_nil (tp_normal ?_)
              refine tc_seq ?_
              refine tc_false rfl ?_
              refine tc_exit (tp_then_exit (tp_then_exit (tp_block_exit (tp_normal ?_))))
              refine tc_seq ?_
              refine tc_region ?_
              refine s0 (qv_move rfl) ?_
              refine s0 (qv_move rfl) ?_
              refine s0 (qv_assign rfl) ?_
              refine s0 (qv_assign rfl) ?_
              refine s0 (qv_assign rfl) ?_
              refine tl_nil (tp_normal ?_)
              refine tc_ret (tp_end3 rfl rfl rfl rfl ?_)
              intro w' hm
              rw [period_ok hck htk hrb hce hmm (hnil120 ▸ hZ.2.1) hZ.2.2 hsB]
              simp only
              have e0 : lB.take k = lB := List.take_of_length_le (by omega)
              rw [e0] at hrw hrwb
              obtain ⟨pa, pc, h1, h2, h3⟩ := hrw.sl hm (fun p hp => List.mem_append_right _ (List.mem_append_left _ (by subst hp; simp))) (fun _ => rfl)
              obtain ⟨qa, qc, h4, h5, h6⟩ := hrwb.sl hm (fun p hp => List.mem_append_right _ (List.mem_append_left _ (by subst hp; simp))) (fun _ => rfl)
              exact ⟨((pa, pc), (qa, qc)), by rw [h1, h4], hm.below, ⟨h2, h3⟩, h5, h6⟩
          ·
            refine s0 (qv_extract rfl rfl) ?_
            refine tl_nil (tp_normal ?_)
            refine tc_seq ?_
            refine tc_true rfl ?_
            refine tc_skip (tp_normal ?_)
            refine tc_block ?_
            refine tc_seq ?_
            refine tc_region ?_
            refine tl_entry 1 0 hnow120 ?_
            refine s0 (qv_extract rfl rfl) ?_
            refine s0 (qv_extract rfl rfl) ?_
            refine tl_alloc ze_133 (by decide) (fun b22_12 => ?_)
            refine tl_storeO (i := 0) sz_133 rfl rfl rfl rfl rfl rfl rfl ?_
            refine s0 (qv_assign rfl) ?_
            refine tl_nil (tp_normal ?_)
            refine tc_seq ?_
            refine tc_seq ?_
            have hpv := hvs p120 (hZ.2.1.mem_iff.1 (List.mem_append_right _ (hperm120.mem_iff.2 (by simp))))
            refine tc_region ?_
            refine s0 (qv_move rfl) ?_
            refine s0 (qv_quoI rfl rfl (by decide) (by omega) (by omega)) ?_
            refine sd (qv_gtr rfl rfl) (fun c127 => ?_) (fun c127 => ?_)
            ·
              refine tl_nil (tp_normal ?_)
              refine tc_true rfl ?_
              refine tc_seq ?_
              refine tc_region ?_
              refine s0 (qv_assign rfl) ?_
              refine s0 (qv_assign rfl) ?_
              refine s0 (qv_assign rfl) ?_
              refine tl_nil (tp_normal ?_)
              refine tc_ret (tp_then_ret (tp_block_ret (tp_then_ret (tp_block_ret (tp_then_ret (tp_end3 rfl rfl rfl rfl ?_))))))
              intro w' hm
              rw [period_limit hck htk hrb hce hmm hZ.2.1 hperm120 c127]
              exact ⟨((none, 0), (none, 0)), rfl, hm.below, ⟨Nat.le_refl 0, SlAt.nothing⟩, Nat.le_refl 0, SlAt.nothing⟩
            ·
              refine tl_nil (tp_normal ?_)
              refine tc_false rfl ?_
              refine tc_skip (tp_normal ?_)
              refine tc_region ?_
              refine s0 (qv_move rfl) ?_
              refine s0 (qv_ldBW (i := 0) ag_133 rfl rfl rfl) ?_
              refine tl_buildSlice (cells := #[.int .i64 p120.1.1, .int .i64 p120.1.2.1, .int .i64 p120.1.2.2]) (hc := by kernel_rfl) bsl_135_1 (fun b130_13 => ?_)
              refine tl_append1 0 0 apt_135 p120.1 hrow (fun v131 ob131 hr131 => ?_) rfl (one_133 _) (by first | omega | (simp only [List.length_append, List.length_cons, List.length_nil]; omega))
              refine s0 (qv_assign rfl) ?_
              exact tl_nil (tp_block_normal (tp_roundR (((z.1.1 ++ [p120], rest120), oi120)) (by rw [List.map_append]; exact hr131) ⟨hri120, perm_step hZ.2.1 hperm120, fun p hp => by (rcases List.mem_append.1 hp with hp | hp; exact hZ.2.2 p hp; simp at hp; subst hp; assumption)⟩ (by (have h_ := hperm120.length_eq; simp only [List.length_cons] at h_; simp only; omega)) ⟨rfl, trivial⟩ rfl rfl rfl rfl rfl))
    ·
      refine s0 (qv_not rfl) ?_
      refine tl_nil (tp_normal ?_)
      refine tc_true rfl ?_
      refine tc_seq ?_
      refine tc_region ?_
      refine s0 (qv_assign rfl) ?_
      refine s0 (qv_assign rfl) ?_
      refine s0 (qv_assign rfl) ?_
      refine tl_nil (tp_normal ?_)
      refine tc_ret (tp_then_ret (tp_end3 rfl rfl rfl rfl ?_))
      intro w' hm
      rw [period_tick (by omega) c37]
      exact ⟨((none, 0), (none, 0)), rfl, hm.below, ⟨Nat.le_refl 0, SlAt.nothing⟩, Nat.le_refl 0, SlAt.nothing⟩
end Go.Q
