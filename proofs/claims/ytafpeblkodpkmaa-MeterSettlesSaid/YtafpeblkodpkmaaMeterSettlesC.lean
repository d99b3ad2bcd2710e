/- A part of the proof: see the last text. -/
import Derived.WalkKit
import Derived.Deep.Quiet
import Derived.KernelRfl
import Derived.RangeFuncNested
import Derived.RangeFuncCalls
import Derived.OrdersIn
import Derived.TacticsIn
import Derived.Maps.AppendAt
import Derived.OwnWalkIn
import Derived.Maps.RangeRun
import Derived.Laws.StructEq
import GoSem.Core.Value
import Derived.Test.YtafpeblkodpkmaaProg
import Derived.Shelf.SlSortCmp.InsertionK
import Derived.Sort.OwnSortedInts
import Derived.OpenShut
import Derived.WideShapes
import Derived.ChangeArms
import Derived.ChangeKeysEq
import Derived.Sort.Grow
import Derived.Deep.Draws
import Derived.Shelf.SlSortCmp.NoneTotal
import Derived.Shelf.Small.Bits
import Derived.Test.YtafpeblkodpkmaaShelf
import Derived.Laws.MakeOwn
import Derived.Lib.BufferMore
import Derived.Test.YtafpeblkodpkmaaMeterSettlesB
set_option linter.unusedVariables false
set_option linter.unusedSimpArgs false
set_option linter.unusedSectionVars false
namespace Go.Q
open Go Go.Proofs Go.RowKit
theorem mixed : Try.prog.follows .mixedOrders = true := by kernel_rfl
theorem one_119 (x : Send) : ∀ u ∈ encSend x, u.oneCell' = true := by
  intro u hu
  simp [encSend] at hu
  rcases hu with rfl | rfl | rfl <;> rfl
theorem one_117 (x : Link) : ∀ u ∈ encLink x, u.oneCell' = true := by
  intro u hu
  simp [encLink] at hu
  rcases hu with rfl | rfl | ⟨_, _, rfl⟩ | ⟨_, _, rfl⟩ <;> rfl
theorem sc_3 : Scalar Try.prog 3 := fun w => by kernel_rfl
theorem fo_26_0 : FOff Try.prog 26 0 0 := fun b o w => by kernel_rfl
theorem fo_26_1 : FOff Try.prog 26 1 1 := fun b o w => by kernel_rfl
theorem sc_24 : Scalar Try.prog 24 := fun w => by kernel_rfl
theorem st_24 : SliceTy Try.prog 24 50 := ⟨117, by kernel_rfl, fun w => by kernel_rfl⟩
theorem ag_117 : Agg Try.prog 117 50 := fun w => ⟨by kernel_rfl, by kernel_rfl⟩
theorem ze_117 : Zero Try.prog 117 #[.int .i64 0, .int .i64 0, .int .i64 0, .int .i64 0, .int .i64 0, .int .i64 0, .int .i64 0, .int .i64 0, .int .i64 0, .int .i64 0, .int .i64 0, .int .i64 0, .int .i64 0, .int .i64 0, .int .i64 0, .int .i64 0, .int .i64 0, .int .i64 0, .int .i64 0, .int .i64 0, .int .i64 0, .int .i64 0, .int .i64 0, .int .i64 0, .int .i64 0, .int .i64 0, .int .i64 0, .int .i64 0, .int .i64 0, .int .i64 0, .int .i64 0, .int .i64 0, .int .i64 0, .int .i64 0, .int .i64 0, .int .i64 0, .int .i64 0, .int .i64 0, .int .i64 0, .int .i64 0, .int .i64 0, .int .i64 0, .int .i64 0, .int .i64 0, .int .i64 0, .int .i64 0, .int .i64 0, .int .i64 0, .int .i64 0, .int .i64 0] := fun w => ⟨.agg #[.int .i64 0, .int .i64 0, .int .i64 0, .int .i64 0, .int .i64 0, .int .i64 0, .int .i64 0, .int .i64 0, .int .i64 0, .int .i64 0, .int .i64 0, .int .i64 0, .int .i64 0, .int .i64 0, .int .i64 0, .int .i64 0, .int .i64 0, .int .i64 0, .int .i64 0, .int .i64 0, .int .i64 0, .int .i64 0, .int .i64 0, .int .i64 0, .int .i64 0, .int .i64 0, .int .i64 0, .int .i64 0, .int .i64 0, .int .i64 0, .int .i64 0, .int .i64 0, .int .i64 0, .int .i64 0, .int .i64 0, .int .i64 0, .int .i64 0, .int .i64 0, .int .i64 0, .int .i64 0, .int .i64 0, .int .i64 0, .int .i64 0, .int .i64 0, .int .i64 0, .int .i64 0, .int .i64 0, .int .i64 0, .int .i64 0, .int .i64 0], by kernel_rfl, rfl⟩
theorem sz_117 : Size Try.prog 117 50 := fun w => by kernel_rfl
theorem fo_117_0 : FOff Try.prog 117 0 0 := fun b o w => by kernel_rfl
theorem fn_121 : IsFn Try.prog 121 := isFn_of Try.func121 (by kernel_rfl) rfl
theorem fo_117_1 : FOff Try.prog 117 1 1 := fun b o w => by kernel_rfl
theorem fo_117_2 : FOff Try.prog 117 2 2 := fun b o w => by kernel_rfl
theorem at_114 : ArrTy Try.prog 114 24 1 := ⟨3, by kernel_rfl, fun w => by kernel_rfl⟩
theorem fo_117_3 : FOff Try.prog 117 3 26 := fun b o w => by kernel_rfl
theorem ag_26 : Agg Try.prog 26 2 := fun w => ⟨by kernel_rfl, by kernel_rfl⟩
theorem fn_100 : IsFn Try.prog 100 := isFn_of Try.func100 (by kernel_rfl) rfl
theorem st_32 : SliceTy Try.prog 32 3 := ⟨119, by kernel_rfl, fun w => by kernel_rfl⟩
theorem ag_119 : Agg Try.prog 119 3 := fun w => ⟨by kernel_rfl, by kernel_rfl⟩
theorem ze_119 : Zero Try.prog 119 #[.int .i64 0, .int .i64 0, .int .i64 0] := fun w => ⟨.agg #[.int .i64 0, .int .i64 0, .int .i64 0], by kernel_rfl, rfl⟩
theorem sz_119 : Size Try.prog 119 3 := fun w => by kernel_rfl
theorem fo_119_0 : FOff Try.prog 119 0 0 := fun b o w => by kernel_rfl
theorem fo_119_1 : FOff Try.prog 119 1 1 := fun b o w => by kernel_rfl
theorem fo_119_2 : FOff Try.prog 119 2 2 := fun b o w => by kernel_rfl
theorem fn_60 : IsFn Try.prog 60 := isFn_of Try.func60 (by kernel_rfl) rfl
theorem fn_61 : IsFn Try.prog 61 := isFn_of Try.func61 (by kernel_rfl) rfl
set_option maxRecDepth 100000 in
theorem house1 (w : World) (n : Net) (na : Option Addr) (nc : Nat) (b : Nat) (h : Int) (hb : w.heap[b]? = some (.cells (netA n na nc) 26 (0, 0))) :
    Calls Try.prog 121 #[.int .i64 h, .pointer (some ⟨b, 0, none⟩)] w (fun e w' => e = .returned (.bool (decide (isHouse n h))) ∧ Below w.heap.size w w') := by
  refine calls_of_tc (N := 12) (vs := [.int .i64 h, .pointer (some ⟨b, 0, none⟩)]) Try.func121 rfl rfl (Nat.le_of_ble_eq_true rfl) ?_
  refine tc_seq ?_
  refine tc_region ?_
  refine s0 (qv_assign rfl) ?_
  refine tl_nil (tp_normal ?_)
  refine tc_seq ?_
  refine tc_region ?_
  refine s0 (qv_move rfl) ?_
  refine sd (qv_geq rfl rfl) (fun c5 => ?_) (fun c5 => ?_)
  ·
    refine s0 (qv_move rfl) ?_
    refine s0g (qv_move rfl) ?_
    refine s0g (qv_fa fo_26_0 rfl) ?_
    refine s0g (qv_ldO sc_3 rfl hb rfl) ?_
    refine s0g (qv_lss rfl rfl) ?_
    refine s0 (qv_pickT rfl rfl) ?_
    refine s0 (qv_assign rfl) ?_
    refine tl_nil (tp_normal ?_)
    refine tc_ret (tp_end1 rfl rfl ?_)
    intro w' hm
    exact ⟨by simp [isHouse, *], hm.below⟩
  ·
    refine s0 (qv_move rfl) ?_
    refine sk ?_
    refine sk ?_
    refine sk ?_
    refine sk ?_
    refine s0 (qv_pickF rfl rfl) ?_
    refine s0 (qv_assign rfl) ?_
    refine tl_nil (tp_normal ?_)
    refine tc_ret (tp_end1 rfl rfl ?_)
    intro w' hm
    exact ⟨by simp [isHouse, *], hm.below⟩
set_option maxRecDepth 100000 in
theorem netCheck_calls (w : World) (n : Net) (na : Option Addr) (nc : Nat) (hn : SlIn w 50 encLink na n.links) (hk : NetOk n) :
    Calls Try.prog 100 #[.agg (netA n na nc)] w (fun e w' => e = .returned (.int .i64 (netCheck n)) ∧ Below w.heap.size w w') := by
  have hlenn := hn.len
  simp only [maxLen] at hlenn
  refine calls_of_tc (N := 79) (vs := [.agg (netA n na nc)]) Try.func100 rfl rfl (Nat.le_of_ble_eq_true rfl) ?_
  refine tc_seq ?_
  refine tc_region ?_
  refine tl_box rfl (by decide) (fun b1_0 => ?_)
  refine s0 (qv_assign rfl) ?_
  refine tl_nil (tp_normal ?_)
  refine tc_seq ?_
  refine tc_seq ?_
  refine tc_region ?_
  refine s0 (qv_fa fo_26_0 rfl) ?_
  refine s0 (qv_ldB (i := 0) sc_3 rfl rfl rfl) ?_
  refine sd (qv_lss rfl rfl) (fun c9 => ?_) (fun c9 => ?_)
  ·
    refine s0 (qv_move rfl) ?_
    refine sk ?_
    refine sk ?_
    refine sk ?_
    refine s0 (qv_pickT rfl rfl) ?_
    refine s0 (qv_move rfl) ?_
    refine sk ?_
    refine sk ?_
    refine sk ?_
    refine sk ?_
    refine s0 (qv_pickT rfl rfl) ?_
    refine tl_nil (tp_normal ?_)
    refine tc_true rfl ?_
    refine tc_seq ?_
    refine tc_region ?_
    refine s0 (qv_assign rfl) ?_
    refine tl_nil (tp_normal ?_)
    refine tc_ret (tp_then_ret (tp_end1 rfl rfl ?_))
    intro w' hm
    exact ⟨by rw [netCheck_limit (by omega)], hm.below⟩
  ·
    refine s0 (qv_move rfl) ?_
    refine s0g (qv_fa fo_26_0 rfl) ?_
    refine s0g (qv_ldB (i := 0) sc_3 rfl rfl rfl) ?_
    refine sdg (qv_gtr rfl rfl) (fun c13 => ?_) (fun c13 => ?_)
    ·
      refine s0 (qv_pickF rfl rfl) ?_
      refine s0 (qv_move rfl) ?_
      refine sk ?_
      refine sk ?_
      refine sk ?_
      refine sk ?_
      refine s0 (qv_pickT rfl rfl) ?_
      refine tl_nil (tp_normal ?_)
      refine tc_true rfl ?_
      refine tc_seq ?_
      refine tc_region ?_
      refine s0 (qv_assign rfl) ?_
      refine tl_nil (tp_normal ?_)
      refine tc_ret (tp_then_ret (tp_end1 rfl rfl ?_))
      intro w' hm
      exact ⟨by rw [netCheck_limit (by omega)], hm.below⟩
    ·
      refine s0 (qv_pickF rfl rfl) ?_
      refine s0 (qv_move rfl) ?_
      refine s0g (qv_fa fo_26_1 rfl) ?_
      refine s0g (qv_ldB (i := 0) sc_24 rfl rfl rfl) ?_
      refine s0g (qv_len st_24 rfl) ?_
      refine sdg (qv_gtr rfl rfl) (fun c19 => ?_) (fun c19 => ?_)
      ·
        refine s0 (qv_pickF rfl rfl) ?_
        refine tl_nil (tp_normal ?_)
        refine tc_true rfl ?_
        refine tc_seq ?_
        refine tc_region ?_
        refine s0 (qv_assign rfl) ?_
        refine tl_nil (tp_normal ?_)
        refine tc_ret (tp_then_ret (tp_end1 rfl rfl ?_))
        intro w' hm
        exact ⟨by rw [netCheck_limit (by omega)], hm.below⟩
      ·
        refine s0 (qv_pickF rfl rfl) ?_
        refine tl_nil (tp_normal ?_)
        refine tc_false rfl ?_
        refine tc_skip (tp_normal ?_)
        refine tc_seq ?_
        refine tc_region ?_
        refine s0 (qv_mk rfl) ?_
        refine s0 (qv_assign rfl) ?_
        refine tl_nil (tp_normal ?_)
        refine tc_seq ?_
        refine tc_seq ?_
        refine tc_region ?_
        refine s0 (qv_fa fo_26_1 rfl) ?_
        refine s0 (qv_ldB (i := 0) sc_24 rfl rfl rfl) ?_
        refine s0 (qv_len st_24 rfl) ?_
        refine s0 (qv_move rfl) ?_
        refine tl_nil (tp_normal ?_)
        refine tc_block (tc_loopS (fun (k : Nat) => [(25, .int .i64 (k : Int))]) (fun (k : Nat) => k ≤ n.links.length ∧ netCheck n = checkLinks n (n.links.drop k)) (fun (k : Nat) => n.links.length - k) (0) ⟨Nat.zero_le _, by rw [netCheck_links c9 c13 c19, List.drop_zero]⟩ ⟨rfl, trivial⟩ ?_)
        rintro k hI
        refine tc_seq ?_
        refine tc_region ?_
        refine sd (qv_lss rfl rfl) (fun c26 => ?_) (fun c26 => ?_)
        ·
          refine tl_nil (tp_normal ?_)
          refine tc_seq ?_
          refine tc_true rfl ?_
          refine tc_skip (tp_normal ?_)
          refine tc_seq ?_
          refine tc_block ?_
          refine tc_seq ?_
          refine tc_region ?_
          refine sn st_24 hn rfl rfl (by omega) (fun e27 he27 => ?_)
          refine s0 (qv_ldEW ag_117 hn Mem.has_base rfl he27) ?_
          refine tl_alloc ze_117 (by decide) (fun b5_1 => ?_)
          refine tl_storeL (i := 0) sz_117 (hn.szs _ (List.mem_of_getElem? he27)) (one_117 _) rfl rfl rfl rfl ?_
          refine tl_nil (tp_normal ?_)
          refine tc_seq ?_
          refine tc_seq ?_
          refine tc_region ?_
          refine s0 (qv_move rfl) ?_
          refine s0 (qv_fa fo_117_0 rfl) ?_
          refine s0 (qv_ldB (i := 0) sc_3 rfl rfl rfl) ?_
          refine sd (qv_callV fn_121 rfl rfl (fun w hm => house1 w n na nc b1_0 e27.src (hm.box _ (List.mem_of_getElem? (i := 1) rfl)).2)) (fun c32 => ?_) (fun c32 => ?_)
          ·
            refine s0 (qv_not rfl) ?_
            refine s0 (qv_move rfl) ?_
            refine s0g (qv_move rfl) ?_
            refine s0g (qv_fa fo_117_1 rfl) ?_
            refine s0g (qv_ldB (i := 0) sc_3 rfl rfl rfl) ?_
            refine sdg (qv_callV fn_121 rfl rfl (fun w hm => house1 w n na nc b1_0 e27.dst (hm.box _ (List.mem_of_getElem? (i := 1) rfl)).2)) (fun c38 => ?_) (fun c38 => ?_)
            ·
              refine s0g (qv_not rfl) ?_
              refine s0 (qv_pickF rfl rfl) ?_
              refine s0 (qv_move rfl) ?_
              refine s0g (qv_fa fo_117_0 rfl) ?_
              refine s0g (qv_ldB (i := 0) sc_3 rfl rfl rfl) ?_
              refine s0g (qv_fa fo_117_1 rfl) ?_
              refine s0g (qv_ldB (i := 0) sc_3 rfl rfl rfl) ?_
              refine sdg (qv_eql rfl rfl) (fun c46 => ?_) (fun c46 => ?_)
              ·
                refine s0 (qv_pickF rfl rfl) ?_
                refine tl_nil (tp_normal ?_)
                refine tc_true rfl ?_
                refine tc_seq ?_
                refine tc_region ?_
                refine s0 (qv_assign rfl) ?_
                refine tl_nil (tp_normal ?_)
                refine tc_ret (tp_then_ret (tp_block_ret (tp_then_ret (tp_then_ret (tp_block_ret (tp_then_ret (tp_end1 rfl rfl ?_)))))))
                intro w' hm
                exact ⟨by rw [hI.2, checkLinks_at he27, checkLink_arg (by simp_all)]; rfl, hm.below⟩
              ·
                refine s0 (qv_pickF rfl rfl) ?_
                refine tl_nil (tp_normal ?_)
                refine tc_false rfl ?_
                refine tc_skip (tp_normal ?_)
                refine tc_seq ?_
                refine tc_region ?_
                refine s0 (qv_move rfl) ?_
                refine tl_nil (tp_normal ?_)
                refine tc_block (tc_loopS (fun (j : Nat) => [(48, .int .i64 (j : Int))]) (fun (j : Nat) => j ≤ 24 ∧ netCheck n = if hoursFrom e27 (24 - j) j = 0 then checkLinks n (n.links.drop (k + 1)) else hoursFrom e27 (24 - j) j) (fun (j : Nat) => 24 - j) (0) ⟨by omega, by rw [hI.2, checkLinks_at he27, checkLink_hours c32 c38 c46]⟩ ⟨rfl, trivial⟩ ?_)
                rintro j hI
                refine tc_seq ?_
                refine tc_region ?_
                refine sd (qv_lss rfl rfl) (fun c49 => ?_) (fun c49 => ?_)
                ·
                  refine tl_nil (tp_normal ?_)
                  refine tc_seq ?_
                  refine tc_true rfl ?_
                  refine tc_skip (tp_normal ?_)
                  refine tc_seq ?_
                  refine tc_block ?_
                  refine tc_seq ?_
                  refine tc_region ?_
                  refine s0 (qv_move rfl) ?_
                  refine s0 (qv_assign rfl) ?_
                  refine tl_nil (tp_normal ?_)
                  refine tc_seq ?_
                  refine tc_region ?_
                  refine s0 (qv_move rfl) ?_
                  refine s0 (qv_fa fo_117_2 rfl) ?_
                  refine s0 (qv_iA at_114 rfl rfl (by omega)) ?_
                  refine s0 (qv_ldB (i := 0) sc_3 rfl rfl (box_cap (hk _ (List.mem_of_getElem? he27)) (by omega))) ?_
                  refine sd (qv_lss rfl rfl) (fun c55 => ?_) (fun c55 => ?_)
                  ·
                    refine s0 (qv_move rfl) ?_
                    refine sk ?_
                    refine sk ?_
                    refine sk ?_
                    refine sk ?_
                    refine sk ?_
                    refine s0 (qv_pickT rfl rfl) ?_
                    refine s0 (qv_move rfl) ?_
                    refine sk ?_
                    refine sk ?_
                    refine sk ?_
                    refine sk ?_
                    refine sk ?_
                    refine s0 (qv_pickT rfl rfl) ?_
                    refine s0 (qv_move rfl) ?_
                    refine sk ?_
                    refine sk ?_
                    refine sk ?_
                    refine sk ?_
                    refine sk ?_
                    refine s0 (qv_pickT rfl rfl) ?_
                    refine tl_nil (tp_normal ?_)
                    refine tc_true rfl ?_
                    refine tc_seq ?_
                    refine tc_region ?_
                    refine s0 (qv_assign rfl) ?_
                    refine tl_nil (tp_normal ?_)
                    refine tc_ret (tp_block_ret (tp_then_ret (tp_then_ret (tp_block_ret (tp_block_ret (tp_then_ret (tp_then_ret (tp_block_ret (tp_then_ret (tp_end1 rfl rfl ?_))))))))))
                    intro w' hm
                    exact ⟨by rw [hI.2, hoursFrom_bad (by omega) (by simp only [hourBad]; omega)]; rfl, hm.below⟩
                  ·
                    refine s0 (qv_move rfl) ?_
                    refine s0g (qv_move rfl) ?_
                    refine s0g (qv_fa fo_117_2 rfl) ?_
                    refine s0g (qv_iA at_114 rfl rfl (by omega)) ?_
                    refine s0g (qv_ldB (i := 0) sc_3 rfl rfl (box_cap (hk _ (List.mem_of_getElem? he27)) (by omega))) ?_
                    refine sdg (qv_gtr rfl rfl) (fun c61 => ?_) (fun c61 => ?_)
                    ·
                      refine s0 (qv_pickF rfl rfl) ?_
                      refine s0 (qv_move rfl) ?_
                      refine sk ?_
                      refine sk ?_
                      refine sk ?_
                      refine sk ?_
                      refine sk ?_
                      refine s0 (qv_pickT rfl rfl) ?_
                      refine s0 (qv_move rfl) ?_
                      refine sk ?_
                      refine sk ?_
                      refine sk ?_
                      refine sk ?_
                      refine sk ?_
                      refine s0 (qv_pickT rfl rfl) ?_
                      refine tl_nil (tp_normal ?_)
                      refine tc_true rfl ?_
                      refine tc_seq ?_
                      refine tc_region ?_
                      refine s0 (qv_assign rfl) ?_
                      refine tl_nil (tp_normal ?_)
                      refine tc_ret (tp_block_ret (tp_then_ret (tp_then_ret (tp_block_ret (tp_block_ret (tp_then_ret (tp_then_ret (tp_block_ret (tp_then_ret (tp_end1 rfl rfl ?_))))))))))
                      intro w' hm
                      exact ⟨by rw [hI.2, hoursFrom_bad (by omega) (by simp only [hourBad]; omega)]; rfl, hm.below⟩
                    ·
                      refine s0 (qv_pickF rfl rfl) ?_
                      refine s0 (qv_move rfl) ?_
                      refine s0g (qv_move rfl) ?_
                      refine s0g (qv_fa fo_117_3 rfl) ?_
                      refine s0g (qv_iA at_114 rfl rfl (by omega)) ?_
                      refine s0g (qv_ldB (i := 0) sc_3 rfl rfl (box_price (hk _ (List.mem_of_getElem? he27)) (by omega))) ?_
                      refine sdg (qv_lss rfl rfl) (fun c68 => ?_) (fun c68 => ?_)
                      ·
                        refine s0 (qv_pickF rfl rfl) ?_
                        refine s0 (qv_move rfl) ?_
                        refine sk ?_
                        refine sk ?_
                        refine sk ?_
                        refine sk ?_
                        refine sk ?_
                        refine s0 (qv_pickT rfl rfl) ?_
                        refine tl_nil (tp_normal ?_)
                        refine tc_true rfl ?_
                        refine tc_seq ?_
                        refine tc_region ?_
                        refine s0 (qv_assign rfl) ?_
                        refine tl_nil (tp_normal ?_)
                        refine tc_ret (tp_block_ret (tp_then_ret (tp_then_ret (tp_block_ret (tp_block_ret (tp_then_ret (tp_then_ret (tp_block_ret (tp_then_ret (tp_end1 rfl rfl ?_))))))))))
                        intro w' hm
                        exact ⟨by rw [hI.2, hoursFrom_bad (by omega) (by simp only [hourBad]; omega)]; rfl, hm.below⟩
                      ·
                        refine s0 (qv_pickF rfl rfl) ?_
                        refine s0 (qv_move rfl) ?_
                        refine s0g (qv_move rfl) ?_
                        refine s0g (qv_fa fo_117_3 rfl) ?_
                        refine s0g (qv_iA at_114 rfl rfl (by omega)) ?_
                        refine s0g (qv_ldB (i := 0) sc_3 rfl rfl (box_price (hk _ (List.mem_of_getElem? he27)) (by omega))) ?_
                        refine sdg (qv_gtr rfl rfl) (fun c75 => ?_) (fun c75 => ?_)
                        ·
                          refine s0 (qv_pickF rfl rfl) ?_
                          refine tl_nil (tp_normal ?_)
                          refine tc_true rfl ?_
                          refine tc_seq ?_
                          refine tc_region ?_
                          refine s0 (qv_assign rfl) ?_
                          refine tl_nil (tp_normal ?_)
                          refine tc_ret (tp_block_ret (tp_then_ret (tp_then_ret (tp_block_ret (tp_block_ret (tp_then_ret (tp_then_ret (tp_block_ret (tp_then_ret (tp_end1 rfl rfl ?_))))))))))
                          intro w' hm
                          exact ⟨by rw [hI.2, hoursFrom_bad (by omega) (by simp only [hourBad]; omega)]; rfl, hm.below⟩
                        ·
                          refine s0 (qv_pickF rfl rfl) ?_
                          refine tl_nil (tp_normal ?_)
                          refine tc_false rfl ?_
                          refine tc_skip (tp_block_normal (tp_normal ?_))
                          refine tc_region ?_
                          refine s0 (qv_succ rfl rfl (by omega)) ?_
                          refine s0 (qv_move rfl) ?_
                          exact tl_nil (tp_roundS (j + 1) ⟨by omega, by rw [← hoursFrom_ok (by omega) (by simp only [hourBad]; omega)]; exact hI.2⟩ (by omega) ⟨rfl, trivial⟩ rfl rfl rfl rfl)
                ·
                  refine tl_nil (tp_normal ?_)
                  refine tc_seq ?_
                  refine tc_false rfl ?_
                  refine tc_exit (tp_then_exit (tp_then_exit (tp_block_exit (tp_block_normal (tp_normal ?_)))))
                  refine tc_region ?_
                  refine s0 (qv_succ rfl rfl (by omega)) ?_
                  refine s0 (qv_move rfl) ?_
                  exact tl_nil (tp_roundS (k + 1) ⟨by omega, by rw [hI.2, show 24 - j = 0 by omega]; rfl⟩ (by omega) ⟨rfl, trivial⟩ rfl rfl rfl rfl)
            ·
              refine s0g (qv_not rfl) ?_
              refine s0 (qv_pickF rfl rfl) ?_
              refine s0 (qv_move rfl) ?_
              refine sk ?_
              refine sk ?_
              refine sk ?_
              refine sk ?_
              refine sk ?_
              refine s0 (qv_pickT rfl rfl) ?_
              refine tl_nil (tp_normal ?_)
              refine tc_true rfl ?_
              refine tc_seq ?_
              refine tc_region ?_
              refine s0 (qv_assign rfl) ?_
              refine tl_nil (tp_normal ?_)
              refine tc_ret (tp_then_ret (tp_block_ret (tp_then_ret (tp_then_ret (tp_block_ret (tp_then_ret (tp_end1 rfl rfl ?_)))))))
              intro w' hm
              exact ⟨by rw [hI.2, checkLinks_at he27, checkLink_arg (by simp_all)]; rfl, hm.below⟩
          ·
            refine s0 (qv_not rfl) ?_
            refine s0 (qv_move rfl) ?_
            refine sk ?_
            refine sk ?_
            refine sk ?_
            refine sk ?_
            refine sk ?_
            refine s0 (qv_pickT rfl rfl) ?_
            refine s0 (qv_move rfl) ?_
            refine sk ?_
            refine sk ?_
            refine sk ?_
            refine sk ?_
            refine sk ?_
            refine s0 (qv_pickT rfl rfl) ?_
            refine tl_nil (tp_normal ?_)
            refine tc_true rfl ?_
            refine tc_seq ?_
            refine tc_region ?_
            refine s0 (qv_assign rfl) ?_
            refine tl_nil (tp_normal ?_)
            refine tc_ret (tp_then_ret (tp_block_ret (tp_then_ret (tp_then_ret (tp_block_ret (tp_then_ret (tp_end1 rfl rfl ?_)))))))
            intro w' hm
            exact ⟨by rw [hI.2, checkLinks_at he27, checkLink_arg (by simp_all)]; rfl, hm.below⟩
        ·
          refine tl_nil (tp_normal ?_)
          refine tc_seq ?_
          refine tc_false rfl ?_
          refine tc_exit (tp_then_exit (tp_then_exit (tp_block_exit (tp_normal ?_))))
          refine tc_seq ?_
          refine tc_region ?_
          refine s0 (qv_assign rfl) ?_
          refine tl_nil (tp_normal ?_)
          refine tc_ret (tp_end1 rfl rfl ?_)
          intro w' hm
          exact ⟨by rw [hI.2, List.drop_eq_nil_of_le (by omega)]; rfl, hm.below⟩
set_option maxRecDepth 100000 in
theorem right_calls (w : World) (n : Net) (na : Option Addr) (nc : Nat) (l : List Send) (la : Option Addr) (lc : Nat) (hn : SlIn w 50 encLink na n.links) (hk : NetOk n) (hl : SlIn w 3 encSend la l) :
    Calls Try.prog 60 #[.agg (netA n na nc), .slice la l.length lc] w (fun e w' => e = .returned (.int .i64 (right n l)) ∧ Below w.heap.size w w') := by
  have hlen := hl.len
  simp only [maxLen] at hlen
  have hlenn := hn.len
  simp only [maxLen] at hlenn
  refine calls_of_tc (N := 91) (vs := [.agg (netA n na nc), .slice la l.length lc]) Try.func60 rfl rfl (Nat.le_of_ble_eq_true rfl) ?_
  refine tc_seq ?_
  refine tc_region ?_
  refine tl_box rfl (by decide) (fun b2_0 => ?_)
  refine s0 (qv_assign rfl) ?_
  refine tl_nil (tp_normal ?_)
  refine tc_seq ?_
  refine tc_seq ?_
  refine tc_region ?_
  refine s0 (qv_ldBW (i := 0) ag_26 rfl rfl rfl) ?_
  refine s0 (qv_call fn_100 rfl (fun w hm => netCheck_calls w n na nc (hn.into Mem.has_base hm) hk)) ?_
  refine s0 (qv_assign rfl) ?_
  refine tl_nil (tp_normal ?_)
  refine tc_seq ?_
  refine tc_region ?_
  refine s0 (qv_move rfl) ?_
  refine sd (qv_neq rfl rfl) (fun c11 => ?_) (fun c11 => ?_)
  ·
    refine tl_nil (tp_normal ?_)
    refine tc_true rfl ?_
    refine tc_seq ?_
    refine tc_region ?_
    refine s0 (qv_move rfl) ?_
    refine s0 (qv_assign rfl) ?_
    refine tl_nil (tp_normal ?_)
    refine tc_ret (tp_then_ret (tp_end1 rfl rfl ?_))
    intro w' hm
    exact ⟨by rw [right_check c11], hm.below⟩
  ·
    refine tl_nil (tp_normal ?_)
    refine tc_false rfl ?_
    refine tc_skip (tp_normal ?_)
    refine tc_seq ?_
    refine tc_seq ?_
    refine tc_region ?_
    refine s0 (qv_move rfl) ?_
    refine s0 (qv_len st_32 rfl) ?_
    refine sd (qv_gtr rfl rfl) (fun c15 => ?_) (fun c15 => ?_)
    ·
      refine tl_nil (tp_normal ?_)
      refine tc_true rfl ?_
      refine tc_seq ?_
      refine tc_region ?_
      refine s0 (qv_assign rfl) ?_
      refine tl_nil (tp_normal ?_)
      refine tc_ret (tp_then_ret (tp_end1 rfl rfl ?_))
      intro w' hm
      exact ⟨by rw [right_limit c11 (by omega)], hm.below⟩
    ·
      refine tl_nil (tp_normal ?_)
      refine tc_false rfl ?_
      refine tc_skip (tp_normal ?_)
      refine tc_seq ?_
      refine tc_seq ?_
      refine tc_region ?_
      refine s0 (qv_move rfl) ?_
      refine s0 (qv_len st_32 rfl) ?_
      refine s0 (qv_move rfl) ?_
      refine tl_nil (tp_normal ?_)
      refine tc_block (tc_loopS (fun (k : Nat) => [(18, .int .i64 (k : Int))]) (fun (k : Nat) => k ≤ l.length ∧ right n l = rightFrom n (prevAt l k) (l.drop k)) (fun (k : Nat) => l.length - k) (0) ⟨Nat.zero_le _, by rw [right_from c11 (by omega)]; rfl⟩ ⟨rfl, trivial⟩ ?_)
      rintro k hI
      refine tc_seq ?_
      refine tc_region ?_
      refine sd (qv_lss rfl rfl) (fun c19 => ?_) (fun c19 => ?_)
      ·
        refine tl_nil (tp_normal ?_)
        refine tc_seq ?_
        refine tc_true rfl ?_
        refine tc_skip (tp_normal ?_)
        refine tc_seq ?_
        refine tc_block ?_
        refine tc_seq ?_
        refine tc_region ?_
        refine s0 (qv_move rfl) ?_
        refine sn st_32 hl rfl rfl (by omega) (fun e21 he21 => ?_)
        refine s0 (qv_ldEW ag_119 hl Mem.has_base rfl he21) ?_
        refine tl_alloc ze_119 (by decide) (fun b7_1 => ?_)
        refine s0 (qv_assign rfl) ?_
        refine tl_storeL (i := 0) sz_119 (hl.szs _ (List.mem_of_getElem? he21)) (one_119 _) rfl rfl rfl rfl ?_
        refine tl_nil (tp_normal ?_)
        refine tc_block ?_
        refine tc_seq ?_
        refine tc_region ?_
        refine s0 (qv_fa fo_119_0 rfl) ?_
        refine s0 (qv_ldB (i := 0) sc_3 rfl rfl rfl) ?_
        refine sd (qv_lss rfl rfl) (fun c26 => ?_) (fun c26 => ?_)
        ·
          refine s0 (qv_move rfl) ?_
          refine sk ?_
          refine sk ?_
          refine sk ?_
          refine sk ?_
          refine sk ?_
          refine sk ?_
          refine s0 (qv_pickT rfl rfl) ?_
          refine s0 (qv_assign rfl) ?_
          refine tl_nil (tp_normal ?_)
          refine tc_true rfl ?_
          refine tc_seq ?_
          refine tc_region ?_
          refine s0 (qv_assign rfl) ?_
          refine tl_nil (tp_normal ?_)
          refine tc_ret (tp_block_ret (tp_block_ret (tp_then_ret (tp_then_ret (tp_block_ret (tp_then_ret (tp_end1 rfl rfl ?_)))))))
          intro w' hm
          exact ⟨by rw [hI.2, right_stop he21 (sendErr_link (by omega)) (by decide)], hm.below⟩
        ·
          refine s0 (qv_move rfl) ?_
          refine s0g (qv_fa fo_119_0 rfl) ?_
          refine s0g (qv_ldB (i := 0) sc_3 rfl rfl rfl) ?_
          refine s0g (qv_fa fo_26_1 rfl) ?_
          refine s0g (qv_ldB (i := 1) sc_24 rfl rfl rfl) ?_
          refine s0g (qv_len st_24 rfl) ?_
          refine sdg (qv_geq rfl rfl) (fun c33 => ?_) (fun c33 => ?_)
          ·
            refine s0 (qv_pickF rfl rfl) ?_
            refine s0 (qv_assign rfl) ?_
            refine tl_nil (tp_normal ?_)
            refine tc_true rfl ?_
            refine tc_seq ?_
            refine tc_region ?_
            refine s0 (qv_assign rfl) ?_
            refine tl_nil (tp_normal ?_)
            refine tc_ret (tp_block_ret (tp_block_ret (tp_then_ret (tp_then_ret (tp_block_ret (tp_then_ret (tp_end1 rfl rfl ?_)))))))
            intro w' hm
            exact ⟨by rw [hI.2, right_stop he21 (sendErr_link (by omega)) (by decide)], hm.below⟩
          ·
            refine s0 (qv_pickF rfl rfl) ?_
            refine s0 (qv_assign rfl) ?_
            refine tl_nil (tp_normal ?_)
            refine tc_false rfl ?_
            refine tc_seq ?_
            refine tc_region ?_
            refine s0 (qv_fa fo_119_1 rfl) ?_
            refine s0 (qv_ldB (i := 0) sc_3 rfl rfl rfl) ?_
            refine sd (qv_lss rfl rfl) (fun c38 => ?_) (fun c38 => ?_)
            ·
              refine s0 (qv_move rfl) ?_
              refine sk ?_
              refine sk ?_
              refine sk ?_
              refine s0 (qv_pickT rfl rfl) ?_
              refine s0 (qv_move rfl) ?_
              refine sk ?_
              refine sk ?_
              refine sk ?_
              refine s0 (qv_pickT rfl rfl) ?_
              refine s0 (qv_move rfl) ?_
              refine sk ?_
              refine sk ?_
              refine sk ?_
              refine s0 (qv_pickT rfl rfl) ?_
              refine s0 (qv_assign rfl) ?_
              refine tl_nil (tp_normal ?_)
              refine tc_true rfl ?_
              refine tc_seq ?_
              refine tc_region ?_
              refine s0 (qv_assign rfl) ?_
              refine tl_nil (tp_normal ?_)
              refine tc_ret (tp_block_ret (tp_block_ret (tp_then_ret (tp_then_ret (tp_block_ret (tp_then_ret (tp_end1 rfl rfl ?_)))))))
              intro w' hm
              exact ⟨by rw [hI.2, right_stop he21 (sendErr_range c26 c33 (by omega)) (by decide)], hm.below⟩
            ·
              refine s0 (qv_move rfl) ?_
              refine s0g (qv_fa fo_119_1 rfl) ?_
              refine s0g (qv_ldB (i := 0) sc_3 rfl rfl rfl) ?_
              refine sdg (qv_geq rfl rfl) (fun c42 => ?_) (fun c42 => ?_)
              ·
                refine s0 (qv_pickF rfl rfl) ?_
                refine s0 (qv_move rfl) ?_
                refine sk ?_
                refine sk ?_
                refine sk ?_
                refine s0 (qv_pickT rfl rfl) ?_
                refine s0 (qv_move rfl) ?_
                refine sk ?_
                refine sk ?_
                refine sk ?_
                refine s0 (qv_pickT rfl rfl) ?_
                refine s0 (qv_assign rfl) ?_
                refine tl_nil (tp_normal ?_)
                refine tc_true rfl ?_
                refine tc_seq ?_
                refine tc_region ?_
                refine s0 (qv_assign rfl) ?_
                refine tl_nil (tp_normal ?_)
                refine tc_ret (tp_block_ret (tp_block_ret (tp_then_ret (tp_then_ret (tp_block_ret (tp_then_ret (tp_end1 rfl rfl ?_)))))))
                intro w' hm
                exact ⟨by rw [hI.2, right_stop he21 (sendErr_range c26 c33 (by omega)) (by decide)], hm.below⟩
              ·
                refine s0 (qv_pickF rfl rfl) ?_
                refine s0 (qv_move rfl) ?_
                refine s0g (qv_fa fo_119_2 rfl) ?_
                refine s0g (qv_ldB (i := 0) sc_3 rfl rfl rfl) ?_
                refine sdg (qv_lss rfl rfl) (fun c47 => ?_) (fun c47 => ?_)
                ·
                  refine s0 (qv_pickF rfl rfl) ?_
                  refine s0 (qv_move rfl) ?_
                  refine sk ?_
                  refine sk ?_
                  refine sk ?_
                  refine s0 (qv_pickT rfl rfl) ?_
                  refine s0 (qv_assign rfl) ?_
                  refine tl_nil (tp_normal ?_)
                  refine tc_true rfl ?_
                  refine tc_seq ?_
                  refine tc_region ?_
                  refine s0 (qv_assign rfl) ?_
                  refine tl_nil (tp_normal ?_)
                  refine tc_ret (tp_block_ret (tp_block_ret (tp_then_ret (tp_then_ret (tp_block_ret (tp_then_ret (tp_end1 rfl rfl ?_)))))))
                  intro w' hm
                  exact ⟨by rw [hI.2, right_stop he21 (sendErr_range c26 c33 (by omega)) (by decide)], hm.below⟩
                ·
                  refine s0 (qv_pickF rfl rfl) ?_
                  refine s0 (qv_move rfl) ?_
                  refine s0g (qv_fa fo_119_2 rfl) ?_
                  refine s0g (qv_ldB (i := 0) sc_3 rfl rfl rfl) ?_
                  refine sdg (qv_gtr rfl rfl) (fun c52 => ?_) (fun c52 => ?_)
                  ·
                    refine s0 (qv_pickF rfl rfl) ?_
                    refine s0 (qv_assign rfl) ?_
                    refine tl_nil (tp_normal ?_)
                    refine tc_true rfl ?_
                    refine tc_seq ?_
                    refine tc_region ?_
                    refine s0 (qv_assign rfl) ?_
                    refine tl_nil (tp_normal ?_)
                    refine tc_ret (tp_block_ret (tp_block_ret (tp_then_ret (tp_then_ret (tp_block_ret (tp_then_ret (tp_end1 rfl rfl ?_)))))))
                    intro w' hm
                    exact ⟨by rw [hI.2, right_stop he21 (sendErr_range c26 c33 (by omega)) (by decide)], hm.below⟩
                  ·
                    refine s0 (qv_pickF rfl rfl) ?_
                    refine s0 (qv_assign rfl) ?_
                    refine tl_nil (tp_normal ?_)
                    refine tc_false rfl ?_
                    refine tc_seq ?_
                    refine tc_draws mixed (by kernel_rfl) ?_
                    refine q0 (qv_move rfl) ?_
                    refine qd (qv_gtr rfl rfl) (fun c56 => ?_) (fun c56 => ?_)
                    ·
                      refine q0 (qv_move rfl) ?_
                      refine q0g (qv_fa fo_119_1 rfl) ?_
                      refine q0g (qv_ldB (i := 0) sc_3 rfl rfl rfl) ?_
                      refine q0g (qv_move rfl) ?_
                      refine q0g (qv_move rfl) ?_
                      refine q0g (qv_subI rfl rfl (by omega)) ?_
                      refine qig st_32 hl rfl rfl (by omega) (fun e63 he63 => ?_)
                      refine q0g (qv_fa fo_119_1 rfl) ?_
                      refine q0g (qv_ldE (j := 1) sc_3 hl Mem.has_base rfl rfl he63 rfl) ?_
                      refine qdg (qv_lss rfl rfl) (fun c66 => ?_) (fun c66 => ?_)
                      ·
                        refine q0g (qv_move rfl) ?_
                        refine qk ?_
                        refine qk ?_
                        refine qk ?_
                        refine qk ?_
                        refine qk ?_
                        refine qk ?_
                        refine qk ?_
                        refine qk ?_
                        refine qk ?_
                        refine qk ?_
                        refine qk ?_
                        refine qk ?_
                        refine qk ?_
                        refine qk ?_
                        refine qk ?_
                        refine qk ?_
                        refine qk ?_
                        refine qk ?_
                        refine qk ?_
                        refine qk ?_
                        refine q0g (qv_pickT rfl rfl) ?_
                        refine q0 (qv_pickT rfl rfl) ?_
                        refine q0 (qv_assign rfl) ?_
                        refine tq_nil (tp_normal ?_)
                        refine tc_true rfl ?_
                        refine tc_seq ?_
                        refine tc_region ?_
                        refine s0 (qv_assign rfl) ?_
                        refine tl_nil (tp_normal ?_)
                        refine tc_ret (tp_block_ret (tp_block_ret (tp_then_ret (tp_then_ret (tp_block_ret (tp_then_ret (tp_end1 rfl rfl ?_)))))))
                        intro w' hm
                        exact ⟨by rw [hI.2, right_disorder he21 c26 c33 c38 c42 c47 c52 c56 he63 (by omega)], hm.below⟩
                      ·
                        refine q0g (qv_move rfl) ?_
                        refine q0g (qv_fa fo_119_1 rfl) ?_
                        refine q0g (qv_ldB (i := 0) sc_3 rfl rfl rfl) ?_
                        refine q0g (qv_move rfl) ?_
                        refine q0g (qv_move rfl) ?_
                        refine q0g (qv_subI rfl rfl (by omega)) ?_
                        refine qig st_32 hl rfl rfl (by omega) (fun e73 he73 => ?_)
                        obtain rfl : e63 = e73 := Option.some.inj (he63.symm.trans he73)
                        refine q0g (qv_fa fo_119_1 rfl) ?_
                        refine q0g (qv_ldE (j := 1) sc_3 hl Mem.has_base rfl rfl he63 rfl) ?_
                        refine qdg (qv_eql rfl rfl) (fun c76 => ?_) (fun c76 => ?_)
                        ·
                          refine q0g (qv_move rfl) ?_
                          refine q0g (qv_fa fo_119_0 rfl) ?_
                          refine q0g (qv_ldB (i := 0) sc_3 rfl rfl rfl) ?_
                          refine q0g (qv_move rfl) ?_
                          refine q0g (qv_move rfl) ?_
                          refine q0g (qv_subI rfl rfl (by omega)) ?_
                          refine qig st_32 hl rfl rfl (by omega) (fun e83 he83 => ?_)
                          obtain rfl : e63 = e83 := Option.some.inj (he63.symm.trans he83)
                          refine q0g (qv_fa fo_119_0 rfl) ?_
                          refine q0g (qv_ldE (j := 0) sc_3 hl Mem.has_base rfl rfl he63 rfl) ?_
                          refine qdg (qv_leq rfl rfl) (fun c86 => ?_) (fun c86 => ?_)
                          ·
                            refine q0g (qv_pickT rfl rfl) ?_
                            refine q0g (qv_pickF rfl rfl) ?_
                            refine q0 (qv_pickT rfl rfl) ?_
                            refine q0 (qv_assign rfl) ?_
                            refine tq_nil (tp_normal ?_)
                            refine tc_true rfl ?_
                            refine tc_seq ?_
                            refine tc_region ?_
                            refine s0 (qv_assign rfl) ?_
                            refine tl_nil (tp_normal ?_)
                            refine tc_ret (tp_block_ret (tp_block_ret (tp_then_ret (tp_then_ret (tp_block_ret (tp_then_ret (tp_end1 rfl rfl ?_)))))))
                            intro w' hm
                            exact ⟨by rw [hI.2, right_disorder he21 c26 c33 c38 c42 c47 c52 c56 he63 (by omega)], hm.below⟩
                          ·
                            refine q0g (qv_pickT rfl rfl) ?_
                            refine q0g (qv_pickF rfl rfl) ?_
                            refine q0 (qv_pickT rfl rfl) ?_
                            refine q0 (qv_assign rfl) ?_
                            refine tq_nil (tp_normal ?_)
                            refine tc_false rfl ?_
                            refine tc_skip (tp_block_normal (tp_block_normal (tp_normal ?_)))
                            refine tc_region ?_
                            refine s0 (qv_succ rfl rfl (by omega)) ?_
                            refine s0 (qv_move rfl) ?_
                            exact tl_nil (tp_roundS (k + 1) ⟨by omega, by rw [hI.2]; exact right_next he21 c26 c33 c38 c42 c47 c52 (by first | exact fun h => absurd h c56 | (intro _ p hp; rw [he63] at hp; cases hp; omega))⟩ (by omega) ⟨rfl, trivial⟩ rfl rfl rfl rfl)
                        ·
                          refine q0g (qv_move rfl) ?_
                          refine qk ?_
                          refine qk ?_
                          refine qk ?_
                          refine qk ?_
                          refine qk ?_
                          refine qk ?_
                          refine qk ?_
                          refine qk ?_
                          refine qk ?_
                          refine q0g (qv_pickF rfl rfl) ?_
                          refine q0g (qv_pickF rfl rfl) ?_
                          refine q0 (qv_pickT rfl rfl) ?_
                          refine q0 (qv_assign rfl) ?_
                          refine tq_nil (tp_normal ?_)
                          refine tc_false rfl ?_
                          refine tc_skip (tp_block_normal (tp_block_normal (tp_normal ?_)))
                          refine tc_region ?_
                          refine s0 (qv_succ rfl rfl (by omega)) ?_
                          refine s0 (qv_move rfl) ?_
                          exact tl_nil (tp_roundS (k + 1) ⟨by omega, by rw [hI.2]; exact right_next he21 c26 c33 c38 c42 c47 c52 (by first | exact fun h => absurd h c56 | (intro _ p hp; rw [he63] at hp; cases hp; omega))⟩ (by omega) ⟨rfl, trivial⟩ rfl rfl rfl rfl)
                    ·
                      refine q0 (qv_move rfl) ?_
                      refine qk ?_
                      refine qk ?_
                      refine qk ?_
                      refine qk ?_
                      refine qk ?_
                      refine qk ?_
                      refine qk ?_
                      refine qk ?_
                      refine qk ?_
                      refine qk ?_
                      refine qk ?_
                      refine qk ?_
                      refine qk ?_
                      refine qk ?_
                      refine qk ?_
                      refine qk ?_
                      refine qk ?_
                      refine qk ?_
                      refine qk ?_
                      refine qk ?_
                      refine qk ?_
                      refine qk ?_
                      refine qk ?_
                      refine qk ?_
                      refine qk ?_
                      refine qk ?_
                      refine qk ?_
                      refine qk ?_
                      refine qk ?_
                      refine qk ?_
                      refine qk ?_
                      refine q0 (qv_pickF rfl rfl) ?_
                      refine q0 (qv_assign rfl) ?_
                      refine tq_nil (tp_normal ?_)
                      refine tc_false rfl ?_
                      refine tc_skip (tp_block_normal (tp_block_normal (tp_normal ?_)))
                      refine tc_region ?_
                      refine s0 (qv_succ rfl rfl (by omega)) ?_
                      refine s0 (qv_move rfl) ?_
                      exact tl_nil (tp_roundS (k + 1) ⟨by omega, by rw [hI.2]; exact right_next he21 c26 c33 c38 c42 c47 c52 (by first | exact fun h => absurd h c56 | (intro _ p hp; rw [he63] at hp; cases hp; omega))⟩ (by omega) ⟨rfl, trivial⟩ rfl rfl rfl rfl)
      ·
        refine tl_nil (tp_normal ?_)
        refine tc_seq ?_
        refine tc_false rfl ?_
        refine tc_exit (tp_then_exit (tp_then_exit (tp_block_exit (tp_normal ?_))))
        refine tc_seq ?_
        refine tc_region ?_
        refine s0 (qv_assign rfl) ?_
        refine tl_nil (tp_normal ?_)
        refine tc_ret (tp_end1 rfl rfl ?_)
        intro w' hm
        exact ⟨by rw [hI.2, List.drop_eq_nil_of_le (by omega)]; rfl, hm.below⟩
set_option maxRecDepth 100000 in
theorem cap_calls (w : World) (n : Net) (na : Option Addr) (nc : Nat) (link tick : Int) (hn : SlIn w 50 encLink na n.links) (hk : NetOk n) (h0 : 0 ≤ link) (h1 : link < n.links.length) (h2 : 0 ≤ tick) :
    Calls Try.prog 61 #[.agg (netA n na nc), .int .i64 link, .int .i64 tick] w (fun e w' => e = .returned (.int .i64 (capOf n link tick)) ∧ Below w.heap.size w w') := by
  refine calls_of_tc (N := 16) (vs := [.agg (netA n na nc), .int .i64 link, .int .i64 tick]) Try.func61 rfl rfl (Nat.le_of_ble_eq_true rfl) ?_
  refine tc_seq ?_
  refine tc_region ?_
  refine tl_box rfl (by decide) (fun b3_0 => ?_)
  refine s0 (qv_assign rfl) ?_
  refine tl_nil (tp_normal ?_)
  refine tc_seq ?_
  refine tc_region ?_
  refine s0 (qv_fa fo_26_1 rfl) ?_
  refine s0 (qv_ldB (i := 0) sc_24 rfl rfl rfl) ?_
  refine s0 (qv_move rfl) ?_
  refine s0 (qv_move rfl) ?_
  refine s0 (qv_remI rfl rfl (by decide) (by omega)) ?_
  refine si st_24 hn rfl rfl (by omega) (fun e12 he12 => ?_)
  refine s0 (qv_fa fo_117_2 rfl) ?_
  refine s0 (qv_iA at_114 rfl rfl (by omega)) ?_
  refine s0 (qv_ldE (i := link.toNat) (j := 2 + (tick % 24).toNat * 1) sc_3 hn Mem.has_base rfl (by omega) he12 (enc_cap (hk _ (List.mem_of_getElem? he12)) (by omega) (by omega))) ?_
  refine s0 (qv_assign rfl) ?_
  refine tl_nil (tp_normal ?_)
  refine tc_ret (tp_end1 rfl rfl ?_)
  intro w' hm
  exact ⟨by rw [capOf_eq he12], hm.below⟩
set_option maxRecDepth 100000 in
theorem fits_calls (w : World) (n : Net) (na : Option Addr) (nc : Nat) (l : List Send) (la : Option Addr) (lc : Nat) (hn : SlIn w 50 encLink na n.links) (hk : NetOk n) (hl : SlIn w 3 encSend la l) :
    Calls Try.prog 25 #[.agg (netA n na nc), .slice la l.length lc] w (fun e w' => e = .returned (.int .i64 (fits n l)) ∧ Below w.heap.size w w') := by
  have hlen := hl.len
  simp only [maxLen] at hlen
  have hlenn := hn.len
  simp only [maxLen] at hlenn
  refine calls_of_tc (N := 30) (vs := [.agg (netA n na nc), .slice la l.length lc]) Try.func25 rfl rfl (Nat.le_of_ble_eq_true rfl) ?_
  refine tc_seq ?_
  refine tc_region ?_
  refine tl_box rfl (by decide) (fun b2_0 => ?_)
  refine s0 (qv_assign rfl) ?_
  refine tl_nil (tp_normal ?_)
  refine tc_seq ?_
  refine tc_seq ?_
  refine tc_region ?_
  refine s0 (qv_ldBW (i := 0) ag_26 rfl rfl rfl) ?_
  refine s0 (qv_move rfl) ?_
  refine s0 (qv_call fn_60 rfl (fun w hm => right_calls w n na nc l la lc (hn.into Mem.has_base hm) hk (hl.into Mem.has_base hm))) ?_
  refine s0 (qv_assign rfl) ?_
  refine tl_nil (tp_normal ?_)
  refine tc_seq ?_
  refine tc_region ?_
  refine s0 (qv_move rfl) ?_
  refine sd (qv_neq rfl rfl) (fun c12 => ?_) (fun c12 => ?_)
  ·
    refine tl_nil (tp_normal ?_)
    refine tc_true rfl ?_
    refine tc_seq ?_
    refine tc_region ?_
    refine s0 (qv_move rfl) ?_
    refine s0 (qv_assign rfl) ?_
    refine tl_nil (tp_normal ?_)
    refine tc_ret (tp_then_ret (tp_end1 rfl rfl ?_))
    intro w' hm
    exact ⟨by rw [fits, if_pos c12], hm.below⟩
  ·
    refine tl_nil (tp_normal ?_)
    refine tc_false rfl ?_
    refine tc_skip (tp_normal ?_)
    refine tc_seq ?_
    refine tc_seq ?_
    refine tc_region ?_
    refine s0 (qv_move rfl) ?_
    refine s0 (qv_len st_32 rfl) ?_
    refine s0 (qv_move rfl) ?_
    refine tl_nil (tp_normal ?_)
    refine tc_block (tc_loopS (fun (k : Nat) => [(16, .int .i64 (k : Int))]) (fun (k : Nat) => k ≤ l.length ∧ fits n l = fitsFrom n (l.drop k)) (fun (k : Nat) => l.length - k) (0) ⟨Nat.zero_le _, by rw [fits, if_neg c12]; rfl⟩ ⟨rfl, trivial⟩ ?_)
    rintro k hI
    refine tc_seq ?_
    refine tc_region ?_
    refine sd (qv_lss rfl rfl) (fun c17 => ?_) (fun c17 => ?_)
    ·
      refine tl_nil (tp_normal ?_)
      refine tc_seq ?_
      refine tc_true rfl ?_
      refine tc_skip (tp_normal ?_)
      refine tc_seq ?_
      refine tc_block ?_
      refine tc_seq ?_
      refine tc_region ?_
      refine sn st_32 hl rfl rfl (by omega) (fun e18 he18 => ?_)
      refine s0 (qv_ldEW ag_119 hl Mem.has_base rfl he18) ?_
      refine tl_alloc ze_119 (by decide) (fun b7_1 => ?_)
      refine tl_storeL (i := 0) sz_119 (hl.szs _ (List.mem_of_getElem? he18)) (one_119 _) rfl rfl rfl rfl ?_
      refine tl_nil (tp_normal ?_)
      refine tc_seq ?_
      refine tc_draws mixed (by kernel_rfl) ?_
      have hs := (right_zero (l := l) (n := n) (by omega)).send e18 (List.mem_of_getElem? he18)
      obtain ⟨hs0, hs1, hs2, hs3, hs4, hs5⟩ := hs
      refine q0 (qv_fa fo_119_2 rfl) ?_
      refine q0 (qv_ldB (i := 0) sc_3 rfl rfl rfl) ?_
      refine q0 (qv_ldBW (i := 1) ag_26 rfl rfl rfl) ?_
      refine q0 (qv_fa fo_119_0 rfl) ?_
      refine q0 (qv_ldB (i := 0) sc_3 rfl rfl rfl) ?_
      refine q0 (qv_fa fo_119_1 rfl) ?_
      refine q0 (qv_ldB (i := 0) sc_3 rfl rfl rfl) ?_
      refine q0 (qv_call fn_61 rfl (fun w hm => cap_calls w n na nc e18.link e18.tick (hn.into Mem.has_base hm) hk (by omega) (by omega) (by omega))) ?_
      refine qd (qv_gtr rfl rfl) (fun c28 => ?_) (fun c28 => ?_)
      ·
        refine tq_nil (tp_normal ?_)
        refine tc_true rfl ?_
        refine tc_seq ?_
        refine tc_region ?_
        refine s0 (qv_assign rfl) ?_
        refine tl_nil (tp_normal ?_)
        refine tc_ret (tp_block_ret (tp_then_ret (tp_then_ret (tp_block_ret (tp_then_ret (tp_end1 rfl rfl ?_))))))
        intro w' hm
        exact ⟨by rw [hI.2, fitsFrom_at he18, if_pos c28], hm.below⟩
      ·
        refine tq_nil (tp_normal ?_)
        refine tc_false rfl ?_
        refine tc_skip (tp_block_normal (tp_normal ?_))
        refine tc_region ?_
        refine s0 (qv_succ rfl rfl (by omega)) ?_
        refine s0 (qv_move rfl) ?_
        exact tl_nil (tp_roundS (k + 1) ⟨by omega, by rw [hI.2, fitsFrom_at he18, if_neg c28]⟩ (by omega) ⟨rfl, trivial⟩ rfl rfl rfl rfl)
    ·
      refine tl_nil (tp_normal ?_)
      refine tc_seq ?_
      refine tc_false rfl ?_
      refine tc_exit (tp_then_exit (tp_then_exit (tp_block_exit (tp_normal ?_))))
      refine tc_seq ?_
      refine tc_region ?_
      refine s0 (qv_assign rfl) ?_
      refine tl_nil (tp_normal ?_)
      refine tc_ret (tp_end1 rfl rfl ?_)
      intro w' hm
      exact ⟨by rw [hI.2, List.drop_eq_nil_of_le (by omega)]; rfl, hm.below⟩
set_option maxRecDepth 100000 in
theorem cost_calls (w : World) (n : Net) (na : Option Addr) (nc : Nat) (l : List Send) (la : Option Addr) (lc : Nat) (hn : SlIn w 50 encLink na n.links) (hk : NetOk n) (hl : SlIn w 3 encSend la l) :
    Calls Try.prog 24 #[.agg (netA n na nc), .slice la l.length lc] w (fun e w' => e = .returned (.tuple #[.int .i64 (cost n l).1, .int .i64 (cost n l).2]) ∧ Below w.heap.size w w') := by
  have hlen := hl.len
  simp only [maxLen] at hlen
  have hlenn := hn.len
  simp only [maxLen] at hlenn
  refine calls_of_tc (N := 40) (vs := [.agg (netA n na nc), .slice la l.length lc]) Try.func24 rfl rfl (Nat.le_of_ble_eq_true rfl) ?_
  refine tc_seq ?_
  refine tc_region ?_
  refine tl_box rfl (by decide) (fun b2_0 => ?_)
  refine s0 (qv_assign rfl) ?_
  refine s0 (qv_assign rfl) ?_
  refine tl_nil (tp_normal ?_)
  refine tc_seq ?_
  refine tc_seq ?_
  refine tc_region ?_
  refine s0 (qv_ldBW (i := 0) ag_26 rfl rfl rfl) ?_
  refine s0 (qv_move rfl) ?_
  refine s0 (qv_call fn_60 rfl (fun w hm => right_calls w n na nc l la lc (hn.into Mem.has_base hm) hk (hl.into Mem.has_base hm))) ?_
  refine s0 (qv_assign rfl) ?_
  refine tl_nil (tp_normal ?_)
  refine tc_seq ?_
  refine tc_region ?_
  refine s0 (qv_move rfl) ?_
  refine sd (qv_neq rfl rfl) (fun c14 => ?_) (fun c14 => ?_)
  ·
    refine tl_nil (tp_normal ?_)
    refine tc_true rfl ?_
    refine tc_seq ?_
    refine tc_region ?_
    refine s0 (qv_move rfl) ?_
    refine s0 (qv_assign rfl) ?_
    refine s0 (qv_assign rfl) ?_
    refine tl_nil (tp_normal ?_)
    refine tc_ret (tp_then_ret (tp_end2 rfl rfl rfl ?_))
    intro w' hm
    exact ⟨by rw [cost, if_pos c14], hm.below⟩
  ·
    refine tl_nil (tp_normal ?_)
    refine tc_false rfl ?_
    refine tc_skip (tp_normal ?_)
    refine tc_seq ?_
    refine tc_region ?_
    refine s0 (qv_assign rfl) ?_
    refine tl_nil (tp_normal ?_)
    refine tc_seq ?_
    refine tc_seq ?_
    refine tc_region ?_
    refine s0 (qv_move rfl) ?_
    refine s0 (qv_len st_32 rfl) ?_
    refine s0 (qv_move rfl) ?_
    refine tl_nil (tp_normal ?_)
    refine tc_block (tc_loopS (fun (k : Nat) => [(18, .int .i64 (k : Int)), (7, .int .i64 (costSum n (l.take k)))]) (fun (k : Nat) => k ≤ l.length) (fun (k : Nat) => l.length - k) (0) (Nat.zero_le _) ⟨rfl, rfl, trivial⟩ ?_)
    rintro k hI
    refine tc_seq ?_
    refine tc_region ?_
    refine sd (qv_lss rfl rfl) (fun c19 => ?_) (fun c19 => ?_)
    ·
      refine tl_nil (tp_normal ?_)
      refine tc_seq ?_
      refine tc_true rfl ?_
      refine tc_skip (tp_normal ?_)
      refine tc_seq ?_
      refine tc_block ?_
      refine tc_seq ?_
      refine tc_region ?_
      refine sn st_32 hl rfl rfl (by omega) (fun e20 he20 => ?_)
      refine s0 (qv_ldEW ag_119 hl Mem.has_base rfl he20) ?_
      refine tl_alloc ze_119 (by decide) (fun b9_1 => ?_)
      refine tl_storeL (i := 0) sz_119 (hl.szs _ (List.mem_of_getElem? he20)) (one_119 _) rfl rfl rfl rfl ?_
      refine tl_nil (tp_normal ?_)
      have hgood := right_zero (l := l) (n := n) (by omega)
      have hcs := send_cost hgood.net (hgood.send e20 (List.mem_of_getElem? he20))
      have hsum := costSum_bound hgood k
      have hs := (right_zero (l := l) (n := n) (by omega)).send e20 (List.mem_of_getElem? he20)
      obtain ⟨hs0, hs1, hs2, hs3, hs4, hs5⟩ := hs
      refine tc_draws mixed (by kernel_rfl) ?_
      refine q0 (qv_move rfl) ?_
      refine q0 (qv_fa fo_119_2 rfl) ?_
      refine q0 (qv_ldB (i := 0) sc_3 rfl rfl rfl) ?_
      refine q0 (qv_fa fo_26_1 rfl) ?_
      refine q0 (qv_ldB (i := 1) sc_24 rfl rfl rfl) ?_
      refine q0 (qv_fa fo_119_0 rfl) ?_
      refine q0 (qv_ldB (i := 0) sc_3 rfl rfl rfl) ?_
      refine q0 (qv_fa fo_119_1 rfl) ?_
      refine q0 (qv_ldB (i := 0) sc_3 rfl rfl rfl) ?_
      refine q0 (qv_remI rfl rfl (by decide) (by omega)) ?_
      refine qi st_24 hn rfl rfl (by omega) (fun e32 he32 => ?_)
      refine q0 (qv_fa fo_117_3 rfl) ?_
      refine q0 (qv_iA at_114 rfl rfl (by omega)) ?_
      refine q0 (qv_ldE (i := e20.link.toNat) (j := 26 + (e20.tick % 24).toNat * 1) sc_3 hn Mem.has_base rfl (by omega) he32 (enc_price (hk _ (List.mem_of_getElem? he32)) (by omega) (by omega))) ?_
      refine q0 (qv_mulI rfl rfl (by rw [priceOf_eq he32] at hcs; omega)) ?_
      refine q0 (qv_addI rfl rfl (by rw [priceOf_eq he32] at hcs; omega)) ?_
      refine q0 (qv_assign rfl) ?_
      refine tq_nil (tp_block_normal (tp_normal ?_))
      refine tc_region ?_
      refine s0 (qv_succ rfl rfl (by omega)) ?_
      refine s0 (qv_move rfl) ?_
      exact tl_nil (tp_roundS (k + 1) (by omega) (by omega) ⟨rfl, by rw [costSum_take he20, priceOf_eq he32]; rfl, trivial⟩ rfl rfl rfl rfl)
    ·
      refine tl_nil (tp_normal ?_)
      refine tc_seq ?_
      refine tc_false rfl ?_
      refine tc_exit (tp_then_exit (tp_then_exit (tp_block_exit (tp_normal ?_))))
      refine tc_seq ?_
      refine tc_region ?_
      refine s0 (qv_move rfl) ?_
      refine s0 (qv_assign rfl) ?_
      refine s0 (qv_assign rfl) ?_
      refine tl_nil (tp_normal ?_)
      refine tc_ret (tp_end2 rfl rfl rfl ?_)
      intro w' hm
      exact ⟨by rw [cost, if_neg c14, SlSend_len k c19], hm.below⟩
end Go.Q
namespace Go.Q
open Go Go.Proofs Go.RowKit
theorem st_23 : SliceTy Try.prog 23 3 := ⟨113, by kernel_rfl, fun w => by kernel_rfl⟩
theorem fn_49 : IsFn Try.prog 49 := isFn_of Try.func49 (by kernel_rfl) rfl
theorem fo_113_1 : FOff Try.prog 113 1 1 := fun b o w => by kernel_rfl
theorem fo_113_2 : FOff Try.prog 113 2 2 := fun b o w => by kernel_rfl
theorem fn_92 : IsFn Try.prog 92 := isFn_of Try.func92 (by kernel_rfl) rfl
theorem fn_93 : IsFn Try.prog 93 := isFn_of Try.func93 (by kernel_rfl) rfl
theorem fn_94 : IsFn Try.prog 94 := isFn_of Try.func94 (by kernel_rfl) rfl
theorem ze_126 : Zero Try.prog 126 #[.int .i64 0, .int .i64 0, .nilFunc] := fun w => ⟨.agg #[.int .i64 0, .int .i64 0, .nilFunc], by kernel_rfl, rfl⟩
theorem bt_126 : BuildTy Try.prog 126 #[(0, 1), (1, 1), (2, 1)] #[.int .i64 0, .int .i64 0, .nilFunc] := ⟨_, Try.underlying126, fun w => by kernel_rfl, ze_126⟩
theorem sz_126 : Size Try.prog 126 3 := fun w => by kernel_rfl
theorem bsl_122_3 : BuildSl Try.prog 122 3 126 3 #[.int .i64 0, .int .i64 0, .nilFunc, .int .i64 0, .int .i64 0, .nilFunc, .int .i64 0, .int .i64 0, .nilFunc] := ⟨Try.underlying122, sz_126, by decide, by decide, _, ze_126, by kernel_rfl⟩
theorem ag_113 : Agg Try.prog 113 3 := fun w => ⟨by kernel_rfl, by kernel_rfl⟩
theorem ze_113 : Zero Try.prog 113 #[.int .i64 0, .int .i64 0, .int .i64 0] := fun w => ⟨.agg #[.int .i64 0, .int .i64 0, .int .i64 0], by kernel_rfl, rfl⟩
theorem sz_113 : Size Try.prog 113 3 := fun w => by kernel_rfl
theorem fo_113_0 : FOff Try.prog 113 0 0 := fun b o w => by kernel_rfl
theorem st_27 : SliceTy Try.prog 27 8 := ⟨34, by kernel_rfl, fun w => by kernel_rfl⟩
theorem ag_34 : Agg Try.prog 34 8 := fun w => ⟨by kernel_rfl, by kernel_rfl⟩
theorem ze_34 : Zero Try.prog 34 #[.int .i64 0, .int .i64 0, .int .i64 0, .int .i64 0, .int .i64 0, .int .i64 0, .int .i64 0, .slice none 0 0] := fun w => ⟨.agg #[.int .i64 0, .int .i64 0, .int .i64 0, .int .i64 0, .int .i64 0, .int .i64 0, .int .i64 0, .slice none 0 0], by kernel_rfl, rfl⟩
theorem sz_34 : Size Try.prog 34 8 := fun w => by kernel_rfl
theorem fo_34_0 : FOff Try.prog 34 0 0 := fun b o w => by kernel_rfl
theorem fo_34_1 : FOff Try.prog 34 1 1 := fun b o w => by kernel_rfl
theorem fo_34_2 : FOff Try.prog 34 2 2 := fun b o w => by kernel_rfl
theorem fn_50 : IsFn Try.prog 50 := isFn_of Try.func50 (by kernel_rfl) rfl
theorem fo_34_3 : FOff Try.prog 34 3 3 := fun b o w => by kernel_rfl
theorem fo_34_5 : FOff Try.prog 34 5 5 := fun b o w => by kernel_rfl
theorem fo_34_4 : FOff Try.prog 34 4 4 := fun b o w => by kernel_rfl
theorem fn_51 : IsFn Try.prog 51 := isFn_of Try.func51 (by kernel_rfl) rfl
theorem st_122 : SliceTy Try.prog 122 3 := ⟨126, by kernel_rfl, fun w => by kernel_rfl⟩
theorem ag_126 : Agg Try.prog 126 3 := fun w => ⟨by kernel_rfl, by kernel_rfl⟩
theorem fo_126_0 : FOff Try.prog 126 0 0 := fun b o w => by kernel_rfl
theorem fo_34_6 : FOff Try.prog 34 6 6 := fun b o w => by kernel_rfl
theorem fo_126_1 : FOff Try.prog 126 1 1 := fun b o w => by kernel_rfl
theorem bsl_27_1 : BuildSl Try.prog 27 1 34 8 #[.int .i64 0, .int .i64 0, .int .i64 0, .int .i64 0, .int .i64 0, .int .i64 0, .int .i64 0, .slice none 0 0] := ⟨Try.underlying27, sz_34, by decide, by decide, _, ze_34, by kernel_rfl⟩
theorem fn_16 : IsFn Try.prog 16 := isFn_of Try.func16 (by kernel_rfl) rfl
theorem fo_126_2 : FOff Try.prog 126 2 2 := fun b o w => by kernel_rfl
theorem sc_124 : Scalar Try.prog 124 := fun w => by kernel_rfl
theorem fo_34_7 : FOff Try.prog 34 7 7 := fun b o w => by kernel_rfl
theorem sc_32 : Scalar Try.prog 32 := fun w => by kernel_rfl
theorem fn_25 : IsFn Try.prog 25 := isFn_of Try.func25 (by kernel_rfl) rfl
theorem fn_24 : IsFn Try.prog 24 := isFn_of Try.func24 (by kernel_rfl) rfl
theorem ze_114 : Zero Try.prog 114 #[.int .i64 0, .int .i64 0, .int .i64 0, .int .i64 0, .int .i64 0, .int .i64 0, .int .i64 0, .int .i64 0, .int .i64 0, .int .i64 0, .int .i64 0, .int .i64 0, .int .i64 0, .int .i64 0, .int .i64 0, .int .i64 0, .int .i64 0, .int .i64 0, .int .i64 0, .int .i64 0, .int .i64 0, .int .i64 0, .int .i64 0, .int .i64 0] := fun w => ⟨.agg #[.int .i64 0, .int .i64 0, .int .i64 0, .int .i64 0, .int .i64 0, .int .i64 0, .int .i64 0, .int .i64 0, .int .i64 0, .int .i64 0, .int .i64 0, .int .i64 0, .int .i64 0, .int .i64 0, .int .i64 0, .int .i64 0, .int .i64 0, .int .i64 0, .int .i64 0, .int .i64 0, .int .i64 0, .int .i64 0, .int .i64 0, .int .i64 0], by kernel_rfl, rfl⟩
theorem sz_3 : Size Try.prog 3 1 := fun w => by kernel_rfl
theorem ag_114 : Agg Try.prog 114 24 := fun w => ⟨by kernel_rfl, by kernel_rfl⟩
theorem sz_114 : Size Try.prog 114 24 := fun w => by kernel_rfl
abbrev pricesL : List Price := pricesOf 92 93 94
theorem one_113 (x : Tariff) : ∀ u ∈ encTar x, u.oneCell' = true := by
  intro u hu
  simp [encTar] at hu
  rcases hu with rfl | rfl | rfl <;> rfl
theorem one_34 (x : Use) : ∀ u ∈ encUse x, u.oneCell' = true := by
  intro u hu
  simp [encUse] at hu
  rcases hu with rfl | rfl | rfl | rfl | rfl | rfl | rfl | rfl <;> rfl
theorem one_126 (x : Price) : ∀ u ∈ encPrice x, u.oneCell' = true := by
  intro u hu
  simp [encPrice] at hu
  rcases hu with rfl | rfl | rfl <;> rfl
set_option maxRecDepth 100000 in
theorem within_calls (w : World) (n m : Int)  :
    Calls Try.prog 49 #[.int .i64 n, .int .i64 m] w (fun e w' => e = .returned (.bool (decide (inTo n m))) ∧ Below w.heap.size w w') := by
  refine calls_of_tc (N := 12) (vs := [.int .i64 n, .int .i64 m]) Try.func49 rfl rfl (Nat.le_of_ble_eq_true rfl) ?_
  refine tc_seq ?_
  refine tc_region ?_
  refine s0 (qv_assign rfl) ?_
  refine tl_nil (tp_normal ?_)
  refine tc_seq ?_
  refine tc_region ?_
  refine s0 (qv_move rfl) ?_
  refine sd (qv_geq rfl rfl) (fun c6 => ?_) (fun c6 => ?_)
  ·
    refine s0 (qv_move rfl) ?_
    refine s0g (qv_move rfl) ?_
    refine s0g (qv_move rfl) ?_
    refine s0g (qv_leq rfl rfl) ?_
    refine s0 (qv_pickT rfl rfl) ?_
    refine s0 (qv_assign rfl) ?_
    refine tl_nil (tp_normal ?_)
    refine tc_ret (tp_end1 rfl rfl ?_)
    intro w' hm
    exact ⟨by simp [inTo, *], hm.below⟩
  ·
    refine s0 (qv_move rfl) ?_
    refine sk ?_
    refine sk ?_
    refine sk ?_
    refine s0 (qv_pickF rfl rfl) ?_
    refine s0 (qv_assign rfl) ?_
    refine tl_nil (tp_normal ?_)
    refine tc_ret (tp_end1 rfl rfl ?_)
    intro w' hm
    exact ⟨by simp [inTo, *], hm.below⟩
set_option maxRecDepth 100000 in
theorem party_calls (w : World) (t : List Tariff) (ta : Option Addr) (tc : Nat) (kind house customer : Int) (hlent : t.length ≤ 1000000000000000) :
    Calls Try.prog 50 #[.slice ta t.length tc, .int .i64 kind, .int .i64 house, .int .i64 customer] w (fun e w' => e = .returned (.bool (decide (partyIs t kind house customer))) ∧ Below w.heap.size w w') := by
  refine calls_of_tc (N := 26) (vs := [.slice ta t.length tc, .int .i64 kind, .int .i64 house, .int .i64 customer]) Try.func50 rfl rfl (Nat.le_of_ble_eq_true rfl) ?_
  refine tc_seq ?_
  refine tc_region ?_
  refine s0 (qv_assign rfl) ?_
  refine tl_nil (tp_normal ?_)
  refine tc_seq ?_
  refine tc_region ?_
  refine s0 (qv_move rfl) ?_
  refine sd (qv_geq rfl rfl) (fun c10 => ?_) (fun c10 => ?_)
  ·
    refine s0 (qv_move rfl) ?_
    refine s0g (qv_move rfl) ?_
    refine sdg (qv_leq rfl rfl) (fun c13 => ?_) (fun c13 => ?_)
    ·
      refine s0 (qv_pickT rfl rfl) ?_
      refine s0 (qv_move rfl) ?_
      refine s0g (qv_move rfl) ?_
      refine s0g (qv_move rfl) ?_
      refine s0g (qv_len st_23 rfl) ?_
      refine s0g (qv_subI rfl rfl (by omega)) ?_
      refine sdg (qv_call fn_49 rfl (fun w hm => within_calls w house ((t.length : Int) - (1)))) (fun c20 => ?_) (fun c20 => ?_)
      ·
        refine s0 (qv_pickT rfl rfl) ?_
        refine s0 (qv_move rfl) ?_
        refine s0g (qv_move rfl) ?_
        refine s0g (qv_call fn_49 rfl (fun w hm => within_calls w customer (27))) ?_
        refine s0 (qv_pickT rfl rfl) ?_
        refine s0 (qv_assign rfl) ?_
        refine tl_nil (tp_normal ?_)
        refine tc_ret (tp_end1 rfl rfl ?_)
        intro w' hm
        first | exact ⟨by rw [decide_eq_false (p := partyIs t kind house customer) (by simp only [partyIs, inTo] at *; omega)], hm.below⟩ | exact ⟨by rw [decide_eq_true (p := partyIs t kind house customer) (by simp only [partyIs, inTo] at *; omega)], hm.below⟩ | exact ⟨by rw [show decide (inTo customer 27) = decide (partyIs t kind house customer) from decide_eq_decide.2 (by simp only [partyIs, inTo] at *; omega)], hm.below⟩
      ·
        refine s0 (qv_pickT rfl rfl) ?_
        refine s0 (qv_move rfl) ?_
        refine sk ?_
        refine sk ?_
        refine s0 (qv_pickF rfl rfl) ?_
        refine s0 (qv_assign rfl) ?_
        refine tl_nil (tp_normal ?_)
        refine tc_ret (tp_end1 rfl rfl ?_)
        intro w' hm
        first | exact ⟨by rw [decide_eq_false (p := partyIs t kind house customer) (by simp only [partyIs, inTo] at *; omega)], hm.below⟩ | exact ⟨by rw [decide_eq_true (p := partyIs t kind house customer) (by simp only [partyIs, inTo] at *; omega)], hm.below⟩ | exact ⟨by rw [show decide (inTo customer 27) = decide (partyIs t kind house customer) from decide_eq_decide.2 (by simp only [partyIs, inTo] at *; omega)], hm.below⟩
    ·
      refine s0 (qv_pickT rfl rfl) ?_
      refine s0 (qv_move rfl) ?_
      refine sk ?_
      refine sk ?_
      refine sk ?_
      refine sk ?_
      refine sk ?_
      refine s0 (qv_pickF rfl rfl) ?_
      refine s0 (qv_move rfl) ?_
      refine sk ?_
      refine sk ?_
      refine s0 (qv_pickF rfl rfl) ?_
      refine s0 (qv_assign rfl) ?_
      refine tl_nil (tp_normal ?_)
      refine tc_ret (tp_end1 rfl rfl ?_)
      intro w' hm
      first | exact ⟨by rw [decide_eq_false (p := partyIs t kind house customer) (by simp only [partyIs, inTo] at *; omega)], hm.below⟩ | exact ⟨by rw [decide_eq_true (p := partyIs t kind house customer) (by simp only [partyIs, inTo] at *; omega)], hm.below⟩ | exact ⟨by rw [show decide (inTo customer 27) = decide (partyIs t kind house customer) from decide_eq_decide.2 (by simp only [partyIs, inTo] at *; omega)], hm.below⟩
  ·
    refine s0 (qv_move rfl) ?_
    refine sk ?_
    refine sk ?_
    refine s0 (qv_pickF rfl rfl) ?_
    refine s0 (qv_move rfl) ?_
    refine sk ?_
    refine sk ?_
    refine sk ?_
    refine sk ?_
    refine sk ?_
    refine s0 (qv_pickF rfl rfl) ?_
    refine s0 (qv_move rfl) ?_
    refine sk ?_
    refine sk ?_
    refine s0 (qv_pickF rfl rfl) ?_
    refine s0 (qv_assign rfl) ?_
    refine tl_nil (tp_normal ?_)
    refine tc_ret (tp_end1 rfl rfl ?_)
    intro w' hm
    first | exact ⟨by rw [decide_eq_false (p := partyIs t kind house customer) (by simp only [partyIs, inTo] at *; omega)], hm.below⟩ | exact ⟨by rw [decide_eq_true (p := partyIs t kind house customer) (by simp only [partyIs, inTo] at *; omega)], hm.below⟩ | exact ⟨by rw [show decide (inTo customer 27) = decide (partyIs t kind house customer) from decide_eq_decide.2 (by simp only [partyIs, inTo] at *; omega)], hm.below⟩
set_option maxRecDepth 100000 in
theorem each1_calls (w : World) (x : Tariff)  :
    Calls Try.prog 92 #[.agg (encTar x).toArray] w (fun e w' => e = .returned (.int .i64 x.read) ∧ Below w.heap.size w w') := by
  refine calls_of_tc (N := 5) (vs := [.agg (encTar x).toArray]) Try.func92 rfl rfl (Nat.le_of_ble_eq_true rfl) ?_
  refine tc_seq ?_
  refine tc_region ?_
  refine tl_box rfl (by decide) (fun b1_0 => ?_)
  refine s0 (qv_assign rfl) ?_
  refine tl_nil (tp_normal ?_)
  refine tc_seq ?_
  refine tc_region ?_
  refine s0 (qv_fa fo_113_1 rfl) ?_
  refine s0 (qv_ldB (i := 0) sc_3 rfl rfl rfl) ?_
  refine s0 (qv_assign rfl) ?_
  refine tl_nil (tp_normal ?_)
  refine tc_ret (tp_end1 rfl rfl ?_)
  intro w' hm
  exact ⟨rfl, hm.below⟩
set_option maxRecDepth 100000 in
theorem each2_calls (w : World) (x : Tariff)  :
    Calls Try.prog 93 #[.agg (encTar x).toArray] w (fun e w' => e = .returned (.int .i64 x.audit) ∧ Below w.heap.size w w') := by
  refine calls_of_tc (N := 5) (vs := [.agg (encTar x).toArray]) Try.func93 rfl rfl (Nat.le_of_ble_eq_true rfl) ?_
  refine tc_seq ?_
  refine tc_region ?_
  refine tl_box rfl (by decide) (fun b1_0 => ?_)
  refine s0 (qv_assign rfl) ?_
  refine tl_nil (tp_normal ?_)
  refine tc_seq ?_
  refine tc_region ?_
  refine s0 (qv_fa fo_113_2 rfl) ?_
  refine s0 (qv_ldB (i := 0) sc_3 rfl rfl rfl) ?_
  refine s0 (qv_assign rfl) ?_
  refine tl_nil (tp_normal ?_)
  refine tc_ret (tp_end1 rfl rfl ?_)
  intro w' hm
  exact ⟨rfl, hm.below⟩
set_option maxRecDepth 100000 in
theorem each3_calls (w : World) (x : Tariff)  :
    Calls Try.prog 94 #[.agg (encTar x).toArray] w (fun e w' => e = .returned (.int .i64 1000) ∧ Below w.heap.size w w') := by
  refine calls_of_tc (N := 3) (vs := [.agg (encTar x).toArray]) Try.func94 rfl rfl (Nat.le_of_ble_eq_true rfl) ?_
  refine tc_seq ?_
  refine tc_region ?_
  refine tl_box rfl (by decide) (fun b1_0 => ?_)
  refine s0 (qv_assign rfl) ?_
  refine tl_nil (tp_normal ?_)
  refine tc_seq ?_
  refine tc_region ?_
  refine s0 (qv_assign rfl) ?_
  refine tl_nil (tp_normal ?_)
  refine tc_ret (tp_end1 rfl rfl ?_)
  intro w' hm
  exact ⟨rfl, hm.below⟩
theorem fn_price {p : Price} (hp : p ∈ pricesL) : IsFn Try.prog p.fn := by
  simp only [pricesOf, List.mem_cons, List.not_mem_nil, or_false] at hp
  rcases hp with rfl | rfl | rfl
  · exact fn_92
  · exact fn_93
  · exact fn_94
theorem each_calls (w : World) (p : Price) (hp : p ∈ pricesL) (x : Tariff) : Calls Try.prog p.fn #[.agg (encTar x).toArray] w (fun e w' => e = .returned (.int .i64 (eachOf p.kind x)) ∧ Below w.heap.size w w') := by
  simp only [pricesOf, List.mem_cons, List.not_mem_nil, or_false] at hp
  rcases hp with rfl | rfl | rfl
  · exact each1_calls w x
  · exact each2_calls w x
  · exact each3_calls w x
set_option maxRecDepth 100000 in
theorem prices_calls (w : World)   :
    Calls Try.prog 51 #[] w (fun e w' => ∃ r : Option Addr × Nat, e = .returned (.slice r.1 pricesL.length r.2) ∧ Below w.heap.size w w' ∧ (pricesL.length ≤ r.2 ∧ SlAt w' w.heap.size w'.heap.size 3 encPrice r.1 pricesL)) := by
  refine calls_of_tc (N := 5) (vs := []) Try.func51 rfl rfl (Nat.le_of_ble_eq_true rfl) ?_
  refine tc_seq ?_
  refine tc_region ?_
  refine s0 (qv_assign rfl) ?_
  refine tl_nil (tp_normal ?_)
  refine tc_seq ?_
  refine tc_region ?_
  refine s0 (qv_build bt_126 rfl rfl) ?_
  refine s0 (qv_build bt_126 rfl rfl) ?_
  refine s0 (qv_build bt_126 rfl rfl) ?_
  refine tl_buildSliceL (enc := encPrice) pricesL bsl_122_3 (fun b4_0 => ?_) rfl (by kernel_rfl)
  have hsb4_0 := SlAt.ofBox (enc := encPrice) (sz := 3) (b := b4_0) (E := 126) (l := pricesL) (Nat.le_of_ble_eq_true rfl) (fun x hx => rfl)
  refine s0 (qv_assign rfl) ?_
  refine tl_nil (tp_normal ?_)
  refine tc_ret (tp_end1 rfl rfl ?_)
  intro w' hm
  have h_ := (Mem.has_box (b := b4_0) (by first | exact .head _ | exact .tail _ (.head _))) _ hm
  exact ⟨(some ⟨b4_0, 0, none⟩, 3), rfl, hm.below, Nat.le_refl 3, hsb4_0.move h_.2 (hm.boxOf (List.mem_of_getElem? (i := 0) rfl)).1 h_.1⟩
set_option maxRecDepth 100000 in
set_option maxHeartbeats 4000000 in
theorem mcheck_calls (w : World) (t : List Tariff) (ta : Option Addr) (tc : Nat) (l : List Use) (la : Option Addr) (lc : Nat) (ht : SlIn w 3 encTar ta t) (hl : SlIn w 8 encUse la l) :
    Calls Try.prog 16 #[.slice ta t.length tc, .slice la l.length lc] w (fun e w' => e = .returned (.int .i64 (meterCheck t l)) ∧ Below w.heap.size w w') := by
  have hlent := ht.len
  simp only [maxLen] at hlent
  have hlenu := hl.len
  simp only [maxLen] at hlenu
  have hpl : pricesL.length = 3 := rfl
  refine calls_of_tc (N := 99) (vs := [.slice ta t.length tc, .slice la l.length lc]) Try.func16 rfl rfl (Nat.le_of_ble_eq_true rfl) ?_
  refine tc_seq ?_
  refine tc_region ?_
  refine s0 (qv_assign rfl) ?_
  refine tl_nil (tp_normal ?_)
  refine tc_seq ?_
  refine tc_seq ?_
  refine tc_region ?_
  refine s0 (qv_move rfl) ?_
  refine s0 (qv_len st_23 rfl) ?_
  refine sd (qv_gtr rfl rfl) (fun c13 => ?_) (fun c13 => ?_)
  ·
    refine tl_nil (tp_normal ?_)
    refine tc_true rfl ?_
    refine tc_seq ?_
    refine tc_region ?_
    refine s0 (qv_assign rfl) ?_
    refine tl_nil (tp_normal ?_)
    refine tc_ret (tp_then_ret (tp_end1 rfl rfl ?_))
    intro w' hm
    exact ⟨by rw [meterCheck, if_pos (by omega)], hm.below⟩
  ·
    refine tl_nil (tp_normal ?_)
    refine tc_false rfl ?_
    refine tc_skip (tp_normal ?_)
    refine tc_seq ?_
    refine tc_seq ?_
    refine tc_region ?_
    refine s0 (qv_move rfl) ?_
    refine s0 (qv_len st_23 rfl) ?_
    refine s0 (qv_move rfl) ?_
    refine tl_nil (tp_normal ?_)
    refine tc_block (tc_loopS (fun (k : Nat) => [(16, .int .i64 (k : Int))]) (fun (k : Nat) => k ≤ t.length ∧ meterCheck t l = checkFrom t l k) (fun (k : Nat) => t.length - k) (0) ⟨Nat.zero_le _, checkFrom_zero (by omega)⟩ ⟨rfl, trivial⟩ ?_)
    rintro k hI
    refine tc_seq ?_
    refine tc_region ?_
    refine sd (qv_lss rfl rfl) (fun c17 => ?_) (fun c17 => ?_)
    ·
      refine tl_nil (tp_normal ?_)
      refine tc_seq ?_
      refine tc_true rfl ?_
      refine tc_skip (tp_normal ?_)
      refine tc_seq ?_
      refine tc_block ?_
      refine tc_seq ?_
      refine tc_region ?_
      refine sn st_23 ht rfl rfl (by omega) (fun e18 he18 => ?_)
      refine s0 (qv_ldEW ag_113 ht Mem.has_base rfl he18) ?_
      refine tl_alloc ze_113 (by decide) (fun b6_0 => ?_)
      refine tl_storeL (i := 0) sz_113 (ht.szs _ (List.mem_of_getElem? he18)) (one_113 _) rfl rfl rfl rfl ?_
      refine tl_nil (tp_normal ?_)
      refine tc_seq ?_
      refine tc_region ?_
      refine s0 (qv_fa fo_113_0 rfl) ?_
      refine s0 (qv_ldB (i := 0) sc_3 rfl rfl rfl) ?_
      refine sd (qv_call fn_49 rfl (fun w hm => within_calls w e18.keep (1000))) (fun c22 => ?_) (fun c22 => ?_)
      ·
        refine s0 (qv_not rfl) ?_
        refine s0 (qv_move rfl) ?_
        refine s0g (qv_fa fo_113_1 rfl) ?_
        refine s0g (qv_ldB (i := 0) sc_3 rfl rfl rfl) ?_
        refine sdg (qv_call fn_49 rfl (fun w hm => within_calls w e18.read (1000))) (fun c27 => ?_) (fun c27 => ?_)
        ·
          refine s0g (qv_not rfl) ?_
          refine s0 (qv_pickF rfl rfl) ?_
          refine s0 (qv_move rfl) ?_
          refine s0g (qv_fa fo_113_2 rfl) ?_
          refine s0g (qv_ldB (i := 0) sc_3 rfl rfl rfl) ?_
          refine sdg (qv_call fn_49 rfl (fun w hm => within_calls w e18.audit (1000))) (fun c33 => ?_) (fun c33 => ?_)
          ·
            refine s0g (qv_not rfl) ?_
            refine s0 (qv_pickF rfl rfl) ?_
            refine tl_nil (tp_normal ?_)
            refine tc_false rfl ?_
            refine tc_skip (tp_block_normal (tp_normal ?_))
            refine tc_region ?_
            refine s0 (qv_succ rfl rfl (by omega)) ?_
            refine s0 (qv_move rfl) ?_
            exact tl_nil (tp_roundS (k + 1) ⟨by omega, by rw [hI.2, checkFrom_ok he18 (by unfold tarBad inTo at *; omega)]⟩ (by omega) ⟨rfl, trivial⟩ rfl rfl rfl rfl)
          ·
            refine s0g (qv_not rfl) ?_
            refine s0 (qv_pickF rfl rfl) ?_
            refine tl_nil (tp_normal ?_)
            refine tc_true rfl ?_
            refine tc_seq ?_
            refine tc_region ?_
            refine s0 (qv_assign rfl) ?_
            refine tl_nil (tp_normal ?_)
            refine tc_ret (tp_block_ret (tp_then_ret (tp_then_ret (tp_block_ret (tp_then_ret (tp_end1 rfl rfl ?_))))))
            intro w' hm
            exact ⟨by rw [hI.2, checkFrom_bad he18 (by unfold tarBad inTo at *; omega)], hm.below⟩
        ·
          refine s0g (qv_not rfl) ?_
          refine s0 (qv_pickF rfl rfl) ?_
          refine s0 (qv_move rfl) ?_
          refine sk ?_
          refine sk ?_
          refine sk ?_
          refine sk ?_
          refine s0 (qv_pickT rfl rfl) ?_
          refine tl_nil (tp_normal ?_)
          refine tc_true rfl ?_
          refine tc_seq ?_
          refine tc_region ?_
          refine s0 (qv_assign rfl) ?_
          refine tl_nil (tp_normal ?_)
          refine tc_ret (tp_block_ret (tp_then_ret (tp_then_ret (tp_block_ret (tp_then_ret (tp_end1 rfl rfl ?_))))))
          intro w' hm
          exact ⟨by rw [hI.2, checkFrom_bad he18 (by unfold tarBad inTo at *; omega)], hm.below⟩
      ·
        refine s0 (qv_not rfl) ?_
        refine s0 (qv_move rfl) ?_
        refine sk ?_
        refine sk ?_
        refine sk ?_
        refine sk ?_
        refine s0 (qv_pickT rfl rfl) ?_
        refine s0 (qv_move rfl) ?_
        refine sk ?_
        refine sk ?_
        refine sk ?_
        refine sk ?_
        refine s0 (qv_pickT rfl rfl) ?_
        refine tl_nil (tp_normal ?_)
        refine tc_true rfl ?_
        refine tc_seq ?_
        refine tc_region ?_
        refine s0 (qv_assign rfl) ?_
        refine tl_nil (tp_normal ?_)
        refine tc_ret (tp_block_ret (tp_then_ret (tp_then_ret (tp_block_ret (tp_then_ret (tp_end1 rfl rfl ?_))))))
        intro w' hm
        exact ⟨by rw [hI.2, checkFrom_bad he18 (by unfold tarBad inTo at *; omega)], hm.below⟩
    ·
      refine tl_nil (tp_normal ?_)
      refine tc_seq ?_
      refine tc_false rfl ?_
      refine tc_exit (tp_then_exit (tp_then_exit (tp_block_exit (tp_normal ?_))))
      refine tc_seq ?_
      refine tc_seq ?_
      refine tc_region ?_
      refine s0 (qv_move rfl) ?_
      refine s0 (qv_len st_27 rfl) ?_
      refine sd (qv_gtr rfl rfl) (fun c39 => ?_) (fun c39 => ?_)
      ·
        refine tl_nil (tp_normal ?_)
        refine tc_true rfl ?_
        refine tc_seq ?_
        refine tc_region ?_
        refine s0 (qv_assign rfl) ?_
        refine tl_nil (tp_normal ?_)
        refine tc_ret (tp_then_ret (tp_end1 rfl rfl ?_))
        intro w' hm
        exact ⟨by rw [hI.2, checkFrom_end (by omega), if_pos (by omega)], hm.below⟩
      ·
        refine tl_nil (tp_normal ?_)
        refine tc_false rfl ?_
        refine tc_skip (tp_normal ?_)
        refine tc_seq ?_
        refine tc_seq ?_
        refine tc_region ?_
        refine s0 (qv_move rfl) ?_
        refine s0 (qv_len st_27 rfl) ?_
        refine s0 (qv_move rfl) ?_
        refine tl_nil (tp_normal ?_)
        refine tc_block (tc_loopS (fun (k : Nat) => [(42, .int .i64 (k : Int))]) (fun (k : Nat) => k ≤ l.length ∧ meterCheck t l = useErrs t (l.drop k)) (fun (k : Nat) => l.length - k) (0) ⟨Nat.zero_le _, by rw [hI.2, checkFrom_end (by omega), if_neg (by omega), List.drop_zero]⟩ ⟨rfl, trivial⟩ ?_)
        rintro k hJ
        refine tc_seq ?_
        refine tc_region ?_
        refine sd (qv_lss rfl rfl) (fun c43 => ?_) (fun c43 => ?_)
        ·
          refine tl_nil (tp_normal ?_)
          refine tc_seq ?_
          refine tc_true rfl ?_
          refine tc_skip (tp_normal ?_)
          refine tc_seq ?_
          refine tc_block ?_
          refine tc_seq ?_
          refine tc_region ?_
          refine sn st_27 hl rfl rfl (by omega) (fun e44 he44 => ?_)
          refine s0 (qv_ldEW ag_34 hl Mem.has_base rfl he44) ?_
          refine tl_alloc ze_34 (by decide) (fun b8_1 => ?_)
          refine tl_storeL (i := 0) sz_34 (hl.szs _ (List.mem_of_getElem? he44)) (one_34 _) rfl rfl rfl rfl ?_
          refine tl_nil (tp_normal ?_)
          refine tc_seq ?_
          refine tc_seq ?_
          refine tc_region ?_
          refine s0 (qv_move rfl) ?_
          refine s0 (qv_fa fo_34_0 rfl) ?_
          refine s0 (qv_ldB (i := 0) sc_3 rfl rfl rfl) ?_
          refine s0 (qv_fa fo_34_1 rfl) ?_
          refine s0 (qv_ldB (i := 0) sc_3 rfl rfl rfl) ?_
          refine s0 (qv_fa fo_34_2 rfl) ?_
          refine s0 (qv_ldB (i := 0) sc_3 rfl rfl rfl) ?_
          refine sd (qv_call fn_50 rfl (fun w hm => party_calls w t ta tc e44.kind e44.house e44.customer (by omega))) (fun c53 => ?_) (fun c53 => ?_)
          ·
            refine s0 (qv_not rfl) ?_
            refine tl_nil (tp_normal ?_)
            refine tc_false rfl ?_
            refine tc_skip (tp_normal ?_)
            refine tc_seq ?_
            refine tc_seq ?_
            refine tc_region ?_
            refine s0 (qv_fa fo_34_0 rfl) ?_
            refine s0 (qv_ldB (i := 0) sc_3 rfl rfl rfl) ?_
            refine sd (qv_eql rfl rfl) (fun c57 => ?_) (fun c57 => ?_)
            ·
              refine s0 (qv_move rfl) ?_
              refine s0g (qv_fa fo_34_3 rfl) ?_
              refine s0g (qv_ldB (i := 0) sc_3 rfl rfl rfl) ?_
              refine sdg (qv_call fn_49 rfl (fun w hm => within_calls w e44.bytes (16777216))) (fun c61 => ?_) (fun c61 => ?_)
              ·
                refine s0g (qv_not rfl) ?_
                refine s0g (qv_move rfl) ?_
                refine s0g (qv_fa fo_34_5 rfl) ?_
                refine s0g (qv_ldB (i := 0) sc_3 rfl rfl rfl) ?_
                refine sdg (qv_call fn_49 rfl (fun w hm => within_calls w e44.till (1000000))) (fun c66 => ?_) (fun c66 => ?_)
                ·
                  refine s0g (qv_not rfl) ?_
                  refine s0g (qv_pickF rfl rfl) ?_
                  refine s0g (qv_move rfl) ?_
                  refine s0g (qv_fa fo_34_4 rfl) ?_
                  refine s0g (qv_ldB (i := 0) sc_3 rfl rfl rfl) ?_
                  refine s0g (qv_fa fo_34_5 rfl) ?_
                  refine s0g (qv_ldB (i := 0) sc_3 rfl rfl rfl) ?_
                  refine sdg (qv_call fn_49 rfl (fun w hm => within_calls w e44.since e44.till)) (fun c74 => ?_) (fun c74 => ?_)
                  ·
                    refine s0g (qv_not rfl) ?_
                    refine s0g (qv_pickF rfl rfl) ?_
                    refine s0 (qv_pickT rfl rfl) ?_
                    refine tl_nil (tp_normal ?_)
                    refine tc_false rfl ?_
                    refine tc_skip (tp_normal ?_)
                    refine tc_seq ?_
                    refine tc_region ?_
                    refine tl_callR fn_51 rfl (by decide) (fun w hm => prices_calls w) (fun r78 wa78 wb78 hm78 hb78 hr78 => ?_)
                    refine s0 (qv_len st_122 rfl) ?_
                    refine s0 (qv_move rfl) ?_
                    refine tl_nil (tp_normal ?_)
                    refine tc_block (tc_loopS (fun (j : Nat) => [(80, .int .i64 (j : Int))]) (fun (j : Nat) => j ≤ pricesL.length ∧ ∀ (i : Nat) p, i < j → pricesL[i]? = some p → ¬ priceBad e44 p) (fun (j : Nat) => pricesL.length - j) (0) ⟨Nat.zero_le _, fun _ _ h => absurd h (Nat.not_lt_zero _)⟩ ⟨rfl, trivial⟩ ?_)
                    rintro j hK
                    refine tc_seq ?_
                    refine tc_region ?_
                    refine sd (qv_lss rfl rfl) (fun c81 => ?_) (fun c81 => ?_)
                    ·
                      refine tl_nil (tp_normal ?_)
                      refine tc_seq ?_
                      refine tc_true rfl ?_
                      refine tc_skip (tp_normal ?_)
                      refine tc_seq ?_
                      refine tc_block ?_
                      refine tc_seq ?_
                      refine tc_region ?_
                      refine sn st_122 hr78.2 rfl rfl (by omega) (fun e82 he82 => ?_)
                      refine s0 (qv_ldEW ag_126 hr78.2 (Mem.has_kept (by first | exact .head _ | exact .tail _ (.head _) | exact .tail _ (.tail _ (.head _)) | exact .tail _ (.tail _ (.tail _ (.head _))))) rfl he82) ?_
                      refine tl_alloc ze_126 (by decide) (fun b10_2 => ?_)
                      refine tl_storeL (i := 0) sz_126 (hr78.2.szs _ (List.mem_of_getElem? he82)) (one_126 _) rfl rfl rfl rfl ?_
                      refine tl_nil (tp_normal ?_)
                      refine tc_seq ?_
                      refine tc_region ?_
                      refine s0 (qv_fa fo_126_0 rfl) ?_
                      refine s0 (qv_ldB (i := 0) sc_3 rfl rfl rfl) ?_
                      refine s0 (qv_fa fo_34_0 rfl) ?_
                      refine s0 (qv_ldB (i := 1) sc_3 rfl rfl rfl) ?_
                      refine sd (qv_eql rfl rfl) (fun c88 => ?_) (fun c88 => ?_)
                      ·
                        refine s0 (qv_move rfl) ?_
                        refine s0g (qv_fa fo_34_6 rfl) ?_
                        refine s0g (qv_ldB (i := 1) sc_3 rfl rfl rfl) ?_
                        refine s0g (qv_fa fo_126_1 rfl) ?_
                        refine s0g (qv_ldB (i := 0) sc_3 rfl rfl rfl) ?_
                        refine sdg (qv_call fn_49 rfl (fun w hm => within_calls w e44.count e82.most)) (fun c94 => ?_) (fun c94 => ?_)
                        ·
                          refine s0g (qv_not rfl) ?_
                          refine s0 (qv_pickT rfl rfl) ?_
                          refine tl_nil (tp_normal ?_)
                          refine tc_false rfl ?_
                          refine tc_skip (tp_block_normal (tp_normal ?_))
                          refine tc_region ?_
                          refine s0 (qv_succ rfl rfl (by omega)) ?_
                          refine s0 (qv_move rfl) ?_
                          exact tl_nil (tp_roundS (j + 1) ⟨by omega, none_stepG (P := fun _ (p : Price) => ¬ priceBad e44 p) hK.2 he82 (fun h => by first | exact absurd h.1 (by assumption) | exact h.2 (by assumption))⟩ (by omega) ⟨rfl, trivial⟩ rfl rfl rfl rfl)
                        ·
                          refine s0g (qv_not rfl) ?_
                          refine s0 (qv_pickT rfl rfl) ?_
                          refine tl_nil (tp_normal ?_)
                          refine tc_true rfl ?_
                          refine tc_seq ?_
                          refine tc_region ?_
                          refine s0 (qv_assign rfl) ?_
                          refine tl_nil (tp_normal ?_)
                          refine tc_ret (tp_block_ret (tp_then_ret (tp_then_ret (tp_block_ret (tp_block_ret (tp_then_ret (tp_then_ret (tp_block_ret (tp_then_ret (tp_end1 rfl rfl ?_))))))))))
                          intro w' hm
                          have hub : useBad e44 := price_bad he82 ⟨c88, c94⟩
                          exact ⟨by rw [hJ.2, useErrs_bad he44 (by rw [useErr_bad c53 hub]; decide), useErr_bad c53 hub], hm.below⟩
                      ·
                        refine s0 (qv_move rfl) ?_
                        refine sk ?_
                        refine sk ?_
                        refine sk ?_
                        refine sk ?_
                        refine sk ?_
                        refine sk ?_
                        refine s0 (qv_pickF rfl rfl) ?_
                        refine tl_nil (tp_normal ?_)
                        refine tc_false rfl ?_
                        refine tc_skip (tp_block_normal (tp_normal ?_))
                        refine tc_region ?_
                        refine s0 (qv_succ rfl rfl (by omega)) ?_
                        refine s0 (qv_move rfl) ?_
                        exact tl_nil (tp_roundS (j + 1) ⟨by omega, none_stepG (P := fun _ (p : Price) => ¬ priceBad e44 p) hK.2 he82 (fun h => by first | exact absurd h.1 (by assumption) | exact h.2 (by assumption))⟩ (by omega) ⟨rfl, trivial⟩ rfl rfl rfl rfl)
                    ·
                      refine tl_nil (tp_normal ?_)
                      refine tc_seq ?_
                      refine tc_false rfl ?_
                      refine tc_exit (tp_then_exit (tp_then_exit (tp_block_exit (tp_block_normal (tp_normal ?_)))))
                      refine tc_region ?_
                      refine s0 (qv_succ rfl rfl (by omega)) ?_
                      refine s0 (qv_move rfl) ?_
                      exact tl_nil (tp_roundS (k + 1) ⟨by omega, by rw [hJ.2, useErrs_ok he44 (useErr_ok c53 (use_fine (fun h => by first | exact c57 h.1 | (rcases h.2 with h_ | h_ | h_ <;> contradiction)) (by omega) hK.2))]⟩ (by omega) ⟨rfl, trivial⟩ rfl rfl rfl rfl)
                  ·
                    refine s0g (qv_not rfl) ?_
                    refine s0g (qv_pickF rfl rfl) ?_
                    refine s0 (qv_pickT rfl rfl) ?_
                    refine tl_nil (tp_normal ?_)
                    refine tc_true rfl ?_
                    refine tc_seq ?_
                    refine tc_region ?_
                    refine s0 (qv_assign rfl) ?_
                    refine tl_nil (tp_normal ?_)
                    refine tc_ret (tp_then_ret (tp_block_ret (tp_then_ret (tp_then_ret (tp_block_ret (tp_then_ret (tp_end1 rfl rfl ?_)))))))
                    intro w' hm
                    have hub : useBad e44 := .inl ⟨c57, by first | exact .inl c61 | exact .inr (.inl c66) | exact .inr (.inr c74)⟩
                    exact ⟨by rw [hJ.2, useErrs_bad he44 (by rw [useErr_bad c53 hub]; decide), useErr_bad c53 hub], hm.below⟩
                ·
                  refine s0g (qv_not rfl) ?_
                  refine s0g (qv_pickF rfl rfl) ?_
                  refine s0g (qv_move rfl) ?_
                  refine sk ?_
                  refine sk ?_
                  refine sk ?_
                  refine sk ?_
                  refine sk ?_
                  refine sk ?_
                  refine s0g (qv_pickT rfl rfl) ?_
                  refine s0 (qv_pickT rfl rfl) ?_
                  refine tl_nil (tp_normal ?_)
                  refine tc_true rfl ?_
                  refine tc_seq ?_
                  refine tc_region ?_
                  refine s0 (qv_assign rfl) ?_
                  refine tl_nil (tp_normal ?_)
                  refine tc_ret (tp_then_ret (tp_block_ret (tp_then_ret (tp_then_ret (tp_block_ret (tp_then_ret (tp_end1 rfl rfl ?_)))))))
                  intro w' hm
                  have hub : useBad e44 := .inl ⟨c57, by first | exact .inl c61 | exact .inr (.inl c66) | exact .inr (.inr c74)⟩
                  exact ⟨by rw [hJ.2, useErrs_bad he44 (by rw [useErr_bad c53 hub]; decide), useErr_bad c53 hub], hm.below⟩
              ·
                refine s0g (qv_not rfl) ?_
                refine s0g (qv_move rfl) ?_
                refine sk ?_
                refine sk ?_
                refine sk ?_
                refine sk ?_
                refine s0g (qv_pickT rfl rfl) ?_
                refine s0g (qv_move rfl) ?_
                refine sk ?_
                refine sk ?_
                refine sk ?_
                refine sk ?_
                refine sk ?_
                refine sk ?_
                refine s0g (qv_pickT rfl rfl) ?_
                refine s0 (qv_pickT rfl rfl) ?_
                refine tl_nil (tp_normal ?_)
                refine tc_true rfl ?_
                refine tc_seq ?_
                refine tc_region ?_
                refine s0 (qv_assign rfl) ?_
                refine tl_nil (tp_normal ?_)
                refine tc_ret (tp_then_ret (tp_block_ret (tp_then_ret (tp_then_ret (tp_block_ret (tp_then_ret (tp_end1 rfl rfl ?_)))))))
                intro w' hm
                have hub : useBad e44 := .inl ⟨c57, by first | exact .inl c61 | exact .inr (.inl c66) | exact .inr (.inr c74)⟩
                exact ⟨by rw [hJ.2, useErrs_bad he44 (by rw [useErr_bad c53 hub]; decide), useErr_bad c53 hub], hm.below⟩
            ·
              refine s0 (qv_move rfl) ?_
              refine sk ?_
              refine sk ?_
              refine sk ?_
              refine sk ?_
              refine sk ?_
              refine sk ?_
              refine sk ?_
              refine sk ?_
              refine sk ?_
              refine sk ?_
              refine sk ?_
              refine sk ?_
              refine sk ?_
              refine sk ?_
              refine sk ?_
              refine sk ?_
              refine sk ?_
              refine sk ?_
              refine s0 (qv_pickF rfl rfl) ?_
              refine tl_nil (tp_normal ?_)
              refine tc_false rfl ?_
              refine tc_skip (tp_normal ?_)
              refine tc_seq ?_
              refine tc_region ?_
              refine tl_callR fn_51 rfl (by decide) (fun w hm => prices_calls w) (fun r78 wa78 wb78 hm78 hb78 hr78 => ?_)
              refine s0 (qv_len st_122 rfl) ?_
              refine s0 (qv_move rfl) ?_
              refine tl_nil (tp_normal ?_)
              refine tc_block (tc_loopS (fun (j : Nat) => [(80, .int .i64 (j : Int))]) (fun (j : Nat) => j ≤ pricesL.length ∧ ∀ (i : Nat) p, i < j → pricesL[i]? = some p → ¬ priceBad e44 p) (fun (j : Nat) => pricesL.length - j) (0) ⟨Nat.zero_le _, fun _ _ h => absurd h (Nat.not_lt_zero _)⟩ ⟨rfl, trivial⟩ ?_)
              rintro j hK
              refine tc_seq ?_
              refine tc_region ?_
              refine sd (qv_lss rfl rfl) (fun c81 => ?_) (fun c81 => ?_)
              ·
                refine tl_nil (tp_normal ?_)
                refine tc_seq ?_
                refine tc_true rfl ?_
                refine tc_skip (tp_normal ?_)
                refine tc_seq ?_
                refine tc_block ?_
                refine tc_seq ?_
                refine tc_region ?_
                refine sn st_122 hr78.2 rfl rfl (by omega) (fun e82 he82 => ?_)
                refine s0 (qv_ldEW ag_126 hr78.2 (Mem.has_kept (by first | exact .head _ | exact .tail _ (.head _) | exact .tail _ (.tail _ (.head _)) | exact .tail _ (.tail _ (.tail _ (.head _))))) rfl he82) ?_
                refine tl_alloc ze_126 (by decide) (fun b10_3 => ?_)
                refine tl_storeL (i := 0) sz_126 (hr78.2.szs _ (List.mem_of_getElem? he82)) (one_126 _) rfl rfl rfl rfl ?_
                refine tl_nil (tp_normal ?_)
                refine tc_seq ?_
                refine tc_region ?_
                refine s0 (qv_fa fo_126_0 rfl) ?_
                refine s0 (qv_ldB (i := 0) sc_3 rfl rfl rfl) ?_
                refine s0 (qv_fa fo_34_0 rfl) ?_
                refine s0 (qv_ldB (i := 1) sc_3 rfl rfl rfl) ?_
                refine sd (qv_eql rfl rfl) (fun c88 => ?_) (fun c88 => ?_)
                ·
                  refine s0 (qv_move rfl) ?_
                  refine s0g (qv_fa fo_34_6 rfl) ?_
                  refine s0g (qv_ldB (i := 1) sc_3 rfl rfl rfl) ?_
                  refine s0g (qv_fa fo_126_1 rfl) ?_
                  refine s0g (qv_ldB (i := 0) sc_3 rfl rfl rfl) ?_
                  refine sdg (qv_call fn_49 rfl (fun w hm => within_calls w e44.count e82.most)) (fun c94 => ?_) (fun c94 => ?_)
                  ·
                    refine s0g (qv_not rfl) ?_
                    refine s0 (qv_pickT rfl rfl) ?_
                    refine tl_nil (tp_normal ?_)
                    refine tc_false rfl ?_
                    refine tc_skip (tp_block_normal (tp_normal ?_))
                    refine tc_region ?_
                    refine s0 (qv_succ rfl rfl (by omega)) ?_
                    refine s0 (qv_move rfl) ?_
                    exact tl_nil (tp_roundS (j + 1) ⟨by omega, none_stepG (P := fun _ (p : Price) => ¬ priceBad e44 p) hK.2 he82 (fun h => by first | exact absurd h.1 (by assumption) | exact h.2 (by assumption))⟩ (by omega) ⟨rfl, trivial⟩ rfl rfl rfl rfl)
                  ·
                    refine s0g (qv_not rfl) ?_
                    refine s0 (qv_pickT rfl rfl) ?_
                    refine tl_nil (tp_normal ?_)
                    refine tc_true rfl ?_
                    refine tc_seq ?_
                    refine tc_region ?_
                    refine s0 (qv_assign rfl) ?_
                    refine tl_nil (tp_normal ?_)
                    refine tc_ret (tp_block_ret (tp_then_ret (tp_then_ret (tp_block_ret (tp_block_ret (tp_then_ret (tp_then_ret (tp_block_ret (tp_then_ret (tp_end1 rfl rfl ?_))))))))))
                    intro w' hm
                    have hub : useBad e44 := price_bad he82 ⟨c88, c94⟩
                    exact ⟨by rw [hJ.2, useErrs_bad he44 (by rw [useErr_bad c53 hub]; decide), useErr_bad c53 hub], hm.below⟩
                ·
                  refine s0 (qv_move rfl) ?_
                  refine sk ?_
                  refine sk ?_
                  refine sk ?_
                  refine sk ?_
                  refine sk ?_
                  refine sk ?_
                  refine s0 (qv_pickF rfl rfl) ?_
                  refine tl_nil (tp_normal ?_)
                  refine tc_false rfl ?_
                  refine tc_skip (tp_block_normal (tp_normal ?_))
                  refine tc_region ?_
                  refine s0 (qv_succ rfl rfl (by omega)) ?_
                  refine s0 (qv_move rfl) ?_
                  exact tl_nil (tp_roundS (j + 1) ⟨by omega, none_stepG (P := fun _ (p : Price) => ¬ priceBad e44 p) hK.2 he82 (fun h => by first | exact absurd h.1 (by assumption) | exact h.2 (by assumption))⟩ (by omega) ⟨rfl, trivial⟩ rfl rfl rfl rfl)
              ·
                refine tl_nil (tp_normal ?_)
                refine tc_seq ?_
                refine tc_false rfl ?_
                refine tc_exit (tp_then_exit (tp_then_exit (tp_block_exit (tp_block_normal (tp_normal ?_)))))
                refine tc_region ?_
                refine s0 (qv_succ rfl rfl (by omega)) ?_
                refine s0 (qv_move rfl) ?_
                exact tl_nil (tp_roundS (k + 1) ⟨by omega, by rw [hJ.2, useErrs_ok he44 (useErr_ok c53 (use_fine (fun h => by first | exact c57 h.1 | (rcases h.2 with h_ | h_ | h_ <;> contradiction)) (by omega) hK.2))]⟩ (by omega) ⟨rfl, trivial⟩ rfl rfl rfl rfl)
          ·
            refine s0 (qv_not rfl) ?_
            refine tl_nil (tp_normal ?_)
            refine tc_true rfl ?_
            refine tc_seq ?_
            refine tc_region ?_
            refine s0 (qv_assign rfl) ?_
            refine tl_nil (tp_normal ?_)
            refine tc_ret (tp_then_ret (tp_block_ret (tp_then_ret (tp_then_ret (tp_block_ret (tp_then_ret (tp_end1 rfl rfl ?_)))))))
            intro w' hm
            exact ⟨by rw [hJ.2, useErrs_bad he44 (by rw [useErr_party c53]; decide), useErr_party c53], hm.below⟩
        ·
          refine tl_nil (tp_normal ?_)
          refine tc_seq ?_
          refine tc_false rfl ?_
          refine tc_exit (tp_then_exit (tp_then_exit (tp_block_exit (tp_normal ?_))))
          refine tc_seq ?_
          refine tc_region ?_
          refine s0 (qv_assign rfl) ?_
          refine tl_nil (tp_normal ?_)
          refine tc_ret (tp_end1 rfl rfl ?_)
          intro w' hm
          exact ⟨by rw [hJ.2, List.drop_eq_nil_of_le (by omega)]; rfl, hm.below⟩
set_option maxRecDepth 100000 in
set_option maxHeartbeats 4000000 in
theorem charge_calls (w : World) (t : List Tariff) (ta : Option Addr) (tc : Nat) (n : Net) (na : Option Addr) (nc : Nat) (u : Use) (ht : SlIn w 3 encTar ta t) (hn : SlIn w 50 encLink na n.links) (hk : NetOk n) (hs : SlIn w 3 encSend u.sends.a u.sends.l) :
    Calls Try.prog 18 #[.slice ta t.length tc, .agg (netA n na nc), .agg (encUse u).toArray] w (fun e w' => e = .returned (.tuple #[.int .i64 (charge t n u).1, .int .i64 (charge t n u).2]) ∧ Below w.heap.size w w') := by
  have hlent := ht.len
  simp only [maxLen] at hlent
  have hlenn := hn.len
  simp only [maxLen] at hlenn
  have hlen := hs.len
  simp only [maxLen] at hlen
  have hpl : pricesL.length = 3 := rfl
  refine calls_of_tc (N := 83) (vs := [.slice ta t.length tc, .agg (netA n na nc), .agg (encUse u).toArray]) Try.func18 rfl rfl (Nat.le_of_ble_eq_true rfl) ?_
  refine tc_seq ?_
  refine tc_region ?_
  refine tl_box rfl (by decide) (fun b4_0 => ?_)
  refine tl_box rfl (by decide) (fun b5_1 => ?_)
  refine s0 (qv_assign rfl) ?_
  refine s0 (qv_assign rfl) ?_
  refine tl_nil (tp_normal ?_)
  refine tc_seq ?_
  refine tc_seq ?_
  refine tc_region ?_
  refine s0 (qv_move rfl) ?_
  refine s0 (qv_ldBW (i := 0) ag_34 rfl rfl rfl) ?_
  refine tl_buildSliceL (enc := encUse) [u] bsl_27_1 (fun b16_2 => ?_) rfl (by kernel_rfl)
  have hsb16_2 := SlAt.ofBox (enc := encUse) (sz := 8) (b := b16_2) (E := 34) (l := [u]) (Nat.le_of_ble_eq_true rfl) (fun x hx => rfl)
  refine s0 (qv_call fn_16 rfl (fun w hm => mcheck_calls w t ta tc [u] (some ⟨b16_2, 0, none⟩) 1 (ht.into Mem.has_base hm) (hsb16_2.into (Mem.has_box (by repeat (first | exact List.Mem.head _ | refine List.Mem.tail _ ?_))) hm))) ?_
  refine s0 (qv_assign rfl) ?_
  refine tl_nil (tp_normal ?_)
  refine tc_seq ?_
  refine tc_region ?_
  refine s0 (qv_move rfl) ?_
  refine sd (qv_neq rfl rfl) (fun c19 => ?_) (fun c19 => ?_)
  ·
    refine tl_nil (tp_normal ?_)
    refine tc_true rfl ?_
    refine tc_seq ?_
    refine tc_region ?_
    refine s0 (qv_move rfl) ?_
    refine s0 (qv_assign rfl) ?_
    refine s0 (qv_assign rfl) ?_
    refine tl_nil (tp_normal ?_)
    refine tc_ret (tp_then_ret (tp_end2 rfl rfl rfl ?_))
    intro w' hm
    exact ⟨by rw [charge_err (by omega)], hm.below⟩
  ·
    refine tl_nil (tp_normal ?_)
    refine tc_false rfl ?_
    refine tc_skip (tp_normal ?_)
    refine tc_seq ?_
    refine tc_seq ?_
    have hc := charged (t := t) (u := u) (by omega)
    have hh0 := hc.h0
    have hh1 := hc.h1
    refine tc_region ?_
    refine tl_callR fn_51 rfl (by decide) (fun w hm => prices_calls w) (fun r21 wa21 wb21 hm21 hb21 hr21 => ?_)
    refine s0 (qv_len st_122 rfl) ?_
    refine s0 (qv_move rfl) ?_
    refine tl_nil (tp_normal ?_)
    refine tc_block (tc_loopS (fun (k : Nat) => [(23, .int .i64 (k : Int))]) (fun (k : Nat) => k ≤ pricesL.length ∧ ∀ (i : Nat) p, i < k → pricesL[i]? = some p → ¬ p.kind = u.kind) (fun (k : Nat) => pricesL.length - k) (0) ⟨Nat.zero_le _, fun _ _ h => absurd h (Nat.not_lt_zero _)⟩ ⟨rfl, trivial⟩ ?_)
    rintro k hI
    refine tc_seq ?_
    refine tc_region ?_
    refine sd (qv_lss rfl rfl) (fun c24 => ?_) (fun c24 => ?_)
    ·
      refine tl_nil (tp_normal ?_)
      refine tc_seq ?_
      refine tc_true rfl ?_
      refine tc_skip (tp_normal ?_)
      refine tc_seq ?_
      refine tc_block ?_
      refine tc_seq ?_
      refine tc_region ?_
      refine sn st_122 hr21.2 rfl rfl (by omega) (fun e25 he25 => ?_)
      refine s0 (qv_ldEW ag_126 hr21.2 (Mem.has_kept (by first | exact .head _ | exact .tail _ (.head _) | exact .tail _ (.tail _ (.head _)) | exact .tail _ (.tail _ (.tail _ (.head _))))) rfl he25) ?_
      refine tl_alloc ze_126 (by decide) (fun b10_3 => ?_)
      refine tl_storeL (i := 0) sz_126 (hr21.2.szs _ (List.mem_of_getElem? he25)) (one_126 _) rfl rfl rfl rfl ?_
      refine tl_nil (tp_normal ?_)
      refine tc_seq ?_
      refine tc_region ?_
      refine s0 (qv_fa fo_126_0 rfl) ?_
      refine s0 (qv_ldB (i := 0) sc_3 rfl rfl rfl) ?_
      refine s0 (qv_fa fo_34_0 rfl) ?_
      refine s0 (qv_ldB (i := 2) sc_3 rfl rfl rfl) ?_
      refine sd (qv_eql rfl rfl) (fun c31 => ?_) (fun c31 => ?_)
      ·
        refine tl_nil (tp_normal ?_)
        refine tc_true rfl ?_
        refine tc_seq ?_
        refine tc_draws mixed (by kernel_rfl) ?_
        refine q0 (qv_fa fo_34_6 rfl) ?_
        refine q0 (qv_ldB (i := 2) sc_3 rfl rfl rfl) ?_
        refine q0 (qv_fa fo_126_2 rfl) ?_
        refine q0 (qv_ldB (i := 0) sc_124 rfl rfl rfl) ?_
        refine q0 (qv_move rfl) ?_
        refine q0 (qv_fa fo_34_1 rfl) ?_
        refine q0 (qv_ldB (i := 2) sc_3 rfl rfl rfl) ?_
        refine qi st_23 ht rfl rfl (by omega) (fun e39 he39 => ?_)
        refine q0 (qv_ldEW ag_113 ht Mem.has_base rfl he39) ?_
        refine q0 (qv_callV (vs := [.agg (encTar e39).toArray]) (caps := []) (fn_price (List.mem_of_getElem? he25)) rfl rfl (fun w hm => each_calls w e25 (List.mem_of_getElem? he25) e39)) ?_
        have heb := each_bd hc he25
        rw [tarOf_eq he39] at heb
        have hct := hc.count (by (rcases prices_at he25 with h_ | h_ | h_ <;> rw [h_] at c31 <;> simp only at c31 <;> omega))
        have hmb := mul_bd hct heb
        refine q0 (qv_mulI rfl rfl (by omega)) ?_
        refine q0 (qv_assign rfl) ?_
        refine q0 (qv_assign rfl) ?_
        refine tq_nil (tp_normal ?_)
        refine tc_ret (tp_block_ret (tp_then_ret (tp_then_ret (tp_block_ret (tp_then_ret (tp_end2 rfl rfl rfl ?_))))))
        intro w' hm
        exact ⟨by rw [charge_price (by omega) he25 c31, tarOf_eq he39], hm.below⟩
      ·
        refine tl_nil (tp_normal ?_)
        refine tc_false rfl ?_
        refine tc_skip (tp_block_normal (tp_normal ?_))
        refine tc_region ?_
        refine s0 (qv_succ rfl rfl (by omega)) ?_
        refine s0 (qv_move rfl) ?_
        exact tl_nil (tp_roundS (k + 1) ⟨by omega, none_stepG (P := fun _ (p : Price) => ¬ p.kind = u.kind) hI.2 he25 c31⟩ (by omega) ⟨rfl, trivial⟩ rfl rfl rfl rfl)
    ·
      refine tl_nil (tp_normal ?_)
      refine tc_seq ?_
      refine tc_false rfl ?_
      refine tc_exit (tp_then_exit (tp_then_exit (tp_block_exit (tp_normal ?_))))
      refine tc_seq ?_
      refine tc_seq ?_
      obtain ⟨hp3, hp4, hp5⟩ := no_price (u := u) (by omega) hI.2
      refine tc_region ?_
      refine s0 (qv_fa fo_34_0 rfl) ?_
      refine s0 (qv_ldB (i := 1) sc_3 rfl rfl rfl) ?_
      refine sd (qv_eql rfl rfl) (fun c46 => ?_) (fun c46 => ?_)
      ·
        refine tl_nil (tp_normal ?_)
        refine tc_true rfl ?_
        refine tc_seq ?_
        refine tc_draws mixed (by kernel_rfl) ?_
        refine q0 (qv_fa fo_34_3 rfl) ?_
        refine q0 (qv_ldB (i := 1) sc_3 rfl rfl rfl) ?_
        refine q0 (qv_fa fo_34_5 rfl) ?_
        refine q0 (qv_ldB (i := 1) sc_3 rfl rfl rfl) ?_
        refine q0 (qv_fa fo_34_4 rfl) ?_
        refine q0 (qv_ldB (i := 1) sc_3 rfl rfl rfl) ?_
        obtain ⟨hk2, hk3, hk4, hk5⟩ := hc.kept c46
        refine q0 (qv_subI rfl rfl (by omega)) ?_
        have hmb1 := mul_bd hk2 (show 0 ≤ u.till - u.since ∧ u.till - u.since ≤ 1000000 by omega)
        refine q0 (qv_mulI rfl rfl (by omega)) ?_
        refine q0 (qv_move rfl) ?_
        refine q0 (qv_fa fo_34_1 rfl) ?_
        refine q0 (qv_ldB (i := 1) sc_3 rfl rfl rfl) ?_
        refine qi st_23 ht rfl rfl (by omega) (fun e58 he58 => ?_)
        refine q0 (qv_fa fo_113_0 rfl) ?_
        refine q0 (qv_ldE (j := 0) sc_3 ht Mem.has_base rfl rfl he58 rfl) ?_
        have hkp := hc.keep
        rw [tarOf_eq he58] at hkp
        have hmb2 := mul_bd hmb1 hkp
        refine q0 (qv_mulI rfl rfl (by omega)) ?_
        refine q0 (qv_assign rfl) ?_
        refine q0 (qv_assign rfl) ?_
        refine tq_nil (tp_normal ?_)
        refine tc_ret (tp_then_ret (tp_end2 rfl rfl rfl ?_))
        intro w' hm
        exact ⟨by rw [charge_keep (by omega) c46, tarOf_eq he58], hm.below⟩
      ·
        refine tl_nil (tp_normal ?_)
        refine tc_false rfl ?_
        refine tc_skip (tp_normal ?_)
        refine tc_seq ?_
        refine tc_seq ?_
        refine tc_region ?_
        refine s0 (qv_ldBW (i := 2) ag_26 rfl rfl rfl) ?_
        refine s0 (qv_fa fo_34_7 rfl) ?_
        refine s0 (qv_ldB (i := 1) sc_32 rfl rfl rfl) ?_
        refine s0 (qv_call fn_25 rfl (fun w hm => fits_calls w n na nc u.sends.l u.sends.a u.sends.c (hn.into Mem.has_base hm) hk (hs.into Mem.has_base hm))) ?_
        refine s0 (qv_assign rfl) ?_
        refine tl_nil (tp_normal ?_)
        refine tc_seq ?_
        refine tc_region ?_
        refine s0 (qv_move rfl) ?_
        refine sd (qv_neq rfl rfl) (fun c67 => ?_) (fun c67 => ?_)
        ·
          refine tl_nil (tp_normal ?_)
          refine tc_true rfl ?_
          refine tc_seq ?_
          refine tc_region ?_
          refine s0 (qv_move rfl) ?_
          refine s0 (qv_assign rfl) ?_
          refine s0 (qv_assign rfl) ?_
          refine tl_nil (tp_normal ?_)
          refine tc_ret (tp_then_ret (tp_end2 rfl rfl rfl ?_))
          intro w' hm
          exact ⟨by rw [charge_move (by omega) hp3 hp4 hp5 c46, if_pos c67], hm.below⟩
        ·
          refine tl_nil (tp_normal ?_)
          refine tc_false rfl ?_
          refine tc_skip (tp_normal ?_)
          refine tc_seq ?_
          refine tc_region ?_
          refine s0 (qv_ldBW (i := 2) ag_26 rfl rfl rfl) ?_
          refine s0 (qv_fa fo_34_7 rfl) ?_
          refine s0 (qv_ldB (i := 1) sc_32 rfl rfl rfl) ?_
          refine s0 (qv_call fn_24 rfl (fun w hm => cost_calls w n na nc u.sends.l u.sends.a u.sends.c (hn.into Mem.has_base hm) hk (hs.into Mem.has_base hm))) ?_
          refine s0 (qv_move rfl) ?_
          refine s0 (qv_extract rfl rfl) ?_
          refine s0 (qv_extract rfl rfl) ?_
          refine s0 (qv_assign rfl) ?_
          refine s0 (qv_assign rfl) ?_
          refine tl_nil (tp_normal ?_)
          refine tc_seq ?_
          refine tc_seq ?_
          have hfc := fits_cost (n := n) (l := u.sends.l) (by omega)
          refine tc_region ?_
          refine s0 (qv_move rfl) ?_
          refine sd (qv_neq rfl rfl) (fun c77 => ?_) (fun c77 => ?_)
          ·
            refine tl_nil (tp_normal ?_)
            refine tc_true rfl ?_
            refine tc_seq ?_
            refine tc_region ?_
            refine s0 (qv_move rfl) ?_
            refine s0 (qv_assign rfl) ?_
            refine s0 (qv_assign rfl) ?_
            refine tl_nil (tp_normal ?_)
            refine tc_ret (tp_then_ret (tp_end2 rfl rfl rfl ?_))
            intro w' hm
            exact absurd hfc.1 c77
          ·
            refine tl_nil (tp_normal ?_)
            refine tc_false rfl ?_
            refine tc_skip (tp_normal ?_)
            refine tc_seq ?_
            refine tc_seq ?_
            refine tc_region ?_
            refine s0 (qv_move rfl) ?_
            refine sd (qv_gtr rfl rfl) (fun c80 => ?_) (fun c80 => ?_)
            ·
              refine tl_nil (tp_normal ?_)
              refine tc_true rfl ?_
              refine tc_seq ?_
              refine tc_region ?_
              refine s0 (qv_assign rfl) ?_
              refine s0 (qv_assign rfl) ?_
              refine tl_nil (tp_normal ?_)
              refine tc_ret (tp_then_ret (tp_end2 rfl rfl rfl ?_))
              intro w' hm
              exact ⟨by rw [charge_move (by omega) hp3 hp4 hp5 c46, if_neg c67, if_pos (by omega)], hm.below⟩
            ·
              refine tl_nil (tp_normal ?_)
              refine tc_false rfl ?_
              refine tc_skip (tp_normal ?_)
              refine tc_seq ?_
              refine tc_region ?_
              refine s0 (qv_move rfl) ?_
              refine s0 (qv_mulI rfl rfl (by omega)) ?_
              refine s0 (qv_assign rfl) ?_
              refine s0 (qv_assign rfl) ?_
              refine tl_nil (tp_normal ?_)
              refine tc_ret (tp_end2 rfl rfl rfl ?_)
              intro w' hm
              exact ⟨by rw [charge_move (by omega) hp3 hp4 hp5 c46, if_neg c67, if_neg (by omega)], hm.below⟩
set_option maxRecDepth 100000 in
theorem few9_calls (w : World) (n : Net) (na : Option Addr) (nc : Nat) (l : List Use) (la : Option Addr) (lc : Nat) (hn : SlIn w 50 encLink na n.links) (hk : NetOk n) (hl : SlIn w 8 encUse la l) :
    Calls Try.prog 14 #[.agg (netA n na nc), .slice la l.length lc] w (fun e w' => e = .returned (.bool (decide (few9 n l))) ∧ Below w.heap.size w w') := by
  have hlenn := hn.len
  simp only [maxLen] at hlenn
  have hlenu := hl.len
  simp only [maxLen] at hlenu
  refine calls_of_tc (N := 37) (vs := [.agg (netA n na nc), .slice la l.length lc]) Try.func14 rfl rfl (Nat.le_of_ble_eq_true rfl) ?_
  refine tc_seq ?_
  refine tc_region ?_
  refine tl_box rfl (by decide) (fun b2_0 => ?_)
  refine s0 (qv_assign rfl) ?_
  refine tl_nil (tp_normal ?_)
  refine tc_seq ?_
  refine tc_seq ?_
  refine tc_region ?_
  refine s0 (qv_fa fo_26_1 rfl) ?_
  refine s0 (qv_ldB (i := 0) sc_24 rfl rfl rfl) ?_
  refine s0 (qv_len st_24 rfl) ?_
  refine sd (qv_gtr rfl rfl) (fun c10 => ?_) (fun c10 => ?_)
  ·
    refine s0 (qv_move rfl) ?_
    refine sk ?_
    refine sk ?_
    refine sk ?_
    refine sk ?_
    refine sk ?_
    refine sk ?_
    refine sk ?_
    refine sk ?_
    refine s0 (qv_pickT rfl rfl) ?_
    refine s0 (qv_move rfl) ?_
    refine sk ?_
    refine sk ?_
    refine sk ?_
    refine s0 (qv_pickT rfl rfl) ?_
    refine tl_nil (tp_normal ?_)
    refine tc_true rfl ?_
    refine tc_seq ?_
    refine tc_region ?_
    refine s0 (qv_assign rfl) ?_
    refine tl_nil (tp_normal ?_)
    refine tc_ret (tp_then_ret (tp_end1 rfl rfl ?_))
    intro w' hm
    exact ⟨by rw [decide_eq_false (fun h => by unfold few9 at h; omega)], hm.below⟩
  ·
    refine s0 (qv_move rfl) ?_
    refine s0g (qv_move rfl) ?_
    refine s0g (qv_len st_27 rfl) ?_
    refine sdg (qv_gtr rfl rfl) (fun c14 => ?_) (fun c14 => ?_)
    ·
      refine s0g (qv_move rfl) ?_
      refine s0g (qv_move rfl) ?_
      refine s0g (qv_len st_27 rfl) ?_
      refine sdg (qv_leq rfl rfl) (fun c18 => ?_) (fun c18 => ?_)
      ·
        refine s0g (qv_pickT rfl rfl) ?_
        refine s0 (qv_pickF rfl rfl) ?_
        refine s0 (qv_move rfl) ?_
        refine sk ?_
        refine sk ?_
        refine sk ?_
        refine s0 (qv_pickT rfl rfl) ?_
        refine tl_nil (tp_normal ?_)
        refine tc_true rfl ?_
        refine tc_seq ?_
        refine tc_region ?_
        refine s0 (qv_assign rfl) ?_
        refine tl_nil (tp_normal ?_)
        refine tc_ret (tp_then_ret (tp_end1 rfl rfl ?_))
        intro w' hm
        exact ⟨by rw [decide_eq_false (fun h => by unfold few9 at h; omega)], hm.below⟩
      ·
        refine s0g (qv_pickT rfl rfl) ?_
        refine s0 (qv_pickF rfl rfl) ?_
        refine s0 (qv_move rfl) ?_
        refine s0g (qv_move rfl) ?_
        refine s0g (qv_len st_27 rfl) ?_
        refine sdg (qv_gtr rfl rfl) (fun c24 => ?_) (fun c24 => ?_)
        ·
          refine s0 (qv_pickF rfl rfl) ?_
          refine tl_nil (tp_normal ?_)
          refine tc_true rfl ?_
          refine tc_seq ?_
          refine tc_region ?_
          refine s0 (qv_assign rfl) ?_
          refine tl_nil (tp_normal ?_)
          refine tc_ret (tp_then_ret (tp_end1 rfl rfl ?_))
          intro w' hm
          exact ⟨by rw [decide_eq_false (fun h => by unfold few9 at h; omega)], hm.below⟩
        ·
          refine s0 (qv_pickF rfl rfl) ?_
          refine tl_nil (tp_normal ?_)
          refine tc_false rfl ?_
          refine tc_skip (tp_normal ?_)
          refine tc_seq ?_
          refine tc_seq ?_
          refine tc_region ?_
          refine s0 (qv_move rfl) ?_
          refine s0 (qv_len st_27 rfl) ?_
          refine s0 (qv_move rfl) ?_
          refine tl_nil (tp_normal ?_)
          refine tc_block (tc_loopS (fun (k : Nat) => [(28, .int .i64 (k : Int))]) (fun (k : Nat) => k ≤ l.length ∧ ∀ (j : Nat) u, j < k → l[j]? = some u → ¬ 10 < u.sends.l.length) (fun (k : Nat) => l.length - k) (0) ⟨Nat.zero_le _, fun _ _ h => absurd h (Nat.not_lt_zero _)⟩ ⟨rfl, trivial⟩ ?_)
          rintro k hI
          refine tc_seq ?_
          refine tc_region ?_
          refine sd (qv_lss rfl rfl) (fun c29 => ?_) (fun c29 => ?_)
          ·
            refine tl_nil (tp_normal ?_)
            refine tc_seq ?_
            refine tc_true rfl ?_
            refine tc_skip (tp_normal ?_)
            refine tc_seq ?_
            refine tc_block ?_
            refine tc_seq ?_
            refine tc_region ?_
            refine sn st_27 hl rfl rfl (by omega) (fun e30 he30 => ?_)
            refine s0 (qv_ldEW ag_34 hl Mem.has_base rfl he30) ?_
            refine tl_alloc ze_34 (by decide) (fun b6_1 => ?_)
            refine tl_storeL (i := 0) sz_34 (hl.szs _ (List.mem_of_getElem? he30)) (one_34 _) rfl rfl rfl rfl ?_
            refine tl_nil (tp_normal ?_)
            refine tc_seq ?_
            refine tc_region ?_
            refine s0 (qv_fa fo_34_7 rfl) ?_
            refine s0 (qv_ldB (i := 0) sc_32 rfl rfl rfl) ?_
            refine s0 (qv_len st_32 rfl) ?_
            refine sd (qv_gtr rfl rfl) (fun c35 => ?_) (fun c35 => ?_)
            ·
              refine tl_nil (tp_normal ?_)
              refine tc_true rfl ?_
              refine tc_seq ?_
              refine tc_region ?_
              refine s0 (qv_assign rfl) ?_
              refine tl_nil (tp_normal ?_)
              refine tc_ret (tp_block_ret (tp_then_ret (tp_then_ret (tp_block_ret (tp_then_ret (tp_end1 rfl rfl ?_))))))
              intro w' hm
              exact ⟨by rw [decide_eq_false (fun h => by have := h.2.2 _ (List.mem_of_getElem? he30); omega)], hm.below⟩
            ·
              refine tl_nil (tp_normal ?_)
              refine tc_false rfl ?_
              refine tc_skip (tp_block_normal (tp_normal ?_))
              refine tc_region ?_
              refine s0 (qv_succ rfl rfl (by omega)) ?_
              refine s0 (qv_move rfl) ?_
              exact tl_nil (tp_roundS (k + 1) ⟨by omega, none_stepG (P := fun _ (u : Use) => ¬ 10 < u.sends.l.length) hI.2 he30 (by omega)⟩ (by omega) ⟨rfl, trivial⟩ rfl rfl rfl rfl)
          ·
            refine tl_nil (tp_normal ?_)
            refine tc_seq ?_
            refine tc_false rfl ?_
            refine tc_exit (tp_then_exit (tp_then_exit (tp_block_exit (tp_normal ?_))))
            refine tc_seq ?_
            refine tc_region ?_
            refine s0 (qv_assign rfl) ?_
            refine tl_nil (tp_normal ?_)
            refine tc_ret (tp_end1 rfl rfl ?_)
            intro w' hm
            exact ⟨by rw [decide_eq_true (few9_all (by omega) (by omega) (by omega) hI.2)], hm.below⟩
    ·
      refine s0g (qv_move rfl) ?_
      refine sk ?_
      refine sk ?_
      refine sk ?_
      refine s0g (qv_pickF rfl rfl) ?_
      refine s0 (qv_pickF rfl rfl) ?_
      refine s0 (qv_move rfl) ?_
      refine s0g (qv_move rfl) ?_
      refine s0g (qv_len st_27 rfl) ?_
      refine sdg (qv_gtr rfl rfl) (fun c24 => ?_) (fun c24 => ?_)
      ·
        refine s0 (qv_pickF rfl rfl) ?_
        refine tl_nil (tp_normal ?_)
        refine tc_true rfl ?_
        refine tc_seq ?_
        refine tc_region ?_
        refine s0 (qv_assign rfl) ?_
        refine tl_nil (tp_normal ?_)
        refine tc_ret (tp_then_ret (tp_end1 rfl rfl ?_))
        intro w' hm
        exact ⟨by rw [decide_eq_false (fun h => by unfold few9 at h; omega)], hm.below⟩
      ·
        refine s0 (qv_pickF rfl rfl) ?_
        refine tl_nil (tp_normal ?_)
        refine tc_false rfl ?_
        refine tc_skip (tp_normal ?_)
        refine tc_seq ?_
        refine tc_seq ?_
        refine tc_region ?_
        refine s0 (qv_move rfl) ?_
        refine s0 (qv_len st_27 rfl) ?_
        refine s0 (qv_move rfl) ?_
        refine tl_nil (tp_normal ?_)
        refine tc_block (tc_loopS (fun (k : Nat) => [(28, .int .i64 (k : Int))]) (fun (k : Nat) => k ≤ l.length ∧ ∀ (j : Nat) u, j < k → l[j]? = some u → ¬ 10 < u.sends.l.length) (fun (k : Nat) => l.length - k) (0) ⟨Nat.zero_le _, fun _ _ h => absurd h (Nat.not_lt_zero _)⟩ ⟨rfl, trivial⟩ ?_)
        rintro k hI
        refine tc_seq ?_
        refine tc_region ?_
        refine sd (qv_lss rfl rfl) (fun c29 => ?_) (fun c29 => ?_)
        ·
          refine tl_nil (tp_normal ?_)
          refine tc_seq ?_
          refine tc_true rfl ?_
          refine tc_skip (tp_normal ?_)
          refine tc_seq ?_
          refine tc_block ?_
          refine tc_seq ?_
          refine tc_region ?_
          refine sn st_27 hl rfl rfl (by omega) (fun e30 he30 => ?_)
          refine s0 (qv_ldEW ag_34 hl Mem.has_base rfl he30) ?_
          refine tl_alloc ze_34 (by decide) (fun b6_2 => ?_)
          refine tl_storeL (i := 0) sz_34 (hl.szs _ (List.mem_of_getElem? he30)) (one_34 _) rfl rfl rfl rfl ?_
          refine tl_nil (tp_normal ?_)
          refine tc_seq ?_
          refine tc_region ?_
          refine s0 (qv_fa fo_34_7 rfl) ?_
          refine s0 (qv_ldB (i := 0) sc_32 rfl rfl rfl) ?_
          refine s0 (qv_len st_32 rfl) ?_
          refine sd (qv_gtr rfl rfl) (fun c35 => ?_) (fun c35 => ?_)
          ·
            refine tl_nil (tp_normal ?_)
            refine tc_true rfl ?_
            refine tc_seq ?_
            refine tc_region ?_
            refine s0 (qv_assign rfl) ?_
            refine tl_nil (tp_normal ?_)
            refine tc_ret (tp_block_ret (tp_then_ret (tp_then_ret (tp_block_ret (tp_then_ret (tp_end1 rfl rfl ?_))))))
            intro w' hm
            exact ⟨by rw [decide_eq_false (fun h => by have := h.2.2 _ (List.mem_of_getElem? he30); omega)], hm.below⟩
          ·
            refine tl_nil (tp_normal ?_)
            refine tc_false rfl ?_
            refine tc_skip (tp_block_normal (tp_normal ?_))
            refine tc_region ?_
            refine s0 (qv_succ rfl rfl (by omega)) ?_
            refine s0 (qv_move rfl) ?_
            exact tl_nil (tp_roundS (k + 1) ⟨by omega, none_stepG (P := fun _ (u : Use) => ¬ 10 < u.sends.l.length) hI.2 he30 (by omega)⟩ (by omega) ⟨rfl, trivial⟩ rfl rfl rfl rfl)
        ·
          refine tl_nil (tp_normal ?_)
          refine tc_seq ?_
          refine tc_false rfl ?_
          refine tc_exit (tp_then_exit (tp_then_exit (tp_block_exit (tp_normal ?_))))
          refine tc_seq ?_
          refine tc_region ?_
          refine s0 (qv_assign rfl) ?_
          refine tl_nil (tp_normal ?_)
          refine tc_ret (tp_end1 rfl rfl ?_)
          intro w' hm
          exact ⟨by rw [decide_eq_true (few9_all (by omega) (by omega) (by omega) hI.2)], hm.below⟩
set_option maxRecDepth 100000 in
theorem always_calls (w : World) (v : Int)  :
    Calls Try.prog 48 #[.int .i64 v] w (fun e w' => e = .returned (.agg (alwaysL v 24).toArray) ∧ Below w.heap.size w w') := by
  refine calls_of_tc (N := 13) (vs := [.int .i64 v]) Try.func48 rfl rfl (Nat.le_of_ble_eq_true rfl) ?_
  refine tc_seq ?_
  refine tc_region ?_
  refine tl_alloc ze_114 (by decide) (fun b2_0 => ?_)
  refine tl_nil (tp_normal ?_)
  refine tc_seq ?_
  refine tc_region ?_
  refine tl_alloc ze_114 (by decide) (fun b3_1 => ?_)
  refine tl_nil (tp_normal ?_)
  refine tc_seq ?_
  refine tc_seq ?_
  refine tc_region ?_
  refine s0 (qv_move rfl) ?_
  refine tl_nil (tp_normal ?_)
  refine tc_block (tc_loopB (fun (k : Nat) => [(5, .int .i64 (k : Int))]) (fun (k : Nat) => [(0, b3_1, .cells (alwaysL v k).toArray 114 (0, 0))]) (fun (k : Nat) => k ≤ 24) (fun (k : Nat) => 24 - k) (0) (Nat.zero_le _) ⟨rfl, trivial⟩ rfl ?_)
  rintro k hI
  refine tc_seq ?_
  refine tc_region ?_
  refine sd (qv_lss rfl rfl) (fun c6 => ?_) (fun c6 => ?_)
  ·
    refine tl_nil (tp_normal ?_)
    refine tc_seq ?_
    refine tc_true rfl ?_
    refine tc_skip (tp_normal ?_)
    refine tc_seq ?_
    refine tc_block ?_
    refine tc_seq ?_
    refine tc_region ?_
    refine s0 (qv_move rfl) ?_
    refine s0 (qv_assign rfl) ?_
    refine tl_nil (tp_normal ?_)
    refine tc_region ?_
    refine s0 (qv_move rfl) ?_
    refine s0 (qv_move rfl) ?_
    refine s0 (qv_iA at_114 rfl rfl (by omega)) ?_
    refine tl_store1 (i := 0) sz_3 rfl rfl rfl rfl rfl (by simp [alwaysL]; omega) ?_
    refine tl_nil (tp_block_normal (tp_normal ?_))
    refine tc_region ?_
    refine s0 (qv_succ rfl rfl (by omega)) ?_
    refine s0 (qv_move rfl) ?_
    exact tl_nil (tp_roundB (k + 1) (by omega) (by omega) ⟨rfl, trivial⟩ rfl rfl (by simp only [Nat.zero_add, Nat.mul_one, Int.toNat_natCast, always_step (show k < 24 by omega)]; rfl) rfl)
  ·
    refine tl_nil (tp_normal ?_)
    refine tc_seq ?_
    refine tc_false rfl ?_
    refine tc_exit (tp_then_exit (tp_then_exit (tp_block_exit (tp_normal ?_))))
    refine tc_seq ?_
    obtain rfl : k = 24 := by omega
    refine tc_region ?_
    refine s0 (qv_ldBW (i := 0) ag_114 rfl rfl rfl) ?_
    refine tl_storeO (i := 1) sz_114 rfl rfl rfl rfl rfl rfl rfl ?_
    refine tl_nil (tp_normal ?_)
    refine tc_ret (tp_endC (i := 1) rfl rfl ag_114 rfl rfl ?_)
    intro w' hm
    exact ⟨rfl, hm.below⟩
end Go.Q
namespace Go.Q
open Go Go.Proofs Go.RowKit
theorem ze_133 : Zero Try.prog 133 #[.int .i64 0, .int .i64 0, .int .i64 0] := fun w => ⟨.agg #[.int .i64 0, .int .i64 0, .int .i64 0], by kernel_rfl, rfl⟩
theorem fo_56_0 : FOff Try.prog 56 0 0 := fun b o w => by kernel_rfl
theorem fo_56_1 : FOff Try.prog 56 1 1 := fun b o w => by kernel_rfl
theorem fo_56_2 : FOff Try.prog 56 2 2 := fun b o w => by kernel_rfl
theorem ba_133 : BuildArr Try.prog 133 1 #[.int .i64 0, .int .i64 0, .int .i64 0] := ⟨_, _, Try.underlying133, sz_3, ze_133⟩
theorem sz_133 : Size Try.prog 133 3 := fun w => by kernel_rfl
theorem ag_133 : Agg Try.prog 133 3 := fun w => ⟨by kernel_rfl, by kernel_rfl⟩
theorem st_22 : SliceTy Try.prog 22 4 := ⟨56, by kernel_rfl, fun w => by kernel_rfl⟩
theorem ag_56 : Agg Try.prog 56 4 := fun w => ⟨by kernel_rfl, by kernel_rfl⟩
theorem ze_56 : Zero Try.prog 56 #[.int .i64 0, .int .i64 0, .int .i64 0, .int .i64 0] := fun w => ⟨.agg #[.int .i64 0, .int .i64 0, .int .i64 0, .int .i64 0], by kernel_rfl, rfl⟩
theorem sz_56 : Size Try.prog 56 4 := fun w => by kernel_rfl
theorem fo_56_3 : FOff Try.prog 56 3 3 := fun b o w => by kernel_rfl
theorem fn_57 : IsFn Try.prog 57 := isFn_of Try.func57 (by kernel_rfl) rfl
theorem fn_56 : IsFn Try.prog 56 := isFn_of Try.func56 (by kernel_rfl) rfl
theorem mt_131 : MapTy Try.prog 131 133 3 := Try.underlying131
theorem mz_3 (w : World) : (zeroValue 3).run Try.prog w = .ok (.int .i64 0) w := by kernel_rfl
theorem fn_18 : IsFn Try.prog 18 := isFn_of Try.func18 (by kernel_rfl) rfl
theorem fn_58 : IsFn Try.prog 58 := isFn_of Try.func58 (by kernel_rfl) rfl
theorem st_135 : SliceTy Try.prog 135 3 := ⟨133, by kernel_rfl, fun w => by kernel_rfl⟩
theorem at_133 : ArrTy Try.prog 133 3 1 := ⟨3, by kernel_rfl, fun w => by kernel_rfl⟩
theorem ze_54 : Zero Try.prog 54 #[.int .i64 0, .int .i64 0, .int .i64 0, .int .i64 0, .int .i64 0, .int .i64 0] := fun w => ⟨.agg #[.int .i64 0, .int .i64 0, .int .i64 0, .int .i64 0, .int .i64 0, .int .i64 0], by kernel_rfl, rfl⟩
theorem bt_54 : BuildTy Try.prog 54 #[(0, 1), (1, 1), (2, 1), (3, 1), (4, 1), (5, 1)] #[.int .i64 0, .int .i64 0, .int .i64 0, .int .i64 0, .int .i64 0, .int .i64 0] := ⟨_, Try.underlying54, fun w => by kernel_rfl, ze_54⟩
theorem sz_54 : Size Try.prog 54 6 := fun w => by kernel_rfl
theorem fo_54_4 : FOff Try.prog 54 4 4 := fun b o w => by kernel_rfl
theorem fo_54_1 : FOff Try.prog 54 1 1 := fun b o w => by kernel_rfl
theorem fo_54_0 : FOff Try.prog 54 0 0 := fun b o w => by kernel_rfl
theorem fo_54_2 : FOff Try.prog 54 2 2 := fun b o w => by kernel_rfl
theorem ag_54 : Agg Try.prog 54 6 := fun w => ⟨by kernel_rfl, by kernel_rfl⟩
theorem bsl_40_1 : BuildSl Try.prog 40 1 54 6 #[.int .i64 0, .int .i64 0, .int .i64 0, .int .i64 0, .int .i64 0, .int .i64 0] := ⟨Try.underlying40, sz_54, by decide, by decide, _, ze_54, by kernel_rfl⟩
theorem apt_40 : AppTy Try.prog 40 54 6 48 := ⟨Try.underlying40, ⟨.agg #[.int .i64 0, .int .i64 0, .int .i64 0, .int .i64 0, .int .i64 0, .int .i64 0], by kernel_rfl, rfl⟩, by decide⟩
theorem bt_56 : BuildTy Try.prog 56 #[(0, 1), (1, 1), (2, 1), (3, 1)] #[.int .i64 0, .int .i64 0, .int .i64 0, .int .i64 0] := ⟨_, Try.underlying56, fun w => by kernel_rfl, ze_56⟩
theorem bsl_22_1 : BuildSl Try.prog 22 1 56 4 #[.int .i64 0, .int .i64 0, .int .i64 0, .int .i64 0] := ⟨Try.underlying22, sz_56, by decide, by decide, _, ze_56, by kernel_rfl⟩
theorem apt_22 : AppTy Try.prog 22 56 4 32 := ⟨Try.underlying22, ⟨.agg #[.int .i64 0, .int .i64 0, .int .i64 0, .int .i64 0], by kernel_rfl, rfl⟩, by decide⟩
theorem bsl_135_1 : BuildSl Try.prog 135 1 133 3 #[.int .i64 0, .int .i64 0, .int .i64 0] := ⟨Try.underlying135, sz_133, by decide, by decide, _, ze_133, by kernel_rfl⟩
theorem apt_135 : AppTy Try.prog 135 133 3 24 := ⟨Try.underlying135, ⟨.agg #[.int .i64 0, .int .i64 0, .int .i64 0], by kernel_rfl, rfl⟩, by decide⟩
theorem one_54 (x : Posting) : ∀ u ∈ encPost x, u.oneCell' = true := by
  intro u hu
  simp [encPost] at hu
  rcases hu with rfl | rfl | rfl | rfl | rfl | rfl <;> rfl
theorem one_56 (x : Rest) : ∀ u ∈ encRest x, u.oneCell' = true := by
  intro u hu
  simp [encRest] at hu
  rcases hu with rfl | rfl | rfl | rfl <;> rfl
theorem one_133 (x : K3) : ∀ u ∈ encK x, u.oneCell' = true := by
  intro u hu
  simp [encK] at hu
  rcases hu with rfl | rfl | rfl <;> rfl
set_option maxRecDepth 100000 in
theorem key_calls (w : World) (x : Rest)  :
    Calls Try.prog 57 #[.agg (encRest x).toArray] w (fun e w' => e = .returned (encA3 (keyR x)) ∧ Below w.heap.size w w') := by
  refine calls_of_tc (N := 10) (vs := [.agg (encRest x).toArray]) Try.func57 rfl rfl (Nat.le_of_ble_eq_true rfl) ?_
  refine tc_seq ?_
  refine tc_region ?_
  refine tl_box rfl (by decide) (fun b1_0 => ?_)
  refine tl_alloc ze_133 (by decide) (fun b2_1 => ?_)
  refine tl_nil (tp_normal ?_)
  refine tc_seq ?_
  refine tc_region ?_
  refine s0 (qv_fa fo_56_0 rfl) ?_
  refine s0 (qv_ldB (i := 1) sc_3 rfl rfl rfl) ?_
  refine s0 (qv_fa fo_56_1 rfl) ?_
  refine s0 (qv_ldB (i := 1) sc_3 rfl rfl rfl) ?_
  refine s0 (qv_fa fo_56_2 rfl) ?_
  refine s0 (qv_ldB (i := 1) sc_3 rfl rfl rfl) ?_
  refine s0 (qv_buildA ba_133 rfl rfl) ?_
  refine tl_storeO (i := 0) sz_133 rfl rfl rfl rfl rfl rfl rfl ?_
  refine tl_nil (tp_normal ?_)
  refine tc_ret (tp_endC (i := 0) rfl rfl ag_133 rfl rfl ?_)
  intro w' hm
  exact ⟨rfl, hm.below⟩
theorem order_callsK (w : World) (x y : K3) : Calls Try.prog 56 #[encA3 x, encA3 y] w (fun e w' => e = .returned (.int .i64 (cmp3 x y)) ∧ Below w.heap.size w w') := (Go.D.order_calls w x.1 x.2.1 x.2.2 y.1 y.2.1 y.2.2).mono fun e w' ⟨he, hb⟩ => ⟨he, hb.os, hb.tape, hb.output, hb.size, hb.block⟩
set_option maxRecDepth 100000 in
set_option maxHeartbeats 8000000 in
theorem period_calls (w : World) (r : List Rest) (ra : Option Addr) (rc : Nat) (t : List Tariff) (ta : Option Addr) (tc : Nat) (n : Net) (na : Option Addr) (nc : Nat) (l : List Use) (la : Option Addr) (lc : Nat) (tick : Int) (hr : SlIn w 4 encRest ra r) (ht : SlIn w 3 encTar ta t) (hn : SlIn w 50 encLink na n.links) (hk : NetOk n) (hl : SlIn w 8 encUse la l) (hins : ∀ u ∈ l, SlIn w 3 encSend u.sends.a u.sends.l ∧ u.sends.l.length ≤ u.sends.c) :
    Calls Try.prog 20 #[.slice ra r.length rc, .slice ta t.length tc, .agg (netA n na nc), .slice la l.length lc, .int .i64 tick] w (fun e w' => ∃ q : (Option Addr × Nat) × (Option Addr × Nat), e = .returned (.tuple #[.slice q.1.1 (period r t n l tick).1.length q.1.2, .slice q.2.1 (period r t n l tick).2.1.length q.2.2, .int .i64 (period r t n l tick).2.2]) ∧ Below w.heap.size w w' ∧ (((period r t n l tick).1.length ≤ q.1.2 ∧ SlAt w' w.heap.size w'.heap.size 6 encPost q.1.1 (period r t n l tick).1) ∧ ((period r t n l tick).2.1.length ≤ q.2.2 ∧ SlAt w' w.heap.size w'.heap.size 4 encRest q.2.1 (period r t n l tick).2.1))) := by
  have hlent := ht.len
  simp only [maxLen] at hlent
  have hlenn := hn.len
  simp only [maxLen] at hlenn
  have hlenu := hl.len
  simp only [maxLen] at hlenu
  have hlenr := hr.len
  simp only [maxLen] at hlenr
  refine calls_of_tc (N := 189) (vs := [.slice ra r.length rc, .slice ta t.length tc, .agg (netA n na nc), .slice la l.length lc, .int .i64 tick]) Try.func20 rfl rfl (Nat.le_of_ble_eq_true rfl) ?_
  refine tc_rowRoom ?_
  refine tc_rowRoom ?_
  refine tc_rowRoom ?_
  refine tc_seq ?_
  refine tc_region ?_
  refine tl_box rfl (by decide) (fun b7_0 => ?_)
  refine s0 (qv_assign rfl) ?_
  refine s0 (qv_assign rfl) ?_
  refine s0 (qv_assign rfl) ?_
  refine tl_nil (tp_normal ?_)
  refine tc_seq ?_
  refine tc_seq ?_
  refine tc_region ?_
  refine s0 (qv_move rfl) ?_
  refine s0 (qv_move rfl) ?_
  refine s0 (qv_call fn_16 rfl (fun w hm => mcheck_calls w t ta tc l la lc (ht.into Mem.has_base hm) (hl.into Mem.has_base hm))) ?_
  refine s0 (qv_assign rfl) ?_
  refine tl_nil (tp_normal ?_)
  refine tc_seq ?_
  refine tc_region ?_
  refine s0 (qv_move rfl) ?_
  refine sd (qv_neq rfl rfl) (fun c34 => ?_) (fun c34 => ?_)
  ·
    refine tl_nil (tp_normal ?_)
    refine tc_true rfl ?_
    refine tc_seq ?_
    refine tc_region ?_
    refine s0 (qv_move rfl) ?_
    refine s0 (qv_assign rfl) ?_
    refine s0 (qv_assign rfl) ?_
    refine s0 (qv_assign rfl) ?_
    refine tl_nil (tp_normal ?_)
    refine tc_ret (tp_then_ret (tp_end3 rfl rfl rfl rfl ?_))
    intro w' hm
    rw [period_check (by omega)]
    exact ⟨((none, 0), (none, 0)), rfl, hm.below, ⟨Nat.le_refl 0, SlAt.nothing⟩, Nat.le_refl 0, SlAt.nothing⟩
  ·
    refine tl_nil (tp_normal ?_)
    refine tc_false rfl ?_
    refine tc_skip (tp_normal ?_)
    refine tc_seq ?_
    refine tc_seq ?_
    have hck : meterCheck t l = 0 := by omega
    have hmz := meterCheck_zero hck
    have htl := hmz.tl
    have hll := hmz.ll
    refine tc_region ?_
    refine s0 (qv_move rfl) ?_
    refine sd (qv_call fn_49 rfl (fun w hm => within_calls w tick (1000000))) (fun c37 => ?_) (fun c37 => ?_)
    ·
      refine s0 (qv_not rfl) ?_
      refine tl_nil (tp_normal ?_)
      refine tc_false rfl ?_
      refine tc_skip (tp_normal ?_)
      refine tc_seq ?_
      have htk : inTo tick 1000000 := c37
      refine tc_region ?_
      refine tl_makeMap (fun b39_1 => ?_)
      refine s0 (qv_assign rfl) ?_
      refine tl_nil (tp_normal ?_)
      refine tc_seq ?_
      refine tc_seq ?_
      refine tc_region ?_
      refine s0 (qv_move rfl) ?_
      refine s0 (qv_len st_22 rfl) ?_
      refine s0 (qv_move rfl) ?_
      refine tl_nil (tp_normal ?_)
      refine tc_block (tc_loopB (fun (q : Nat × Obj) => [(42, .int .i64 (q.1 : Int))]) (fun (q : Nat × Obj) => [(0, b39_1, q.2)]) (fun (q : Nat × Obj) => q.1 ≤ r.length ∧ restsBad t none r = restsBad t (prevR r q.1) (r.drop q.1) ∧ MapIs encA3 (Value.int .i64) (restM (r.take q.1)) q.2) (fun (q : Nat × Obj) => r.length - q.1) ((0, .map #[] 0)) ⟨Nat.zero_le _, rfl, MapIs.nil _ _⟩ ⟨rfl, trivial⟩ rfl ?_)
      rintro q hI
      refine tc_seq ?_
      refine tc_region ?_
      refine sd (qv_lss rfl rfl) (fun c43 => ?_) (fun c43 => ?_)
      ·
        refine tl_nil (tp_normal ?_)
        refine tc_seq ?_
        refine tc_true rfl ?_
        refine tc_skip (tp_normal ?_)
        refine tc_seq ?_
        refine tc_block ?_
        refine tc_seq ?_
        refine tc_region ?_
        refine s0 (qv_move rfl) ?_
        refine sn st_22 hr rfl rfl (by omega) (fun e45 he45 => ?_)
        refine s0 (qv_ldEW ag_56 hr Mem.has_base rfl he45) ?_
        refine tl_alloc ze_56 (by decide) (fun b16_2 => ?_)
        refine s0 (qv_assign rfl) ?_
        refine tl_storeL (i := 0) sz_56 (hr.szs _ (List.mem_of_getElem? he45)) (one_56 _) rfl rfl rfl rfl ?_
        refine tl_nil (tp_normal ?_)
        refine tc_seq ?_
        refine tc_seq ?_
        refine tc_draws mixed (by kernel_rfl) ?_
        refine q0 (qv_move rfl) ?_
        refine q0 (qv_fa fo_56_2 rfl) ?_
        refine q0 (qv_ldB (i := 0) sc_3 rfl rfl rfl) ?_
        refine q0 (qv_fa fo_56_1 rfl) ?_
        refine q0 (qv_ldB (i := 0) sc_3 rfl rfl rfl) ?_
        refine q0 (qv_fa fo_56_0 rfl) ?_
        refine q0 (qv_ldB (i := 0) sc_3 rfl rfl rfl) ?_
        refine qd (qv_call fn_50 rfl (fun w hm => party_calls w t ta tc e45.kind e45.house e45.customer (by omega))) (fun c54 => ?_) (fun c54 => ?_)
        ·
          refine q0 (qv_not rfl) ?_
          refine q0 (qv_move rfl) ?_
          refine q0g (qv_fa fo_56_3 rfl) ?_
          refine q0g (qv_ldB (i := 0) sc_3 rfl rfl rfl) ?_
          refine qdg (qv_lss rfl rfl) (fun c59 => ?_) (fun c59 => ?_)
          ·
            refine q0 (qv_pickF rfl rfl) ?_
            refine q0 (qv_move rfl) ?_
            refine qk ?_
            refine qk ?_
            refine qk ?_
            refine q0 (qv_pickT rfl rfl) ?_
            refine q0 (qv_move rfl) ?_
            refine qk ?_
            refine qk ?_
            refine qk ?_
            refine qk ?_
            refine qk ?_
            refine qk ?_
            refine qk ?_
            refine qk ?_
            refine qk ?_
            refine qk ?_
            refine qk ?_
            refine qk ?_
            refine qk ?_
            refine qk ?_
            refine q0 (qv_pickT rfl rfl) ?_
            refine tq_nil (tp_normal ?_)
            refine tc_true rfl ?_
            refine tc_seq ?_
            refine tc_region ?_
            refine s0 (qv_assign rfl) ?_
            refine s0 (qv_assign rfl) ?_
            refine s0 (qv_assign rfl) ?_
            refine tl_nil (tp_normal ?_)
            refine tc_ret (tp_then_ret (tp_block_ret (tp_then_ret (tp_then_ret (tp_block_ret (tp_then_ret (tp_end3 rfl rfl rfl rfl ?_)))))))
            intro w' hm
            rw [period_rest hck htk (by rw [hI.2.1, restsBad_stop he45 (by first | exact .inl c54 | exact .inr (.inr (.inr ⟨e73, prevR_at (by omega) he73, cmp3_ge c79⟩)) | exact .inr (.inl c59) | exact .inr (.inr (.inl c64)))])]
            exact ⟨((none, 0), (none, 0)), rfl, hm.below, ⟨Nat.le_refl 0, SlAt.nothing⟩, Nat.le_refl 0, SlAt.nothing⟩
          ·
            refine q0 (qv_pickF rfl rfl) ?_
            refine q0 (qv_move rfl) ?_
            refine q0g (qv_fa fo_56_3 rfl) ?_
            refine q0g (qv_ldB (i := 0) sc_3 rfl rfl rfl) ?_
            refine qdg (qv_gtr rfl rfl) (fun c64 => ?_) (fun c64 => ?_)
            ·
              refine q0 (qv_pickF rfl rfl) ?_
              refine q0 (qv_move rfl) ?_
              refine qk ?_
              refine qk ?_
              refine qk ?_
              refine qk ?_
              refine qk ?_
              refine qk ?_
              refine qk ?_
              refine qk ?_
              refine qk ?_
              refine qk ?_
              refine qk ?_
              refine qk ?_
              refine qk ?_
              refine qk ?_
              refine q0 (qv_pickT rfl rfl) ?_
              refine tq_nil (tp_normal ?_)
              refine tc_true rfl ?_
              refine tc_seq ?_
              refine tc_region ?_
              refine s0 (qv_assign rfl) ?_
              refine s0 (qv_assign rfl) ?_
              refine s0 (qv_assign rfl) ?_
              refine tl_nil (tp_normal ?_)
              refine tc_ret (tp_then_ret (tp_block_ret (tp_then_ret (tp_then_ret (tp_block_ret (tp_then_ret (tp_end3 rfl rfl rfl rfl ?_)))))))
              intro w' hm
              rw [period_rest hck htk (by rw [hI.2.1, restsBad_stop he45 (by first | exact .inl c54 | exact .inr (.inr (.inr ⟨e73, prevR_at (by omega) he73, cmp3_ge c79⟩)) | exact .inr (.inl c59) | exact .inr (.inr (.inl c64)))])]
              exact ⟨((none, 0), (none, 0)), rfl, hm.below, ⟨Nat.le_refl 0, SlAt.nothing⟩, Nat.le_refl 0, SlAt.nothing⟩
            ·
              refine q0 (qv_pickF rfl rfl) ?_
              refine q0 (qv_move rfl) ?_
              refine q0g (qv_move rfl) ?_
              refine qdg (qv_gtr rfl rfl) (fun c68 => ?_) (fun c68 => ?_)
              ·
                refine q0g (qv_move rfl) ?_
                refine q0g (qv_move rfl) ?_
                refine q0g (qv_move rfl) ?_
                refine q0g (qv_subI rfl rfl (by omega)) ?_
                refine qig st_22 hr rfl rfl (by omega) (fun e73 he73 => ?_)
                refine q0g (qv_ldEW ag_56 hr Mem.has_base rfl he73) ?_
                refine q0g (qv_call fn_57 rfl (fun w hm => key_calls w e73)) ?_
                refine q0g (qv_ldBW (i := 0) ag_56 rfl rfl rfl) ?_
                refine q0g (qv_call fn_57 rfl (fun w hm => key_calls w e45)) ?_
                refine q0g (qv_call fn_56 rfl (fun w hm => order_callsK w (keyR e73) (keyR e45))) ?_
                refine qdg (qv_geq rfl rfl) (fun c79 => ?_) (fun c79 => ?_)
                ·
                  refine q0g (qv_pickT rfl rfl) ?_
                  refine q0 (qv_pickF rfl rfl) ?_
                  refine tq_nil (tp_normal ?_)
                  refine tc_true rfl ?_
                  refine tc_seq ?_
                  refine tc_region ?_
                  refine s0 (qv_assign rfl) ?_
                  refine s0 (qv_assign rfl) ?_
                  refine s0 (qv_assign rfl) ?_
                  refine tl_nil (tp_normal ?_)
                  refine tc_ret (tp_then_ret (tp_block_ret (tp_then_ret (tp_then_ret (tp_block_ret (tp_then_ret (tp_end3 rfl rfl rfl rfl ?_)))))))
                  intro w' hm
                  rw [period_rest hck htk (by rw [hI.2.1, restsBad_stop he45 (by first | exact .inl c54 | exact .inr (.inr (.inr ⟨e73, prevR_at (by omega) he73, cmp3_ge c79⟩)) | exact .inr (.inl c59) | exact .inr (.inr (.inl c64)))])]
                  exact ⟨((none, 0), (none, 0)), rfl, hm.below, ⟨Nat.le_refl 0, SlAt.nothing⟩, Nat.le_refl 0, SlAt.nothing⟩
                ·
                  refine q0g (qv_pickT rfl rfl) ?_
                  refine q0 (qv_pickF rfl rfl) ?_
                  refine tq_nil (tp_normal ?_)
                  refine tc_false rfl ?_
                  refine tc_skip (tp_normal ?_)
                  refine tc_drawU 5 5 mixed (by kernel_rfl) ?_
                  refine q0 (qv_move rfl) ?_
                  refine q0 (qv_ldBW (i := 0) ag_56 rfl rfl rfl) ?_
                  refine q0 (qv_call fn_57 rfl (fun w hm => key_calls w e45)) ?_
                  refine q0 (qv_fa fo_56_3 rfl) ?_
                  refine q0 (qv_ldB (i := 0) sc_3 rfl rfl rfl) ?_
                  refine tq_up ?_
                  refine tu_tail rfl rfl rfl (by kernel_rfl) ?_
                  refine tl_mapUpdate (k := (keyR e45)) (v := e45.milli) 1 mt_131 key_133 hI.2.2 (fun om1 hmn1 => ?_)
                  refine tl_nil (tp_block_normal (tp_normal ?_))
                  refine tc_region ?_
                  refine s0 (qv_succ rfl rfl (by omega)) ?_
                  refine s0 (qv_move rfl) ?_
                  exact tl_nil (tp_roundB (q.1 + 1, om1) ⟨by simp only; omega, by rw [hI.2.1]; exact restsBad_step he45 (rest_not_bad c54 c59 c64 (by first | exact prevR_zero (by omega) | exact prevR_all (by omega) he73 (cmp3_not c79))), by rw [restM_take he45]; exact hmn1⟩ (by simp only; omega) ⟨rfl, trivial⟩ rfl rfl rfl rfl)
              ·
                refine q0g (qv_move rfl) ?_
                refine qk ?_
                refine qk ?_
                refine qk ?_
                refine qk ?_
                refine qk ?_
                refine qk ?_
                refine qk ?_
                refine qk ?_
                refine qk ?_
                refine qk ?_
                refine q0g (qv_pickF rfl rfl) ?_
                refine q0 (qv_pickF rfl rfl) ?_
                refine tq_nil (tp_normal ?_)
                refine tc_false rfl ?_
                refine tc_skip (tp_normal ?_)
                refine tc_drawU 5 5 mixed (by kernel_rfl) ?_
                refine q0 (qv_move rfl) ?_
                refine q0 (qv_ldBW (i := 0) ag_56 rfl rfl rfl) ?_
                refine q0 (qv_call fn_57 rfl (fun w hm => key_calls w e45)) ?_
                refine q0 (qv_fa fo_56_3 rfl) ?_
                refine q0 (qv_ldB (i := 0) sc_3 rfl rfl rfl) ?_
                refine tq_up ?_
                refine tu_tail rfl rfl rfl (by kernel_rfl) ?_
                refine tl_mapUpdate (k := (keyR e45)) (v := e45.milli) 1 mt_131 key_133 hI.2.2 (fun om2 hmn2 => ?_)
                refine tl_nil (tp_block_normal (tp_normal ?_))
                refine tc_region ?_
                refine s0 (qv_succ rfl rfl (by omega)) ?_
                refine s0 (qv_move rfl) ?_
                exact tl_nil (tp_roundB (q.1 + 1, om2) ⟨by simp only; omega, by rw [hI.2.1]; exact restsBad_step he45 (rest_not_bad c54 c59 c64 (by first | exact prevR_zero (by omega) | exact prevR_all (by omega) he73 (cmp3_not c79))), by rw [restM_take he45]; exact hmn2⟩ (by simp only; omega) ⟨rfl, trivial⟩ rfl rfl rfl rfl)
        ·
          refine q0 (qv_not rfl) ?_
          refine q0 (qv_move rfl) ?_
          refine qk ?_
          refine qk ?_
          refine qk ?_
          refine q0 (qv_pickT rfl rfl) ?_
          refine q0 (qv_move rfl) ?_
          refine qk ?_
          refine qk ?_
          refine qk ?_
          refine q0 (qv_pickT rfl rfl) ?_
          refine q0 (qv_move rfl) ?_
          refine qk ?_
          refine qk ?_
          refine qk ?_
          refine qk ?_
          refine qk ?_
          refine qk ?_
          refine qk ?_
          refine qk ?_
          refine qk ?_
          refine qk ?_
          refine qk ?_
          refine qk ?_
          refine qk ?_
          refine qk ?_
          refine q0 (qv_pickT rfl rfl) ?_
          refine tq_nil (tp_normal ?_)
          refine tc_true rfl ?_
          refine tc_seq ?_
          refine tc_region ?_
          refine s0 (qv_assign rfl) ?_
          refine s0 (qv_assign rfl) ?_
          refine s0 (qv_assign rfl) ?_
          refine tl_nil (tp_normal ?_)
          refine tc_ret (tp_then_ret (tp_block_ret (tp_then_ret (tp_then_ret (tp_block_ret (tp_then_ret (tp_end3 rfl rfl rfl rfl ?_)))))))
          intro w' hm
          rw [period_rest hck htk (by rw [hI.2.1, restsBad_stop he45 (by first | exact .inl c54 | exact .inr (.inr (.inr ⟨e73, prevR_at (by omega) he73, cmp3_ge c79⟩)) | exact .inr (.inl c59) | exact .inr (.inr (.inl c64)))])]
          exact ⟨((none, 0), (none, 0)), rfl, hm.below, ⟨Nat.le_refl 0, SlAt.nothing⟩, Nat.le_refl 0, SlAt.nothing⟩
      ·
        refine tl_nil (tp_normal ?_)
        refine tc_seq ?_
        refine tc_false rfl ?_
        refine tc_exit (tp_then_exit (tp_then_exit (tp_block_exit (tp_normal ?_))))
        refine tc_seq ?_
        refine tc_seq ?_
        have hrb : restsBad t none r = false := by rw [hI.2.1, restsBad_end (by omega)]
        have hrf := rests_fine hrb
        refine tc_region ?_
        refine s0 (qv_move rfl) ?_
        refine s0 (qv_len st_27 rfl) ?_
        refine s0 (qv_move rfl) ?_
        refine tl_nil (tp_normal ?_)
        refine tc_block (tc_loopB (fun (qq : Nat × Obj) => [(90, .int .i64 (qq.1 : Int))]) (fun (qq : Nat × Obj) => [(0, b39_1, qq.2)]) (fun (qq : Nat × Obj) => qq.1 ≤ l.length ∧ chargeErrs t n l = chargeErrs t n (l.drop qq.1) ∧ MapIs encA3 (Value.int .i64) (useM t n (restM r) (l.take qq.1)) qq.2) (fun (qq : Nat × Obj) => l.length - qq.1) ((0, q.2)) ⟨Nat.zero_le _, rfl, by (have h_ := hI.2.2; rw [show r.take q.1 = r from List.take_of_length_le (by omega)] at h_; exact h_)⟩ ⟨rfl, trivial⟩ rfl ?_)
        rintro qq hJ
        refine tc_seq ?_
        refine tc_region ?_
        refine sd (qv_lss rfl rfl) (fun c91 => ?_) (fun c91 => ?_)
        ·
          refine tl_nil (tp_normal ?_)
          refine tc_seq ?_
          refine tc_true rfl ?_
          refine tc_skip (tp_normal ?_)
          refine tc_seq ?_
          refine tc_block ?_
          refine tc_seq ?_
          refine tc_region ?_
          refine sn st_27 hl rfl rfl (by omega) (fun e92 he92 => ?_)
          refine s0 (qv_ldEW ag_34 hl Mem.has_base rfl he92) ?_
          refine tl_alloc ze_34 (by decide) (fun b18_3 => ?_)
          refine tl_storeL (i := 0) sz_34 (hl.szs _ (List.mem_of_getElem? he92)) (one_34 _) rfl rfl rfl rfl ?_
          refine tl_nil (tp_normal ?_)
          refine tc_seq ?_
          refine tc_region ?_
          refine s0 (qv_move rfl) ?_
          refine s0 (qv_ldBW (i := 2) ag_26 rfl rfl rfl) ?_
          refine s0 (qv_ldBW (i := 0) ag_34 rfl rfl rfl) ?_
          refine s0 (qv_call fn_18 rfl (fun w hm => charge_calls w t ta tc n na nc e92 (ht.into Mem.has_base hm) (hn.into Mem.has_base hm) hk ((hins e92 (List.mem_of_getElem? he92)).1.into Mem.has_base hm))) ?_
          refine s0 (qv_move rfl) ?_
          refine s0 (qv_extract rfl rfl) ?_
          refine s0 (qv_extract rfl rfl) ?_
          refine s0 (qv_assign rfl) ?_
          refine s0 (qv_assign rfl) ?_
          refine tl_nil (tp_normal ?_)
          refine tc_seq ?_
          refine tc_seq ?_
          refine tc_region ?_
          refine s0 (qv_move rfl) ?_
          refine sd (qv_neq rfl rfl) (fun c102 => ?_) (fun c102 => ?_)
          ·
            refine tl_nil (tp_normal ?_)
            refine tc_true rfl ?_
            refine tc_seq ?_
            refine tc_region ?_
            refine s0 (qv_move rfl) ?_
            refine s0 (qv_assign rfl) ?_
            refine s0 (qv_assign rfl) ?_
            refine s0 (qv_assign rfl) ?_
            refine tl_nil (tp_normal ?_)
            refine tc_ret (tp_then_ret (tp_block_ret (tp_then_ret (tp_then_ret (tp_block_ret (tp_then_ret (tp_end3 rfl rfl rfl rfl ?_)))))))
            intro w' hm
            rw [period_charge hck htk hrb (by rw [hJ.2.1, chargeErrs_stop he92 c102]; exact c102), hJ.2.1, chargeErrs_stop he92 c102]
            exact ⟨((none, 0), (none, 0)), rfl, hm.below, ⟨Nat.le_refl 0, SlAt.nothing⟩, Nat.le_refl 0, SlAt.nothing⟩
          ·
            refine tl_nil (tp_normal ?_)
            refine tc_false rfl ?_
            refine tc_skip (tp_normal ?_)
            have hlk := sums_take (t := t) (n := n) hrf.2 (by omega) qq.1 (keyU e92)
            have hcb := charge_bound t n e92
            have hle := look_ensure (useM t n (restM r) (l.take qq.1)) (keyU e92) 0
            refine tc_drawV 13 mixed (by kernel_rfl) (hD_erase 1) ?_
            refine tu_take (i := 0) (ho := rfl) (qv_move rfl) ?_ (by kernel_rfl) (by kernel_rfl)
            refine tu_take (i := 1) (ho := rfl) (qv_fa fo_34_2 rfl) ?_ (by kernel_rfl) (by kernel_rfl)
            refine tu_take (i := 2) (ho := rfl) (qv_ldB (i := 0) sc_3 rfl rfl rfl) ?_ (by kernel_rfl) (by kernel_rfl)
            refine tu_take (i := 3) (ho := rfl) (qv_fa fo_34_1 rfl) ?_ (by kernel_rfl) (by kernel_rfl)
            refine tu_take (i := 4) (ho := rfl) (qv_ldB (i := 0) sc_3 rfl rfl rfl) ?_ (by kernel_rfl) (by kernel_rfl)
            refine tu_take (i := 5) (ho := rfl) (qv_fa fo_34_0 rfl) ?_ (by kernel_rfl) (by kernel_rfl)
            refine tu_take (i := 6) (ho := rfl) (qv_ldB (i := 0) sc_3 rfl rfl rfl) ?_ (by kernel_rfl) (by kernel_rfl)
            refine tu_take (i := 7) (ho := rfl) (qv_buildA ba_133 rfl rfl) ?_ (by kernel_rfl) (by kernel_rfl)
            refine tu_take (i := 9) (ho := rfl) (qv_move rfl) ?_ (by kernel_rfl) (by kernel_rfl)
            refine tu_2 8 11 (by kernel_rfl) (by kernel_rfl) (by kernel_rfl) ?_ ?_
            ·
              refine tg_q (qv_lookupM (zv := 0) (k := (keyU e92)) 1 mt_131 key_133 hJ.2.2 mz_3 rfl rfl rfl) ?_ (fun w h => hD_erase 1 w h)
              refine tu_take (i := 10) (ho := rfl) (qv_addI rfl rfl (by omega)) ?_ (by kernel_rfl) (by kernel_rfl)
              refine tu_one 11 ?_ (by kernel_rfl) (by kernel_rfl) (by kernel_rfl)
              refine tg_mapEntry (zv := 0) (k := (keyU e92)) 1 mt_131 key_133 hJ.2.2 mz_3 (fun om3 bn3 hst3 => ?_) (fun o_ w h => hD_eraseSet 1 _ w h)
              refine tu_take (i := 12) (ho := rfl) (qv_extract rfl rfl) ?_ (by kernel_rfl) (by kernel_rfl)
              refine tu_tail rfl rfl rfl (by kernel_rfl) ?_
              refine tl_entryStore 1 hst3 (fun om4 hmm4 => ?_)
              have hmn4 : MapIs encA3 (Value.int .i64) (putM (useM t n (restM r) (l.take qq.1)) (keyU e92) (look (useM t n (restM r) (l.take qq.1)) (keyU e92) 0 + (charge t n e92).1)) om4 := by (have h_ := hmm4; simp only [look_ensure, setAt_ensure] at h_; exact h_)
              refine tl_nil (tp_block_normal (tp_normal ?_))
              refine tc_region ?_
              refine s0 (qv_succ rfl rfl (by omega)) ?_
              refine s0 (qv_move rfl) ?_
              exact tl_nil (tp_roundB (qq.1 + 1, om4) ⟨by simp only; omega, by rw [hJ.2.1]; exact chargeErrs_step he92 (by omega), by rw [useM_take he92]; exact hmn4⟩ (by simp only; omega) ⟨rfl, trivial⟩ rfl rfl rfl rfl)
            ·
              refine tg_mapEntry (zv := 0) (k := (keyU e92)) 1 mt_131 key_133 hJ.2.2 mz_3 (fun om5 bn5 hst5 => ?_) (fun o_ w h => hD_eraseSet 1 _ w h)
              refine tu_take (i := 12) (ho := rfl) (qv_extract rfl rfl) ?_ (by kernel_rfl) (by kernel_rfl)
              refine tu_one 8 ?_ (by kernel_rfl) (by kernel_rfl) (by kernel_rfl)
              refine tg_q (qv_lookupM (zv := 0) (k := (keyU e92)) 1 mt_131 key_133 hst5.is mz_3 rfl rfl rfl) ?_ (fun w h => hD_eraseSet 1 _ w h)
              refine tu_take (i := 10) (ho := rfl) (qv_addI rfl rfl (by omega)) ?_ (by kernel_rfl) (by kernel_rfl)
              refine tu_tail rfl rfl rfl (by kernel_rfl) ?_
              refine tl_entryStore 1 hst5 (fun om6 hmm6 => ?_)
              have hmn6 : MapIs encA3 (Value.int .i64) (putM (useM t n (restM r) (l.take qq.1)) (keyU e92) (look (useM t n (restM r) (l.take qq.1)) (keyU e92) 0 + (charge t n e92).1)) om6 := by (have h_ := hmm6; simp only [look_ensure, setAt_ensure] at h_; exact h_)
              refine tl_nil (tp_block_normal (tp_normal ?_))
              refine tc_region ?_
              refine s0 (qv_succ rfl rfl (by omega)) ?_
              refine s0 (qv_move rfl) ?_
              exact tl_nil (tp_roundB (qq.1 + 1, om6) ⟨by simp only; omega, by rw [hJ.2.1]; exact chargeErrs_step he92 (by omega), by rw [useM_take he92]; exact hmn6⟩ (by simp only; omega) ⟨rfl, trivial⟩ rfl rfl rfl rfl)
        ·
          refine tl_nil (tp_normal ?_)
          refine tc_seq ?_
          refine tc_false rfl ?_
          refine tc_exit (tp_then_exit (tp_then_exit (tp_block_exit (tp_normal ?_))))
          refine tc_seq ?_
          refine tc_region ?_
          refine s0 (qv_assign rfl) ?_
          refine tl_nil (tp_normal ?_)
          refine tc_seq ?_
          refine tc_seq ?_
          have hce : chargeErrs t n l = 0 := by rw [hJ.2.1, chargeErrs_end (by omega)]
          have hmm : MapIs encA3 (Value.int .i64) (useM t n (restM r) l) qq.2 := by (have h_ := hJ.2.2; rw [show l.take qq.1 = l from List.take_of_length_le (by omega)] at h_; exact h_)
          have hml := mm_len hck hrb hmm
          have hvs := sums_vals (t := t) (n := n) (l := l) hrf.2 (by omega)
          refine tc_region ?_
          refine s0 (qv_move rfl) ?_
          refine tl_range 0 mt_131 hmm (fun r119 oi119 hri119 => ?_)
          refine tl_nil (tp_normal ?_)
          refine tc_block (tc_loopR 0 133 3 encK (fun (z : (List (K3 × Int) × List (K3 × Int)) × Obj) (v : Value) => [(21, v)]) (fun (z : (List (K3 × Int) × List (K3 × Int)) × Obj) => [(0, r119, z.2)]) (fun (z : (List (K3 × Int) × List (K3 × Int)) × Obj) => (z.1.1.map Prod.fst)) (fun (z : (List (K3 × Int) × List (K3 × Int)) × Obj) => RangeIs encA3 (Value.int .i64) b39_1 (useM t n (restM r) l) qq.2 z.2 z.1.2 ∧ (z.1.1 ++ z.1.2).Perm (useM t n (restM r) l) ∧ ∀ p ∈ z.1.1, ¬ 1099511627776 < p.2 / 1000) (fun (z : (List (K3 × Int) × List (K3 × Int)) × Obj) => z.1.2.length) ((([], (useM t n (restM r) l)), oi119)) (RowOf.nil _ _ _) ⟨hri119, .refl _, by simp⟩ ⟨rfl, trivial⟩ rfl rfl ?_)
          rintro z vr24 or24 hZ hrow
          have hlz : z.1.1.length ≤ 1680 := by (have h_ := perm_len hZ.2.1; omega)
          have hlz2 : (z.1.1.map Prod.fst).length ≤ 1680 := by simpa using hlz
          refine tc_seq ?_
          refine tc_region ?_
          refine tl_next 1 0 hZ.1 (fun hnil120 => ?_) (fun p120 rest120 oi120 hperm120 hri120 hnow120 => ?_)
          ·
            refine s0 (qv_extract rfl rfl) ?_
            refine tl_nil (tp_normal ?_)
            refine tc_seq ?_
            refine tc_false rfl ?_
            refine tc_exit (tp_then_exit (tp_then_exit (tp_block_exit (tp_normal ?_))))
            refine tc_seq ?_
            refine tc_region ?_
            refine s0 (qv_move rfl) ?_
            refine tl_sort (α := K3) (enc := encK) (sz := 3) (l := z.1.1.map Prod.fst) 0 fn_58 (fun _ => rfl) (by decide) sort3_none (R := Sorted3 (z.1.1.map Prod.fst)) (fun h => sorted3_nil h) (fun blk cap w hH hb => sort3_some (by omega) blk cap w hH hb) hrow (fun lB obB hlB hsB hrB => ?_)
            refine tl_nil (tp_normal ?_)
            refine tc_seq ?_
            refine tc_region ?_
            refine s0 (qv_assign rfl) ?_
            refine tl_nil (tp_normal ?_)
            refine tc_seq ?_
            refine tc_region ?_
            refine s0 (qv_assign rfl) ?_
            refine tl_nil (tp_normal ?_)
            refine tc_seq ?_
            refine tc_seq ?_
            have hlB2 : lB.length ≤ 1680 := by rw [hlB]; exact hlz2
            refine tc_rowKeep 0 hrB (fun _ => rfl) (fun Wk lok hik ak ck hvk hck_ hsk => ?_)
            subst hvk
            refine tc_region ?_
            refine s0 (qv_move rfl) ?_
            refine s0 (qv_len st_135 rfl) ?_
            refine s0 (qv_move rfl) ?_
            refine tl_nil (tp_normal ?_)
            refine tc_block (tc_loopRR 1 54 6 encPost 2 56 4 encRest (fun (k : Nat) (v u : Value) => [(24, v), (25, u), (136, .int .i64 (k : Int))]) (fun (k : Nat) => []) (fun (k : Nat) => (postsOf tick (fun k_ => look (useM t n (restM r) l) k_ 0) (lB.take k))) (fun (k : Nat) => (leftsOf (fun k_ => look (useM t n (restM r) l) k_ 0) (lB.take k))) (fun (k : Nat) => k ≤ lB.length) (fun (k : Nat) => lB.length - k) (0) (RowOf.nil _ _ _) (RowOf.nil _ _ _) (Nat.zero_le _) ⟨rfl, rfl, rfl, trivial⟩ rfl rfl ?_)
            rintro k vr25 or25 vr25b or25b hK hrw hrwb
            have hpl1 := postsOf_len tick (fun k_ => look (useM t n (restM r) l) k_ 0) (lB.take k)
            have hpl2 := leftsOf_len (fun k_ => look (useM t n (restM r) l) k_ 0) (lB.take k)
            have hpl3 := List.length_take_le' k lB
            refine tc_seq ?_
            refine tc_region ?_
            refine sd (qv_lss rfl rfl) (fun c137 => ?_) (fun c137 => ?_)
            ·
              refine tl_nil (tp_normal ?_)
              refine tc_seq ?_
              refine tc_true rfl ?_
              refine tc_skip (tp_normal ?_)
              refine tc_seq ?_
              refine tc_block ?_
              refine tc_seq ?_
              refine tc_region ?_
              refine sn st_135 hsk rfl rfl (by omega) (fun e138 he138 => ?_)
              refine s0 (qv_ldEW ag_133 hsk (Mem.has_kept (by first | exact .head _ | exact .tail _ (.head _) | exact .tail _ (.tail _ (.head _)) | exact .tail _ (.tail _ (.tail _ (.head _))))) rfl he138) ?_
              refine tl_alloc ze_133 (by decide) (fun b27_4 => ?_)
              refine tl_storeL (i := 0) sz_133 (hsk.szs _ (List.mem_of_getElem? he138)) (one_133 _) rfl rfl rfl rfl ?_
              refine tl_nil (tp_normal ?_)
              refine tc_seq ?_
              have hlk := vals_look hvs (by omega) e138
              have hgr := sorted_grid hck hrb (hnil120 ▸ hZ.2.1) hsB (List.mem_of_getElem? he138)
              refine tc_drawU 14 13 mixed (by kernel_rfl) ?_
              refine q0 (qv_iA at_133 rfl rfl (by omega)) ?_
              refine q0 (qv_ldB (i := 0) sc_3 rfl rfl rfl) ?_
              refine q0 (qv_iA at_133 rfl rfl (by omega)) ?_
              refine q0 (qv_ldB (i := 0) sc_3 rfl rfl rfl) ?_
              refine q0 (qv_addI rfl rfl (by omega)) ?_
              refine q0 (qv_move rfl) ?_
              refine q0 (qv_ldBW (i := 0) ag_133 rfl rfl rfl) ?_
              refine q0 (qv_lookupM (zv := 0) (k := e138) 2 mt_131 key_133 hmm mz_3 rfl rfl rfl) ?_
              refine q0 (qv_quoI rfl rfl (by decide) (by omega) (by omega)) ?_
              refine q0 (qv_move rfl) ?_
              refine q0 (qv_iA at_133 rfl rfl (by omega)) ?_
              refine q0 (qv_ldB (i := 0) sc_3 rfl rfl rfl) ?_
              refine q0 (qv_build (cells := #[.int .i64 e138.2.1, .int .i64 ((12) + e138.1), .int .i64 ((look (useM t n (restM r) l) e138 0) / (1000)), .int .i64 tick, .int .i64 e138.2.2, .int .i64 (0)]) bt_54 rfl (by kernel_rfl)) ?_
              refine tq_up ?_
              refine tu_one 13 ?_ (by kernel_rfl) (by kernel_rfl) (by kernel_rfl)
              refine tg_alloc ze_54 (fun b28_5 => ?_) (fun _ _ h => hD_drop rfl rfl _ h)
              refine tu_tail rfl rfl rfl (by kernel_rfl) ?_
              refine tl_storeO (i := 0) sz_54 rfl rfl rfl rfl rfl rfl rfl ?_
              refine tl_nil (tp_normal ?_)
              refine tc_seq ?_
              refine tc_seq ?_
              refine tc_region ?_
              refine s0 (qv_fa fo_54_4 rfl) ?_
              refine s0 (qv_ldB (i := 0) sc_3 rfl rfl rfl) ?_
              refine sd (qv_eql rfl rfl) (fun c155 => ?_) (fun c155 => ?_)
              ·
                refine tl_nil (tp_normal ?_)
                refine tc_true rfl ?_
                refine tc_region ?_
                refine s0 (qv_fa fo_54_1 rfl) ?_
                refine s0 (qv_ldB (i := 0) sc_3 rfl rfl rfl) ?_
                refine s0 (qv_fa fo_54_0 rfl) ?_
                refine s0 (qv_ldB (i := 0) sc_3 rfl rfl rfl) ?_
                refine s0 (qv_fa fo_54_0 rfl) ?_
                refine tl_store1 (i := 0) sz_3 rfl rfl rfl rfl rfl (Nat.le_of_ble_eq_true rfl) ?_
                refine s0 (qv_fa fo_54_1 rfl) ?_
                refine tl_store1 (i := 0) sz_3 rfl rfl rfl rfl rfl (Nat.le_of_ble_eq_true rfl) ?_
                refine tl_nil (tp_normal ?_)
                refine tc_seq ?_
                refine tc_seq ?_
                refine tc_region ?_
                refine s0 (qv_fa fo_54_2 rfl) ?_
                refine s0 (qv_ldB (i := 0) sc_3 rfl rfl rfl) ?_
                refine sd (qv_gtr rfl rfl) (fun c164 => ?_) (fun c164 => ?_)
                ·
                  refine tl_nil (tp_normal ?_)
                  refine tc_true rfl ?_
                  refine tc_region ?_
                  refine s0 (qv_move rfl) ?_
                  refine s0 (qv_ldBW (i := 0) ag_54 rfl rfl rfl) ?_
                  refine tl_buildSlice (cells := #[.int .i64 ((12) + e138.1), .int .i64 e138.2.1, .int .i64 ((look (useM t n (restM r) l) e138 0) / (1000)), .int .i64 tick, .int .i64 e138.2.2, .int .i64 (0)]) (hc := by kernel_rfl) bsl_40_1 (fun b167_6 => ?_)
                  refine tl_append1 1 0 apt_40 (⟨((12) + e138.1), e138.2.1, ((look (useM t n (restM r) l) e138 0) / (1000)), tick, e138.2.2, (0)⟩ : Posting) hrw (fun v168 ob168 hr168 => ?_) rfl (one_54 _) (by first | omega | (simp only [List.length_append, List.length_cons, List.length_nil]; omega))
                  refine s0 (qv_assign rfl) ?_
                  refine tl_nil (tp_normal ?_)
                  refine tc_seq ?_
                  refine tc_region ?_
                  refine s0 (qv_move rfl) ?_
                  refine s0 (qv_ldBW (i := 2) ag_133 rfl rfl rfl) ?_
                  refine s0 (qv_lookupM (zv := 0) (k := e138) 4 mt_131 key_133 hmm mz_3 rfl rfl rfl) ?_
                  refine s0 (qv_remI rfl rfl (by decide) (by omega)) ?_
                  refine s0 (qv_assign rfl) ?_
                  refine tl_nil (tp_normal ?_)
                  refine tc_seq ?_
                  refine tc_region ?_
                  refine s0 (qv_move rfl) ?_
                  refine sd (qv_gtr rfl rfl) (fun c174 => ?_) (fun c174 => ?_)
                  ·
                    refine tl_nil (tp_normal ?_)
                    refine tc_true rfl ?_
                    refine tc_region ?_
                    refine s0 (qv_move rfl) ?_
                    refine s0 (qv_iA at_133 rfl rfl (by omega)) ?_
                    refine s0 (qv_ldB (i := 2) sc_3 rfl rfl rfl) ?_
                    refine s0 (qv_iA at_133 rfl rfl (by omega)) ?_
                    refine s0 (qv_ldB (i := 2) sc_3 rfl rfl rfl) ?_
                    refine s0 (qv_iA at_133 rfl rfl (by omega)) ?_
                    refine s0 (qv_ldB (i := 2) sc_3 rfl rfl rfl) ?_
                    refine s0 (qv_move rfl) ?_
                    refine s0 (qv_build (cells := #[.int .i64 e138.1, .int .i64 e138.2.1, .int .i64 e138.2.2, .int .i64 ((look (useM t n (restM r) l) e138 0) % (1000))]) bt_56 rfl (by kernel_rfl)) ?_
                    refine tl_buildSlice (cells := #[.int .i64 e138.1, .int .i64 e138.2.1, .int .i64 e138.2.2, .int .i64 ((look (useM t n (restM r) l) e138 0) % (1000))]) (hc := by kernel_rfl) bsl_22_1 (fun b184_7 => ?_)
                    refine tl_append1 2 0 apt_22 (⟨e138.1, e138.2.1, e138.2.2, ((look (useM t n (restM r) l) e138 0) % (1000))⟩ : Rest) hrwb (fun v185 ob185 hr185 => ?_) rfl (one_56 _) (by first | omega | (simp only [List.length_append, List.length_cons, List.length_nil]; omega))
                    refine s0 (qv_assign rfl) ?_
                    refine tl_nil (tp_block_normal (tp_normal ?_))
                    refine tc_region ?_
                    refine s0 (qv_succ rfl rfl (by omega)) ?_
                    refine s0 (qv_move rfl) ?_
                    exact tl_nil (tp_roundRR (k + 1) (by first | (rw [postsOf_no he138 (by assumption)]; exact hr168) | (rw [postsOf_fine he138 (by assumption) (by assumption)]; exact hr168) | (rw [postsOf_use he138 (by assumption) (by assumption)]; exact hr168)) (by first | (rw [leftsOf_no he138 (by assumption)]; exact hr185) | (rw [leftsOf_yes he138 (by assumption)]; exact hr185)) (by omega) (by omega) ⟨rfl, rfl, rfl, trivial⟩ rfl rfl rfl rfl rfl)
                  ·
                    refine tl_nil (tp_normal ?_)
                    refine tc_false rfl ?_
                    refine tc_skip (tp_block_normal (tp_normal ?_))
                    refine tc_region ?_
                    refine s0 (qv_succ rfl rfl (by omega)) ?_
                    refine s0 (qv_move rfl) ?_
                    exact tl_nil (tp_roundRR (k + 1) (by first | (rw [postsOf_no he138 (by assumption)]; exact hr168) | (rw [postsOf_fine he138 (by assumption) (by assumption)]; exact hr168) | (rw [postsOf_use he138 (by assumption) (by assumption)]; exact hr168)) (by first | (rw [leftsOf_no he138 (by assumption)]; exact hrwb) | (rw [leftsOf_yes he138 (by assumption)]; exact hrwb)) (by omega) (by omega) ⟨rfl, rfl, rfl, trivial⟩ rfl rfl rfl rfl rfl)
                ·
                  refine tl_nil (tp_normal ?_)
                  refine tc_false rfl ?_
                  refine tc_skip (tp_normal ?_)
                  refine tc_seq ?_
                  refine tc_region ?_
                  refine s0 (qv_move rfl) ?_
                  refine s0 (qv_ldBW (i := 1) ag_133 rfl rfl rfl) ?_
                  refine s0 (qv_lookupM (zv := 0) (k := e138) 3 mt_131 key_133 hmm mz_3 rfl rfl rfl) ?_
                  refine s0 (qv_remI rfl rfl (by decide) (by omega)) ?_
                  refine s0 (qv_assign rfl) ?_
                  refine tl_nil (tp_normal ?_)
                  refine tc_seq ?_
                  refine tc_region ?_
                  refine s0 (qv_move rfl) ?_
                  refine sd (qv_gtr rfl rfl) (fun c174 => ?_) (fun c174 => ?_)
                  ·
                    refine tl_nil (tp_normal ?_)
                    refine tc_true rfl ?_
                    refine tc_region ?_
                    refine s0 (qv_move rfl) ?_
                    refine s0 (qv_iA at_133 rfl rfl (by omega)) ?_
                    refine s0 (qv_ldB (i := 1) sc_3 rfl rfl rfl) ?_
                    refine s0 (qv_iA at_133 rfl rfl (by omega)) ?_
                    refine s0 (qv_ldB (i := 1) sc_3 rfl rfl rfl) ?_
                    refine s0 (qv_iA at_133 rfl rfl (by omega)) ?_
                    refine s0 (qv_ldB (i := 1) sc_3 rfl rfl rfl) ?_
                    refine s0 (qv_move rfl) ?_
                    refine s0 (qv_build (cells := #[.int .i64 e138.1, .int .i64 e138.2.1, .int .i64 e138.2.2, .int .i64 ((look (useM t n (restM r) l) e138 0) % (1000))]) bt_56 rfl (by kernel_rfl)) ?_
                    refine tl_buildSlice (cells := #[.int .i64 e138.1, .int .i64 e138.2.1, .int .i64 e138.2.2, .int .i64 ((look (useM t n (restM r) l) e138 0) % (1000))]) (hc := by kernel_rfl) bsl_22_1 (fun b184_8 => ?_)
                    refine tl_append1 2 0 apt_22 (⟨e138.1, e138.2.1, e138.2.2, ((look (useM t n (restM r) l) e138 0) % (1000))⟩ : Rest) hrwb (fun v185 ob185 hr185 => ?_) rfl (one_56 _) (by first | omega | (simp only [List.length_append, List.length_cons, List.length_nil]; omega))
                    refine s0 (qv_assign rfl) ?_
                    refine tl_nil (tp_block_normal (tp_normal ?_))
                    refine tc_region ?_
                    refine s0 (qv_succ rfl rfl (by omega)) ?_
                    refine s0 (qv_move rfl) ?_
                    exact tl_nil (tp_roundRR (k + 1) (by first | (rw [postsOf_no he138 (by assumption)]; exact hrw) | (rw [postsOf_fine he138 (by assumption) (by assumption)]; exact hrw) | (rw [postsOf_use he138 (by assumption) (by assumption)]; exact hrw)) (by first | (rw [leftsOf_no he138 (by assumption)]; exact hr185) | (rw [leftsOf_yes he138 (by assumption)]; exact hr185)) (by omega) (by omega) ⟨rfl, rfl, rfl, trivial⟩ rfl rfl rfl rfl rfl)
                  ·
                    refine tl_nil (tp_normal ?_)
                    refine tc_false rfl ?_
                    refine tc_skip (tp_block_normal (tp_normal ?_))
                    refine tc_region ?_
                    refine s0 (qv_succ rfl rfl (by omega)) ?_
                    refine s0 (qv_move rfl) ?_
                    exact tl_nil (tp_roundRR (k + 1) (by first | (rw [postsOf_no he138 (by assumption)]; exact hrw) | (rw [postsOf_fine he138 (by assumption) (by assumption)]; exact hrw) | (rw [postsOf_use he138 (by assumption) (by assumption)]; exact hrw)) (by first | (rw [leftsOf_no he138 (by assumption)]; exact hrwb) | (rw [leftsOf_yes he138 (by assumption)]; exact hrwb)) (by omega) (by omega) ⟨rfl, rfl, rfl, trivial⟩ rfl rfl rfl rfl rfl)
              ·
                refine tl_nil (tp_normal ?_)
                refine tc_false rfl ?_
                refine tc_skip (tp_normal ?_)
                refine tc_seq ?_
                refine tc_seq ?_
                refine tc_region ?_
                refine s0 (qv_fa fo_54_2 rfl) ?_
                refine s0 (qv_ldB (i := 0) sc_3 rfl rfl rfl) ?_
                refine sd (qv_gtr rfl rfl) (fun c164 => ?_) (fun c164 => ?_)
                ·
                  refine tl_nil (tp_normal ?_)
                  refine tc_true rfl ?_
                  refine tc_region ?_
                  refine s0 (qv_move rfl) ?_
                  refine s0 (qv_ldBW (i := 0) ag_54 rfl rfl rfl) ?_
                  refine tl_buildSlice (cells := #[.int .i64 e138.2.1, .int .i64 ((12) + e138.1), .int .i64 ((look (useM t n (restM r) l) e138 0) / (1000)), .int .i64 tick, .int .i64 e138.2.2, .int .i64 (0)]) (hc := by kernel_rfl) bsl_40_1 (fun b167_9 => ?_)
                  refine tl_append1 1 0 apt_40 (⟨e138.2.1, ((12) + e138.1), ((look (useM t n (restM r) l) e138 0) / (1000)), tick, e138.2.2, (0)⟩ : Posting) hrw (fun v168 ob168 hr168 => ?_) rfl (one_54 _) (by first | omega | (simp only [List.length_append, List.length_cons, List.length_nil]; omega))
                  refine s0 (qv_assign rfl) ?_
                  refine tl_nil (tp_normal ?_)
                  refine tc_seq ?_
                  refine tc_region ?_
                  refine s0 (qv_move rfl) ?_
                  refine s0 (qv_ldBW (i := 2) ag_133 rfl rfl rfl) ?_
                  refine s0 (qv_lookupM (zv := 0) (k := e138) 4 mt_131 key_133 hmm mz_3 rfl rfl rfl) ?_
                  refine s0 (qv_remI rfl rfl (by decide) (by omega)) ?_
                  refine s0 (qv_assign rfl) ?_
                  refine tl_nil (tp_normal ?_)
                  refine tc_seq ?_
                  refine tc_region ?_
                  refine s0 (qv_move rfl) ?_
                  refine sd (qv_gtr rfl rfl) (fun c174 => ?_) (fun c174 => ?_)
                  ·
                    refine tl_nil (tp_normal ?_)
                    refine tc_true rfl ?_
                    refine tc_region ?_
                    refine s0 (qv_move rfl) ?_
                    refine s0 (qv_iA at_133 rfl rfl (by omega)) ?_
                    refine s0 (qv_ldB (i := 2) sc_3 rfl rfl rfl) ?_
                    refine s0 (qv_iA at_133 rfl rfl (by omega)) ?_
                    refine s0 (qv_ldB (i := 2) sc_3 rfl rfl rfl) ?_
                    refine s0 (qv_iA at_133 rfl rfl (by omega)) ?_
                    refine s0 (qv_ldB (i := 2) sc_3 rfl rfl rfl) ?_
                    refine s0 (qv_move rfl) ?_
                    refine s0 (qv_build (cells := #[.int .i64 e138.1, .int .i64 e138.2.1, .int .i64 e138.2.2, .int .i64 ((look (useM t n (restM r) l) e138 0) % (1000))]) bt_56 rfl (by kernel_rfl)) ?_
                    refine tl_buildSlice (cells := #[.int .i64 e138.1, .int .i64 e138.2.1, .int .i64 e138.2.2, .int .i64 ((look (useM t n (restM r) l) e138 0) % (1000))]) (hc := by kernel_rfl) bsl_22_1 (fun b184_10 => ?_)
                    refine tl_append1 2 0 apt_22 (⟨e138.1, e138.2.1, e138.2.2, ((look (useM t n (restM r) l) e138 0) % (1000))⟩ : Rest) hrwb (fun v185 ob185 hr185 => ?_) rfl (one_56 _) (by first | omega | (simp only [List.length_append, List.length_cons, List.length_nil]; omega))
                    refine s0 (qv_assign rfl) ?_
                    refine tl_nil (tp_block_normal (tp_normal ?_))
                    refine tc_region ?_
                    refine s0 (qv_succ rfl rfl (by omega)) ?_
                    refine s0 (qv_move rfl) ?_
                    exact tl_nil (tp_roundRR (k + 1) (by first | (rw [postsOf_no he138 (by assumption)]; exact hr168) | (rw [postsOf_fine he138 (by assumption) (by assumption)]; exact hr168) | (rw [postsOf_use he138 (by assumption) (by assumption)]; exact hr168)) (by first | (rw [leftsOf_no he138 (by assumption)]; exact hr185) | (rw [leftsOf_yes he138 (by assumption)]; exact hr185)) (by omega) (by omega) ⟨rfl, rfl, rfl, trivial⟩ rfl rfl rfl rfl rfl)
                  ·
                    refine tl_nil (tp_normal ?_)
                    refine tc_false rfl ?_
                    refine tc_skip (tp_block_normal (tp_normal ?_))
                    refine tc_region ?_
                    refine s0 (qv_succ rfl rfl (by omega)) ?_
                    refine s0 (qv_move rfl) ?_
                    exact tl_nil (tp_roundRR (k + 1) (by first | (rw [postsOf_no he138 (by assumption)]; exact hr168) | (rw [postsOf_fine he138 (by assumption) (by assumption)]; exact hr168) | (rw [postsOf_use he138 (by assumption) (by assumption)]; exact hr168)) (by first | (rw [leftsOf_no he138 (by assumption)]; exact hrwb) | (rw [leftsOf_yes he138 (by assumption)]; exact hrwb)) (by omega) (by omega) ⟨rfl, rfl, rfl, trivial⟩ rfl rfl rfl rfl rfl)
                ·
                  refine tl_nil (tp_normal ?_)
                  refine tc_false rfl ?_
                  refine tc_skip (tp_normal ?_)
                  refine tc_seq ?_
                  refine tc_region ?_
                  refine s0 (qv_move rfl) ?_
                  refine s0 (qv_ldBW (i := 1) ag_133 rfl rfl rfl) ?_
                  refine s0 (qv_lookupM (zv := 0) (k := e138) 3 mt_131 key_133 hmm mz_3 rfl rfl rfl) ?_
                  refine s0 (qv_remI rfl rfl (by decide) (by omega)) ?_
                  refine s0 (qv_assign rfl) ?_
                  refine tl_nil (tp_normal ?_)
                  refine tc_seq ?_
                  refine tc_region ?_
                  refine s0 (qv_move rfl) ?_
                  refine sd (qv_gtr rfl rfl) (fun c174 => ?_) (fun c174 => ?_)
                  ·
                    refine tl_nil (tp_normal ?_)
                    refine tc_true rfl ?_
                    refine tc_region ?_
                    refine s0 (qv_move rfl) ?_
                    refine s0 (qv_iA at_133 rfl rfl (by omega)) ?_
                    refine s0 (qv_ldB (i := 1) sc_3 rfl rfl rfl) ?_
                    refine s0 (qv_iA at_133 rfl rfl (by omega)) ?_
                    refine s0 (qv_ldB (i := 1) sc_3 rfl rfl rfl) ?_
                    refine s0 (qv_iA at_133 rfl rfl (by omega)) ?_
                    refine s0 (qv_ldB (i := 1) sc_3 rfl rfl rfl) ?_
                    refine s0 (qv_move rfl) ?_
                    refine s0 (qv_build (cells := #[.int .i64 e138.1, .int .i64 e138.2.1, .int .i64 e138.2.2, .int .i64 ((look (useM t n (restM r) l) e138 0) % (1000))]) bt_56 rfl (by kernel_rfl)) ?_
                    refine tl_buildSlice (cells := #[.int .i64 e138.1, .int .i64 e138.2.1, .int .i64 e138.2.2, .int .i64 ((look (useM t n (restM r) l) e138 0) % (1000))]) (hc := by kernel_rfl) bsl_22_1 (fun b184_11 => ?_)
                    refine tl_append1 2 0 apt_22 (⟨e138.1, e138.2.1, e138.2.2, ((look (useM t n (restM r) l) e138 0) % (1000))⟩ : Rest) hrwb (fun v185 ob185 hr185 => ?_) rfl (one_56 _) (by first | omega | (simp only [List.length_append, List.length_cons, List.length_nil]; omega))
                    refine s0 (qv_assign rfl) ?_
                    refine tl_nil (tp_block_normal (tp_normal ?_))
                    refine tc_region ?_
                    refine s0 (qv_succ rfl rfl (by omega)) ?_
                    refine s0 (qv_move rfl) ?_
                    exact tl_nil (tp_roundRR (k + 1) (by first | (rw [postsOf_no he138 (by assumption)]; exact hrw) | (rw [postsOf_fine he138 (by assumption) (by assumption)]; exact hrw) | (rw [postsOf_use he138 (by assumption) (by assumption)]; exact hrw)) (by first | (rw [leftsOf_no he138 (by assumption)]; exact hr185) | (rw [leftsOf_yes he138 (by assumption)]; exact hr185)) (by omega) (by omega) ⟨rfl, rfl, rfl, trivial⟩ rfl rfl rfl rfl rfl)
                  ·
                    refine tl_nil (tp_normal ?_)
                    refine tc_false rfl ?_
                    refine tc_skip (tp_block_normal (tp_normal ?_))
                    refine tc_region ?_
                    refine s0 (qv_succ rfl rfl (by omega)) ?_
                    refine s0 (qv_move rfl) ?_
                    exact tl_nil (tp_roundRR (k + 1) (by first | (rw [postsOf_no he138 (by assumption)]; exact hrw) | (rw [postsOf_fine he138 (by assumption) (by assumption)]; exact hrw) | (rw [postsOf_use he138 (by assumption) (by assumption)]; exact hrw)) (by first | (rw [leftsOf_no he138 (by assumption)]; exact hrwb) | (rw [leftsOf_yes he138 (by assumption)]; exact hrwb)) (by omega) (by omega) ⟨rfl, rfl, rfl, trivial⟩ rfl rfl rfl rfl rfl)
            ·
              refine tl_nil (tp_normal ?_)
              refine tc_seq ?_
              refine tc_false rfl ?_
              refine tc_exit (tp_then_exit (tp_then_exit (tp_block_exit (tp_normal ?_))))
              refine tc_seq ?_
              refine tc_region ?_
              refine s0 (qv_move rfl) ?_
              refine s0 (qv_move rfl) ?_
              refine s0 (qv_assign rfl) ?_
              refine s0 (qv_assign rfl) ?_
              refine s0 (qv_assign rfl) ?_
              refine tl_nil (tp_normal ?_)
              refine tc_ret (tp_end3 rfl rfl rfl rfl ?_)
              intro w' hm
              rw [period_ok hck htk hrb hce hmm (hnil120 ▸ hZ.2.1) hZ.2.2 hsB]
              simp only
              have e0 : lB.take k = lB := List.take_of_length_le (by omega)
              rw [e0] at hrw hrwb
              obtain ⟨pa, pc, h1, h2, h3⟩ := hrw.sl hm (fun p hp => List.mem_append_right _ (List.mem_append_left _ (by subst hp; simp))) (fun _ => rfl)
              obtain ⟨qa, qc, h4, h5, h6⟩ := hrwb.sl hm (fun p hp => List.mem_append_right _ (List.mem_append_left _ (by subst hp; simp))) (fun _ => rfl)
              exact ⟨((pa, pc), (qa, qc)), by rw [h1, h4], hm.below, ⟨h2, h3⟩, h5, h6⟩
          ·
            refine s0 (qv_extract rfl rfl) ?_
            refine tl_nil (tp_normal ?_)
            refine tc_seq ?_
            refine tc_true rfl ?_
            refine tc_skip (tp_normal ?_)
            refine tc_block ?_
            refine tc_seq ?_
            refine tc_region ?_
            refine tl_entry 1 0 hnow120 ?_
            refine s0 (qv_extract rfl rfl) ?_
            refine s0 (qv_extract rfl rfl) ?_
            refine tl_alloc ze_133 (by decide) (fun b22_12 => ?_)
            refine tl_storeO (i := 0) sz_133 rfl rfl rfl rfl rfl rfl rfl ?_
            refine s0 (qv_assign rfl) ?_
            refine tl_nil (tp_normal ?_)
            refine tc_seq ?_
            refine tc_seq ?_
            have hpv := hvs p120 (hZ.2.1.mem_iff.1 (List.mem_append_right _ (hperm120.mem_iff.2 (by simp))))
            refine tc_region ?_
            refine s0 (qv_move rfl) ?_
            refine s0 (qv_quoI rfl rfl (by decide) (by omega) (by omega)) ?_
            refine sd (qv_gtr rfl rfl) (fun c127 => ?_) (fun c127 => ?_)
            ·
              refine tl_nil (tp_normal ?_)
              refine tc_true rfl ?_
              refine tc_seq ?_
              refine tc_region ?_
              refine s0 (qv_assign rfl) ?_
              refine s0 (qv_assign rfl) ?_
              refine s0 (qv_assign rfl) ?_
              refine tl_nil (tp_normal ?_)
              refine tc_ret (tp_then_ret (tp_block_ret (tp_then_ret (tp_block_ret (tp_then_ret (tp_end3 rfl rfl rfl rfl ?_))))))
              intro w' hm
              rw [period_limit hck htk hrb hce hmm hZ.2.1 hperm120 c127]
              exact ⟨((none, 0), (none, 0)), rfl, hm.below, ⟨Nat.le_refl 0, SlAt.nothing⟩, Nat.le_refl 0, SlAt.nothing⟩
            ·
              refine tl_nil (tp_normal ?_)
              refine tc_false rfl ?_
              refine tc_skip (tp_normal ?_)
              refine tc_region ?_
              refine s0 (qv_move rfl) ?_
              refine s0 (qv_ldBW (i := 0) ag_133 rfl rfl rfl) ?_
              refine tl_buildSlice (cells := #[.int .i64 p120.1.1, .int .i64 p120.1.2.1, .int .i64 p120.1.2.2]) (hc := by kernel_rfl) bsl_135_1 (fun b130_13 => ?_)
              refine tl_append1 0 0 apt_135 p120.1 hrow (fun v131 ob131 hr131 => ?_) rfl (one_133 _) (by first | omega | (simp only [List.length_append, List.length_cons, List.length_nil]; omega))
              refine s0 (qv_assign rfl) ?_
              exact tl_nil (tp_block_normal (tp_roundR (((z.1.1 ++ [p120], rest120), oi120)) (by rw [List.map_append]; exact hr131) ⟨hri120, perm_step hZ.2.1 hperm120, fun p hp => by (rcases List.mem_append.1 hp with hp | hp; exact hZ.2.2 p hp; simp at hp; subst hp; assumption)⟩ (by (have h_ := hperm120.length_eq; simp only [List.length_cons] at h_; simp only; omega)) ⟨rfl, trivial⟩ rfl rfl rfl rfl rfl))
    ·
      refine s0 (qv_not rfl) ?_
      refine tl_nil (tp_normal ?_)
      refine tc_true rfl ?_
      refine tc_seq ?_
      refine tc_region ?_
      refine s0 (qv_assign rfl) ?_
      refine s0 (qv_assign rfl) ?_
      refine s0 (qv_assign rfl) ?_
      refine tl_nil (tp_normal ?_)
      refine tc_ret (tp_then_ret (tp_end3 rfl rfl rfl rfl ?_))
      intro w' hm
      rw [period_tick (by omega) c37]
      exact ⟨((none, 0), (none, 0)), rfl, hm.below, ⟨Nat.le_refl 0, SlAt.nothing⟩, Nat.le_refl 0, SlAt.nothing⟩
end Go.Q
namespace Go.Q
open Go Go.Proofs Go.RowKit
theorem st_40 : SliceTy Try.prog 40 6 := ⟨54, by kernel_rfl, fun w => by kernel_rfl⟩
theorem sc_30 : Scalar Try.prog 30 := fun w => by kernel_rfl
theorem ze_3 : Zero Try.prog 3 #[.int .i64 0] := fun w => ⟨.int .i64 0, by kernel_rfl, rfl⟩
theorem st_71 : SliceTy Try.prog 71 1 := ⟨3, by kernel_rfl, fun w => by kernel_rfl⟩
theorem sc_40 : Scalar Try.prog 40 := fun w => by kernel_rfl
theorem sz_40 : Size Try.prog 40 1 := fun w => by kernel_rfl
theorem qv_nePosting {Z : Env} {N : Nat} {L : List (Nat × Value)} {M : Mem} {d : Option Tmp} {a b : Operand} {T ty : TypeId} {pos : String} {af : Array Edge} {g : Option (Nat × Bool)} (x y : Posting) (hx : ev L a = some (.agg (encPost x).toArray)) (hy : ev L b = some (.agg (encPost y).toArray)) : Qv Try.prog Z N L M ⟨d, .binOp .neq 54 a b T, ty, pos, af, g⟩ (.bool (decide (x ≠ y))) :=
  qv_neInts (xs := intsP x) (ys := intsP y) (n := 6) (by kernel_rfl) (by kernel_rfl) (by kernel_rfl) Try.underlying3 aggI (by kernel_rfl) rfl rfl (by rw [intsP_inj]) hx hy
theorem qv_neRest {Z : Env} {N : Nat} {L : List (Nat × Value)} {M : Mem} {d : Option Tmp} {a b : Operand} {T ty : TypeId} {pos : String} {af : Array Edge} {g : Option (Nat × Bool)} (x y : Rest) (hx : ev L a = some (.agg (encRest x).toArray)) (hy : ev L b = some (.agg (encRest y).toArray)) : Qv Try.prog Z N L M ⟨d, .binOp .neq 56 a b T, ty, pos, af, g⟩ (.bool (decide (x ≠ y))) :=
  qv_neInts (xs := intsR x) (ys := intsR y) (n := 4) (by kernel_rfl) (by kernel_rfl) (by kernel_rfl) Try.underlying3 aggI (by kernel_rfl) rfl rfl (by rw [intsR_inj]) hx hy
set_option maxRecDepth 100000 in
theorem samePosts_calls (w : World) (a : List Posting) (aa : Option Addr) (ac : Nat) (b : List Posting) (ba : Option Addr) (bc : Nat) (ha : SlIn w 6 encPost aa a) (hb : SlIn w 6 encPost ba b) :
    Calls Try.prog 22 #[.slice aa a.length ac, .slice ba b.length bc] w (fun e w' => e = .returned (.bool (decide (a = b))) ∧ Below w.heap.size w w') := by
  have hlen := ha.len
  have hlen2 := hb.len
  simp only [maxLen] at hlen hlen2
  refine calls_of_tc (N := 26) (vs := [.slice aa a.length ac, .slice ba b.length bc]) Try.func22 rfl rfl (Nat.le_of_ble_eq_true rfl) ?_
  refine tc_seq ?_
  refine tc_region ?_
  refine s0 (qv_assign rfl) ?_
  refine tl_nil (tp_normal ?_)
  refine tc_seq ?_
  refine tc_seq ?_
  refine tc_region ?_
  refine s0 (qv_move rfl) ?_
  refine s0 (qv_len st_40 rfl) ?_
  refine s0 (qv_move rfl) ?_
  refine s0 (qv_len st_40 rfl) ?_
  refine sd (qv_neq rfl rfl) (fun c10 => ?_) (fun c10 => ?_)
  ·
    refine tl_nil (tp_normal ?_)
    refine tc_true rfl ?_
    refine tc_seq ?_
    refine tc_region ?_
    refine s0 (qv_assign rfl) ?_
    refine tl_nil (tp_normal ?_)
    refine tc_ret (tp_then_ret (tp_end1 rfl rfl ?_))
    intro w' hm
    exact ⟨by rw [decide_eq_false (fun h => by subst h; omega)], hm.below⟩
  ·
    refine tl_nil (tp_normal ?_)
    refine tc_false rfl ?_
    refine tc_skip (tp_normal ?_)
    refine tc_seq ?_
    refine tc_seq ?_
    refine tc_region ?_
    refine s0 (qv_assign rfl) ?_
    refine tl_nil (tp_normal ?_)
    refine tc_block (tc_loopS (fun (k : Nat) => [(5, .int .i64 (k : Int))]) (fun (k : Nat) => k ≤ a.length ∧ a.take k = b.take k) (fun (k : Nat) => a.length - k) (0) ⟨Nat.zero_le _, rfl⟩ ⟨rfl, trivial⟩ ?_)
    rintro k hI
    refine tc_seq ?_
    refine tc_seq ?_
    refine tc_region ?_
    refine s0 (qv_move rfl) ?_
    refine s0 (qv_move rfl) ?_
    refine s0 (qv_len st_40 rfl) ?_
    refine sd (qv_lss rfl rfl) (fun c14 => ?_) (fun c14 => ?_)
    ·
      refine tl_nil (tp_normal ?_)
      refine tc_true rfl ?_
      refine tc_skip (tp_normal ?_)
      refine tc_seq ?_
      refine tc_block ?_
      refine tc_seq ?_
      refine tc_draws mixed (by kernel_rfl) ?_
      refine q0 (qv_move rfl) ?_
      refine q0 (qv_move rfl) ?_
      refine qn st_40 ha rfl rfl (by omega) (fun e19 he19 => ?_)
      refine q0 (qv_ldEW ag_54 ha Mem.has_base rfl he19) ?_
      refine q0 (qv_move rfl) ?_
      refine q0 (qv_move rfl) ?_
      refine qn st_40 hb rfl rfl (by omega) (fun e23 he23 => ?_)
      refine q0 (qv_ldEW ag_54 hb Mem.has_base rfl he23) ?_
      refine qd (qv_nePosting e19 e23 rfl rfl) (fun c25 => ?_) (fun c25 => ?_)
      ·
        refine tq_nil (tp_normal ?_)
        refine tc_true rfl ?_
        refine tc_seq ?_
        refine tc_region ?_
        refine s0 (qv_assign rfl) ?_
        refine tl_nil (tp_normal ?_)
        refine tc_ret (tp_block_ret (tp_then_ret (tp_then_ret (tp_block_ret (tp_then_ret (tp_end1 rfl rfl ?_))))))
        intro w' hm
        exact ⟨by rw [decide_eq_false (take_diff he19 he23 c25)], hm.below⟩
      ·
        refine tq_nil (tp_normal ?_)
        refine tc_false rfl ?_
        refine tc_skip (tp_block_normal (tp_normal ?_))
        refine tc_region ?_
        refine s0 (qv_move rfl) ?_
        refine s0 (qv_succ rfl rfl (by omega)) ?_
        refine s0 (qv_assign rfl) ?_
        exact tl_nil (tp_roundS (k + 1) ⟨by omega, take_step hI.2 he19 he23 (Classical.not_not.1 c25)⟩ (by omega) ⟨rfl, trivial⟩ rfl rfl rfl rfl)
    ·
      refine tl_nil (tp_normal ?_)
      refine tc_false rfl ?_
      refine tc_exit (tp_then_exit (tp_then_exit (tp_block_exit (tp_normal ?_))))
      refine tc_seq ?_
      refine tc_region ?_
      refine s0 (qv_assign rfl) ?_
      refine tl_nil (tp_normal ?_)
      refine tc_ret (tp_end1 rfl rfl ?_)
      intro w' hm
      exact ⟨by rw [decide_eq_true (take_same hI.2 (by omega) (by omega))], hm.below⟩
set_option maxRecDepth 100000 in
theorem sameRests_calls (w : World) (a : List Rest) (aa : Option Addr) (ac : Nat) (b : List Rest) (ba : Option Addr) (bc : Nat) (ha : SlIn w 4 encRest aa a) (hb : SlIn w 4 encRest ba b) :
    Calls Try.prog 23 #[.slice aa a.length ac, .slice ba b.length bc] w (fun e w' => e = .returned (.bool (decide (a = b))) ∧ Below w.heap.size w w') := by
  have hlen := ha.len
  have hlen2 := hb.len
  simp only [maxLen] at hlen hlen2
  refine calls_of_tc (N := 26) (vs := [.slice aa a.length ac, .slice ba b.length bc]) Try.func23 rfl rfl (Nat.le_of_ble_eq_true rfl) ?_
  refine tc_seq ?_
  refine tc_region ?_
  refine s0 (qv_assign rfl) ?_
  refine tl_nil (tp_normal ?_)
  refine tc_seq ?_
  refine tc_seq ?_
  refine tc_region ?_
  refine s0 (qv_move rfl) ?_
  refine s0 (qv_len st_22 rfl) ?_
  refine s0 (qv_move rfl) ?_
  refine s0 (qv_len st_22 rfl) ?_
  refine sd (qv_neq rfl rfl) (fun c10 => ?_) (fun c10 => ?_)
  ·
    refine tl_nil (tp_normal ?_)
    refine tc_true rfl ?_
    refine tc_seq ?_
    refine tc_region ?_
    refine s0 (qv_assign rfl) ?_
    refine tl_nil (tp_normal ?_)
    refine tc_ret (tp_then_ret (tp_end1 rfl rfl ?_))
    intro w' hm
    exact ⟨by rw [decide_eq_false (fun h => by subst h; omega)], hm.below⟩
  ·
    refine tl_nil (tp_normal ?_)
    refine tc_false rfl ?_
    refine tc_skip (tp_normal ?_)
    refine tc_seq ?_
    refine tc_seq ?_
    refine tc_region ?_
    refine s0 (qv_assign rfl) ?_
    refine tl_nil (tp_normal ?_)
    refine tc_block (tc_loopS (fun (k : Nat) => [(5, .int .i64 (k : Int))]) (fun (k : Nat) => k ≤ a.length ∧ a.take k = b.take k) (fun (k : Nat) => a.length - k) (0) ⟨Nat.zero_le _, rfl⟩ ⟨rfl, trivial⟩ ?_)
    rintro k hI
    refine tc_seq ?_
    refine tc_seq ?_
    refine tc_region ?_
    refine s0 (qv_move rfl) ?_
    refine s0 (qv_move rfl) ?_
    refine s0 (qv_len st_22 rfl) ?_
    refine sd (qv_lss rfl rfl) (fun c14 => ?_) (fun c14 => ?_)
    ·
      refine tl_nil (tp_normal ?_)
      refine tc_true rfl ?_
      refine tc_skip (tp_normal ?_)
      refine tc_seq ?_
      refine tc_block ?_
      refine tc_seq ?_
      refine tc_draws mixed (by kernel_rfl) ?_
      refine q0 (qv_move rfl) ?_
      refine q0 (qv_move rfl) ?_
      refine qn st_22 ha rfl rfl (by omega) (fun e19 he19 => ?_)
      refine q0 (qv_ldEW ag_56 ha Mem.has_base rfl he19) ?_
      refine q0 (qv_move rfl) ?_
      refine q0 (qv_move rfl) ?_
      refine qn st_22 hb rfl rfl (by omega) (fun e23 he23 => ?_)
      refine q0 (qv_ldEW ag_56 hb Mem.has_base rfl he23) ?_
      refine qd (qv_neRest e19 e23 rfl rfl) (fun c25 => ?_) (fun c25 => ?_)
      ·
        refine tq_nil (tp_normal ?_)
        refine tc_true rfl ?_
        refine tc_seq ?_
        refine tc_region ?_
        refine s0 (qv_assign rfl) ?_
        refine tl_nil (tp_normal ?_)
        refine tc_ret (tp_block_ret (tp_then_ret (tp_then_ret (tp_block_ret (tp_then_ret (tp_end1 rfl rfl ?_))))))
        intro w' hm
        exact ⟨by rw [decide_eq_false (take_diff he19 he23 c25)], hm.below⟩
      ·
        refine tq_nil (tp_normal ?_)
        refine tc_false rfl ?_
        refine tc_skip (tp_block_normal (tp_normal ?_))
        refine tc_region ?_
        refine s0 (qv_move rfl) ?_
        refine s0 (qv_succ rfl rfl (by omega)) ?_
        refine s0 (qv_assign rfl) ?_
        exact tl_nil (tp_roundS (k + 1) ⟨by omega, take_step hI.2 he19 he23 (Classical.not_not.1 c25)⟩ (by omega) ⟨rfl, trivial⟩ rfl rfl rfl rfl)
    ·
      refine tl_nil (tp_normal ?_)
      refine tc_false rfl ?_
      refine tc_exit (tp_then_exit (tp_then_exit (tp_block_exit (tp_normal ?_))))
      refine tc_seq ?_
      refine tc_region ?_
      refine s0 (qv_assign rfl) ?_
      refine tl_nil (tp_normal ?_)
      refine tc_ret (tp_end1 rfl rfl ?_)
      intro w' hm
      exact ⟨by rw [decide_eq_true (take_same hI.2 (by omega) (by omega))], hm.below⟩
end Go.Q
namespace Go.Q
open Go Go.Proofs Go.RowKit
theorem bt_113 : BuildTy Try.prog 113 #[(0, 1), (1, 1), (2, 1)] #[.int .i64 0, .int .i64 0, .int .i64 0] := ⟨_, Try.underlying113, fun w => by kernel_rfl, ze_113⟩
theorem bsl_23_2 : BuildSl Try.prog 23 2 113 3 #[.int .i64 0, .int .i64 0, .int .i64 0, .int .i64 0, .int .i64 0, .int .i64 0] := ⟨Try.underlying23, sz_113, by decide, by decide, _, ze_113, by kernel_rfl⟩
theorem fn_48 : IsFn Try.prog 48 := isFn_of Try.func48 (by kernel_rfl) rfl
theorem bt_117 : BuildTy Try.prog 117 #[(0, 1), (1, 1), (2, 24), (26, 24)] #[.int .i64 0, .int .i64 0, .int .i64 0, .int .i64 0, .int .i64 0, .int .i64 0, .int .i64 0, .int .i64 0, .int .i64 0, .int .i64 0, .int .i64 0, .int .i64 0, .int .i64 0, .int .i64 0, .int .i64 0, .int .i64 0, .int .i64 0, .int .i64 0, .int .i64 0, .int .i64 0, .int .i64 0, .int .i64 0, .int .i64 0, .int .i64 0, .int .i64 0, .int .i64 0, .int .i64 0, .int .i64 0, .int .i64 0, .int .i64 0, .int .i64 0, .int .i64 0, .int .i64 0, .int .i64 0, .int .i64 0, .int .i64 0, .int .i64 0, .int .i64 0, .int .i64 0, .int .i64 0, .int .i64 0, .int .i64 0, .int .i64 0, .int .i64 0, .int .i64 0, .int .i64 0, .int .i64 0, .int .i64 0, .int .i64 0, .int .i64 0] := ⟨_, Try.underlying117, fun w => by kernel_rfl, ze_117⟩
theorem bsl_24_3 : BuildSl Try.prog 24 3 117 50 #[.int .i64 0, .int .i64 0, .int .i64 0, .int .i64 0, .int .i64 0, .int .i64 0, .int .i64 0, .int .i64 0, .int .i64 0, .int .i64 0, .int .i64 0, .int .i64 0, .int .i64 0, .int .i64 0, .int .i64 0, .int .i64 0, .int .i64 0, .int .i64 0, .int .i64 0, .int .i64 0, .int .i64 0, .int .i64 0, .int .i64 0, .int .i64 0, .int .i64 0, .int .i64 0, .int .i64 0, .int .i64 0, .int .i64 0, .int .i64 0, .int .i64 0, .int .i64 0, .int .i64 0, .int .i64 0, .int .i64 0, .int .i64 0, .int .i64 0, .int .i64 0, .int .i64 0, .int .i64 0, .int .i64 0, .int .i64 0, .int .i64 0, .int .i64 0, .int .i64 0, .int .i64 0, .int .i64 0, .int .i64 0, .int .i64 0, .int .i64 0, .int .i64 0, .int .i64 0, .int .i64 0, .int .i64 0, .int .i64 0, .int .i64 0, .int .i64 0, .int .i64 0, .int .i64 0, .int .i64 0, .int .i64 0, .int .i64 0, .int .i64 0, .int .i64 0, .int .i64 0, .int .i64 0, .int .i64 0, .int .i64 0, .int .i64 0, .int .i64 0, .int .i64 0, .int .i64 0, .int .i64 0, .int .i64 0, .int .i64 0, .int .i64 0, .int .i64 0, .int .i64 0, .int .i64 0, .int .i64 0, .int .i64 0, .int .i64 0, .int .i64 0, .int .i64 0, .int .i64 0, .int .i64 0, .int .i64 0, .int .i64 0, .int .i64 0, .int .i64 0, .int .i64 0, .int .i64 0, .int .i64 0, .int .i64 0, .int .i64 0, .int .i64 0, .int .i64 0, .int .i64 0, .int .i64 0, .int .i64 0, .int .i64 0, .int .i64 0, .int .i64 0, .int .i64 0, .int .i64 0, .int .i64 0, .int .i64 0, .int .i64 0, .int .i64 0, .int .i64 0, .int .i64 0, .int .i64 0, .int .i64 0, .int .i64 0, .int .i64 0, .int .i64 0, .int .i64 0, .int .i64 0, .int .i64 0, .int .i64 0, .int .i64 0, .int .i64 0, .int .i64 0, .int .i64 0, .int .i64 0, .int .i64 0, .int .i64 0, .int .i64 0, .int .i64 0, .int .i64 0, .int .i64 0, .int .i64 0, .int .i64 0, .int .i64 0, .int .i64 0, .int .i64 0, .int .i64 0, .int .i64 0, .int .i64 0, .int .i64 0, .int .i64 0, .int .i64 0, .int .i64 0, .int .i64 0, .int .i64 0, .int .i64 0, .int .i64 0, .int .i64 0, .int .i64 0, .int .i64 0] := ⟨Try.underlying24, sz_117, by decide, by decide, _, ze_117, by kernel_rfl⟩
theorem ze_26 : Zero Try.prog 26 #[.int .i64 0, .slice none 0 0] := fun w => ⟨.agg #[.int .i64 0, .slice none 0 0], by kernel_rfl, rfl⟩
theorem bt_26 : BuildTy Try.prog 26 #[(0, 1), (1, 1)] #[.int .i64 0, .slice none 0 0] := ⟨_, Try.underlying26, fun w => by kernel_rfl, ze_26⟩
theorem sz_26 : Size Try.prog 26 2 := fun w => by kernel_rfl
theorem bt_34 : BuildTy Try.prog 34 #[(0, 1), (1, 1), (2, 1), (3, 1), (4, 1), (5, 1), (6, 1), (7, 1)] #[.int .i64 0, .int .i64 0, .int .i64 0, .int .i64 0, .int .i64 0, .int .i64 0, .int .i64 0, .slice none 0 0] := ⟨_, Try.underlying34, fun w => by kernel_rfl, ze_34⟩
theorem bt_119 : BuildTy Try.prog 119 #[(0, 1), (1, 1), (2, 1)] #[.int .i64 0, .int .i64 0, .int .i64 0] := ⟨_, Try.underlying119, fun w => by kernel_rfl, ze_119⟩
theorem bsl_32_4 : BuildSl Try.prog 32 4 119 3 #[.int .i64 0, .int .i64 0, .int .i64 0, .int .i64 0, .int .i64 0, .int .i64 0, .int .i64 0, .int .i64 0, .int .i64 0, .int .i64 0, .int .i64 0, .int .i64 0] := ⟨Try.underlying32, sz_119, by decide, by decide, _, ze_119, by kernel_rfl⟩
theorem bsl_27_4 : BuildSl Try.prog 27 4 34 8 #[.int .i64 0, .int .i64 0, .int .i64 0, .int .i64 0, .int .i64 0, .int .i64 0, .int .i64 0, .slice none 0 0, .int .i64 0, .int .i64 0, .int .i64 0, .int .i64 0, .int .i64 0, .int .i64 0, .int .i64 0, .slice none 0 0, .int .i64 0, .int .i64 0, .int .i64 0, .int .i64 0, .int .i64 0, .int .i64 0, .int .i64 0, .slice none 0 0, .int .i64 0, .int .i64 0, .int .i64 0, .int .i64 0, .int .i64 0, .int .i64 0, .int .i64 0, .slice none 0 0] := ⟨Try.underlying27, sz_34, by decide, by decide, _, ze_34, by kernel_rfl⟩
theorem bsl_27_2 : BuildSl Try.prog 27 2 34 8 #[.int .i64 0, .int .i64 0, .int .i64 0, .int .i64 0, .int .i64 0, .int .i64 0, .int .i64 0, .slice none 0 0, .int .i64 0, .int .i64 0, .int .i64 0, .int .i64 0, .int .i64 0, .int .i64 0, .int .i64 0, .slice none 0 0] := ⟨Try.underlying27, sz_34, by decide, by decide, _, ze_34, by kernel_rfl⟩
theorem fn_20 : IsFn Try.prog 20 := isFn_of Try.func20 (by kernel_rfl) rfl
theorem fn_22 : IsFn Try.prog 22 := isFn_of Try.func22 (by kernel_rfl) rfl
theorem fn_23 : IsFn Try.prog 23 := isFn_of Try.func23 (by kernel_rfl) rfl
theorem fn_14 : IsFn Try.prog 14 := isFn_of Try.func14 (by kernel_rfl) rfl
theorem fn_15 : IsFn Try.prog 15 := isFn_of Try.func15 (by kernel_rfl) rfl
theorem samePosts_self (w : World) (a : List Posting) (aa : Option Addr) (ac : Nat) (ba : Option Addr) (bc : Nat) (ha : SlIn w 6 encPost aa a) (hb : SlIn w 6 encPost ba a) : Calls Try.prog 22 #[.slice aa a.length ac, .slice ba a.length bc] w (fun e w' => e = .returned (.bool true) ∧ Below w.heap.size w w') := by
  have h := samePosts_calls w a aa ac a ba bc ha hb
  rwa [decide_eq_true rfl] at h
theorem sameRests_self (w : World) (a : List Rest) (aa : Option Addr) (ac : Nat) (ba : Option Addr) (bc : Nat) (ha : SlIn w 4 encRest aa a) (hb : SlIn w 4 encRest ba a) : Calls Try.prog 23 #[.slice aa a.length ac, .slice ba a.length bc] w (fun e w' => e = .returned (.bool true) ∧ Below w.heap.size w w') := by
  have h := sameRests_calls w a aa ac a ba bc ha hb
  rwa [decide_eq_true rfl] at h
theorem sanc1 (w : World) (ta : Option Addr) (tc : Nat) (na : Option Addr) (nc : Nat) (ht : SlIn w 3 encTar ta sanT) (hn : SlIn w 50 encLink na sanN.links) :
    Calls Try.prog 18 #[.slice ta 2 tc, .agg (netA sanN na nc), .agg (encUse sanK).toArray] w (fun e w' => e = .returned (.tuple #[.int .i64 1000, .int .i64 0]) ∧ Below w.heap.size w w') := by
  have h := (by (have h_ := charge_calls w sanT ta tc sanN na nc sanK ht hn sanOk SlAt.nothing; simp only [san_c1] at h_; exact h_))
  exact h
theorem sanc2 (w : World) (ta : Option Addr) (tc : Nat) (na : Option Addr) (nc : Nat) (ht : SlIn w 3 encTar ta sanT) (hn : SlIn w 50 encLink na sanN.links) :
    Calls Try.prog 18 #[.slice ta 2 tc, .agg (netA sanN na nc), .agg (encUse sanRd).toArray] w (fun e w' => e = .returned (.tuple #[.int .i64 70, .int .i64 0]) ∧ Below w.heap.size w w') := by
  have h := (by (have h_ := charge_calls w sanT ta tc sanN na nc sanRd ht hn sanOk SlAt.nothing; simp only [san_c2] at h_; exact h_))
  exact h
theorem sanc3 (w : World) (ta : Option Addr) (tc : Nat) (na : Option Addr) (nc : Nat) (ht : SlIn w 3 encTar ta sanT) (hn : SlIn w 50 encLink na sanN.links) (la : Option Addr) (hl : SlIn w 3 encSend la sanL) :
    Calls Try.prog 18 #[.slice ta 2 tc, .agg (netA sanN na nc), .agg (encUse (sanMv la)).toArray] w (fun e w' => e = .returned (.tuple #[.int .i64 420000, .int .i64 0]) ∧ Below w.heap.size w w') := by
  have h := (by (have h_ := charge_calls w sanT ta tc sanN na nc (sanMv la) ht hn sanOk hl; simp only [san_c3] at h_; exact h_))
  exact h
theorem sanc4 (w : World) (ta : Option Addr) (tc : Nat) (na : Option Addr) (nc : Nat) (ht : SlIn w 3 encTar ta sanT) (hn : SlIn w 50 encLink na sanN.links) :
    Calls Try.prog 18 #[.slice ta 2 tc, .agg (netA sanN na nc), .agg (encUse sanFi).toArray] w (fun e w' => e = .returned (.tuple #[.int .i64 3000, .int .i64 0]) ∧ Below w.heap.size w w') := by
  have h := (by (have h_ := charge_calls w sanT ta tc sanN na nc sanFi ht hn sanOk SlAt.nothing; simp only [san_c4] at h_; exact h_))
  exact h
theorem sanck (w : World) (ta : Option Addr) (tc : Nat) (la sa : Option Addr) (lc : Nat) (ht : SlIn w 3 encTar ta sanT) (hl : SlIn w 8 encUse la [sanK, sanRd, sanMv sa, sanFi]) : Calls Try.prog 16 #[.slice ta 2 tc, .slice la 4 lc] w (fun e w' => e = .returned (.int .i64 0) ∧ Below w.heap.size w w') := by
  have h_ := mcheck_calls w sanT ta tc [sanK, sanRd, sanMv sa, sanFi] la lc ht hl
  simp only [san_ck] at h_
  exact h_
theorem sanp1 (w : World) (ta : Option Addr) (tc : Nat) (na : Option Addr) (nc : Nat) (ht : SlIn w 3 encTar ta sanT) (hn : SlIn w 50 encLink na sanN.links) (la : Option Addr) (lc : Nat) (hl : SlIn w 8 encUse la [sanK, sanRd]) :
    Calls Try.prog 20 #[.slice none 0 0, .slice ta 2 tc, .agg (netA sanN na nc), .slice la 2 lc, .int .i64 9] w (fun e w' => ∃ q : (Option Addr × Nat) × (Option Addr × Nat), e = .returned (.tuple #[.slice q.1.1 1 q.1.2, .slice q.2.1 1 q.2.2, .int .i64 0]) ∧ Below w.heap.size w w' ∧ ((1 ≤ q.1.2 ∧ SlAt w' w.heap.size w'.heap.size 6 encPost q.1.1 [(⟨0, 16, 1, 9, 1, 0⟩ : Posting)]) ∧ (1 ≤ q.2.2 ∧ SlAt w' w.heap.size w'.heap.size 4 encRest q.2.1 [sanRe]))) := by
  have h := (by (have h_ := period_calls w [] none 0 sanT ta tc sanN na nc [sanK, sanRd] la lc 9 SlAt.nothing ht hn sanOk hl (fun u hu => by simp only [List.mem_cons, List.not_mem_nil, or_false] at hu; rcases hu with rfl | rfl <;> exact ⟨SlAt.nothing, Nat.le_refl 0⟩); simp only [san_p1] at h_; exact h_))
  exact h
theorem sanp2 (w : World) (ta : Option Addr) (tc : Nat) (na : Option Addr) (nc : Nat) (ht : SlIn w 3 encTar ta sanT) (hn : SlIn w 50 encLink na sanN.links) (la : Option Addr) (lc : Nat) (hl : SlIn w 8 encUse la [sanMo]) (ra : Option Addr) (rc : Nat) (hr : SlIn w 4 encRest ra [sanRe]) :
    Calls Try.prog 20 #[.slice ra 1 rc, .slice ta 2 tc, .agg (netA sanN na nc), .slice la 1 lc, .int .i64 10] w (fun e w' => ∃ q : (Option Addr × Nat) × (Option Addr × Nat), e = .returned (.tuple #[.slice q.1.1 1 q.1.2, .slice q.2.1 1 q.2.2, .int .i64 0]) ∧ Below w.heap.size w w' ∧ ((1 ≤ q.1.2 ∧ SlAt w' w.heap.size w'.heap.size 6 encPost q.1.1 [(⟨1, 16, 1, 10, 3, 0⟩ : Posting)]) ∧ (1 ≤ q.2.2 ∧ SlAt w' w.heap.size w'.heap.size 4 encRest q.2.1 [sanRe]))) := by
  have h := (by (have h_ := period_calls w [sanRe] ra rc sanT ta tc sanN na nc [sanMo] la lc 10 hr ht hn sanOk hl (fun u hu => by simp only [List.mem_cons, List.not_mem_nil, or_false] at hu; rcases hu with rfl <;> exact ⟨SlAt.nothing, Nat.le_refl 0⟩); simp only [san_p2] at h_; exact h_))
  exact h
theorem sanp3 (w : World) (ta : Option Addr) (tc : Nat) (na : Option Addr) (nc : Nat) (ht : SlIn w 3 encTar ta sanT) (hn : SlIn w 50 encLink na sanN.links) (la : Option Addr) (lc : Nat) (hl : SlIn w 8 encUse la [sanFi]) :
    Calls Try.prog 20 #[.slice none 0 0, .slice ta 2 tc, .agg (netA sanN na nc), .slice la 1 lc, .int .i64 10] w (fun e w' => ∃ q : (Option Addr × Nat) × (Option Addr × Nat), e = .returned (.tuple #[.slice q.1.1 1 q.1.2, .slice q.2.1 0 q.2.2, .int .i64 0]) ∧ Below w.heap.size w w' ∧ ((1 ≤ q.1.2 ∧ SlAt w' w.heap.size w'.heap.size 6 encPost q.1.1 [(⟨12, 1, 3, 10, 5, 0⟩ : Posting)]) ∧ (0 ≤ q.2.2 ∧ SlAt w' w.heap.size w'.heap.size 4 encRest q.2.1 []))) := by
  have h := (by (have h_ := period_calls w [] none 0 sanT ta tc sanN na nc [sanFi] la lc 10 SlAt.nothing ht hn sanOk hl (fun u hu => by simp only [List.mem_cons, List.not_mem_nil, or_false] at hu; rcases hu with rfl <;> exact ⟨SlAt.nothing, Nat.le_refl 0⟩); simp only [san_p3] at h_; exact h_))
  exact h
set_option maxRecDepth 100000 in
set_option maxHeartbeats 8000000 in
theorem sanity9_calls (w : World)   :
    Calls Try.prog 15 #[] w (fun e w' => e = .returned (.bool true) ∧ Below w.heap.size w w') := by
  refine calls_of_tc (N := 197) (vs := []) Try.func15 rfl rfl (Nat.le_of_ble_eq_true rfl) ?_
  refine tc_seq ?_
  refine tc_region ?_
  refine s0 (qv_assign rfl) ?_
  refine tl_nil (tp_normal ?_)
  refine tc_seq ?_
  refine tc_region ?_
  refine s0 (qv_build (cells := #[.int .i64 (2), .int .i64 (30), .int .i64 (500)]) bt_113 rfl (by kernel_rfl)) ?_
  refine s0 (qv_build (cells := #[.int .i64 (1), .int .i64 (10), .int .i64 (100)]) bt_113 rfl (by kernel_rfl)) ?_
  refine tl_buildSliceL (enc := encTar) sanT bsl_23_2 (fun b30_0 => ?_) rfl (by kernel_rfl)
  have hsb30_0 := SlAt.ofBox (enc := encTar) (sz := 3) (b := b30_0) (E := 113) (l := sanT) (Nat.le_of_ble_eq_true rfl) (fun x hx => rfl)
  refine s0 (qv_assign rfl) ?_
  refine tl_nil (tp_normal ?_)
  refine tc_seq ?_
  refine tc_region ?_
  refine s0 (qv_call fn_48 rfl (fun w hm => always_calls w (100))) ?_
  refine s0 (qv_call fn_48 rfl (fun w hm => always_calls w (2))) ?_
  refine s0 (qv_build bt_117 rfl rfl) ?_
  refine s0 (qv_call fn_48 rfl (fun w hm => always_calls w (100))) ?_
  refine s0 (qv_call fn_48 rfl (fun w hm => always_calls w (2))) ?_
  refine s0 (qv_build bt_117 rfl rfl) ?_
  refine s0 (qv_call fn_48 rfl (fun w hm => always_calls w (10))) ?_
  refine s0 (qv_call fn_48 rfl (fun w hm => always_calls w (1))) ?_
  refine s0 (qv_build bt_117 rfl rfl) ?_
  refine tl_buildSliceL (enc := encLink) sanN.links bsl_24_3 (fun b40_1 => ?_) rfl (by kernel_rfl)
  have hsb40_1 := SlAt.ofBox (enc := encLink) (sz := 50) (b := b40_1) (E := 117) (l := sanN.links) (Nat.le_of_ble_eq_true rfl) (fun x hx => by (have h_ := sanOk x hx; simp [encLink, h_.1, h_.2]))
  refine s0 (qv_build bt_26 rfl rfl) ?_
  refine tl_alloc ze_26 (by decide) (fun b2_2 => ?_)
  refine tl_storeO (i := 0) sz_26 rfl rfl rfl rfl rfl rfl rfl ?_
  refine tl_nil (tp_normal ?_)
  refine tc_seq ?_
  refine tc_region ?_
  refine s0 (qv_build bt_34 rfl rfl) ?_
  refine tl_alloc ze_34 (by decide) (fun b3_3 => ?_)
  refine tl_storeO (i := 0) sz_34 rfl rfl rfl rfl rfl rfl rfl ?_
  refine tl_nil (tp_normal ?_)
  refine tc_seq ?_
  refine tc_region ?_
  refine s0 (qv_build bt_34 rfl rfl) ?_
  refine tl_alloc ze_34 (by decide) (fun b4_4 => ?_)
  refine tl_storeO (i := 0) sz_34 rfl rfl rfl rfl rfl rfl rfl ?_
  refine tl_nil (tp_normal ?_)
  refine tc_seq ?_
  refine tc_region ?_
  refine s0 (qv_build (cells := #[.int .i64 (0), .int .i64 (5), .int .i64 (100)]) bt_119 rfl (by kernel_rfl)) ?_
  refine s0 (qv_build (cells := #[.int .i64 (2), .int .i64 (5), .int .i64 (10)]) bt_119 rfl (by kernel_rfl)) ?_
  refine s0 (qv_build (cells := #[.int .i64 (1), .int .i64 (6), .int .i64 (100)]) bt_119 rfl (by kernel_rfl)) ?_
  refine s0 (qv_build (cells := #[.int .i64 (2), .int .i64 (6), .int .i64 (10)]) bt_119 rfl (by kernel_rfl)) ?_
  refine tl_buildSliceL (enc := encSend) sanL bsl_32_4 (fun b48_5 => ?_) rfl (by kernel_rfl)
  have hsb48_5 := SlAt.ofBox (enc := encSend) (sz := 3) (b := b48_5) (E := 119) (l := sanL) (Nat.le_of_ble_eq_true rfl) (fun _ _ => rfl)
  refine s0 (qv_build bt_34 rfl rfl) ?_
  refine tl_alloc ze_34 (by decide) (fun b5_6 => ?_)
  refine tl_storeO (i := 0) sz_34 rfl rfl rfl rfl rfl rfl rfl ?_
  refine tl_nil (tp_normal ?_)
  refine tc_seq ?_
  refine tc_region ?_
  refine s0 (qv_build bt_34 rfl rfl) ?_
  refine tl_alloc ze_34 (by decide) (fun b6_7 => ?_)
  refine tl_storeO (i := 0) sz_34 rfl rfl rfl rfl rfl rfl rfl ?_
  refine tl_nil (tp_normal ?_)
  refine tc_seq ?_
  refine tc_region ?_
  refine s0 (qv_move rfl) ?_
  refine s0 (qv_ldBW (i := 5) ag_26 rfl rfl rfl) ?_
  refine s0 (qv_ldBW (i := 4) ag_34 rfl rfl rfl) ?_
  refine s0 (qv_call fn_18 rfl (fun w hm => sanc1 w (some ⟨b30_0, 0, none⟩) 2 (some ⟨b40_1, 0, none⟩) 3 (hsb30_0.into (Mem.has_box (by repeat (first | exact List.Mem.head _ | refine List.Mem.tail _ ?_))) hm) (hsb40_1.into (Mem.has_box (by repeat (first | exact List.Mem.head _ | refine List.Mem.tail _ ?_))) hm))) ?_
  refine s0 (qv_move rfl) ?_
  refine s0 (qv_extract rfl rfl) ?_
  refine s0 (qv_extract rfl rfl) ?_
  refine s0 (qv_assign rfl) ?_
  refine s0 (qv_assign rfl) ?_
  refine tl_nil (tp_normal ?_)
  refine tc_seq ?_
  refine tc_region ?_
  refine s0 (qv_move rfl) ?_
  refine s0 (qv_ldBW (i := 5) ag_26 rfl rfl rfl) ?_
  refine s0 (qv_ldBW (i := 3) ag_34 rfl rfl rfl) ?_
  refine s0 (qv_call fn_18 rfl (fun w hm => sanc2 w (some ⟨b30_0, 0, none⟩) 2 (some ⟨b40_1, 0, none⟩) 3 (hsb30_0.into (Mem.has_box (by repeat (first | exact List.Mem.head _ | refine List.Mem.tail _ ?_))) hm) (hsb40_1.into (Mem.has_box (by repeat (first | exact List.Mem.head _ | refine List.Mem.tail _ ?_))) hm))) ?_
  refine s0 (qv_move rfl) ?_
  refine s0 (qv_extract rfl rfl) ?_
  refine s0 (qv_extract rfl rfl) ?_
  refine s0 (qv_assign rfl) ?_
  refine s0 (qv_assign rfl) ?_
  refine tl_nil (tp_normal ?_)
  refine tc_seq ?_
  refine tc_region ?_
  refine s0 (qv_move rfl) ?_
  refine s0 (qv_ldBW (i := 5) ag_26 rfl rfl rfl) ?_
  refine s0 (qv_ldBW (i := 1) ag_34 rfl rfl rfl) ?_
  refine s0 (qv_call fn_18 rfl (fun w hm => sanc3 w (some ⟨b30_0, 0, none⟩) 2 (some ⟨b40_1, 0, none⟩) 3 (hsb30_0.into (Mem.has_box (by repeat (first | exact List.Mem.head _ | refine List.Mem.tail _ ?_))) hm) (hsb40_1.into (Mem.has_box (by repeat (first | exact List.Mem.head _ | refine List.Mem.tail _ ?_))) hm) (some ⟨b48_5, 0, none⟩) (hsb48_5.into (Mem.has_box (by repeat (first | exact List.Mem.head _ | refine List.Mem.tail _ ?_))) hm))) ?_
  refine s0 (qv_move rfl) ?_
  refine s0 (qv_extract rfl rfl) ?_
  refine s0 (qv_extract rfl rfl) ?_
  refine s0 (qv_assign rfl) ?_
  refine s0 (qv_assign rfl) ?_
  refine tl_nil (tp_normal ?_)
  refine tc_seq ?_
  refine tc_region ?_
  refine s0 (qv_move rfl) ?_
  refine s0 (qv_ldBW (i := 5) ag_26 rfl rfl rfl) ?_
  refine s0 (qv_ldBW (i := 0) ag_34 rfl rfl rfl) ?_
  refine s0 (qv_call fn_18 rfl (fun w hm => sanc4 w (some ⟨b30_0, 0, none⟩) 2 (some ⟨b40_1, 0, none⟩) 3 (hsb30_0.into (Mem.has_box (by repeat (first | exact List.Mem.head _ | refine List.Mem.tail _ ?_))) hm) (hsb40_1.into (Mem.has_box (by repeat (first | exact List.Mem.head _ | refine List.Mem.tail _ ?_))) hm))) ?_
  refine s0 (qv_move rfl) ?_
  refine s0 (qv_extract rfl rfl) ?_
  refine s0 (qv_extract rfl rfl) ?_
  refine s0 (qv_assign rfl) ?_
  refine s0 (qv_assign rfl) ?_
  refine tl_nil (tp_normal ?_)
  refine tc_seq ?_
  refine tc_seq ?_
  refine tc_region ?_
  refine s0 (qv_move rfl) ?_
  refine s0 (qv_neq rfl rfl) ?_
  refine s0 (qv_move rfl) ?_
  refine s0g (qv_move rfl) ?_
  refine s0g (qv_neq rfl rfl) ?_
  refine s0 (qv_pickF rfl rfl) ?_
  refine s0 (qv_move rfl) ?_
  refine s0g (qv_move rfl) ?_
  refine s0g (qv_neq rfl rfl) ?_
  refine s0 (qv_pickF rfl rfl) ?_
  refine s0 (qv_move rfl) ?_
  refine s0g (qv_move rfl) ?_
  refine s0g (qv_neq rfl rfl) ?_
  refine s0 (qv_pickF rfl rfl) ?_
  refine s0 (qv_move rfl) ?_
  refine s0g (qv_move rfl) ?_
  refine s0g (qv_neq rfl rfl) ?_
  refine s0 (qv_pickF rfl rfl) ?_
  refine s0 (qv_move rfl) ?_
  refine s0g (qv_move rfl) ?_
  refine s0g (qv_neq rfl rfl) ?_
  refine s0 (qv_pickF rfl rfl) ?_
  refine s0 (qv_move rfl) ?_
  refine s0g (qv_move rfl) ?_
  refine s0g (qv_neq rfl rfl) ?_
  refine s0 (qv_pickF rfl rfl) ?_
  refine s0 (qv_move rfl) ?_
  refine s0g (qv_move rfl) ?_
  refine s0g (qv_neq rfl rfl) ?_
  refine s0 (qv_pickF rfl rfl) ?_
  refine s0 (qv_move rfl) ?_
  refine s0g (qv_move rfl) ?_
  refine s0g (qv_ldBW (i := 4) ag_34 rfl rfl rfl) ?_
  refine s0g (qv_ldBW (i := 3) ag_34 rfl rfl rfl) ?_
  refine s0g (qv_ldBW (i := 1) ag_34 rfl rfl rfl) ?_
  refine s0g (qv_ldBW (i := 0) ag_34 rfl rfl rfl) ?_
  refine tl_unguard ?_
  refine tl_buildSliceL (enc := encUse) [sanK, sanRd, sanMv (some ⟨b48_5, 0, none⟩), sanFi] bsl_27_4 (fun b115_8 => ?_) rfl (by kernel_rfl)
  have hsb115_8 := SlAt.ofBox (enc := encUse) (sz := 8) (b := b115_8) (E := 34) (l := [sanK, sanRd, sanMv (some ⟨b48_5, 0, none⟩), sanFi]) (Nat.le_of_ble_eq_true rfl) (fun x hx => rfl)
  refine s0g (qv_call fn_16 rfl (fun w hm => sanck w (some ⟨b30_0, 0, none⟩) 2 (some ⟨b115_8, 0, none⟩) (some ⟨b48_5, 0, none⟩) 4 (hsb30_0.into (Mem.has_box (by repeat (first | exact List.Mem.head _ | refine List.Mem.tail _ ?_))) hm) (hsb115_8.into (Mem.has_box (by repeat (first | exact List.Mem.head _ | refine List.Mem.tail _ ?_))) hm))) ?_
  refine s0g (qv_neq rfl rfl) ?_
  refine s0 (qv_pickF rfl rfl) ?_
  refine tl_nil (tp_normal ?_)
  refine tc_false rfl ?_
  refine tc_skip (tp_normal ?_)
  refine tc_seq ?_
  refine tc_region ?_
  refine s0 (qv_move rfl) ?_
  refine s0 (qv_ldBW (i := 6) ag_26 rfl rfl rfl) ?_
  refine s0 (qv_ldBW (i := 5) ag_34 rfl rfl rfl) ?_
  refine s0 (qv_ldBW (i := 4) ag_34 rfl rfl rfl) ?_
  refine tl_buildSliceL (enc := encUse) [sanK, sanRd] bsl_27_2 (fun b124_9 => ?_) rfl (by kernel_rfl)
  have hsb124_9 := SlAt.ofBox (enc := encUse) (sz := 8) (b := b124_9) (E := 34) (l := [sanK, sanRd]) (Nat.le_of_ble_eq_true rfl) (fun x hx => rfl)
  refine tl_callR fn_20 rfl (by decide) (fun w hm => sanp1 w (some ⟨b30_0, 0, none⟩) 2 (some ⟨b40_1, 0, none⟩) 3 (hsb30_0.into (Mem.has_box (by repeat (first | exact List.Mem.head _ | refine List.Mem.tail _ ?_))) hm) (hsb40_1.into (Mem.has_box (by repeat (first | exact List.Mem.head _ | refine List.Mem.tail _ ?_))) hm) (some ⟨b124_9, 0, none⟩) 2 (hsb124_9.into (Mem.has_box (by repeat (first | exact List.Mem.head _ | refine List.Mem.tail _ ?_))) hm)) (fun r125 wa125 wb125 hm125 hb125 hr125 => ?_)
  refine s0 (qv_move rfl) ?_
  refine s0 (qv_extract rfl rfl) ?_
  refine s0 (qv_extract rfl rfl) ?_
  refine s0 (qv_extract rfl rfl) ?_
  refine s0 (qv_assign rfl) ?_
  refine s0 (qv_assign rfl) ?_
  refine s0 (qv_assign rfl) ?_
  refine tl_nil (tp_normal ?_)
  refine tc_seq ?_
  refine tc_region ?_
  refine s0 (qv_ldBW (i := 5) ag_34 rfl rfl rfl) ?_
  refine tl_alloc ze_34 (by decide) (fun b18_10 => ?_)
  refine tl_storeO (i := 0) sz_34 rfl rfl rfl rfl rfl rfl rfl ?_
  refine tl_nil (tp_normal ?_)
  refine tc_seq ?_
  refine tc_region ?_
  refine s0 (qv_fa fo_34_6 rfl) ?_
  refine tl_store1 (i := 0) sz_3 rfl rfl rfl rfl rfl (Nat.le_of_ble_eq_true rfl) ?_
  refine tl_nil (tp_normal ?_)
  refine tc_seq ?_
  refine tc_region ?_
  refine s0 (qv_move rfl) ?_
  refine s0 (qv_move rfl) ?_
  refine s0 (qv_ldBW (i := 8) ag_26 rfl rfl rfl) ?_
  refine s0 (qv_ldBW (i := 0) ag_34 rfl rfl rfl) ?_
  refine tl_buildSliceL (enc := encUse) [sanMo] bsl_27_1 (fun b136_11 => ?_) rfl (by kernel_rfl)
  have hsb136_11 := SlAt.ofBox (enc := encUse) (sz := 8) (b := b136_11) (E := 34) (l := [sanMo]) (Nat.le_of_ble_eq_true rfl) (fun x hx => rfl)
  refine tl_callR fn_20 rfl (by decide) (fun w hm => sanp2 w (some ⟨b30_0, 0, none⟩) 2 (some ⟨b40_1, 0, none⟩) 3 (hsb30_0.into (Mem.has_box (by repeat (first | exact List.Mem.head _ | refine List.Mem.tail _ ?_))) hm) (hsb40_1.into (Mem.has_box (by repeat (first | exact List.Mem.head _ | refine List.Mem.tail _ ?_))) hm) (some ⟨b136_11, 0, none⟩) 1 (hsb136_11.into (Mem.has_box (by repeat (first | exact List.Mem.head _ | refine List.Mem.tail _ ?_))) hm) r125.2.1 r125.2.2 (hr125.2.2.into (Mem.has_kept (by first | exact .head _ | exact .tail _ (.head _) | exact .tail _ (.tail _ (.head _)) | exact .tail _ (.tail _ (.tail _ (.head _))))) hm)) (fun r137 wa137 wb137 hm137 hb137 hr137 => ?_)
  refine s0 (qv_move rfl) ?_
  refine s0 (qv_extract rfl rfl) ?_
  refine s0 (qv_extract rfl rfl) ?_
  refine s0 (qv_extract rfl rfl) ?_
  refine s0 (qv_assign rfl) ?_
  refine s0 (qv_assign rfl) ?_
  refine s0 (qv_assign rfl) ?_
  refine tl_nil (tp_normal ?_)
  refine tc_seq ?_
  refine tc_region ?_
  refine s0 (qv_move rfl) ?_
  refine s0 (qv_ldBW (i := 9) ag_26 rfl rfl rfl) ?_
  refine s0 (qv_ldBW (i := 4) ag_34 rfl rfl rfl) ?_
  refine tl_buildSliceL (enc := encUse) [sanFi] bsl_27_1 (fun b145_12 => ?_) rfl (by kernel_rfl)
  have hsb145_12 := SlAt.ofBox (enc := encUse) (sz := 8) (b := b145_12) (E := 34) (l := [sanFi]) (Nat.le_of_ble_eq_true rfl) (fun x hx => rfl)
  refine tl_callR fn_20 rfl (by decide) (fun w hm => sanp3 w (some ⟨b30_0, 0, none⟩) 2 (some ⟨b40_1, 0, none⟩) 3 (hsb30_0.into (Mem.has_box (by repeat (first | exact List.Mem.head _ | refine List.Mem.tail _ ?_))) hm) (hsb40_1.into (Mem.has_box (by repeat (first | exact List.Mem.head _ | refine List.Mem.tail _ ?_))) hm) (some ⟨b145_12, 0, none⟩) 1 (hsb145_12.into (Mem.has_box (by repeat (first | exact List.Mem.head _ | refine List.Mem.tail _ ?_))) hm)) (fun r146 wa146 wb146 hm146 hb146 hr146 => ?_)
  refine s0 (qv_move rfl) ?_
  refine s0 (qv_extract rfl rfl) ?_
  refine s0 (qv_extract rfl rfl) ?_
  refine s0 (qv_extract rfl rfl) ?_
  refine s0 (qv_assign rfl) ?_
  refine s0 (qv_assign rfl) ?_
  refine s0 (qv_assign rfl) ?_
  refine tl_nil (tp_normal ?_)
  refine tc_seq ?_
  refine tc_region ?_
  refine s0 (qv_build (cells := #[.int .i64 (4), .int .i64 (1), .int .i64 (3), .int .i64 (70)]) bt_56 rfl (by kernel_rfl)) ?_
  refine tl_buildSliceL (enc := encRest) [sanRe] bsl_22_1 (fun b151_13 => ?_) rfl (by kernel_rfl)
  have hsb151_13 := SlAt.ofBox (enc := encRest) (sz := 4) (b := b151_13) (E := 56) (l := [sanRe]) (Nat.le_of_ble_eq_true rfl) (fun x hx => rfl)
  refine s0 (qv_assign rfl) ?_
  refine tl_nil (tp_normal ?_)
  refine tc_seq ?_
  refine tc_region ?_
  refine s0 (qv_move rfl) ?_
  refine s0 (qv_eql rfl rfl) ?_
  refine s0 (qv_move rfl) ?_
  refine s0g (qv_move rfl) ?_
  refine s0g (qv_build (cells := #[.int .i64 (0), .int .i64 (16), .int .i64 (1), .int .i64 (9), .int .i64 (1), .int .i64 (0)]) bt_54 rfl (by kernel_rfl)) ?_
  refine tl_unguard ?_
  refine tl_buildSliceL (enc := encPost) [(⟨0, 16, 1, 9, 1, 0⟩ : Posting)] bsl_40_1 (fun b157_14 => ?_) rfl (by kernel_rfl)
  have hsb157_14 := SlAt.ofBox (enc := encPost) (sz := 6) (b := b157_14) (E := 54) (l := [(⟨0, 16, 1, 9, 1, 0⟩ : Posting)]) (Nat.le_of_ble_eq_true rfl) (fun x hx => rfl)
  refine s0g (qv_call fn_22 rfl (fun w hm => samePosts_self w [(⟨0, 16, 1, 9, 1, 0⟩ : Posting)] r125.1.1 r125.1.2 (some ⟨b157_14, 0, none⟩) 1 (hr125.1.2.into (Mem.has_kept (by first | exact .head _ | exact .tail _ (.head _) | exact .tail _ (.tail _ (.head _)) | exact .tail _ (.tail _ (.tail _ (.head _))))) hm) (hsb157_14.into (Mem.has_box (by repeat (first | exact List.Mem.head _ | refine List.Mem.tail _ ?_))) hm))) ?_
  refine s0 (qv_pickT rfl rfl) ?_
  refine s0 (qv_move rfl) ?_
  refine s0g (qv_move rfl) ?_
  refine s0g (qv_move rfl) ?_
  refine s0g (qv_call fn_23 rfl (fun w hm => sameRests_self w [sanRe] r125.2.1 r125.2.2 (some ⟨b151_13, 0, none⟩) 1 (hr125.2.2.into (Mem.has_kept (by first | exact .head _ | exact .tail _ (.head _) | exact .tail _ (.tail _ (.head _)) | exact .tail _ (.tail _ (.tail _ (.head _))))) hm) (hsb151_13.into (Mem.has_box (by repeat (first | exact List.Mem.head _ | refine List.Mem.tail _ ?_))) hm))) ?_
  refine s0 (qv_pickT rfl rfl) ?_
  refine s0 (qv_assign rfl) ?_
  refine tl_nil (tp_normal ?_)
  refine tc_seq ?_
  refine tc_region ?_
  refine s0 (qv_move rfl) ?_
  refine s0 (qv_eql rfl rfl) ?_
  refine s0 (qv_move rfl) ?_
  refine s0g (qv_move rfl) ?_
  refine s0g (qv_build (cells := #[.int .i64 (1), .int .i64 (16), .int .i64 (1), .int .i64 (10), .int .i64 (3), .int .i64 (0)]) bt_54 rfl (by kernel_rfl)) ?_
  refine tl_unguard ?_
  refine tl_buildSliceL (enc := encPost) [(⟨1, 16, 1, 10, 3, 0⟩ : Posting)] bsl_40_1 (fun b170_15 => ?_) rfl (by kernel_rfl)
  have hsb170_15 := SlAt.ofBox (enc := encPost) (sz := 6) (b := b170_15) (E := 54) (l := [(⟨1, 16, 1, 10, 3, 0⟩ : Posting)]) (Nat.le_of_ble_eq_true rfl) (fun x hx => rfl)
  refine s0g (qv_call fn_22 rfl (fun w hm => samePosts_self w [(⟨1, 16, 1, 10, 3, 0⟩ : Posting)] r137.1.1 r137.1.2 (some ⟨b170_15, 0, none⟩) 1 (hr137.1.2.into (Mem.has_kept (by first | exact .head _ | exact .tail _ (.head _) | exact .tail _ (.tail _ (.head _)) | exact .tail _ (.tail _ (.tail _ (.head _))))) hm) (hsb170_15.into (Mem.has_box (by repeat (first | exact List.Mem.head _ | refine List.Mem.tail _ ?_))) hm))) ?_
  refine s0 (qv_pickT rfl rfl) ?_
  refine s0 (qv_move rfl) ?_
  refine s0g (qv_move rfl) ?_
  refine s0g (qv_move rfl) ?_
  refine s0g (qv_call fn_23 rfl (fun w hm => sameRests_self w [sanRe] r137.2.1 r137.2.2 (some ⟨b151_13, 0, none⟩) 1 (hr137.2.2.into (Mem.has_kept (by first | exact .head _ | exact .tail _ (.head _) | exact .tail _ (.tail _ (.head _)) | exact .tail _ (.tail _ (.tail _ (.head _))))) hm) (hsb151_13.into (Mem.has_box (by repeat (first | exact List.Mem.head _ | refine List.Mem.tail _ ?_))) hm))) ?_
  refine s0 (qv_pickT rfl rfl) ?_
  refine s0 (qv_assign rfl) ?_
  refine tl_nil (tp_normal ?_)
  refine tc_seq ?_
  refine tc_region ?_
  refine s0 (qv_move rfl) ?_
  refine s0 (qv_move rfl) ?_
  refine s0g (qv_move rfl) ?_
  refine s0 (qv_pickT rfl rfl) ?_
  refine s0 (qv_move rfl) ?_
  refine s0g (qv_move rfl) ?_
  refine s0g (qv_eql rfl rfl) ?_
  refine s0 (qv_pickT rfl rfl) ?_
  refine s0 (qv_move rfl) ?_
  refine s0g (qv_move rfl) ?_
  refine s0g (qv_build (cells := #[.int .i64 (12), .int .i64 (1), .int .i64 (3), .int .i64 (10), .int .i64 (5), .int .i64 (0)]) bt_54 rfl (by kernel_rfl)) ?_
  refine tl_unguard ?_
  refine tl_buildSliceL (enc := encPost) [(⟨12, 1, 3, 10, 5, 0⟩ : Posting)] bsl_40_1 (fun b189_16 => ?_) rfl (by kernel_rfl)
  have hsb189_16 := SlAt.ofBox (enc := encPost) (sz := 6) (b := b189_16) (E := 54) (l := [(⟨12, 1, 3, 10, 5, 0⟩ : Posting)]) (Nat.le_of_ble_eq_true rfl) (fun x hx => rfl)
  refine s0g (qv_call fn_22 rfl (fun w hm => samePosts_self w [(⟨12, 1, 3, 10, 5, 0⟩ : Posting)] r146.1.1 r146.1.2 (some ⟨b189_16, 0, none⟩) 1 (hr146.1.2.into (Mem.has_kept (by first | exact .head _ | exact .tail _ (.head _) | exact .tail _ (.tail _ (.head _)) | exact .tail _ (.tail _ (.tail _ (.head _))))) hm) (hsb189_16.into (Mem.has_box (by repeat (first | exact List.Mem.head _ | refine List.Mem.tail _ ?_))) hm))) ?_
  refine s0 (qv_pickT rfl rfl) ?_
  refine s0 (qv_move rfl) ?_
  refine s0g (qv_move rfl) ?_
  refine s0g (qv_len st_22 rfl) ?_
  refine s0g (qv_eql rfl rfl) ?_
  refine s0 (qv_pickT rfl rfl) ?_
  refine s0 (qv_assign rfl) ?_
  refine tl_nil (tp_normal ?_)
  refine tc_ret (tp_end1 rfl rfl ?_)
  intro w' hm
  exact ⟨rfl, hm.below⟩
end Go.Q
namespace Go.Q
open Go Go.Proofs Go.RowKit
theorem fo_54_3 : FOff Try.prog 54 3 3 := fun b o w => by kernel_rfl
end Go.Q
namespace Go.Q
open Go Go.Proofs Go.RowKit
theorem fo_80_0 : FOff Try.prog 80 0 0 := fun b o w => by kernel_rfl
theorem fo_80_1 : FOff Try.prog 80 1 1 := fun b o w => by kernel_rfl
theorem ag_80 : Agg Try.prog 80 2 := fun w => ⟨by kernel_rfl, by kernel_rfl⟩
theorem fn_87 : IsFn Try.prog 87 := isFn_of Try.func87 (by kernel_rfl) rfl
theorem fn_86 : IsFn Try.prog 86 := isFn_of Try.func86 (by kernel_rfl) rfl
theorem fo_54_5 : FOff Try.prog 54 5 5 := fun b o w => by kernel_rfl
theorem fn_107 : IsFn Try.prog 107 := isFn_of Try.func107 (by kernel_rfl) rfl
theorem fn_91 : IsFn Try.prog 91 := isFn_of Try.func91 (by kernel_rfl) rfl
theorem ze_80 : Zero Try.prog 80 #[.int .i64 0, .slice none 0 0] := fun w => ⟨.agg #[.int .i64 0, .slice none 0 0], by kernel_rfl, rfl⟩
theorem fn_42 : IsFn Try.prog 42 := isFn_of Try.func42 (by kernel_rfl) rfl
theorem bt_80 : BuildTy Try.prog 80 #[(0, 1), (1, 1)] #[.int .i64 0, .slice none 0 0] := ⟨_, Try.underlying80, fun w => by kernel_rfl, ze_80⟩
theorem sz_80 : Size Try.prog 80 2 := fun w => by kernel_rfl
theorem fn_82 : IsFn Try.prog 82 := isFn_of Try.func82 (by kernel_rfl) rfl
set_option maxRecDepth 100000 in
theorem cloneP_calls (w : World) (l : List Posting) (la : Option Addr) (lc : Nat) (hl : SlIn w 6 encPost la l) (hlen2 : l.length ≤ 1000000) :
    Calls Try.prog 82 #[.slice la l.length lc] w (RowBack 54 6 encPost l w) := by
  refine calls_of_tc (N := 8) (vs := [.slice la l.length lc]) Try.func82 rfl rfl (Nat.le_of_ble_eq_true rfl) ?_
  refine tc_rowRoom ?_
  refine tc_seq ?_
  refine tc_region ?_
  refine s0 (qv_assign rfl) ?_
  refine tl_nil (tp_normal ?_)
  refine tc_seq ?_
  refine tc_seq ?_
  refine tc_region ?_
  refine s0 (qv_move rfl) ?_
  refine sb (qv_eqlNil Try.underlying40 rfl rfl) (fun c4 => ?_) (fun c4 => ?_)
  ·
    refine tl_nil (tp_normal ?_)
    refine tc_true rfl ?_
    refine tc_seq ?_
    refine tc_region ?_
    refine s0 (qv_assign rfl) ?_
    refine tl_nil (tp_normal ?_)
    refine tc_ret (tp_then_ret (tp_end1 rfl rfl ?_))
    intro w' hm
    obtain rfl := hl.nil_of_none c4
    exact rowBack_nil rfl hm
  ·
    refine tl_nil (tp_normal ?_)
    refine tc_false rfl ?_
    refine tc_skip (tp_normal ?_)
    refine tc_seq ?_
    refine tc_region ?_
    refine tl_buildRow0 (enc := encPost) 0 Try.underlying40 sz_54 (fun br5 hrw5 => ?_)
    refine s0 (qv_move rfl) ?_
    refine tl_appendS 0 apt_40 hrw5 hl Mem.has_base (none_not c4) (fun v7 ob7 hr7 => ?_) (one_flat one_54 _) (by simp only [List.length_nil]; omega) rfl (fun _ _ => rfl)
    rw [List.nil_append] at hr7
    refine s0 (qv_assign rfl) ?_
    refine tl_nil (tp_normal ?_)
    refine tc_ret (tp_end1 rfl rfl ?_)
    intro w' hm
    exact rowBack_of (i := 0) hr7 rfl rfl hm
set_option maxRecDepth 100000 in
theorem in48_calls (w : World) (n lo hi : Int)  :
    Calls Try.prog 86 #[.int .i64 n, .int .i64 lo, .int .i64 hi] w (fun e w' => e = .returned (.bool (decide (inFrom n lo hi))) ∧ Below w.heap.size w w') := by
  refine calls_of_tc (N := 15) (vs := [.int .i64 n, .int .i64 lo, .int .i64 hi]) Try.func86 rfl rfl (Nat.le_of_ble_eq_true rfl) ?_
  refine tc_seq ?_
  refine tc_region ?_
  refine s0 (qv_assign rfl) ?_
  refine tl_nil (tp_normal ?_)
  refine tc_seq ?_
  refine tc_region ?_
  refine s0 (qv_move rfl) ?_
  refine s0 (qv_move rfl) ?_
  refine sd (qv_geq rfl rfl) (fun c9 => ?_) (fun c9 => ?_)
  ·
    refine s0 (qv_move rfl) ?_
    refine s0g (qv_move rfl) ?_
    refine s0g (qv_move rfl) ?_
    refine s0g (qv_leq rfl rfl) ?_
    refine s0 (qv_pickT rfl rfl) ?_
    refine s0 (qv_assign rfl) ?_
    refine tl_nil (tp_normal ?_)
    refine tc_ret (tp_end1 rfl rfl ?_)
    intro w' hm
    exact ⟨by simp [inFrom, *], hm.below⟩
  ·
    refine s0 (qv_move rfl) ?_
    refine sk ?_
    refine sk ?_
    refine sk ?_
    refine s0 (qv_pickF rfl rfl) ?_
    refine s0 (qv_assign rfl) ?_
    refine tl_nil (tp_normal ?_)
    refine tc_ret (tp_end1 rfl rfl ?_)
    intro w' hm
    exact ⟨by simp [inFrom, *], hm.below⟩
set_option maxRecDepth 100000 in
theorem account_calls (w : World) (b : Book) (ba : Option Addr) (bc : Nat) (n : Int)  :
    Calls Try.prog 87 #[.agg (bookA b ba bc), .int .i64 n] w (fun e w' => e = .returned (.bool (decide (isAcc b.accounts n))) ∧ Below w.heap.size w w') := by
  refine calls_of_tc (N := 13) (vs := [.agg (bookA b ba bc), .int .i64 n]) Try.func87 rfl rfl (Nat.le_of_ble_eq_true rfl) ?_
  refine tc_seq ?_
  refine tc_region ?_
  refine tl_box rfl (by decide) (fun b2_0 => ?_)
  refine s0 (qv_assign rfl) ?_
  refine tl_nil (tp_normal ?_)
  refine tc_seq ?_
  refine tc_region ?_
  refine s0 (qv_move rfl) ?_
  refine sd (qv_geq rfl rfl) (fun c6 => ?_) (fun c6 => ?_)
  ·
    refine s0 (qv_move rfl) ?_
    refine s0g (qv_move rfl) ?_
    refine s0g (qv_fa fo_80_0 rfl) ?_
    refine s0g (qv_ldB (i := 0) sc_3 rfl rfl rfl) ?_
    refine s0g (qv_lss rfl rfl) ?_
    refine s0 (qv_pickT rfl rfl) ?_
    refine s0 (qv_assign rfl) ?_
    refine tl_nil (tp_normal ?_)
    refine tc_ret (tp_end1 rfl rfl ?_)
    intro w' hm
    exact ⟨by simp [isAcc, *], hm.below⟩
  ·
    refine s0 (qv_move rfl) ?_
    refine sk ?_
    refine sk ?_
    refine sk ?_
    refine sk ?_
    refine s0 (qv_pickF rfl rfl) ?_
    refine s0 (qv_assign rfl) ?_
    refine tl_nil (tp_normal ?_)
    refine tc_ret (tp_end1 rfl rfl ?_)
    intro w' hm
    exact ⟨by simp [isAcc, *], hm.below⟩
set_option maxRecDepth 100000 in
theorem rin_calls (w : World) (b : Book) (ba : Option Addr) (bc : Nat) (n : Int)  :
    Calls Try.prog 107 #[.agg (bookA b ba bc), .int .i64 n] w (fun e w' => e = .returned (.bool (decide (isAcc b.accounts n))) ∧ Below w.heap.size w w') := by
  refine calls_of_tc (N := 13) (vs := [.agg (bookA b ba bc), .int .i64 n]) Try.func107 rfl rfl (Nat.le_of_ble_eq_true rfl) ?_
  refine tc_seq ?_
  refine tc_region ?_
  refine tl_box rfl (by decide) (fun b2_0 => ?_)
  refine s0 (qv_assign rfl) ?_
  refine tl_nil (tp_normal ?_)
  refine tc_seq ?_
  refine tc_region ?_
  refine s0 (qv_move rfl) ?_
  refine sd (qv_geq rfl rfl) (fun c6 => ?_) (fun c6 => ?_)
  ·
    refine s0 (qv_move rfl) ?_
    refine s0g (qv_move rfl) ?_
    refine s0g (qv_fa fo_80_0 rfl) ?_
    refine s0g (qv_ldB (i := 0) sc_3 rfl rfl rfl) ?_
    refine s0g (qv_lss rfl rfl) ?_
    refine s0 (qv_pickT rfl rfl) ?_
    refine s0 (qv_assign rfl) ?_
    refine tl_nil (tp_normal ?_)
    refine tc_ret (tp_end1 rfl rfl ?_)
    intro w' hm
    exact ⟨by simp [isAcc, *], hm.below⟩
  ·
    refine s0 (qv_move rfl) ?_
    refine sk ?_
    refine sk ?_
    refine sk ?_
    refine sk ?_
    refine s0 (qv_pickF rfl rfl) ?_
    refine s0 (qv_assign rfl) ?_
    refine tl_nil (tp_normal ?_)
    refine tc_ret (tp_end1 rfl rfl ?_)
    intro w' hm
    exact ⟨by simp [isAcc, *], hm.below⟩
set_option maxRecDepth 100000 in
set_option maxHeartbeats 4000000 in
theorem bcheck_calls (w : World) (b : Book) (ba : Option Addr) (bc : Nat) (hb : SlIn w 6 encPost ba b.posts) :
    Calls Try.prog 42 #[.agg (bookA b ba bc)] w (fun e w' => e = .returned (.int .i64 (bookErr b)) ∧ Below w.heap.size w w') := by
  have hlenb := hb.len
  simp only [maxLen] at hlenb
  refine calls_of_tc (N := 71) (vs := [.agg (bookA b ba bc)]) Try.func42 rfl rfl (Nat.le_of_ble_eq_true rfl) ?_
  refine tc_seq ?_
  refine tc_region ?_
  refine tl_box rfl (by decide) (fun b1_0 => ?_)
  refine s0 (qv_assign rfl) ?_
  refine tl_nil (tp_normal ?_)
  refine tc_seq ?_
  refine tc_seq ?_
  refine tc_region ?_
  refine s0 (qv_fa fo_80_0 rfl) ?_
  refine s0 (qv_ldB (i := 0) sc_3 rfl rfl rfl) ?_
  refine sd (qv_lss rfl rfl) (fun c9 => ?_) (fun c9 => ?_)
  ·
    refine s0 (qv_move rfl) ?_
    refine sk ?_
    refine sk ?_
    refine sk ?_
    refine s0 (qv_pickT rfl rfl) ?_
    refine tl_nil (tp_normal ?_)
    refine tc_true rfl ?_
    refine tc_seq ?_
    refine tc_region ?_
    refine s0 (qv_assign rfl) ?_
    refine tl_nil (tp_normal ?_)
    refine tc_ret (tp_then_ret (tp_end1 rfl rfl ?_))
    intro w' hm
    exact ⟨by rw [bookErr_acc (by omega)], hm.below⟩
  ·
    refine s0 (qv_move rfl) ?_
    refine s0g (qv_fa fo_80_0 rfl) ?_
    refine s0g (qv_ldB (i := 0) sc_3 rfl rfl rfl) ?_
    refine sdg (qv_gtr rfl rfl) (fun c13 => ?_) (fun c13 => ?_)
    ·
      refine s0 (qv_pickF rfl rfl) ?_
      refine tl_nil (tp_normal ?_)
      refine tc_true rfl ?_
      refine tc_seq ?_
      refine tc_region ?_
      refine s0 (qv_assign rfl) ?_
      refine tl_nil (tp_normal ?_)
      refine tc_ret (tp_then_ret (tp_end1 rfl rfl ?_))
      intro w' hm
      exact ⟨by rw [bookErr_acc (by omega)], hm.below⟩
    ·
      refine s0 (qv_pickF rfl rfl) ?_
      refine tl_nil (tp_normal ?_)
      refine tc_false rfl ?_
      refine tc_skip (tp_normal ?_)
      refine tc_seq ?_
      refine tc_seq ?_
      refine tc_region ?_
      refine s0 (qv_fa fo_80_1 rfl) ?_
      refine s0 (qv_ldB (i := 0) sc_40 rfl rfl rfl) ?_
      refine s0 (qv_len st_40 rfl) ?_
      refine sd (qv_gtr rfl rfl) (fun c18 => ?_) (fun c18 => ?_)
      ·
        refine tl_nil (tp_normal ?_)
        refine tc_true rfl ?_
        refine tc_seq ?_
        refine tc_region ?_
        refine s0 (qv_assign rfl) ?_
        refine tl_nil (tp_normal ?_)
        refine tc_ret (tp_then_ret (tp_end1 rfl rfl ?_))
        intro w' hm
        exact ⟨by rw [bookErr_full (by omega) (by omega)], hm.below⟩
      ·
        refine tl_nil (tp_normal ?_)
        refine tc_false rfl ?_
        refine tc_skip (tp_normal ?_)
        refine tc_seq ?_
        refine tc_region ?_
        refine s0 (qv_assign rfl) ?_
        refine tl_nil (tp_normal ?_)
        refine tc_seq ?_
        refine tc_region ?_
        refine s0 (qv_assign rfl) ?_
        refine tl_nil (tp_normal ?_)
        refine tc_seq ?_
        refine tc_seq ?_
        refine tc_region ?_
        refine s0 (qv_fa fo_80_1 rfl) ?_
        refine s0 (qv_ldB (i := 0) sc_40 rfl rfl rfl) ?_
        refine s0 (qv_len st_40 rfl) ?_
        refine s0 (qv_move rfl) ?_
        refine tl_nil (tp_normal ?_)
        refine tc_block (tc_loopS (fun (k : Nat) => [(22, .int .i64 (k : Int)), (4, .int .i64 (lastT b.posts k))]) (fun (k : Nat) => k ≤ b.posts.length ∧ bookErr b = postsErr b.accounts (lastT b.posts k) (b.posts.drop k)) (fun (k : Nat) => b.posts.length - k) (0) ⟨Nat.zero_le _, bookErr_posts (by omega) (by omega)⟩ ⟨rfl, rfl, trivial⟩ ?_)
        rintro k hI
        refine tc_seq ?_
        refine tc_region ?_
        refine sd (qv_lss rfl rfl) (fun c23 => ?_) (fun c23 => ?_)
        ·
          refine tl_nil (tp_normal ?_)
          refine tc_seq ?_
          refine tc_true rfl ?_
          refine tc_skip (tp_normal ?_)
          refine tc_seq ?_
          refine tc_block ?_
          refine tc_seq ?_
          refine tc_region ?_
          refine sn st_40 hb rfl rfl (by omega) (fun e24 he24 => ?_)
          refine s0 (qv_ldEW ag_54 hb Mem.has_base rfl he24) ?_
          refine tl_alloc ze_54 (by decide) (fun b6_1 => ?_)
          refine tl_storeL (i := 0) sz_54 (hb.szs _ (List.mem_of_getElem? he24)) (one_54 _) rfl rfl rfl rfl ?_
          refine tl_nil (tp_normal ?_)
          refine tc_seq ?_
          refine tc_block ?_
          refine tc_seq ?_
          refine tc_seq ?_
          refine tc_region ?_
          refine s0 (qv_ldBW (i := 1) ag_80 rfl rfl rfl) ?_
          refine s0 (qv_fa fo_54_0 rfl) ?_
          refine s0 (qv_ldB (i := 0) sc_3 rfl rfl rfl) ?_
          refine sd (qv_call fn_87 rfl (fun w hm => account_calls w b ba bc e24.debit)) (fun c30 => ?_) (fun c30 => ?_)
          ·
            refine s0 (qv_not rfl) ?_
            refine s0 (qv_assign rfl) ?_
            refine tl_nil (tp_normal ?_)
            refine tc_false rfl ?_
            refine tc_seq ?_
            refine tc_region ?_
            refine s0 (qv_ldBW (i := 1) ag_80 rfl rfl rfl) ?_
            refine s0 (qv_fa fo_54_1 rfl) ?_
            refine s0 (qv_ldB (i := 0) sc_3 rfl rfl rfl) ?_
            refine sd (qv_call fn_87 rfl (fun w hm => account_calls w b ba bc e24.credit)) (fun c35 => ?_) (fun c35 => ?_)
            ·
              refine s0 (qv_not rfl) ?_
              refine s0 (qv_assign rfl) ?_
              refine tl_nil (tp_normal ?_)
              refine tc_false rfl ?_
              refine tc_region ?_
              refine s0 (qv_fa fo_54_0 rfl) ?_
              refine s0 (qv_ldB (i := 0) sc_3 rfl rfl rfl) ?_
              refine s0 (qv_fa fo_54_1 rfl) ?_
              refine s0 (qv_ldB (i := 0) sc_3 rfl rfl rfl) ?_
              refine sd (qv_eql rfl rfl) (fun c41 => ?_) (fun c41 => ?_)
              ·
                refine s0 (qv_assign rfl) ?_
                refine tl_nil (tp_normal ?_)
                refine tc_true rfl ?_
                refine tc_seq ?_
                refine tc_region ?_
                refine s0 (qv_assign rfl) ?_
                refine tl_nil (tp_normal ?_)
                refine tc_ret (tp_block_ret (tp_then_ret (tp_block_ret (tp_then_ret (tp_then_ret (tp_block_ret (tp_then_ret (tp_end1 rfl rfl ?_))))))))
                intro w' hm
                have hpe : postErr b.accounts e24 = 1 := postErr_arg (by first | exact .inl c30 | exact .inr (.inl c35) | exact .inr (.inr c41))
                exact ⟨by rw [hI.2, postsErr_bad he24 (by omega), hpe], hm.below⟩
              ·
                refine s0 (qv_assign rfl) ?_
                refine tl_nil (tp_normal ?_)
                refine tc_false rfl ?_
                refine tc_seq ?_
                refine tc_seq ?_
                refine tc_region ?_
                refine s0 (qv_move rfl) ?_
                refine s0 (qv_fa fo_54_2 rfl) ?_
                refine s0 (qv_ldB (i := 0) sc_3 rfl rfl rfl) ?_
                refine sd (qv_callV fn_86 rfl rfl (fun w hm => in48_calls w e24.amount (1) (1099511627776))) (fun c46 => ?_) (fun c46 => ?_)
                ·
                  refine s0 (qv_not rfl) ?_
                  refine s0 (qv_assign rfl) ?_
                  refine tl_nil (tp_normal ?_)
                  refine tc_false rfl ?_
                  refine tc_seq ?_
                  refine tc_region ?_
                  refine s0 (qv_move rfl) ?_
                  refine s0 (qv_fa fo_54_3 rfl) ?_
                  refine s0 (qv_ldB (i := 0) sc_3 rfl rfl rfl) ?_
                  refine sd (qv_callV fn_86 rfl rfl (fun w hm => in48_calls w e24.tick (0) (1000000))) (fun c51 => ?_) (fun c51 => ?_)
                  ·
                    refine s0 (qv_not rfl) ?_
                    refine s0 (qv_assign rfl) ?_
                    refine tl_nil (tp_normal ?_)
                    refine tc_false rfl ?_
                    refine tc_seq ?_
                    refine tc_region ?_
                    refine s0 (qv_move rfl) ?_
                    refine s0 (qv_fa fo_54_4 rfl) ?_
                    refine s0 (qv_ldB (i := 0) sc_3 rfl rfl rfl) ?_
                    refine sd (qv_callV fn_86 rfl rfl (fun w hm => in48_calls w e24.why (1) (7))) (fun c56 => ?_) (fun c56 => ?_)
                    ·
                      refine s0 (qv_not rfl) ?_
                      refine s0 (qv_assign rfl) ?_
                      refine tl_nil (tp_normal ?_)
                      refine tc_false rfl ?_
                      refine tc_region ?_
                      refine s0 (qv_move rfl) ?_
                      refine s0 (qv_fa fo_54_5 rfl) ?_
                      refine s0 (qv_ldB (i := 0) sc_3 rfl rfl rfl) ?_
                      refine sd (qv_callV fn_86 rfl rfl (fun w hm => in48_calls w e24.ref (0) (1099511627776))) (fun c61 => ?_) (fun c61 => ?_)
                      ·
                        refine s0 (qv_not rfl) ?_
                        refine s0 (qv_assign rfl) ?_
                        refine tl_nil (tp_normal ?_)
                        refine tc_false rfl ?_
                        refine tc_seq ?_
                        refine tc_region ?_
                        refine s0 (qv_fa fo_54_3 rfl) ?_
                        refine s0 (qv_ldB (i := 0) sc_3 rfl rfl rfl) ?_
                        refine s0 (qv_move rfl) ?_
                        refine sd (qv_lss rfl rfl) (fun c67 => ?_) (fun c67 => ?_)
                        ·
                          refine s0 (qv_assign rfl) ?_
                          refine tl_nil (tp_normal ?_)
                          refine tc_true rfl ?_
                          refine tc_seq ?_
                          refine tc_region ?_
                          refine s0 (qv_assign rfl) ?_
                          refine tl_nil (tp_normal ?_)
                          refine tc_ret (tp_block_ret (tp_then_ret (tp_block_ret (tp_then_ret (tp_then_ret (tp_block_ret (tp_then_ret (tp_end1 rfl rfl ?_))))))))
                          intro w' hm
                          exact ⟨by rw [hI.2, postsErr_stale he24 (postErr_ok (by rintro (h | h | h); exact h c30; exact h c35; exact c41 h) (by rintro (h | h | h | h); exact h c46; exact h c51; exact h c56; exact h c61)) (by omega)], hm.below⟩
                        ·
                          refine s0 (qv_assign rfl) ?_
                          refine tl_nil (tp_normal ?_)
                          refine tc_false rfl ?_
                          refine tc_skip (tp_block_normal (tp_normal ?_))
                          refine tc_region ?_
                          refine s0 (qv_fa fo_54_3 rfl) ?_
                          refine s0 (qv_ldB (i := 0) sc_3 rfl rfl rfl) ?_
                          refine s0 (qv_assign rfl) ?_
                          refine tl_nil (tp_block_normal (tp_normal ?_))
                          refine tc_region ?_
                          refine s0 (qv_succ rfl rfl (by omega)) ?_
                          refine s0 (qv_move rfl) ?_
                          exact tl_nil (tp_roundS (k + 1) ⟨by omega, by rw [hI.2]; exact postsErr_ok he24 (postErr_ok (by rintro (h | h | h); exact h c30; exact h c35; exact c41 h) (by rintro (h | h | h | h); exact h c46; exact h c51; exact h c56; exact h c61)) (by omega)⟩ (by omega) ⟨rfl, lk rfl (lastT_at he24).symm, trivial⟩ rfl rfl rfl rfl)
                      ·
                        refine s0 (qv_not rfl) ?_
                        refine s0 (qv_assign rfl) ?_
                        refine tl_nil (tp_normal ?_)
                        refine tc_true rfl ?_
                        refine tc_seq ?_
                        refine tc_region ?_
                        refine s0 (qv_assign rfl) ?_
                        refine tl_nil (tp_normal ?_)
                        refine tc_ret (tp_block_ret (tp_then_ret (tp_block_ret (tp_then_ret (tp_then_ret (tp_block_ret (tp_then_ret (tp_end1 rfl rfl ?_))))))))
                        intro w' hm
                        have hpe : postErr b.accounts e24 = 3 := postErr_range (by rintro (h | h | h); exact h c30; exact h c35; exact c41 h) (by first | exact .inl c46 | exact .inr (.inl c51) | exact .inr (.inr (.inl c56)) | exact .inr (.inr (.inr c61)))
                        exact ⟨by rw [hI.2, postsErr_bad he24 (by omega), hpe], hm.below⟩
                    ·
                      refine s0 (qv_not rfl) ?_
                      refine s0 (qv_assign rfl) ?_
                      refine tl_nil (tp_normal ?_)
                      refine tc_true rfl ?_
                      refine tc_skip (tp_normal ?_)
                      refine tc_true rfl ?_
                      refine tc_seq ?_
                      refine tc_region ?_
                      refine s0 (qv_assign rfl) ?_
                      refine tl_nil (tp_normal ?_)
                      refine tc_ret (tp_block_ret (tp_then_ret (tp_block_ret (tp_then_ret (tp_then_ret (tp_block_ret (tp_then_ret (tp_end1 rfl rfl ?_))))))))
                      intro w' hm
                      have hpe : postErr b.accounts e24 = 3 := postErr_range (by rintro (h | h | h); exact h c30; exact h c35; exact c41 h) (by first | exact .inl c46 | exact .inr (.inl c51) | exact .inr (.inr (.inl c56)) | exact .inr (.inr (.inr c61)))
                      exact ⟨by rw [hI.2, postsErr_bad he24 (by omega), hpe], hm.below⟩
                  ·
                    refine s0 (qv_not rfl) ?_
                    refine s0 (qv_assign rfl) ?_
                    refine tl_nil (tp_normal ?_)
                    refine tc_true rfl ?_
                    refine tc_skip (tp_normal ?_)
                    refine tc_true rfl ?_
                    refine tc_seq ?_
                    refine tc_region ?_
                    refine s0 (qv_assign rfl) ?_
                    refine tl_nil (tp_normal ?_)
                    refine tc_ret (tp_block_ret (tp_then_ret (tp_block_ret (tp_then_ret (tp_then_ret (tp_block_ret (tp_then_ret (tp_end1 rfl rfl ?_))))))))
                    intro w' hm
                    have hpe : postErr b.accounts e24 = 3 := postErr_range (by rintro (h | h | h); exact h c30; exact h c35; exact c41 h) (by first | exact .inl c46 | exact .inr (.inl c51) | exact .inr (.inr (.inl c56)) | exact .inr (.inr (.inr c61)))
                    exact ⟨by rw [hI.2, postsErr_bad he24 (by omega), hpe], hm.below⟩
                ·
                  refine s0 (qv_not rfl) ?_
                  refine s0 (qv_assign rfl) ?_
                  refine tl_nil (tp_normal ?_)
                  refine tc_true rfl ?_
                  refine tc_skip (tp_normal ?_)
                  refine tc_true rfl ?_
                  refine tc_seq ?_
                  refine tc_region ?_
                  refine s0 (qv_assign rfl) ?_
                  refine tl_nil (tp_normal ?_)
                  refine tc_ret (tp_block_ret (tp_then_ret (tp_block_ret (tp_then_ret (tp_then_ret (tp_block_ret (tp_then_ret (tp_end1 rfl rfl ?_))))))))
                  intro w' hm
                  have hpe : postErr b.accounts e24 = 3 := postErr_range (by rintro (h | h | h); exact h c30; exact h c35; exact c41 h) (by first | exact .inl c46 | exact .inr (.inl c51) | exact .inr (.inr (.inl c56)) | exact .inr (.inr (.inr c61)))
                  exact ⟨by rw [hI.2, postsErr_bad he24 (by omega), hpe], hm.below⟩
            ·
              refine s0 (qv_not rfl) ?_
              refine s0 (qv_assign rfl) ?_
              refine tl_nil (tp_normal ?_)
              refine tc_true rfl ?_
              refine tc_skip (tp_normal ?_)
              refine tc_true rfl ?_
              refine tc_seq ?_
              refine tc_region ?_
              refine s0 (qv_assign rfl) ?_
              refine tl_nil (tp_normal ?_)
              refine tc_ret (tp_block_ret (tp_then_ret (tp_block_ret (tp_then_ret (tp_then_ret (tp_block_ret (tp_then_ret (tp_end1 rfl rfl ?_))))))))
              intro w' hm
              have hpe : postErr b.accounts e24 = 1 := postErr_arg (by first | exact .inl c30 | exact .inr (.inl c35) | exact .inr (.inr c41))
              exact ⟨by rw [hI.2, postsErr_bad he24 (by omega), hpe], hm.below⟩
          ·
            refine s0 (qv_not rfl) ?_
            refine s0 (qv_assign rfl) ?_
            refine tl_nil (tp_normal ?_)
            refine tc_true rfl ?_
            refine tc_skip (tp_normal ?_)
            refine tc_true rfl ?_
            refine tc_seq ?_
            refine tc_region ?_
            refine s0 (qv_assign rfl) ?_
            refine tl_nil (tp_normal ?_)
            refine tc_ret (tp_block_ret (tp_then_ret (tp_block_ret (tp_then_ret (tp_then_ret (tp_block_ret (tp_then_ret (tp_end1 rfl rfl ?_))))))))
            intro w' hm
            have hpe : postErr b.accounts e24 = 1 := postErr_arg (by first | exact .inl c30 | exact .inr (.inl c35) | exact .inr (.inr c41))
            exact ⟨by rw [hI.2, postsErr_bad he24 (by omega), hpe], hm.below⟩
        ·
          refine tl_nil (tp_normal ?_)
          refine tc_seq ?_
          refine tc_false rfl ?_
          refine tc_exit (tp_then_exit (tp_then_exit (tp_block_exit (tp_normal ?_))))
          refine tc_seq ?_
          refine tc_region ?_
          refine s0 (qv_assign rfl) ?_
          refine tl_nil (tp_normal ?_)
          refine tc_ret (tp_end1 rfl rfl ?_)
          intro w' hm
          exact ⟨by rw [hI.2, postsErr_end (by omega)], hm.below⟩
set_option maxRecDepth 100000 in
theorem one48_calls (w : World) (b : Book) (ba : Option Addr) (bc : Nat) (p : Posting)  :
    Calls Try.prog 91 #[.agg (bookA b ba bc), .agg (encPost p).toArray] w (fun e w' => e = .returned (.int .i64 (postErr b.accounts p)) ∧ Below w.heap.size w w') := by
  refine calls_of_tc (N := 66) (vs := [.agg (bookA b ba bc), .agg (encPost p).toArray]) Try.func91 rfl rfl (Nat.le_of_ble_eq_true rfl) ?_
  refine tc_seq ?_
  refine tc_region ?_
  refine tl_box rfl (by decide) (fun b2_0 => ?_)
  refine tl_box rfl (by decide) (fun b3_1 => ?_)
  refine s0 (qv_assign rfl) ?_
  refine tl_nil (tp_normal ?_)
  refine tc_seq ?_
  refine tc_region ?_
  refine s0 (qv_ldBW (i := 1) ag_80 rfl rfl rfl) ?_
  refine s0 (qv_fa fo_54_0 rfl) ?_
  refine s0 (qv_ldB (i := 0) sc_3 rfl rfl rfl) ?_
  refine sd (qv_call fn_107 rfl (fun w hm => rin_calls w b ba bc p.debit)) (fun c10 => ?_) (fun c10 => ?_)
  ·
    refine s0 (qv_assign rfl) ?_
    refine tl_nil (tp_normal ?_)
    refine tc_seq ?_
    refine tc_region ?_
    refine s0 (qv_ldBW (i := 1) ag_80 rfl rfl rfl) ?_
    refine s0 (qv_fa fo_54_1 rfl) ?_
    refine s0 (qv_ldB (i := 0) sc_3 rfl rfl rfl) ?_
    refine sd (qv_call fn_107 rfl (fun w hm => rin_calls w b ba bc p.credit)) (fun c14 => ?_) (fun c14 => ?_)
    ·
      refine s0 (qv_assign rfl) ?_
      refine tl_nil (tp_normal ?_)
      refine tc_seq ?_
      refine tc_seq ?_
      refine tc_region ?_
      refine s0 (qv_move rfl) ?_
      refine s0 (qv_not rfl) ?_
      refine s0 (qv_move rfl) ?_
      refine s0g (qv_move rfl) ?_
      refine s0g (qv_not rfl) ?_
      refine s0 (qv_pickF rfl rfl) ?_
      refine s0 (qv_move rfl) ?_
      refine s0g (qv_fa fo_54_0 rfl) ?_
      refine s0g (qv_ldB (i := 0) sc_3 rfl rfl rfl) ?_
      refine s0g (qv_fa fo_54_1 rfl) ?_
      refine s0g (qv_ldB (i := 0) sc_3 rfl rfl rfl) ?_
      refine sdg (qv_eql rfl rfl) (fun c26 => ?_) (fun c26 => ?_)
      ·
        refine s0 (qv_pickF rfl rfl) ?_
        refine tl_nil (tp_normal ?_)
        refine tc_true rfl ?_
        refine tc_seq ?_
        refine tc_region ?_
        refine s0 (qv_assign rfl) ?_
        refine tl_nil (tp_normal ?_)
        refine tc_ret (tp_then_ret (tp_end1 rfl rfl ?_))
        intro w' hm
        exact ⟨by rw [postErr_arg (by first | exact .inl c10 | exact .inr (.inl c14) | exact .inr (.inr c26))], hm.below⟩
      ·
        refine s0 (qv_pickF rfl rfl) ?_
        refine tl_nil (tp_normal ?_)
        refine tc_false rfl ?_
        refine tc_skip (tp_normal ?_)
        refine tc_seq ?_
        refine tc_seq ?_
        refine tc_region ?_
        refine s0 (qv_fa fo_54_2 rfl) ?_
        refine s0 (qv_ldB (i := 0) sc_3 rfl rfl rfl) ?_
        refine sd (qv_lss rfl rfl) (fun c30 => ?_) (fun c30 => ?_)
        ·
          refine s0 (qv_move rfl) ?_
          refine sk ?_
          refine sk ?_
          refine sk ?_
          refine s0 (qv_pickT rfl rfl) ?_
          refine s0 (qv_move rfl) ?_
          refine sk ?_
          refine sk ?_
          refine sk ?_
          refine s0 (qv_pickT rfl rfl) ?_
          refine s0 (qv_move rfl) ?_
          refine sk ?_
          refine sk ?_
          refine sk ?_
          refine s0 (qv_pickT rfl rfl) ?_
          refine s0 (qv_move rfl) ?_
          refine sk ?_
          refine sk ?_
          refine sk ?_
          refine s0 (qv_pickT rfl rfl) ?_
          refine s0 (qv_move rfl) ?_
          refine sk ?_
          refine sk ?_
          refine sk ?_
          refine s0 (qv_pickT rfl rfl) ?_
          refine s0 (qv_move rfl) ?_
          refine sk ?_
          refine sk ?_
          refine sk ?_
          refine s0 (qv_pickT rfl rfl) ?_
          refine s0 (qv_move rfl) ?_
          refine sk ?_
          refine sk ?_
          refine sk ?_
          refine s0 (qv_pickT rfl rfl) ?_
          refine tl_nil (tp_normal ?_)
          refine tc_true rfl ?_
          refine tc_seq ?_
          refine tc_region ?_
          refine s0 (qv_assign rfl) ?_
          refine tl_nil (tp_normal ?_)
          refine tc_ret (tp_then_ret (tp_end1 rfl rfl ?_))
          intro w' hm
          exact ⟨by rw [postErr_range (by rintro (h | h | h); exact h c10; exact h c14; exact c26 h) (by unfold inFrom; omega)], hm.below⟩
        ·
          refine s0 (qv_move rfl) ?_
          refine s0g (qv_fa fo_54_2 rfl) ?_
          refine s0g (qv_ldB (i := 0) sc_3 rfl rfl rfl) ?_
          refine sdg (qv_gtr rfl rfl) (fun c34 => ?_) (fun c34 => ?_)
          ·
            refine s0 (qv_pickF rfl rfl) ?_
            refine s0 (qv_move rfl) ?_
            refine sk ?_
            refine sk ?_
            refine sk ?_
            refine s0 (qv_pickT rfl rfl) ?_
            refine s0 (qv_move rfl) ?_
            refine sk ?_
            refine sk ?_
            refine sk ?_
            refine s0 (qv_pickT rfl rfl) ?_
            refine s0 (qv_move rfl) ?_
            refine sk ?_
            refine sk ?_
            refine sk ?_
            refine s0 (qv_pickT rfl rfl) ?_
            refine s0 (qv_move rfl) ?_
            refine sk ?_
            refine sk ?_
            refine sk ?_
            refine s0 (qv_pickT rfl rfl) ?_
            refine s0 (qv_move rfl) ?_
            refine sk ?_
            refine sk ?_
            refine sk ?_
            refine s0 (qv_pickT rfl rfl) ?_
            refine s0 (qv_move rfl) ?_
            refine sk ?_
            refine sk ?_
            refine sk ?_
            refine s0 (qv_pickT rfl rfl) ?_
            refine tl_nil (tp_normal ?_)
            refine tc_true rfl ?_
            refine tc_seq ?_
            refine tc_region ?_
            refine s0 (qv_assign rfl) ?_
            refine tl_nil (tp_normal ?_)
            refine tc_ret (tp_then_ret (tp_end1 rfl rfl ?_))
            intro w' hm
            exact ⟨by rw [postErr_range (by rintro (h | h | h); exact h c10; exact h c14; exact c26 h) (by unfold inFrom; omega)], hm.below⟩
          ·
            refine s0 (qv_pickF rfl rfl) ?_
            refine s0 (qv_move rfl) ?_
            refine s0g (qv_fa fo_54_3 rfl) ?_
            refine s0g (qv_ldB (i := 0) sc_3 rfl rfl rfl) ?_
            refine sdg (qv_lss rfl rfl) (fun c39 => ?_) (fun c39 => ?_)
            ·
              refine s0 (qv_pickF rfl rfl) ?_
              refine s0 (qv_move rfl) ?_
              refine sk ?_
              refine sk ?_
              refine sk ?_
              refine s0 (qv_pickT rfl rfl) ?_
              refine s0 (qv_move rfl) ?_
              refine sk ?_
              refine sk ?_
              refine sk ?_
              refine s0 (qv_pickT rfl rfl) ?_
              refine s0 (qv_move rfl) ?_
              refine sk ?_
              refine sk ?_
              refine sk ?_
              refine s0 (qv_pickT rfl rfl) ?_
              refine s0 (qv_move rfl) ?_
              refine sk ?_
              refine sk ?_
              refine sk ?_
              refine s0 (qv_pickT rfl rfl) ?_
              refine s0 (qv_move rfl) ?_
              refine sk ?_
              refine sk ?_
              refine sk ?_
              refine s0 (qv_pickT rfl rfl) ?_
              refine tl_nil (tp_normal ?_)
              refine tc_true rfl ?_
              refine tc_seq ?_
              refine tc_region ?_
              refine s0 (qv_assign rfl) ?_
              refine tl_nil (tp_normal ?_)
              refine tc_ret (tp_then_ret (tp_end1 rfl rfl ?_))
              intro w' hm
              exact ⟨by rw [postErr_range (by rintro (h | h | h); exact h c10; exact h c14; exact c26 h) (by unfold inFrom; omega)], hm.below⟩
            ·
              refine s0 (qv_pickF rfl rfl) ?_
              refine s0 (qv_move rfl) ?_
              refine s0g (qv_fa fo_54_3 rfl) ?_
              refine s0g (qv_ldB (i := 0) sc_3 rfl rfl rfl) ?_
              refine sdg (qv_gtr rfl rfl) (fun c44 => ?_) (fun c44 => ?_)
              ·
                refine s0 (qv_pickF rfl rfl) ?_
                refine s0 (qv_move rfl) ?_
                refine sk ?_
                refine sk ?_
                refine sk ?_
                refine s0 (qv_pickT rfl rfl) ?_
                refine s0 (qv_move rfl) ?_
                refine sk ?_
                refine sk ?_
                refine sk ?_
                refine s0 (qv_pickT rfl rfl) ?_
                refine s0 (qv_move rfl) ?_
                refine sk ?_
                refine sk ?_
                refine sk ?_
                refine s0 (qv_pickT rfl rfl) ?_
                refine s0 (qv_move rfl) ?_
                refine sk ?_
                refine sk ?_
                refine sk ?_
                refine s0 (qv_pickT rfl rfl) ?_
                refine tl_nil (tp_normal ?_)
                refine tc_true rfl ?_
                refine tc_seq ?_
                refine tc_region ?_
                refine s0 (qv_assign rfl) ?_
                refine tl_nil (tp_normal ?_)
                refine tc_ret (tp_then_ret (tp_end1 rfl rfl ?_))
                intro w' hm
                exact ⟨by rw [postErr_range (by rintro (h | h | h); exact h c10; exact h c14; exact c26 h) (by unfold inFrom; omega)], hm.below⟩
              ·
                refine s0 (qv_pickF rfl rfl) ?_
                refine s0 (qv_move rfl) ?_
                refine s0g (qv_fa fo_54_4 rfl) ?_
                refine s0g (qv_ldB (i := 0) sc_3 rfl rfl rfl) ?_
                refine sdg (qv_lss rfl rfl) (fun c49 => ?_) (fun c49 => ?_)
                ·
                  refine s0 (qv_pickF rfl rfl) ?_
                  refine s0 (qv_move rfl) ?_
                  refine sk ?_
                  refine sk ?_
                  refine sk ?_
                  refine s0 (qv_pickT rfl rfl) ?_
                  refine s0 (qv_move rfl) ?_
                  refine sk ?_
                  refine sk ?_
                  refine sk ?_
                  refine s0 (qv_pickT rfl rfl) ?_
                  refine s0 (qv_move rfl) ?_
                  refine sk ?_
                  refine sk ?_
                  refine sk ?_
                  refine s0 (qv_pickT rfl rfl) ?_
                  refine tl_nil (tp_normal ?_)
                  refine tc_true rfl ?_
                  refine tc_seq ?_
                  refine tc_region ?_
                  refine s0 (qv_assign rfl) ?_
                  refine tl_nil (tp_normal ?_)
                  refine tc_ret (tp_then_ret (tp_end1 rfl rfl ?_))
                  intro w' hm
                  exact ⟨by rw [postErr_range (by rintro (h | h | h); exact h c10; exact h c14; exact c26 h) (by unfold inFrom; omega)], hm.below⟩
                ·
                  refine s0 (qv_pickF rfl rfl) ?_
                  refine s0 (qv_move rfl) ?_
                  refine s0g (qv_fa fo_54_4 rfl) ?_
                  refine s0g (qv_ldB (i := 0) sc_3 rfl rfl rfl) ?_
                  refine sdg (qv_gtr rfl rfl) (fun c54 => ?_) (fun c54 => ?_)
                  ·
                    refine s0 (qv_pickF rfl rfl) ?_
                    refine s0 (qv_move rfl) ?_
                    refine sk ?_
                    refine sk ?_
                    refine sk ?_
                    refine s0 (qv_pickT rfl rfl) ?_
                    refine s0 (qv_move rfl) ?_
                    refine sk ?_
                    refine sk ?_
                    refine sk ?_
                    refine s0 (qv_pickT rfl rfl) ?_
                    refine tl_nil (tp_normal ?_)
                    refine tc_true rfl ?_
                    refine tc_seq ?_
                    refine tc_region ?_
                    refine s0 (qv_assign rfl) ?_
                    refine tl_nil (tp_normal ?_)
                    refine tc_ret (tp_then_ret (tp_end1 rfl rfl ?_))
                    intro w' hm
                    exact ⟨by rw [postErr_range (by rintro (h | h | h); exact h c10; exact h c14; exact c26 h) (by unfold inFrom; omega)], hm.below⟩
                  ·
                    refine s0 (qv_pickF rfl rfl) ?_
                    refine s0 (qv_move rfl) ?_
                    refine s0g (qv_fa fo_54_5 rfl) ?_
                    refine s0g (qv_ldB (i := 0) sc_3 rfl rfl rfl) ?_
                    refine sdg (qv_lss rfl rfl) (fun c59 => ?_) (fun c59 => ?_)
                    ·
                      refine s0 (qv_pickF rfl rfl) ?_
                      refine s0 (qv_move rfl) ?_
                      refine sk ?_
                      refine sk ?_
                      refine sk ?_
                      refine s0 (qv_pickT rfl rfl) ?_
                      refine tl_nil (tp_normal ?_)
                      refine tc_true rfl ?_
                      refine tc_seq ?_
                      refine tc_region ?_
                      refine s0 (qv_assign rfl) ?_
                      refine tl_nil (tp_normal ?_)
                      refine tc_ret (tp_then_ret (tp_end1 rfl rfl ?_))
                      intro w' hm
                      exact ⟨by rw [postErr_range (by rintro (h | h | h); exact h c10; exact h c14; exact c26 h) (by unfold inFrom; omega)], hm.below⟩
                    ·
                      refine s0 (qv_pickF rfl rfl) ?_
                      refine s0 (qv_move rfl) ?_
                      refine s0g (qv_fa fo_54_5 rfl) ?_
                      refine s0g (qv_ldB (i := 0) sc_3 rfl rfl rfl) ?_
                      refine sdg (qv_gtr rfl rfl) (fun c64 => ?_) (fun c64 => ?_)
                      ·
                        refine s0 (qv_pickF rfl rfl) ?_
                        refine tl_nil (tp_normal ?_)
                        refine tc_true rfl ?_
                        refine tc_seq ?_
                        refine tc_region ?_
                        refine s0 (qv_assign rfl) ?_
                        refine tl_nil (tp_normal ?_)
                        refine tc_ret (tp_then_ret (tp_end1 rfl rfl ?_))
                        intro w' hm
                        exact ⟨by rw [postErr_range (by rintro (h | h | h); exact h c10; exact h c14; exact c26 h) (by unfold inFrom; omega)], hm.below⟩
                      ·
                        refine s0 (qv_pickF rfl rfl) ?_
                        refine tl_nil (tp_normal ?_)
                        refine tc_false rfl ?_
                        refine tc_skip (tp_normal ?_)
                        refine tc_seq ?_
                        refine tc_region ?_
                        refine s0 (qv_assign rfl) ?_
                        refine tl_nil (tp_normal ?_)
                        refine tc_ret (tp_end1 rfl rfl ?_)
                        intro w' hm
                        exact ⟨by rw [postErr_ok (by rintro (h | h | h); exact h c10; exact h c14; exact c26 h) (by unfold inFrom; omega)], hm.below⟩
    ·
      refine s0 (qv_assign rfl) ?_
      refine tl_nil (tp_normal ?_)
      refine tc_seq ?_
      refine tc_seq ?_
      refine tc_region ?_
      refine s0 (qv_move rfl) ?_
      refine s0 (qv_not rfl) ?_
      refine s0 (qv_move rfl) ?_
      refine s0g (qv_move rfl) ?_
      refine s0g (qv_not rfl) ?_
      refine s0 (qv_pickF rfl rfl) ?_
      refine s0 (qv_move rfl) ?_
      refine sk ?_
      refine sk ?_
      refine sk ?_
      refine sk ?_
      refine sk ?_
      refine s0 (qv_pickT rfl rfl) ?_
      refine tl_nil (tp_normal ?_)
      refine tc_true rfl ?_
      refine tc_seq ?_
      refine tc_region ?_
      refine s0 (qv_assign rfl) ?_
      refine tl_nil (tp_normal ?_)
      refine tc_ret (tp_then_ret (tp_end1 rfl rfl ?_))
      intro w' hm
      exact ⟨by rw [postErr_arg (by first | exact .inl c10 | exact .inr (.inl c14) | exact .inr (.inr c26))], hm.below⟩
  ·
    refine s0 (qv_assign rfl) ?_
    refine tl_nil (tp_normal ?_)
    refine tc_seq ?_
    refine tc_region ?_
    refine s0 (qv_ldBW (i := 1) ag_80 rfl rfl rfl) ?_
    refine s0 (qv_fa fo_54_1 rfl) ?_
    refine s0 (qv_ldB (i := 0) sc_3 rfl rfl rfl) ?_
    refine sd (qv_call fn_107 rfl (fun w hm => rin_calls w b ba bc p.credit)) (fun c14 => ?_) (fun c14 => ?_)
    ·
      refine s0 (qv_assign rfl) ?_
      refine tl_nil (tp_normal ?_)
      refine tc_seq ?_
      refine tc_seq ?_
      refine tc_region ?_
      refine s0 (qv_move rfl) ?_
      refine s0 (qv_not rfl) ?_
      refine s0 (qv_move rfl) ?_
      refine sk ?_
      refine sk ?_
      refine s0 (qv_pickT rfl rfl) ?_
      refine s0 (qv_move rfl) ?_
      refine sk ?_
      refine sk ?_
      refine sk ?_
      refine sk ?_
      refine sk ?_
      refine s0 (qv_pickT rfl rfl) ?_
      refine tl_nil (tp_normal ?_)
      refine tc_true rfl ?_
      refine tc_seq ?_
      refine tc_region ?_
      refine s0 (qv_assign rfl) ?_
      refine tl_nil (tp_normal ?_)
      refine tc_ret (tp_then_ret (tp_end1 rfl rfl ?_))
      intro w' hm
      exact ⟨by rw [postErr_arg (by first | exact .inl c10 | exact .inr (.inl c14) | exact .inr (.inr c26))], hm.below⟩
    ·
      refine s0 (qv_assign rfl) ?_
      refine tl_nil (tp_normal ?_)
      refine tc_seq ?_
      refine tc_seq ?_
      refine tc_region ?_
      refine s0 (qv_move rfl) ?_
      refine s0 (qv_not rfl) ?_
      refine s0 (qv_move rfl) ?_
      refine sk ?_
      refine sk ?_
      refine s0 (qv_pickT rfl rfl) ?_
      refine s0 (qv_move rfl) ?_
      refine sk ?_
      refine sk ?_
      refine sk ?_
      refine sk ?_
      refine sk ?_
      refine s0 (qv_pickT rfl rfl) ?_
      refine tl_nil (tp_normal ?_)
      refine tc_true rfl ?_
      refine tc_seq ?_
      refine tc_region ?_
      refine s0 (qv_assign rfl) ?_
      refine tl_nil (tp_normal ?_)
      refine tc_ret (tp_then_ret (tp_end1 rfl rfl ?_))
      intro w' hm
      exact ⟨by rw [postErr_arg (by first | exact .inl c10 | exact .inr (.inl c14) | exact .inr (.inr c26))], hm.below⟩
set_option maxRecDepth 100000 in
set_option maxHeartbeats 4000000 in
theorem rbcheck_calls (w : World) (b : Book) (ba : Option Addr) (bc : Nat) (hb : SlIn w 6 encPost ba b.posts) :
    Calls Try.prog 47 #[.agg (bookA b ba bc)] w (fun e w' => e = .returned (.int .i64 (bookErr b)) ∧ Below w.heap.size w w') := by
  have hlenb := hb.len
  simp only [maxLen] at hlenb
  refine calls_of_tc (N := 52) (vs := [.agg (bookA b ba bc)]) Try.func47 rfl rfl (Nat.le_of_ble_eq_true rfl) ?_
  refine tc_seq ?_
  refine tc_region ?_
  refine tl_box rfl (by decide) (fun b1_0 => ?_)
  refine s0 (qv_assign rfl) ?_
  refine tl_nil (tp_normal ?_)
  refine tc_seq ?_
  refine tc_seq ?_
  refine tc_region ?_
  refine s0 (qv_fa fo_80_0 rfl) ?_
  refine s0 (qv_ldB (i := 0) sc_3 rfl rfl rfl) ?_
  refine sd (qv_lss rfl rfl) (fun c7 => ?_) (fun c7 => ?_)
  ·
    refine s0 (qv_move rfl) ?_
    refine sk ?_
    refine sk ?_
    refine sk ?_
    refine s0 (qv_pickT rfl rfl) ?_
    refine tl_nil (tp_normal ?_)
    refine tc_true rfl ?_
    refine tc_seq ?_
    refine tc_region ?_
    refine s0 (qv_assign rfl) ?_
    refine tl_nil (tp_normal ?_)
    refine tc_ret (tp_then_ret (tp_end1 rfl rfl ?_))
    intro w' hm
    exact ⟨by rw [bookErr_acc (by omega)], hm.below⟩
  ·
    refine s0 (qv_move rfl) ?_
    refine s0g (qv_fa fo_80_0 rfl) ?_
    refine s0g (qv_ldB (i := 0) sc_3 rfl rfl rfl) ?_
    refine sdg (qv_gtr rfl rfl) (fun c11 => ?_) (fun c11 => ?_)
    ·
      refine s0 (qv_pickF rfl rfl) ?_
      refine tl_nil (tp_normal ?_)
      refine tc_true rfl ?_
      refine tc_seq ?_
      refine tc_region ?_
      refine s0 (qv_assign rfl) ?_
      refine tl_nil (tp_normal ?_)
      refine tc_ret (tp_then_ret (tp_end1 rfl rfl ?_))
      intro w' hm
      exact ⟨by rw [bookErr_acc (by omega)], hm.below⟩
    ·
      refine s0 (qv_pickF rfl rfl) ?_
      refine tl_nil (tp_normal ?_)
      refine tc_false rfl ?_
      refine tc_skip (tp_normal ?_)
      refine tc_seq ?_
      refine tc_seq ?_
      refine tc_region ?_
      refine s0 (qv_fa fo_80_1 rfl) ?_
      refine s0 (qv_ldB (i := 0) sc_40 rfl rfl rfl) ?_
      refine s0 (qv_len st_40 rfl) ?_
      refine sd (qv_gtr rfl rfl) (fun c16 => ?_) (fun c16 => ?_)
      ·
        refine tl_nil (tp_normal ?_)
        refine tc_true rfl ?_
        refine tc_seq ?_
        refine tc_region ?_
        refine s0 (qv_assign rfl) ?_
        refine tl_nil (tp_normal ?_)
        refine tc_ret (tp_then_ret (tp_end1 rfl rfl ?_))
        intro w' hm
        exact ⟨by rw [bookErr_full (by omega) (by omega)], hm.below⟩
      ·
        refine tl_nil (tp_normal ?_)
        refine tc_false rfl ?_
        refine tc_skip (tp_normal ?_)
        refine tc_seq ?_
        refine tc_seq ?_
        refine tc_region ?_
        refine s0 (qv_assign rfl) ?_
        refine tl_nil (tp_normal ?_)
        refine tc_block (tc_loopS (fun (k : Nat) => [(3, .int .i64 (k : Int))]) (fun (k : Nat) => k ≤ b.posts.length ∧ bookErr b = postsErr b.accounts (lastT b.posts k) (b.posts.drop k)) (fun (k : Nat) => b.posts.length - k) (0) ⟨Nat.zero_le _, bookErr_posts (by omega) (by omega)⟩ ⟨rfl, trivial⟩ ?_)
        rintro k hI
        refine tc_seq ?_
        refine tc_seq ?_
        refine tc_region ?_
        refine s0 (qv_move rfl) ?_
        refine s0 (qv_fa fo_80_1 rfl) ?_
        refine s0 (qv_ldB (i := 0) sc_40 rfl rfl rfl) ?_
        refine s0 (qv_len st_40 rfl) ?_
        refine sd (qv_lss rfl rfl) (fun c21 => ?_) (fun c21 => ?_)
        ·
          refine tl_nil (tp_normal ?_)
          refine tc_true rfl ?_
          refine tc_skip (tp_normal ?_)
          refine tc_seq ?_
          refine tc_block ?_
          refine tc_seq ?_
          refine tc_draws mixed (by kernel_rfl) ?_
          refine q0 (qv_ldBW (i := 0) ag_80 rfl rfl rfl) ?_
          refine q0 (qv_fa fo_80_1 rfl) ?_
          refine q0 (qv_ldB (i := 0) sc_40 rfl rfl rfl) ?_
          refine q0 (qv_move rfl) ?_
          refine qn st_40 hb rfl rfl (by omega) (fun e28 he28 => ?_)
          refine q0 (qv_ldEW ag_54 hb Mem.has_base rfl he28) ?_
          refine q0 (qv_call fn_91 rfl (fun w hm => one48_calls w b ba bc e28)) ?_
          refine q0 (qv_assign rfl) ?_
          refine tq_nil (tp_normal ?_)
          refine tc_seq ?_
          refine tc_seq ?_
          refine tc_region ?_
          refine s0 (qv_move rfl) ?_
          refine sd (qv_neq rfl rfl) (fun c32 => ?_) (fun c32 => ?_)
          ·
            refine tl_nil (tp_normal ?_)
            refine tc_true rfl ?_
            refine tc_seq ?_
            refine tc_region ?_
            refine s0 (qv_move rfl) ?_
            refine s0 (qv_assign rfl) ?_
            refine tl_nil (tp_normal ?_)
            refine tc_ret (tp_then_ret (tp_block_ret (tp_then_ret (tp_then_ret (tp_block_ret (tp_then_ret (tp_end1 rfl rfl ?_)))))))
            intro w' hm
            exact ⟨by rw [hI.2, postsErr_bad he28 (by omega)], hm.below⟩
          ·
            refine tl_nil (tp_normal ?_)
            refine tc_false rfl ?_
            refine tc_skip (tp_normal ?_)
            refine tc_seq ?_
            refine tc_draws mixed (by kernel_rfl) ?_
            refine q0 (qv_move rfl) ?_
            refine qd (qv_gtr rfl rfl) (fun c35 => ?_) (fun c35 => ?_)
            ·
              refine q0 (qv_move rfl) ?_
              refine q0g (qv_fa fo_80_1 rfl) ?_
              refine q0g (qv_ldB (i := 0) sc_40 rfl rfl rfl) ?_
              refine q0g (qv_move rfl) ?_
              refine qng st_40 hb rfl rfl (by omega) (fun e40 he40 => ?_)
              obtain rfl : e28 = e40 := Option.some.inj (he28.symm.trans he40)
              refine q0g (qv_fa fo_54_3 rfl) ?_
              refine q0g (qv_ldE (j := 3) sc_3 hb Mem.has_base rfl rfl he28 rfl) ?_
              refine q0g (qv_fa fo_80_1 rfl) ?_
              refine q0g (qv_ldB (i := 0) sc_40 rfl rfl rfl) ?_
              refine q0g (qv_move rfl) ?_
              refine q0g (qv_subI rfl rfl (by omega)) ?_
              refine qig st_40 hb rfl rfl (by omega) (fun e47 he47 => ?_)
              refine q0g (qv_fa fo_54_3 rfl) ?_
              refine q0g (qv_ldE (j := 3) sc_3 hb Mem.has_base rfl rfl he47 rfl) ?_
              refine qdg (qv_lss rfl rfl) (fun c50 => ?_) (fun c50 => ?_)
              ·
                refine q0 (qv_pickT rfl rfl) ?_
                refine tq_nil (tp_normal ?_)
                refine tc_true rfl ?_
                refine tc_seq ?_
                refine tc_region ?_
                refine s0 (qv_assign rfl) ?_
                refine tl_nil (tp_normal ?_)
                refine tc_ret (tp_block_ret (tp_then_ret (tp_then_ret (tp_block_ret (tp_then_ret (tp_end1 rfl rfl ?_))))))
                intro w' hm
                exact ⟨by rw [hI.2, postsErr_stale he28 (by omega) (by first | (rw [lastT_prev (by omega) he47]; omega) | (have h_ := (postErr_zero (acc := b.accounts) (p := e28) (by omega)).t0; obtain rfl : k = 0 := (by omega); show ¬ e28.tick < 0; omega))], hm.below⟩
              ·
                refine q0 (qv_pickT rfl rfl) ?_
                refine tq_nil (tp_normal ?_)
                refine tc_false rfl ?_
                refine tc_skip (tp_block_normal (tp_normal ?_))
                refine tc_region ?_
                refine s0 (qv_move rfl) ?_
                refine s0 (qv_succ rfl rfl (by omega)) ?_
                refine s0 (qv_assign rfl) ?_
                exact tl_nil (tp_roundS (k + 1) ⟨by omega, by rw [hI.2]; exact postsErr_ok he28 (by omega) (by first | (rw [lastT_prev (by omega) he47]; omega) | (have h_ := (postErr_zero (acc := b.accounts) (p := e28) (by omega)).t0; obtain rfl : k = 0 := (by omega); show ¬ e28.tick < 0; omega))⟩ (by omega) ⟨rfl, trivial⟩ rfl rfl rfl rfl)
            ·
              refine q0 (qv_move rfl) ?_
              refine qk ?_
              refine qk ?_
              refine qk ?_
              refine qk ?_
              refine qk ?_
              refine qk ?_
              refine qk ?_
              refine qk ?_
              refine qk ?_
              refine qk ?_
              refine qk ?_
              refine qk ?_
              refine qk ?_
              refine qk ?_
              refine q0 (qv_pickF rfl rfl) ?_
              refine tq_nil (tp_normal ?_)
              refine tc_false rfl ?_
              refine tc_skip (tp_block_normal (tp_normal ?_))
              refine tc_region ?_
              refine s0 (qv_move rfl) ?_
              refine s0 (qv_succ rfl rfl (by omega)) ?_
              refine s0 (qv_assign rfl) ?_
              exact tl_nil (tp_roundS (k + 1) ⟨by omega, by rw [hI.2]; exact postsErr_ok he28 (by omega) (by first | (rw [lastT_prev (by omega) he47]; omega) | (have h_ := (postErr_zero (acc := b.accounts) (p := e28) (by omega)).t0; obtain rfl : k = 0 := (by omega); show ¬ e28.tick < 0; omega))⟩ (by omega) ⟨rfl, trivial⟩ rfl rfl rfl rfl)
        ·
          refine tl_nil (tp_normal ?_)
          refine tc_false rfl ?_
          refine tc_exit (tp_then_exit (tp_then_exit (tp_block_exit (tp_normal ?_))))
          refine tc_seq ?_
          refine tc_region ?_
          refine s0 (qv_assign rfl) ?_
          refine tl_nil (tp_normal ?_)
          refine tc_ret (tp_end1 rfl rfl ?_)
          intro w' hm
          exact ⟨by rw [hI.2, postsErr_end (by omega)], hm.below⟩
set_option maxRecDepth 100000 in
set_option maxHeartbeats 4000000 in
theorem post_calls (w : World) (b : Book) (ba : Option Addr) (bc : Nat) (p : Posting) (hb : SlIn w 6 encPost ba b.posts) :
    Calls Try.prog 83 #[.agg (bookA b ba bc), .agg (encPost p).toArray] w (fun e w' => ∃ r : Option Addr × Nat, e = .returned (.tuple #[.agg (bookA (post b p).1 r.1 r.2), .int .i64 (post b p).2]) ∧ Below w.heap.size w w' ∧ ((post b p).1.posts.length ≤ r.2 ∧ SlAt w' w.heap.size w'.heap.size 6 encPost r.1 (post b p).1.posts)) := by
  have hlenb := hb.len
  simp only [maxLen] at hlenb
  refine calls_of_tc (N := 28) (vs := [.agg (bookA b ba bc), .agg (encPost p).toArray]) Try.func83 rfl rfl (Nat.le_of_ble_eq_true rfl) ?_
  refine tc_rowRoom ?_
  refine tc_seq ?_
  refine tc_region ?_
  refine tl_box rfl (by decide) (fun b2_0 => ?_)
  refine tl_box rfl (by decide) (fun b3_1 => ?_)
  refine tl_alloc ze_80 (by decide) (fun b4_2 => ?_)
  refine s0 (qv_assign rfl) ?_
  refine tl_nil (tp_normal ?_)
  refine tc_seq ?_
  refine tc_seq ?_
  refine tc_region ?_
  refine s0 (qv_ldBW (i := 2) ag_80 rfl rfl rfl) ?_
  refine s0 (qv_call fn_42 rfl (fun w hm => bcheck_calls w b ba bc (hb.into Mem.has_base hm))) ?_
  refine s0 (qv_assign rfl) ?_
  refine tl_nil (tp_normal ?_)
  refine tc_seq ?_
  refine tc_region ?_
  refine s0 (qv_move rfl) ?_
  refine sd (qv_neq rfl rfl) (fun c11 => ?_) (fun c11 => ?_)
  ·
    refine tl_nil (tp_normal ?_)
    refine tc_true rfl ?_
    refine tc_seq ?_
    refine tc_region ?_
    refine s0 (qv_build bt_80 rfl rfl) ?_
    refine s0 (qv_move rfl) ?_
    refine tl_storeO (i := 0) sz_80 rfl rfl rfl rfl rfl rfl rfl ?_
    refine s0 (qv_assign rfl) ?_
    refine tl_nil (tp_normal ?_)
    refine tc_ret (tp_then_ret (tp_endCT (i := 0) rfl rfl rfl ag_80 rfl rfl ?_))
    intro w' hm
    rw [post_err (by omega)]
    exact ⟨(none, 0), rfl, hm.below, Nat.le_refl 0, SlAt.nothing⟩
  ·
    refine tl_nil (tp_normal ?_)
    refine tc_false rfl ?_
    refine tc_skip (tp_normal ?_)
    refine tc_seq ?_
    have hbk := bookErr_zero (b := b) (by omega)
    have hbl := hbk.len
    refine tc_drawU 5 2 mixed (by kernel_rfl) ?_
    refine q0 (qv_fa fo_80_1 rfl) ?_
    refine q0 (qv_ldB (i := 2) sc_40 rfl rfl rfl) ?_
    refine tq_up ?_
    refine tu_take (i := 3) (ho := rfl) (qv_ldBW (i := 1) ag_54 rfl rfl rfl) ?_ (by kernel_rfl) (by kernel_rfl)
    refine tu_2 2 4 (by kernel_rfl) (by kernel_rfl) (by kernel_rfl) ?_ ?_
    ·
      refine tg_callRow 0 fn_82 (fun w hm => cloneP_calls w b.posts ba bc (hb.into Mem.has_base hm) (by omega)) (fun v16 ob16 hr16 => ?_) (fun _ w h => hD_rows rfl rfl rfl w h)
      obtain ⟨ra16, rc16, hv16, hc16⟩ := RowOf.slice hr16
      subst hv16
      refine tu_one 4 ?_ (by kernel_rfl) (by kernel_rfl) (by kernel_rfl)
      refine tg_buildSlice (cells := #[.int .i64 p.debit, .int .i64 p.credit, .int .i64 p.amount, .int .i64 p.tick, .int .i64 p.why, .int .i64 p.ref]) (hc := by kernel_rfl) bsl_40_1 (fun b18_3 => ?_) (fun _ _ h => hD_rows rfl rfl rfl _ h)
      refine tu_tail rfl rfl rfl (by kernel_rfl) ?_
      refine tl_append1 0 0 apt_40 p hr16 (fun v19 ob19 hr19 => ?_) rfl (one_54 _) (by first | omega | (simp only [List.length_append, List.length_cons, List.length_nil]; omega))
      obtain ⟨ra19, rc19, hv19, hc19⟩ := RowOf.slice hr19
      subst hv19
      refine s0 (qv_fa fo_80_1 rfl) ?_
      refine tl_store1 (i := 3) sz_40 rfl rfl rfl rfl rfl (Nat.le_of_ble_eq_true rfl) ?_
      refine tl_nil (tp_normal ?_)
      refine tc_seq ?_
      refine tc_seq ?_
      refine tc_rowKeepL 0 hr19 (fun _ => rfl) (fun Wk lok hik ak ck hvk hck_ hlok hsk => ?_)
      obtain ⟨g1, _, g2⟩ := Value.slice.inj hvk
      subst g1 g2
      refine tc_region ?_
      refine s0 (qv_ldBW (i := 3) ag_80 rfl rfl rfl) ?_
      refine s0 (qv_call fn_42 rfl (fun w hm => bcheck_calls w (addPost b p) ra19 rc19 (hsk.into (Mem.has_kept (by repeat (first | exact .head _ | refine .tail _ ?_))) hm))) ?_
      refine s0 (qv_assign rfl) ?_
      refine tl_nil (tp_normal ?_)
      refine tc_seq ?_
      refine tc_region ?_
      refine s0 (qv_move rfl) ?_
      refine sd (qv_neq rfl rfl) (fun c24 => ?_) (fun c24 => ?_)
      ·
        refine tl_nil (tp_normal ?_)
        refine tc_true rfl ?_
        refine tc_seq ?_
        refine tc_region ?_
        refine s0 (qv_build bt_80 rfl rfl) ?_
        refine s0 (qv_move rfl) ?_
        refine tl_storeO (i := 1) sz_80 rfl rfl rfl rfl rfl rfl rfl ?_
        refine s0 (qv_assign rfl) ?_
        refine tl_nil (tp_normal ?_)
        refine tc_ret (tp_then_ret (tp_endCT (i := 1) rfl rfl rfl ag_80 rfl rfl ?_))
        intro w' hm
        rw [post_bad (by omega) (by omega)]
        exact ⟨(none, 0), rfl, hm.below, Nat.le_refl 0, SlAt.nothing⟩
      ·
        refine tl_nil (tp_normal ?_)
        refine tc_false rfl ?_
        refine tc_skip (tp_normal ?_)
        refine tc_seq ?_
        refine tc_region ?_
        refine s0 (qv_ldBW (i := 3) ag_80 rfl rfl rfl) ?_
        refine tl_storeO (i := 1) sz_80 rfl rfl rfl rfl rfl rfl rfl ?_
        refine s0 (qv_assign rfl) ?_
        refine tl_nil (tp_normal ?_)
        refine tc_ret (tp_endCT (i := 1) rfl rfl rfl ag_80 rfl rfl ?_)
        intro w' hm
        rw [post_ok (by omega) (by omega)]
        have h_ := (Mem.has_kept (W := Wk) (lo := lok) (hi := hik) (.head _)) _ hm
        exact ⟨(ra19, rc19), rfl, hm.below, hck_, hsk.move h_.2 hlok h_.1⟩
    ·
      refine tg_buildSlice (cells := #[.int .i64 p.debit, .int .i64 p.credit, .int .i64 p.amount, .int .i64 p.tick, .int .i64 p.why, .int .i64 p.ref]) (hc := by kernel_rfl) bsl_40_1 (fun b18_4 => ?_) (fun _ _ h => hD_rows rfl rfl rfl _ h)
      refine tu_one 2 ?_ (by kernel_rfl) (by kernel_rfl) (by kernel_rfl)
      refine tg_callRow 0 fn_82 (fun w hm => cloneP_calls w b.posts ba bc (hb.into Mem.has_base hm) (by omega)) (fun v16 ob16 hr16 => ?_) (fun _ w h => hD_rows rfl rfl rfl w h)
      obtain ⟨ra16, rc16, hv16, hc16⟩ := RowOf.slice hr16
      subst hv16
      refine tu_tail rfl rfl rfl (by kernel_rfl) ?_
      refine tl_append1 0 0 apt_40 p hr16 (fun v19 ob19 hr19 => ?_) rfl (one_54 _) (by first | omega | (simp only [List.length_append, List.length_cons, List.length_nil]; omega))
      obtain ⟨ra19, rc19, hv19, hc19⟩ := RowOf.slice hr19
      subst hv19
      refine s0 (qv_fa fo_80_1 rfl) ?_
      refine tl_store1 (i := 3) sz_40 rfl rfl rfl rfl rfl (Nat.le_of_ble_eq_true rfl) ?_
      refine tl_nil (tp_normal ?_)
      refine tc_seq ?_
      refine tc_seq ?_
      refine tc_rowKeepL 0 hr19 (fun _ => rfl) (fun Wk lok hik ak ck hvk hck_ hlok hsk => ?_)
      obtain ⟨g1, _, g2⟩ := Value.slice.inj hvk
      subst g1 g2
      refine tc_region ?_
      refine s0 (qv_ldBW (i := 3) ag_80 rfl rfl rfl) ?_
      refine s0 (qv_call fn_42 rfl (fun w hm => bcheck_calls w (addPost b p) ra19 rc19 (hsk.into (Mem.has_kept (by repeat (first | exact .head _ | refine .tail _ ?_))) hm))) ?_
      refine s0 (qv_assign rfl) ?_
      refine tl_nil (tp_normal ?_)
      refine tc_seq ?_
      refine tc_region ?_
      refine s0 (qv_move rfl) ?_
      refine sd (qv_neq rfl rfl) (fun c24 => ?_) (fun c24 => ?_)
      ·
        refine tl_nil (tp_normal ?_)
        refine tc_true rfl ?_
        refine tc_seq ?_
        refine tc_region ?_
        refine s0 (qv_build bt_80 rfl rfl) ?_
        refine s0 (qv_move rfl) ?_
        refine tl_storeO (i := 1) sz_80 rfl rfl rfl rfl rfl rfl rfl ?_
        refine s0 (qv_assign rfl) ?_
        refine tl_nil (tp_normal ?_)
        refine tc_ret (tp_then_ret (tp_endCT (i := 1) rfl rfl rfl ag_80 rfl rfl ?_))
        intro w' hm
        rw [post_bad (by omega) (by omega)]
        exact ⟨(none, 0), rfl, hm.below, Nat.le_refl 0, SlAt.nothing⟩
      ·
        refine tl_nil (tp_normal ?_)
        refine tc_false rfl ?_
        refine tc_skip (tp_normal ?_)
        refine tc_seq ?_
        refine tc_region ?_
        refine s0 (qv_ldBW (i := 3) ag_80 rfl rfl rfl) ?_
        refine tl_storeO (i := 1) sz_80 rfl rfl rfl rfl rfl rfl rfl ?_
        refine s0 (qv_assign rfl) ?_
        refine tl_nil (tp_normal ?_)
        refine tc_ret (tp_endCT (i := 1) rfl rfl rfl ag_80 rfl rfl ?_)
        intro w' hm
        rw [post_ok (by omega) (by omega)]
        have h_ := (Mem.has_kept (W := Wk) (lo := lok) (hi := hik) (.head _)) _ hm
        exact ⟨(ra19, rc19), rfl, hm.below, hck_, hsk.move h_.2 hlok h_.1⟩
end Go.Q
