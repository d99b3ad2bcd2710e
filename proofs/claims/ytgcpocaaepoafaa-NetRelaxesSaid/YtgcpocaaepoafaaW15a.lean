/- A part of the proof: see the last text. -/
import Derived.Test.YtgcpocaaepoafaaQ12
import Derived.Test.YtgcpocaaepoafaaS15
import Derived.Test.YtgcpocaaepoafaaS15
import Derived.Test.YtgcpocaaepoafaaProg
set_option linter.unusedVariables false
set_option linter.unusedSimpArgs false
set_option linter.unusedSectionVars false
namespace Go.Q
open Go Go.Proofs Go.RowKit
theorem mixed : Try.prog.follows .mixedOrders = true := by kernel_rfl
theorem one_70 (x : Send) : ∀ u ∈ encSend x, u.oneCell' = true := by
  intro u hu
  simp [encSend] at hu
  rcases hu with rfl | rfl | rfl <;> rfl
theorem one_49 (x : Link) : ∀ u ∈ encLink x, u.oneCell' = true := by
  intro u hu
  simp [encLink] at hu
  rcases hu with rfl | rfl | ⟨_, _, rfl⟩ | ⟨_, _, rfl⟩ <;> rfl
theorem sc_3 : Scalar Try.prog 3 := fun w => by kernel_rfl
theorem fo_24_0 : FOff Try.prog 24 0 0 := fun b o w => by kernel_rfl
theorem fo_24_1 : FOff Try.prog 24 1 1 := fun b o w => by kernel_rfl
theorem sc_22 : Scalar Try.prog 22 := fun w => by kernel_rfl
theorem st_22 : SliceTy Try.prog 22 50 := ⟨49, by kernel_rfl, fun w => by kernel_rfl⟩
theorem ag_49 : Agg Try.prog 49 50 := fun w => ⟨by kernel_rfl, by kernel_rfl⟩
theorem ze_49 : Zero Try.prog 49 #[.int .i64 0, .int .i64 0, .int .i64 0, .int .i64 0, .int .i64 0, .int .i64 0, .int .i64 0, .int .i64 0, .int .i64 0, .int .i64 0, .int .i64 0, .int .i64 0, .int .i64 0, .int .i64 0, .int .i64 0, .int .i64 0, .int .i64 0, .int .i64 0, .int .i64 0, .int .i64 0, .int .i64 0, .int .i64 0, .int .i64 0, .int .i64 0, .int .i64 0, .int .i64 0, .int .i64 0, .int .i64 0, .int .i64 0, .int .i64 0, .int .i64 0, .int .i64 0, .int .i64 0, .int .i64 0, .int .i64 0, .int .i64 0, .int .i64 0, .int .i64 0, .int .i64 0, .int .i64 0, .int .i64 0, .int .i64 0, .int .i64 0, .int .i64 0, .int .i64 0, .int .i64 0, .int .i64 0, .int .i64 0, .int .i64 0, .int .i64 0] := fun w => ⟨.agg #[.int .i64 0, .int .i64 0, .int .i64 0, .int .i64 0, .int .i64 0, .int .i64 0, .int .i64 0, .int .i64 0, .int .i64 0, .int .i64 0, .int .i64 0, .int .i64 0, .int .i64 0, .int .i64 0, .int .i64 0, .int .i64 0, .int .i64 0, .int .i64 0, .int .i64 0, .int .i64 0, .int .i64 0, .int .i64 0, .int .i64 0, .int .i64 0, .int .i64 0, .int .i64 0, .int .i64 0, .int .i64 0, .int .i64 0, .int .i64 0, .int .i64 0, .int .i64 0, .int .i64 0, .int .i64 0, .int .i64 0, .int .i64 0, .int .i64 0, .int .i64 0, .int .i64 0, .int .i64 0, .int .i64 0, .int .i64 0, .int .i64 0, .int .i64 0, .int .i64 0, .int .i64 0, .int .i64 0, .int .i64 0, .int .i64 0, .int .i64 0], by kernel_rfl, rfl⟩
theorem sz_49 : Size Try.prog 49 50 := fun w => by kernel_rfl
theorem fo_49_0 : FOff Try.prog 49 0 0 := fun b o w => by kernel_rfl
theorem fn_65 : IsFn Try.prog 65 := isFn_of Try.func65 (by kernel_rfl) rfl
theorem fo_49_1 : FOff Try.prog 49 1 1 := fun b o w => by kernel_rfl
theorem fo_49_2 : FOff Try.prog 49 2 2 := fun b o w => by kernel_rfl
theorem at_47 : ArrTy Try.prog 47 24 1 := ⟨3, by kernel_rfl, fun w => by kernel_rfl⟩
theorem fo_49_3 : FOff Try.prog 49 3 26 := fun b o w => by kernel_rfl
theorem ag_24 : Agg Try.prog 24 2 := fun w => ⟨by kernel_rfl, by kernel_rfl⟩
theorem fn_66 : IsFn Try.prog 66 := isFn_of Try.func66 (by kernel_rfl) rfl
theorem fn_39 : IsFn Try.prog 39 := isFn_of Try.func39 (by kernel_rfl) rfl
theorem st_25 : SliceTy Try.prog 25 3 := ⟨70, by kernel_rfl, fun w => by kernel_rfl⟩
theorem ag_70 : Agg Try.prog 70 3 := fun w => ⟨by kernel_rfl, by kernel_rfl⟩
theorem ze_70 : Zero Try.prog 70 #[.int .i64 0, .int .i64 0, .int .i64 0] := fun w => ⟨.agg #[.int .i64 0, .int .i64 0, .int .i64 0], by kernel_rfl, rfl⟩
theorem sz_70 : Size Try.prog 70 3 := fun w => by kernel_rfl
theorem fo_70_0 : FOff Try.prog 70 0 0 := fun b o w => by kernel_rfl
theorem fo_70_1 : FOff Try.prog 70 1 1 := fun b o w => by kernel_rfl
theorem fo_70_2 : FOff Try.prog 70 2 2 := fun b o w => by kernel_rfl
theorem fn_40 : IsFn Try.prog 40 := isFn_of Try.func40 (by kernel_rfl) rfl
theorem fn_33 : IsFn Try.prog 33 := isFn_of Try.func33 (by kernel_rfl) rfl
theorem fn_57 : IsFn Try.prog 57 := isFn_of Try.func57 (by kernel_rfl) rfl
theorem fn_34 : IsFn Try.prog 34 := isFn_of Try.func34 (by kernel_rfl) rfl
theorem fn_60 : IsFn Try.prog 60 := isFn_of Try.func60 (by kernel_rfl) rfl
theorem ze_57 : Zero Try.prog 57 #[.int .i64 0, .int .i64 0] := fun w => ⟨.agg #[.int .i64 0, .int .i64 0], by kernel_rfl, rfl⟩
theorem bt_57 : BuildTy Try.prog 57 #[(0, 1), (1, 1)] #[.int .i64 0, .int .i64 0] := ⟨_, Try.underlying57, fun w => by kernel_rfl, ze_57⟩
theorem sz_57 : Size Try.prog 57 2 := fun w => by kernel_rfl
theorem ag_57 : Agg Try.prog 57 2 := fun w => ⟨by kernel_rfl, by kernel_rfl⟩
theorem fn_61 : IsFn Try.prog 61 := isFn_of Try.func61 (by kernel_rfl) rfl
theorem fo_27_0 : FOff Try.prog 27 0 0 := fun b o w => by kernel_rfl
theorem fn_74 : IsFn Try.prog 74 := isFn_of Try.func74 (by kernel_rfl) rfl
theorem fo_27_1 : FOff Try.prog 27 1 1 := fun b o w => by kernel_rfl
theorem fo_27_2 : FOff Try.prog 27 2 2 := fun b o w => by kernel_rfl
theorem fo_27_3 : FOff Try.prog 27 3 3 := fun b o w => by kernel_rfl
theorem fo_27_4 : FOff Try.prog 27 4 4 := fun b o w => by kernel_rfl
set_option maxRecDepth 100000 in
theorem house1 (w : World) (n : Net) (na : Option Addr) (nc : Nat) (b : Nat) (h : Int) (hb : w.heap[b]? = some (.cells (netA n na nc) 24 (0, 0))) :
    Calls Try.prog 65 #[.int .i64 h, .pointer (some ⟨b, 0, none⟩)] w (fun e w' => e = .returned (.bool (decide (isHouse n h))) ∧ Below w.heap.size w w') := by
  refine calls_of_tc (N := 12) (vs := [.int .i64 h, .pointer (some ⟨b, 0, none⟩)]) Try.func65 rfl rfl (Nat.le_of_ble_eq_true rfl) ?_
  refine tc_seq ?_
  refine tc_region ?_
  refine s0 (qv_assign rfl) ?_
  refine tl_nil (tp_normal ?_)
  refine tc_seq ?_
  refine tc_region ?_
  refine s0 (qv_move rfl) ?_
  refine sd (qv_geq rfl rfl) (fun c5 => ?_) (fun c5 => ?_)
  ·
    refine s0 (qv_move rfl) ?_
    refine s0g (qv_move rfl) ?_
    refine s0g (qv_fa fo_24_0 rfl) ?_
    refine s0g (qv_ldO sc_3 rfl hb rfl) ?_
    refine s0g (qv_lss rfl rfl) ?_
    refine s0 (qv_pickT rfl rfl) ?_
    refine s0 (qv_assign rfl) ?_
    refine tl_nil (tp_normal ?_)
    refine tc_ret (tp_end1 rfl rfl ?_)
    intro w' hm
    exact ⟨by simp [isHouse, *], hm.below⟩
  ·
    refine s0 (qv_move rfl) ?_
    refine sk ?_
    refine sk ?_
    refine sk ?_
    refine sk ?_
    refine s0 (qv_pickF rfl rfl) ?_
    refine s0 (qv_assign rfl) ?_
    refine tl_nil (tp_normal ?_)
    refine tc_ret (tp_end1 rfl rfl ?_)
    intro w' hm
    exact ⟨by simp [isHouse, *], hm.below⟩

set_option maxRecDepth 100000 in
theorem house2 (w : World) (n : Net) (na : Option Addr) (nc : Nat) (b : Nat) (h : Int) (hb : w.heap[b]? = some (.cells (netA n na nc) 24 (0, 0))) :
    Calls Try.prog 74 #[.int .i64 h, .pointer (some ⟨b, 0, none⟩)] w (fun e w' => e = .returned (.bool (decide (isHouse n h))) ∧ Below w.heap.size w w') := by
  refine calls_of_tc (N := 12) (vs := [.int .i64 h, .pointer (some ⟨b, 0, none⟩)]) Try.func74 rfl rfl (Nat.le_of_ble_eq_true rfl) ?_
  refine tc_seq ?_
  refine tc_region ?_
  refine s0 (qv_assign rfl) ?_
  refine tl_nil (tp_normal ?_)
  refine tc_seq ?_
  refine tc_region ?_
  refine s0 (qv_move rfl) ?_
  refine sd (qv_geq rfl rfl) (fun c5 => ?_) (fun c5 => ?_)
  ·
    refine s0 (qv_move rfl) ?_
    refine s0g (qv_move rfl) ?_
    refine s0g (qv_fa fo_24_0 rfl) ?_
    refine s0g (qv_ldO sc_3 rfl hb rfl) ?_
    refine s0g (qv_lss rfl rfl) ?_
    refine s0 (qv_pickT rfl rfl) ?_
    refine s0 (qv_assign rfl) ?_
    refine tl_nil (tp_normal ?_)
    refine tc_ret (tp_end1 rfl rfl ?_)
    intro w' hm
    exact ⟨by simp [isHouse, *], hm.below⟩
  ·
    refine s0 (qv_move rfl) ?_
    refine sk ?_
    refine sk ?_
    refine sk ?_
    refine sk ?_
    refine s0 (qv_pickF rfl rfl) ?_
    refine s0 (qv_assign rfl) ?_
    refine tl_nil (tp_normal ?_)
    refine tc_ret (tp_end1 rfl rfl ?_)
    intro w' hm
    exact ⟨by simp [isHouse, *], hm.below⟩

set_option maxRecDepth 100000 in
theorem netCheck_calls (w : World) (n : Net) (na : Option Addr) (nc : Nat) (hn : SlIn w 50 encLink na n.links) (hk : NetOk n) :
    Calls Try.prog 39 #[.agg (netA n na nc)] w (fun e w' => e = .returned (.int .i64 (netCheck n)) ∧ Below w.heap.size w w') := by
  have hlenn := hn.len
  simp only [maxLen] at hlenn
  refine calls_of_tc (N := 79) (vs := [.agg (netA n na nc)]) Try.func39 rfl rfl (Nat.le_of_ble_eq_true rfl) ?_
  refine tc_seq ?_
  refine tc_region ?_
  refine tl_box rfl (by decide) (fun b1_0 => ?_)
  refine s0 (qv_assign rfl) ?_
  refine tl_nil (tp_normal ?_)
  refine tc_seq ?_
  refine tc_seq ?_
  refine tc_region ?_
  refine s0 (qv_fa fo_24_0 rfl) ?_
  refine s0 (qv_ldB (i := 0) sc_3 rfl rfl rfl) ?_
  refine sd (qv_lss rfl rfl) (fun c9 => ?_) (fun c9 => ?_)
  ·
    refine s0 (qv_move rfl) ?_
    refine sk ?_
    refine sk ?_
    refine sk ?_
    refine s0 (qv_pickT rfl rfl) ?_
    refine s0 (qv_move rfl) ?_
    refine sk ?_
    refine sk ?_
    refine sk ?_
    refine sk ?_
    refine s0 (qv_pickT rfl rfl) ?_
    refine tl_nil (tp_normal ?_)
    refine tc_true rfl ?_
    refine tc_seq ?_
    refine tc_region ?_
    refine s0 (qv_assign rfl) ?_
    refine tl_nil (tp_normal ?_)
    refine tc_ret (tp_then_ret (tp_end1 rfl rfl ?_))
    intro w' hm
    exact ⟨by rw [netCheck_limit (by omega)], hm.below⟩
  ·
    refine s0 (qv_move rfl) ?_
    refine s0g (qv_fa fo_24_0 rfl) ?_
    refine s0g (qv_ldB (i := 0) sc_3 rfl rfl rfl) ?_
    refine sdg (qv_gtr rfl rfl) (fun c13 => ?_) (fun c13 => ?_)
    ·
      refine s0 (qv_pickF rfl rfl) ?_
      refine s0 (qv_move rfl) ?_
      refine sk ?_
      refine sk ?_
      refine sk ?_
      refine sk ?_
      refine s0 (qv_pickT rfl rfl) ?_
      refine tl_nil (tp_normal ?_)
      refine tc_true rfl ?_
      refine tc_seq ?_
      refine tc_region ?_
      refine s0 (qv_assign rfl) ?_
      refine tl_nil (tp_normal ?_)
      refine tc_ret (tp_then_ret (tp_end1 rfl rfl ?_))
      intro w' hm
      exact ⟨by rw [netCheck_limit (by omega)], hm.below⟩
    ·
      refine s0 (qv_pickF rfl rfl) ?_
      refine s0 (qv_move rfl) ?_
      refine s0g (qv_fa fo_24_1 rfl) ?_
      refine s0g (qv_ldB (i := 0) sc_22 rfl rfl rfl) ?_
      refine s0g (qv_len st_22 rfl) ?_
      refine sdg (qv_gtr rfl rfl) (fun c19 => ?_) (fun c19 => ?_)
      ·
        refine s0 (qv_pickF rfl rfl) ?_
        refine tl_nil (tp_normal ?_)
        refine tc_true rfl ?_
        refine tc_seq ?_
        refine tc_region ?_
        refine s0 (qv_assign rfl) ?_
        refine tl_nil (tp_normal ?_)
        refine tc_ret (tp_then_ret (tp_end1 rfl rfl ?_))
        intro w' hm
        exact ⟨by rw [netCheck_limit (by omega)], hm.below⟩
      ·
        refine s0 (qv_pickF rfl rfl) ?_
        refine tl_nil (tp_normal ?_)
        refine tc_false rfl ?_
        refine tc_skip (tp_normal ?_)
        refine tc_seq ?_
        refine tc_region ?_
        refine s0 (qv_mk rfl) ?_
        refine s0 (qv_assign rfl) ?_
        refine tl_nil (tp_normal ?_)
        refine tc_seq ?_
        refine tc_seq ?_
        refine tc_region ?_
        refine s0 (qv_fa fo_24_1 rfl) ?_
        refine s0 (qv_ldB (i := 0) sc_22 rfl rfl rfl) ?_
        refine s0 (qv_len st_22 rfl) ?_
        refine s0 (qv_move rfl) ?_
        refine tl_nil (tp_normal ?_)
        refine tc_block (tc_loopS (fun (k : Nat) => [(25, .int .i64 (k : Int))]) (fun (k : Nat) => k ≤ n.links.length ∧ netCheck n = checkLinks n (n.links.drop k)) (fun (k : Nat) => n.links.length - k) (0) ⟨Nat.zero_le _, by rw [netCheck_links c9 c13 c19, List.drop_zero]⟩ ⟨rfl, trivial⟩ ?_)
        rintro k hI
        refine tc_seq ?_
        refine tc_region ?_
        refine sd (qv_lss rfl rfl) (fun c26 => ?_) (fun c26 => ?_)
        ·
          refine tl_nil (tp_normal ?_)
          refine tc_seq ?_
          refine tc_true rfl ?_
          refine tc_skip (tp_normal ?_)
          refine tc_seq ?_
          refine tc_block ?_
          refine tc_seq ?_
          refine tc_region ?_
          refine sn st_22 hn rfl rfl (by omega) (fun e27 he27 => ?_)
          refine s0 (qv_ldEW ag_49 hn Mem.has_base rfl he27) ?_
          refine tl_alloc ze_49 (by decide) (fun b5_1 => ?_)
          refine tl_storeL (i := 0) sz_49 (hn.szs _ (List.mem_of_getElem? he27)) (one_49 _) rfl rfl rfl rfl ?_
          refine tl_nil (tp_normal ?_)
          refine tc_seq ?_
          refine tc_seq ?_
          refine tc_region ?_
          refine s0 (qv_move rfl) ?_
          refine s0 (qv_fa fo_49_0 rfl) ?_
          refine s0 (qv_ldB (i := 0) sc_3 rfl rfl rfl) ?_
          refine sd (qv_callV fn_65 rfl rfl (fun w hm => house1 w n na nc b1_0 e27.src (hm.box _ (List.mem_of_getElem? (i := 1) rfl)).2)) (fun c32 => ?_) (fun c32 => ?_)
          ·
            refine s0 (qv_not rfl) ?_
            refine s0 (qv_move rfl) ?_
            refine s0g (qv_move rfl) ?_
            refine s0g (qv_fa fo_49_1 rfl) ?_
            refine s0g (qv_ldB (i := 0) sc_3 rfl rfl rfl) ?_
            refine sdg (qv_callV fn_65 rfl rfl (fun w hm => house1 w n na nc b1_0 e27.dst (hm.box _ (List.mem_of_getElem? (i := 1) rfl)).2)) (fun c38 => ?_) (fun c38 => ?_)
            ·
              refine s0g (qv_not rfl) ?_
              refine s0 (qv_pickF rfl rfl) ?_
              refine s0 (qv_move rfl) ?_
              refine s0g (qv_fa fo_49_0 rfl) ?_
              refine s0g (qv_ldB (i := 0) sc_3 rfl rfl rfl) ?_
              refine s0g (qv_fa fo_49_1 rfl) ?_
              refine s0g (qv_ldB (i := 0) sc_3 rfl rfl rfl) ?_
              refine sdg (qv_eql rfl rfl) (fun c46 => ?_) (fun c46 => ?_)
              ·
                refine s0 (qv_pickF rfl rfl) ?_
                refine tl_nil (tp_normal ?_)
                refine tc_true rfl ?_
                refine tc_seq ?_
                refine tc_region ?_
                refine s0 (qv_assign rfl) ?_
                refine tl_nil (tp_normal ?_)
                refine tc_ret (tp_then_ret (tp_block_ret (tp_then_ret (tp_then_ret (tp_block_ret (tp_then_ret (tp_end1 rfl rfl ?_)))))))
                intro w' hm
                exact ⟨by rw [hI.2, checkLinks_at he27, checkLink_arg (by simp_all)]; rfl, hm.below⟩
              ·
                refine s0 (qv_pickF rfl rfl) ?_
                refine tl_nil (tp_normal ?_)
                refine tc_false rfl ?_
                refine tc_skip (tp_normal ?_)
                refine tc_seq ?_
                refine tc_region ?_
                refine s0 (qv_move rfl) ?_
                refine tl_nil (tp_normal ?_)
                refine tc_block (tc_loopS (fun (j : Nat) => [(48, .int .i64 (j : Int))]) (fun (j : Nat) => j ≤ 24 ∧ netCheck n = if hoursFrom e27 (24 - j) j = 0 then checkLinks n (n.links.drop (k + 1)) else hoursFrom e27 (24 - j) j) (fun (j : Nat) => 24 - j) (0) ⟨by omega, by rw [hI.2, checkLinks_at he27, checkLink_hours c32 c38 c46]⟩ ⟨rfl, trivial⟩ ?_)
                rintro j hI
                refine tc_seq ?_
                refine tc_region ?_
                refine sd (qv_lss rfl rfl) (fun c49 => ?_) (fun c49 => ?_)
                ·
                  refine tl_nil (tp_normal ?_)
                  refine tc_seq ?_
                  refine tc_true rfl ?_
                  refine tc_skip (tp_normal ?_)
                  refine tc_seq ?_
                  refine tc_block ?_
                  refine tc_seq ?_
                  refine tc_region ?_
                  refine s0 (qv_move rfl) ?_
                  refine s0 (qv_assign rfl) ?_
                  refine tl_nil (tp_normal ?_)
                  refine tc_seq ?_
                  refine tc_region ?_
                  refine s0 (qv_move rfl) ?_
                  refine s0 (qv_fa fo_49_2 rfl) ?_
                  refine s0 (qv_iA at_47 rfl rfl (by omega)) ?_
                  refine s0 (qv_ldB (i := 0) sc_3 rfl rfl (box_cap (hk _ (List.mem_of_getElem? he27)) (by omega))) ?_
                  refine sd (qv_lss rfl rfl) (fun c55 => ?_) (fun c55 => ?_)
                  ·
                    refine s0 (qv_move rfl) ?_
                    refine sk ?_
                    refine sk ?_
                    refine sk ?_
                    refine sk ?_
                    refine sk ?_
                    refine s0 (qv_pickT rfl rfl) ?_
                    refine s0 (qv_move rfl) ?_
                    refine sk ?_
                    refine sk ?_
                    refine sk ?_
                    refine sk ?_
                    refine sk ?_
                    refine s0 (qv_pickT rfl rfl) ?_
                    refine s0 (qv_move rfl) ?_
                    refine sk ?_
                    refine sk ?_
                    refine sk ?_
                    refine sk ?_
                    refine sk ?_
                    refine s0 (qv_pickT rfl rfl) ?_
                    refine tl_nil (tp_normal ?_)
                    refine tc_true rfl ?_
                    refine tc_seq ?_
                    refine tc_region ?_
                    refine s0 (qv_assign rfl) ?_
                    refine tl_nil (tp_normal ?_)
                    refine tc_ret (tp_block_ret (tp_then_ret (tp_then_ret (tp_block_ret (tp_block_ret (tp_then_ret (tp_then_ret (tp_block_ret (tp_then_ret (tp_end1 rfl rfl ?_))))))))))
                    intro w' hm
                    exact ⟨by rw [hI.2, hoursFrom_bad (by omega) (by simp only [hourBad]; omega)]; rfl, hm.below⟩
                  ·
                    refine s0 (qv_move rfl) ?_
                    refine s0g (qv_move rfl) ?_
                    refine s0g (qv_fa fo_49_2 rfl) ?_
                    refine s0g (qv_iA at_47 rfl rfl (by omega)) ?_
                    refine s0g (qv_ldB (i := 0) sc_3 rfl rfl (box_cap (hk _ (List.mem_of_getElem? he27)) (by omega))) ?_
                    refine sdg (qv_gtr rfl rfl) (fun c61 => ?_) (fun c61 => ?_)
                    ·
                      refine s0 (qv_pickF rfl rfl) ?_
                      refine s0 (qv_move rfl) ?_
                      refine sk ?_
                      refine sk ?_
                      refine sk ?_
                      refine sk ?_
                      refine sk ?_
                      refine s0 (qv_pickT rfl rfl) ?_
                      refine s0 (qv_move rfl) ?_
                      refine sk ?_
                      refine sk ?_
                      refine sk ?_
                      refine sk ?_
                      refine sk ?_
                      refine s0 (qv_pickT rfl rfl) ?_
                      refine tl_nil (tp_normal ?_)
                      refine tc_true rfl ?_
                      refine tc_seq ?_
                      refine tc_region ?_
                      refine s0 (qv_assign rfl) ?_
                      refine tl_nil (tp_normal ?_)
                      refine tc_ret (tp_block_ret (tp_then_ret (tp_then_ret (tp_block_ret (tp_block_ret (tp_then_ret (tp_then_ret (tp_block_ret (tp_then_ret (tp_end1 rfl rfl ?_))))))))))
                      intro w' hm
                      exact ⟨by rw [hI.2, hoursFrom_bad (by omega) (by simp only [hourBad]; omega)]; rfl, hm.below⟩
                    ·
                      refine s0 (qv_pickF rfl rfl) ?_
                      refine s0 (qv_move rfl) ?_
                      refine s0g (qv_move rfl) ?_
                      refine s0g (qv_fa fo_49_3 rfl) ?_
                      refine s0g (qv_iA at_47 rfl rfl (by omega)) ?_
                      refine s0g (qv_ldB (i := 0) sc_3 rfl rfl (box_price (hk _ (List.mem_of_getElem? he27)) (by omega))) ?_
                      refine sdg (qv_lss rfl rfl) (fun c68 => ?_) (fun c68 => ?_)
                      ·
                        refine s0 (qv_pickF rfl rfl) ?_
                        refine s0 (qv_move rfl) ?_
                        refine sk ?_
                        refine sk ?_
                        refine sk ?_
                        refine sk ?_
                        refine sk ?_
                        refine s0 (qv_pickT rfl rfl) ?_
                        refine tl_nil (tp_normal ?_)
                        refine tc_true rfl ?_
                        refine tc_seq ?_
                        refine tc_region ?_
                        refine s0 (qv_assign rfl) ?_
                        refine tl_nil (tp_normal ?_)
                        refine tc_ret (tp_block_ret (tp_then_ret (tp_then_ret (tp_block_ret (tp_block_ret (tp_then_ret (tp_then_ret (tp_block_ret (tp_then_ret (tp_end1 rfl rfl ?_))))))))))
                        intro w' hm
                        exact ⟨by rw [hI.2, hoursFrom_bad (by omega) (by simp only [hourBad]; omega)]; rfl, hm.below⟩
                      ·
                        refine s0 (qv_pickF rfl rfl) ?_
                        refine s0 (qv_move rfl) ?_
                        refine s0g (qv_move rfl) ?_
                        refine s0g (qv_fa fo_49_3 rfl) ?_
                        refine s0g (qv_iA at_47 rfl rfl (by omega)) ?_
                        refine s0g (qv_ldB (i := 0) sc_3 rfl rfl (box_price (hk _ (List.mem_of_getElem? he27)) (by omega))) ?_
                        refine sdg (qv_gtr rfl rfl) (fun c75 => ?_) (fun c75 => ?_)
                        ·
                          refine s0 (qv_pickF rfl rfl) ?_
                          refine tl_nil (tp_normal ?_)
                          refine tc_true rfl ?_
                          refine tc_seq ?_
                          refine tc_region ?_
                          refine s0 (qv_assign rfl) ?_
                          refine tl_nil (tp_normal ?_)
                          refine tc_ret (tp_block_ret (tp_then_ret (tp_then_ret (tp_block_ret (tp_block_ret (tp_then_ret (tp_then_ret (tp_block_ret (tp_then_ret (tp_end1 rfl rfl ?_))))))))))
                          intro w' hm
                          exact ⟨by rw [hI.2, hoursFrom_bad (by omega) (by simp only [hourBad]; omega)]; rfl, hm.below⟩
                        ·
                          refine s0 (qv_pickF rfl rfl) ?_
                          refine tl_nil (tp_normal ?_)
                          refine tc_false rfl ?_
                          refine tc_skip (tp_block_normal (tp_normal ?_))
                          refine tc_region ?_
                          refine s0 (qv_succ rfl rfl (by omega)) ?_
                          refine s0 (qv_move rfl) ?_
                          exact tl_nil (tp_roundS (j + 1) ⟨by omega, by rw [← hoursFrom_ok (by omega) (by simp only [hourBad]; omega)]; exact hI.2⟩ (by omega) ⟨rfl, trivial⟩ rfl rfl rfl rfl)
                ·
                  refine tl_nil (tp_normal ?_)
                  refine tc_seq ?_
                  refine tc_false rfl ?_
                  refine tc_exit (tp_then_exit (tp_then_exit (tp_block_exit (tp_block_normal (tp_normal ?_)))))
                  refine tc_region ?_
                  refine s0 (qv_succ rfl rfl (by omega)) ?_
                  refine s0 (qv_move rfl) ?_
                  exact tl_nil (tp_roundS (k + 1) ⟨by omega, by rw [hI.2, show 24 - j = 0 by omega]; rfl⟩ (by omega) ⟨rfl, trivial⟩ rfl rfl rfl rfl)
            ·
              refine s0g (qv_not rfl) ?_
              refine s0 (qv_pickF rfl rfl) ?_
              refine s0 (qv_move rfl) ?_
              refine sk ?_
              refine sk ?_
              refine sk ?_
              refine sk ?_
              refine sk ?_
              refine s0 (qv_pickT rfl rfl) ?_
              refine tl_nil (tp_normal ?_)
              refine tc_true rfl ?_
              refine tc_seq ?_
              refine tc_region ?_
              refine s0 (qv_assign rfl) ?_
              refine tl_nil (tp_normal ?_)
              refine tc_ret (tp_then_ret (tp_block_ret (tp_then_ret (tp_then_ret (tp_block_ret (tp_then_ret (tp_end1 rfl rfl ?_)))))))
              intro w' hm
              exact ⟨by rw [hI.2, checkLinks_at he27, checkLink_arg (by simp_all)]; rfl, hm.below⟩
          ·
            refine s0 (qv_not rfl) ?_
            refine s0 (qv_move rfl) ?_
            refine sk ?_
            refine sk ?_
            refine sk ?_
            refine sk ?_
            refine sk ?_
            refine s0 (qv_pickT rfl rfl) ?_
            refine s0 (qv_move rfl) ?_
            refine sk ?_
            refine sk ?_
            refine sk ?_
            refine sk ?_
            refine sk ?_
            refine s0 (qv_pickT rfl rfl) ?_
            refine tl_nil (tp_normal ?_)
            refine tc_true rfl ?_
            refine tc_seq ?_
            refine tc_region ?_
            refine s0 (qv_assign rfl) ?_
            refine tl_nil (tp_normal ?_)
            refine tc_ret (tp_then_ret (tp_block_ret (tp_then_ret (tp_then_ret (tp_block_ret (tp_then_ret (tp_end1 rfl rfl ?_)))))))
            intro w' hm
            exact ⟨by rw [hI.2, checkLinks_at he27, checkLink_arg (by simp_all)]; rfl, hm.below⟩
        ·
          refine tl_nil (tp_normal ?_)
          refine tc_seq ?_
          refine tc_false rfl ?_
          refine tc_exit (tp_then_exit (tp_then_exit (tp_block_exit (tp_normal ?_))))
          refine tc_seq ?_
          refine tc_region ?_
          refine s0 (qv_assign rfl) ?_
          refine tl_nil (tp_normal ?_)
          refine tc_ret (tp_end1 rfl rfl ?_)
          intro w' hm
          exact ⟨by rw [hI.2, List.drop_eq_nil_of_le (by omega)]; rfl, hm.below⟩

set_option maxRecDepth 100000 in
theorem rhouse_calls (w : World) (n : Net) (na : Option Addr) (nc : Nat) (h : Int) (hn : SlIn w 50 encLink na n.links) (hk : NetOk n) :
    Calls Try.prog 66 #[.agg (netA n na nc), .int .i64 h] w (fun e w' => e = .returned (.bool (decide (isHouse n h))) ∧ Below w.heap.size w w') := by
  refine calls_of_tc (N := 13) (vs := [.agg (netA n na nc), .int .i64 h]) Try.func66 rfl rfl (Nat.le_of_ble_eq_true rfl) ?_
  refine tc_seq ?_
  refine tc_region ?_
  refine tl_box rfl (by decide) (fun b2_0 => ?_)
  refine s0 (qv_assign rfl) ?_
  refine tl_nil (tp_normal ?_)
  refine tc_seq ?_
  refine tc_region ?_
  refine s0 (qv_move rfl) ?_
  refine sd (qv_geq rfl rfl) (fun c6 => ?_) (fun c6 => ?_)
  ·
    refine s0 (qv_move rfl) ?_
    refine s0g (qv_move rfl) ?_
    refine s0g (qv_fa fo_24_0 rfl) ?_
    refine s0g (qv_ldB (i := 0) sc_3 rfl rfl rfl) ?_
    refine s0g (qv_lss rfl rfl) ?_
    refine s0 (qv_pickT rfl rfl) ?_
    refine s0 (qv_assign rfl) ?_
    refine tl_nil (tp_normal ?_)
    refine tc_ret (tp_end1 rfl rfl ?_)
    intro w' hm
    exact ⟨by simp [isHouse, *], hm.below⟩
  ·
    refine s0 (qv_move rfl) ?_
    refine sk ?_
    refine sk ?_
    refine sk ?_
    refine sk ?_
    refine s0 (qv_pickF rfl rfl) ?_
    refine s0 (qv_assign rfl) ?_
    refine tl_nil (tp_normal ?_)
    refine tc_ret (tp_end1 rfl rfl ?_)
    intro w' hm
    exact ⟨by simp [isHouse, *], hm.below⟩

set_option maxRecDepth 100000 in
theorem rcheck_calls (w : World) (n : Net) (na : Option Addr) (nc : Nat) (hn : SlIn w 50 encLink na n.links) (hk : NetOk n) :
    Calls Try.prog 40 #[.agg (netA n na nc)] w (fun e w' => e = .returned (.int .i64 (netCheck n)) ∧ Below w.heap.size w w') := by
  have hlenn := hn.len
  simp only [maxLen] at hlenn
  refine calls_of_tc (N := 85) (vs := [.agg (netA n na nc)]) Try.func40 rfl rfl (Nat.le_of_ble_eq_true rfl) ?_
  refine tc_seq ?_
  refine tc_region ?_
  refine tl_box rfl (by decide) (fun b1_0 => ?_)
  refine s0 (qv_assign rfl) ?_
  refine tl_nil (tp_normal ?_)
  refine tc_seq ?_
  refine tc_seq ?_
  refine tc_region ?_
  refine s0 (qv_fa fo_24_0 rfl) ?_
  refine s0 (qv_ldB (i := 0) sc_3 rfl rfl rfl) ?_
  refine sd (qv_lss rfl rfl) (fun c10 => ?_) (fun c10 => ?_)
  ·
    refine s0 (qv_move rfl) ?_
    refine sk ?_
    refine sk ?_
    refine sk ?_
    refine s0 (qv_pickT rfl rfl) ?_
    refine s0 (qv_move rfl) ?_
    refine sk ?_
    refine sk ?_
    refine sk ?_
    refine sk ?_
    refine s0 (qv_pickT rfl rfl) ?_
    refine tl_nil (tp_normal ?_)
    refine tc_true rfl ?_
    refine tc_seq ?_
    refine tc_region ?_
    refine s0 (qv_assign rfl) ?_
    refine tl_nil (tp_normal ?_)
    refine tc_ret (tp_then_ret (tp_end1 rfl rfl ?_))
    intro w' hm
    exact ⟨by rw [netCheck_limit (by omega)], hm.below⟩
  ·
    refine s0 (qv_move rfl) ?_
    refine s0g (qv_fa fo_24_0 rfl) ?_
    refine s0g (qv_ldB (i := 0) sc_3 rfl rfl rfl) ?_
    refine sdg (qv_gtr rfl rfl) (fun c14 => ?_) (fun c14 => ?_)
    ·
      refine s0 (qv_pickF rfl rfl) ?_
      refine s0 (qv_move rfl) ?_
      refine sk ?_
      refine sk ?_
      refine sk ?_
      refine sk ?_
      refine s0 (qv_pickT rfl rfl) ?_
      refine tl_nil (tp_normal ?_)
      refine tc_true rfl ?_
      refine tc_seq ?_
      refine tc_region ?_
      refine s0 (qv_assign rfl) ?_
      refine tl_nil (tp_normal ?_)
      refine tc_ret (tp_then_ret (tp_end1 rfl rfl ?_))
      intro w' hm
      exact ⟨by rw [netCheck_limit (by omega)], hm.below⟩
    ·
      refine s0 (qv_pickF rfl rfl) ?_
      refine s0 (qv_move rfl) ?_
      refine s0g (qv_fa fo_24_1 rfl) ?_
      refine s0g (qv_ldB (i := 0) sc_22 rfl rfl rfl) ?_
      refine s0g (qv_len st_22 rfl) ?_
      refine sdg (qv_gtr rfl rfl) (fun c20 => ?_) (fun c20 => ?_)
      ·
        refine s0 (qv_pickF rfl rfl) ?_
        refine tl_nil (tp_normal ?_)
        refine tc_true rfl ?_
        refine tc_seq ?_
        refine tc_region ?_
        refine s0 (qv_assign rfl) ?_
        refine tl_nil (tp_normal ?_)
        refine tc_ret (tp_then_ret (tp_end1 rfl rfl ?_))
        intro w' hm
        exact ⟨by rw [netCheck_limit (by omega)], hm.below⟩
      ·
        refine s0 (qv_pickF rfl rfl) ?_
        refine tl_nil (tp_normal ?_)
        refine tc_false rfl ?_
        refine tc_skip (tp_normal ?_)
        refine tc_seq ?_
        refine tc_seq ?_
        refine tc_region ?_
        refine s0 (qv_assign rfl) ?_
        refine tl_nil (tp_normal ?_)
        refine tc_block (tc_loopS (fun (k : Nat) => [(3, .int .i64 (k : Int))]) (fun (k : Nat) => k ≤ n.links.length ∧ netCheck n = checkLinks n (n.links.drop k)) (fun (k : Nat) => n.links.length - k) (0) ⟨Nat.zero_le _, by rw [netCheck_links c10 c14 c20, List.drop_zero]⟩ ⟨rfl, trivial⟩ ?_)
        rintro k hI
        refine tc_seq ?_
        refine tc_seq ?_
        refine tc_region ?_
        refine s0 (qv_move rfl) ?_
        refine s0 (qv_fa fo_24_1 rfl) ?_
        refine s0 (qv_ldB (i := 0) sc_22 rfl rfl rfl) ?_
        refine s0 (qv_len st_22 rfl) ?_
        refine sd (qv_lss rfl rfl) (fun c26 => ?_) (fun c26 => ?_)
        ·
          refine tl_nil (tp_normal ?_)
          refine tc_true rfl ?_
          refine tc_skip (tp_normal ?_)
          refine tc_seq ?_
          refine tc_block ?_
          refine tc_seq ?_
          refine tc_region ?_
          refine s0 (qv_fa fo_24_1 rfl) ?_
          refine s0 (qv_ldB (i := 0) sc_22 rfl rfl rfl) ?_
          refine s0 (qv_move rfl) ?_
          refine sn st_22 hn rfl rfl (by omega) (fun e32 he32 => ?_)
          refine s0 (qv_ldEW ag_49 hn Mem.has_base rfl he32) ?_
          refine tl_alloc ze_49 (by decide) (fun b4_1 => ?_)
          refine tl_storeL (i := 0) sz_49 (hn.szs _ (List.mem_of_getElem? he32)) (one_49 _) rfl rfl rfl rfl ?_
          refine tl_nil (tp_normal ?_)
          refine tc_seq ?_
          refine tc_region ?_
          refine s0 (qv_ldBW (i := 1) ag_24 rfl rfl rfl) ?_
          refine s0 (qv_fa fo_49_0 rfl) ?_
          refine s0 (qv_ldB (i := 0) sc_3 rfl rfl rfl) ?_
          refine sd (qv_call fn_66 rfl (fun w hm => rhouse_calls w n na nc e32.src (hn.into Mem.has_base hm) hk)) (fun c37 => ?_) (fun c37 => ?_)
          ·
            refine s0 (qv_assign rfl) ?_
            refine tl_nil (tp_normal ?_)
            refine tc_seq ?_
            refine tc_region ?_
            refine s0 (qv_ldBW (i := 1) ag_24 rfl rfl rfl) ?_
            refine s0 (qv_fa fo_49_1 rfl) ?_
            refine s0 (qv_ldB (i := 0) sc_3 rfl rfl rfl) ?_
            refine sd (qv_call fn_66 rfl (fun w hm => rhouse_calls w n na nc e32.dst (hn.into Mem.has_base hm) hk)) (fun c41 => ?_) (fun c41 => ?_)
            ·
              refine s0 (qv_assign rfl) ?_
              refine tl_nil (tp_normal ?_)
              refine tc_seq ?_
              refine tc_seq ?_
              refine tc_region ?_
              refine s0 (qv_move rfl) ?_
              refine s0 (qv_not rfl) ?_
              refine s0 (qv_move rfl) ?_
              refine s0g (qv_move rfl) ?_
              refine s0g (qv_not rfl) ?_
              refine s0 (qv_pickF rfl rfl) ?_
              refine s0 (qv_move rfl) ?_
              refine s0g (qv_fa fo_49_0 rfl) ?_
              refine s0g (qv_ldB (i := 0) sc_3 rfl rfl rfl) ?_
              refine s0g (qv_fa fo_49_1 rfl) ?_
              refine s0g (qv_ldB (i := 0) sc_3 rfl rfl rfl) ?_
              refine sdg (qv_eql rfl rfl) (fun c53 => ?_) (fun c53 => ?_)
              ·
                refine s0 (qv_pickF rfl rfl) ?_
                refine tl_nil (tp_normal ?_)
                refine tc_true rfl ?_
                refine tc_seq ?_
                refine tc_region ?_
                refine s0 (qv_assign rfl) ?_
                refine tl_nil (tp_normal ?_)
                refine tc_ret (tp_then_ret (tp_block_ret (tp_then_ret (tp_then_ret (tp_block_ret (tp_then_ret (tp_end1 rfl rfl ?_)))))))
                intro w' hm
                exact ⟨by rw [hI.2, checkLinks_at he32, checkLink_arg (by simp_all)]; rfl, hm.below⟩
              ·
                refine s0 (qv_pickF rfl rfl) ?_
                refine tl_nil (tp_normal ?_)
                refine tc_false rfl ?_
                refine tc_skip (tp_normal ?_)
                refine tc_seq ?_
                refine tc_region ?_
                refine s0 (qv_assign rfl) ?_
                refine tl_nil (tp_normal ?_)
                refine tc_block (tc_loopS (fun (j : Nat) => [(7, .int .i64 (j : Int))]) (fun (j : Nat) => j ≤ 24 ∧ netCheck n = if hoursFrom e32 (24 - j) j = 0 then checkLinks n (n.links.drop (k + 1)) else hoursFrom e32 (24 - j) j) (fun (j : Nat) => 24 - j) (0) ⟨by omega, by rw [hI.2, checkLinks_at he32, checkLink_hours c37 c41 c53]⟩ ⟨rfl, trivial⟩ ?_)
                rintro j hI
                refine tc_seq ?_
                refine tc_seq ?_
                refine tc_region ?_
                refine s0 (qv_move rfl) ?_
                refine sd (qv_lss rfl rfl) (fun c56 => ?_) (fun c56 => ?_)
                ·
                  refine tl_nil (tp_normal ?_)
                  refine tc_true rfl ?_
                  refine tc_skip (tp_normal ?_)
                  refine tc_seq ?_
                  refine tc_block ?_
                  refine tc_seq ?_
                  refine tc_region ?_
                  refine s0 (qv_move rfl) ?_
                  refine s0 (qv_fa fo_49_2 rfl) ?_
                  refine s0 (qv_iA at_47 rfl rfl (by omega)) ?_
                  refine s0 (qv_ldB (i := 0) sc_3 rfl rfl (box_cap (hk _ (List.mem_of_getElem? he32)) (by omega))) ?_
                  refine sd (qv_lss rfl rfl) (fun c63 => ?_) (fun c63 => ?_)
                  ·
                    refine s0 (qv_move rfl) ?_
                    refine sk ?_
                    refine sk ?_
                    refine sk ?_
                    refine sk ?_
                    refine sk ?_
                    refine s0 (qv_pickT rfl rfl) ?_
                    refine s0 (qv_move rfl) ?_
                    refine sk ?_
                    refine sk ?_
                    refine sk ?_
                    refine sk ?_
                    refine sk ?_
                    refine s0 (qv_pickT rfl rfl) ?_
                    refine s0 (qv_move rfl) ?_
                    refine sk ?_
                    refine sk ?_
                    refine sk ?_
                    refine sk ?_
                    refine sk ?_
                    refine s0 (qv_pickT rfl rfl) ?_
                    refine tl_nil (tp_normal ?_)
                    refine tc_true rfl ?_
                    refine tc_seq ?_
                    refine tc_region ?_
                    refine s0 (qv_assign rfl) ?_
                    refine tl_nil (tp_normal ?_)
                    refine tc_ret (tp_block_ret (tp_then_ret (tp_then_ret (tp_block_ret (tp_block_ret (tp_then_ret (tp_then_ret (tp_block_ret (tp_then_ret (tp_end1 rfl rfl ?_))))))))))
                    intro w' hm
                    exact ⟨by rw [hI.2, hoursFrom_bad (by omega) (by simp only [hourBad]; omega)]; rfl, hm.below⟩
                  ·
                    refine s0 (qv_move rfl) ?_
                    refine s0g (qv_move rfl) ?_
                    refine s0g (qv_fa fo_49_2 rfl) ?_
                    refine s0g (qv_iA at_47 rfl rfl (by omega)) ?_
                    refine s0g (qv_ldB (i := 0) sc_3 rfl rfl (box_cap (hk _ (List.mem_of_getElem? he32)) (by omega))) ?_
                    refine sdg (qv_gtr rfl rfl) (fun c69 => ?_) (fun c69 => ?_)
                    ·
                      refine s0 (qv_pickF rfl rfl) ?_
                      refine s0 (qv_move rfl) ?_
                      refine sk ?_
                      refine sk ?_
                      refine sk ?_
                      refine sk ?_
                      refine sk ?_
                      refine s0 (qv_pickT rfl rfl) ?_
                      refine s0 (qv_move rfl) ?_
                      refine sk ?_
                      refine sk ?_
                      refine sk ?_
                      refine sk ?_
                      refine sk ?_
                      refine s0 (qv_pickT rfl rfl) ?_
                      refine tl_nil (tp_normal ?_)
                      refine tc_true rfl ?_
                      refine tc_seq ?_
                      refine tc_region ?_
                      refine s0 (qv_assign rfl) ?_
                      refine tl_nil (tp_normal ?_)
                      refine tc_ret (tp_block_ret (tp_then_ret (tp_then_ret (tp_block_ret (tp_block_ret (tp_then_ret (tp_then_ret (tp_block_ret (tp_then_ret (tp_end1 rfl rfl ?_))))))))))
                      intro w' hm
                      exact ⟨by rw [hI.2, hoursFrom_bad (by omega) (by simp only [hourBad]; omega)]; rfl, hm.below⟩
                    ·
                      refine s0 (qv_pickF rfl rfl) ?_
                      refine s0 (qv_move rfl) ?_
                      refine s0g (qv_move rfl) ?_
                      refine s0g (qv_fa fo_49_3 rfl) ?_
                      refine s0g (qv_iA at_47 rfl rfl (by omega)) ?_
                      refine s0g (qv_ldB (i := 0) sc_3 rfl rfl (box_price (hk _ (List.mem_of_getElem? he32)) (by omega))) ?_
                      refine sdg (qv_lss rfl rfl) (fun c76 => ?_) (fun c76 => ?_)
                      ·
                        refine s0 (qv_pickF rfl rfl) ?_
                        refine s0 (qv_move rfl) ?_
                        refine sk ?_
                        refine sk ?_
                        refine sk ?_
                        refine sk ?_
                        refine sk ?_
                        refine s0 (qv_pickT rfl rfl) ?_
                        refine tl_nil (tp_normal ?_)
                        refine tc_true rfl ?_
                        refine tc_seq ?_
                        refine tc_region ?_
                        refine s0 (qv_assign rfl) ?_
                        refine tl_nil (tp_normal ?_)
                        refine tc_ret (tp_block_ret (tp_then_ret (tp_then_ret (tp_block_ret (tp_block_ret (tp_then_ret (tp_then_ret (tp_block_ret (tp_then_ret (tp_end1 rfl rfl ?_))))))))))
                        intro w' hm
                        exact ⟨by rw [hI.2, hoursFrom_bad (by omega) (by simp only [hourBad]; omega)]; rfl, hm.below⟩
                      ·
                        refine s0 (qv_pickF rfl rfl) ?_
                        refine s0 (qv_move rfl) ?_
                        refine s0g (qv_move rfl) ?_
                        refine s0g (qv_fa fo_49_3 rfl) ?_
                        refine s0g (qv_iA at_47 rfl rfl (by omega)) ?_
                        refine s0g (qv_ldB (i := 0) sc_3 rfl rfl (box_price (hk _ (List.mem_of_getElem? he32)) (by omega))) ?_
                        refine sdg (qv_gtr rfl rfl) (fun c83 => ?_) (fun c83 => ?_)
                        ·
                          refine s0 (qv_pickF rfl rfl) ?_
                          refine tl_nil (tp_normal ?_)
                          refine tc_true rfl ?_
                          refine tc_seq ?_
                          refine tc_region ?_
                          refine s0 (qv_assign rfl) ?_
                          refine tl_nil (tp_normal ?_)
                          refine tc_ret (tp_block_ret (tp_then_ret (tp_then_ret (tp_block_ret (tp_block_ret (tp_then_ret (tp_then_ret (tp_block_ret (tp_then_ret (tp_end1 rfl rfl ?_))))))))))
                          intro w' hm
                          exact ⟨by rw [hI.2, hoursFrom_bad (by omega) (by simp only [hourBad]; omega)]; rfl, hm.below⟩
                        ·
                          refine s0 (qv_pickF rfl rfl) ?_
                          refine tl_nil (tp_normal ?_)
                          refine tc_false rfl ?_
                          refine tc_skip (tp_block_normal (tp_normal ?_))
                          refine tc_region ?_
                          refine s0 (qv_move rfl) ?_
                          refine s0 (qv_succ rfl rfl (by omega)) ?_
                          refine s0 (qv_assign rfl) ?_
                          exact tl_nil (tp_roundS (j + 1) ⟨by omega, by rw [← hoursFrom_ok (by omega) (by simp only [hourBad]; omega)]; exact hI.2⟩ (by omega) ⟨rfl, trivial⟩ rfl rfl rfl rfl)
                ·
                  refine tl_nil (tp_normal ?_)
                  refine tc_false rfl ?_
                  refine tc_exit (tp_then_exit (tp_then_exit (tp_block_exit (tp_block_normal (tp_normal ?_)))))
                  refine tc_region ?_
                  refine s0 (qv_move rfl) ?_
                  refine s0 (qv_succ rfl rfl (by omega)) ?_
                  refine s0 (qv_assign rfl) ?_
                  exact tl_nil (tp_roundS (k + 1) ⟨by omega, by rw [hI.2, show 24 - j = 0 by omega]; rfl⟩ (by omega) ⟨rfl, trivial⟩ rfl rfl rfl rfl)
            ·
              refine s0 (qv_assign rfl) ?_
              refine tl_nil (tp_normal ?_)
              refine tc_seq ?_
              refine tc_seq ?_
              refine tc_region ?_
              refine s0 (qv_move rfl) ?_
              refine s0 (qv_not rfl) ?_
              refine s0 (qv_move rfl) ?_
              refine s0g (qv_move rfl) ?_
              refine s0g (qv_not rfl) ?_
              refine s0 (qv_pickF rfl rfl) ?_
              refine s0 (qv_move rfl) ?_
              refine sk ?_
              refine sk ?_
              refine sk ?_
              refine sk ?_
              refine sk ?_
              refine s0 (qv_pickT rfl rfl) ?_
              refine tl_nil (tp_normal ?_)
              refine tc_true rfl ?_
              refine tc_seq ?_
              refine tc_region ?_
              refine s0 (qv_assign rfl) ?_
              refine tl_nil (tp_normal ?_)
              refine tc_ret (tp_then_ret (tp_block_ret (tp_then_ret (tp_then_ret (tp_block_ret (tp_then_ret (tp_end1 rfl rfl ?_)))))))
              intro w' hm
              exact ⟨by rw [hI.2, checkLinks_at he32, checkLink_arg (by simp_all)]; rfl, hm.below⟩
          ·
            refine s0 (qv_assign rfl) ?_
            refine tl_nil (tp_normal ?_)
            refine tc_seq ?_
            refine tc_region ?_
            refine s0 (qv_ldBW (i := 1) ag_24 rfl rfl rfl) ?_
            refine s0 (qv_fa fo_49_1 rfl) ?_
            refine s0 (qv_ldB (i := 0) sc_3 rfl rfl rfl) ?_
            refine sd (qv_call fn_66 rfl (fun w hm => rhouse_calls w n na nc e32.dst (hn.into Mem.has_base hm) hk)) (fun c41 => ?_) (fun c41 => ?_)
            ·
              refine s0 (qv_assign rfl) ?_
              refine tl_nil (tp_normal ?_)
              refine tc_seq ?_
              refine tc_seq ?_
              refine tc_region ?_
              refine s0 (qv_move rfl) ?_
              refine s0 (qv_not rfl) ?_
              refine s0 (qv_move rfl) ?_
              refine sk ?_
              refine sk ?_
              refine s0 (qv_pickT rfl rfl) ?_
              refine s0 (qv_move rfl) ?_
              refine sk ?_
              refine sk ?_
              refine sk ?_
              refine sk ?_
              refine sk ?_
              refine s0 (qv_pickT rfl rfl) ?_
              refine tl_nil (tp_normal ?_)
              refine tc_true rfl ?_
              refine tc_seq ?_
              refine tc_region ?_
              refine s0 (qv_assign rfl) ?_
              refine tl_nil (tp_normal ?_)
              refine tc_ret (tp_then_ret (tp_block_ret (tp_then_ret (tp_then_ret (tp_block_ret (tp_then_ret (tp_end1 rfl rfl ?_)))))))
              intro w' hm
              exact ⟨by rw [hI.2, checkLinks_at he32, checkLink_arg (by simp_all)]; rfl, hm.below⟩
            ·
              refine s0 (qv_assign rfl) ?_
              refine tl_nil (tp_normal ?_)
              refine tc_seq ?_
              refine tc_seq ?_
              refine tc_region ?_
              refine s0 (qv_move rfl) ?_
              refine s0 (qv_not rfl) ?_
              refine s0 (qv_move rfl) ?_
              refine sk ?_
              refine sk ?_
              refine s0 (qv_pickT rfl rfl) ?_
              refine s0 (qv_move rfl) ?_
              refine sk ?_
              refine sk ?_
              refine sk ?_
              refine sk ?_
              refine sk ?_
              refine s0 (qv_pickT rfl rfl) ?_
              refine tl_nil (tp_normal ?_)
              refine tc_true rfl ?_
              refine tc_seq ?_
              refine tc_region ?_
              refine s0 (qv_assign rfl) ?_
              refine tl_nil (tp_normal ?_)
              refine tc_ret (tp_then_ret (tp_block_ret (tp_then_ret (tp_then_ret (tp_block_ret (tp_then_ret (tp_end1 rfl rfl ?_)))))))
              intro w' hm
              exact ⟨by rw [hI.2, checkLinks_at he32, checkLink_arg (by simp_all)]; rfl, hm.below⟩
        ·
          refine tl_nil (tp_normal ?_)
          refine tc_false rfl ?_
          refine tc_exit (tp_then_exit (tp_then_exit (tp_block_exit (tp_normal ?_))))
          refine tc_seq ?_
          refine tc_region ?_
          refine s0 (qv_assign rfl) ?_
          refine tl_nil (tp_normal ?_)
          refine tc_ret (tp_end1 rfl rfl ?_)
          intro w' hm
          exact ⟨by rw [hI.2, List.drop_eq_nil_of_le (by omega)]; rfl, hm.below⟩

set_option maxRecDepth 100000 in
theorem right_calls (w : World) (n : Net) (na : Option Addr) (nc : Nat) (l : List Send) (la : Option Addr) (lc : Nat) (hn : SlIn w 50 encLink na n.links) (hk : NetOk n) (hl : SlIn w 3 encSend la l) :
    Calls Try.prog 33 #[.agg (netA n na nc), .slice la l.length lc] w (fun e w' => e = .returned (.int .i64 (right n l)) ∧ Below w.heap.size w w') := by
  have hlen := hl.len
  simp only [maxLen] at hlen
  have hlenn := hn.len
  simp only [maxLen] at hlenn
  refine calls_of_tc (N := 91) (vs := [.agg (netA n na nc), .slice la l.length lc]) Try.func33 rfl rfl (Nat.le_of_ble_eq_true rfl) ?_
  refine tc_seq ?_
  refine tc_region ?_
  refine tl_box rfl (by decide) (fun b2_0 => ?_)
  refine s0 (qv_assign rfl) ?_
  refine tl_nil (tp_normal ?_)
  refine tc_seq ?_
  refine tc_seq ?_
  refine tc_region ?_
  refine s0 (qv_ldBW (i := 0) ag_24 rfl rfl rfl) ?_
  refine s0 (qv_call fn_39 rfl (fun w hm => netCheck_calls w n na nc (hn.into Mem.has_base hm) hk)) ?_
  refine s0 (qv_assign rfl) ?_
  refine tl_nil (tp_normal ?_)
  refine tc_seq ?_
  refine tc_region ?_
  refine s0 (qv_move rfl) ?_
  refine sd (qv_neq rfl rfl) (fun c11 => ?_) (fun c11 => ?_)
  ·
    refine tl_nil (tp_normal ?_)
    refine tc_true rfl ?_
    refine tc_seq ?_
    refine tc_region ?_
    refine s0 (qv_move rfl) ?_
    refine s0 (qv_assign rfl) ?_
    refine tl_nil (tp_normal ?_)
    refine tc_ret (tp_then_ret (tp_end1 rfl rfl ?_))
    intro w' hm
    exact ⟨by rw [right_check c11], hm.below⟩
  ·
    refine tl_nil (tp_normal ?_)
    refine tc_false rfl ?_
    refine tc_skip (tp_normal ?_)
    refine tc_seq ?_
    refine tc_seq ?_
    refine tc_region ?_
    refine s0 (qv_move rfl) ?_
    refine s0 (qv_len st_25 rfl) ?_
    refine sd (qv_gtr rfl rfl) (fun c15 => ?_) (fun c15 => ?_)
    ·
      refine tl_nil (tp_normal ?_)
      refine tc_true rfl ?_
      refine tc_seq ?_
      refine tc_region ?_
      refine s0 (qv_assign rfl) ?_
      refine tl_nil (tp_normal ?_)
      refine tc_ret (tp_then_ret (tp_end1 rfl rfl ?_))
      intro w' hm
      exact ⟨by rw [right_limit c11 (by omega)], hm.below⟩
    ·
      refine tl_nil (tp_normal ?_)
      refine tc_false rfl ?_
      refine tc_skip (tp_normal ?_)
      refine tc_seq ?_
      refine tc_seq ?_
      refine tc_region ?_
      refine s0 (qv_move rfl) ?_
      refine s0 (qv_len st_25 rfl) ?_
      refine s0 (qv_move rfl) ?_
      refine tl_nil (tp_normal ?_)
      refine tc_block (tc_loopS (fun (k : Nat) => [(18, .int .i64 (k : Int))]) (fun (k : Nat) => k ≤ l.length ∧ right n l = rightFrom n (prevAt l k) (l.drop k)) (fun (k : Nat) => l.length - k) (0) ⟨Nat.zero_le _, by rw [right_from c11 (by omega)]; rfl⟩ ⟨rfl, trivial⟩ ?_)
      rintro k hI
      refine tc_seq ?_
      refine tc_region ?_
      refine sd (qv_lss rfl rfl) (fun c19 => ?_) (fun c19 => ?_)
      ·
        refine tl_nil (tp_normal ?_)
        refine tc_seq ?_
        refine tc_true rfl ?_
        refine tc_skip (tp_normal ?_)
        refine tc_seq ?_
        refine tc_block ?_
        refine tc_seq ?_
        refine tc_region ?_
        refine s0 (qv_move rfl) ?_
        refine sn st_25 hl rfl rfl (by omega) (fun e21 he21 => ?_)
        refine s0 (qv_ldEW ag_70 hl Mem.has_base rfl he21) ?_
        refine tl_alloc ze_70 (by decide) (fun b7_1 => ?_)
        refine s0 (qv_assign rfl) ?_
        refine tl_storeL (i := 0) sz_70 (hl.szs _ (List.mem_of_getElem? he21)) (one_70 _) rfl rfl rfl rfl ?_
        refine tl_nil (tp_normal ?_)
        refine tc_block ?_
        refine tc_seq ?_
        refine tc_region ?_
        refine s0 (qv_fa fo_70_0 rfl) ?_
        refine s0 (qv_ldB (i := 0) sc_3 rfl rfl rfl) ?_
        refine sd (qv_lss rfl rfl) (fun c26 => ?_) (fun c26 => ?_)
        ·
          refine s0 (qv_move rfl) ?_
          refine sk ?_
          refine sk ?_
          refine sk ?_
          refine sk ?_
          refine sk ?_
          refine sk ?_
          refine s0 (qv_pickT rfl rfl) ?_
          refine s0 (qv_assign rfl) ?_
          refine tl_nil (tp_normal ?_)
          refine tc_true rfl ?_
          refine tc_seq ?_
          refine tc_region ?_
          refine s0 (qv_assign rfl) ?_
          refine tl_nil (tp_normal ?_)
          refine tc_ret (tp_block_ret (tp_block_ret (tp_then_ret (tp_then_ret (tp_block_ret (tp_then_ret (tp_end1 rfl rfl ?_)))))))
          intro w' hm
          exact ⟨by rw [hI.2, right_stop he21 (sendErr_link (by omega)) (by decide)], hm.below⟩
        ·
          refine s0 (qv_move rfl) ?_
          refine s0g (qv_fa fo_70_0 rfl) ?_
          refine s0g (qv_ldB (i := 0) sc_3 rfl rfl rfl) ?_
          refine s0g (qv_fa fo_24_1 rfl) ?_
          refine s0g (qv_ldB (i := 1) sc_22 rfl rfl rfl) ?_
          refine s0g (qv_len st_22 rfl) ?_
          refine sdg (qv_geq rfl rfl) (fun c33 => ?_) (fun c33 => ?_)
          ·
            refine s0 (qv_pickF rfl rfl) ?_
            refine s0 (qv_assign rfl) ?_
            refine tl_nil (tp_normal ?_)
            refine tc_true rfl ?_
            refine tc_seq ?_
            refine tc_region ?_
            refine s0 (qv_assign rfl) ?_
            refine tl_nil (tp_normal ?_)
            refine tc_ret (tp_block_ret (tp_block_ret (tp_then_ret (tp_then_ret (tp_block_ret (tp_then_ret (tp_end1 rfl rfl ?_)))))))
            intro w' hm
            exact ⟨by rw [hI.2, right_stop he21 (sendErr_link (by omega)) (by decide)], hm.below⟩
          ·
            refine s0 (qv_pickF rfl rfl) ?_
            refine s0 (qv_assign rfl) ?_
            refine tl_nil (tp_normal ?_)
            refine tc_false rfl ?_
            refine tc_seq ?_
            refine tc_region ?_
            refine s0 (qv_fa fo_70_1 rfl) ?_
            refine s0 (qv_ldB (i := 0) sc_3 rfl rfl rfl) ?_
            refine sd (qv_lss rfl rfl) (fun c38 => ?_) (fun c38 => ?_)
            ·
              refine s0 (qv_move rfl) ?_
              refine sk ?_
              refine sk ?_
              refine sk ?_
              refine s0 (qv_pickT rfl rfl) ?_
              refine s0 (qv_move rfl) ?_
              refine sk ?_
              refine sk ?_
              refine sk ?_
              refine s0 (qv_pickT rfl rfl) ?_
              refine s0 (qv_move rfl) ?_
              refine sk ?_
              refine sk ?_
              refine sk ?_
              refine s0 (qv_pickT rfl rfl) ?_
              refine s0 (qv_assign rfl) ?_
              refine tl_nil (tp_normal ?_)
              refine tc_true rfl ?_
              refine tc_seq ?_
              refine tc_region ?_
              refine s0 (qv_assign rfl) ?_
              refine tl_nil (tp_normal ?_)
              refine tc_ret (tp_block_ret (tp_block_ret (tp_then_ret (tp_then_ret (tp_block_ret (tp_then_ret (tp_end1 rfl rfl ?_)))))))
              intro w' hm
              exact ⟨by rw [hI.2, right_stop he21 (sendErr_range c26 c33 (by omega)) (by decide)], hm.below⟩
            ·
              refine s0 (qv_move rfl) ?_
              refine s0g (qv_fa fo_70_1 rfl) ?_
              refine s0g (qv_ldB (i := 0) sc_3 rfl rfl rfl) ?_
              refine sdg (qv_geq rfl rfl) (fun c42 => ?_) (fun c42 => ?_)
              ·
                refine s0 (qv_pickF rfl rfl) ?_
                refine s0 (qv_move rfl) ?_
                refine sk ?_
                refine sk ?_
                refine sk ?_
                refine s0 (qv_pickT rfl rfl) ?_
                refine s0 (qv_move rfl) ?_
                refine sk ?_
                refine sk ?_
                refine sk ?_
                refine s0 (qv_pickT rfl rfl) ?_
                refine s0 (qv_assign rfl) ?_
                refine tl_nil (tp_normal ?_)
                refine tc_true rfl ?_
                refine tc_seq ?_
                refine tc_region ?_
                refine s0 (qv_assign rfl) ?_
                refine tl_nil (tp_normal ?_)
                refine tc_ret (tp_block_ret (tp_block_ret (tp_then_ret (tp_then_ret (tp_block_ret (tp_then_ret (tp_end1 rfl rfl ?_)))))))
                intro w' hm
                exact ⟨by rw [hI.2, right_stop he21 (sendErr_range c26 c33 (by omega)) (by decide)], hm.below⟩
              ·
                refine s0 (qv_pickF rfl rfl) ?_
                refine s0 (qv_move rfl) ?_
                refine s0g (qv_fa fo_70_2 rfl) ?_
                refine s0g (qv_ldB (i := 0) sc_3 rfl rfl rfl) ?_
                refine sdg (qv_lss rfl rfl) (fun c47 => ?_) (fun c47 => ?_)
                ·
                  refine s0 (qv_pickF rfl rfl) ?_
                  refine s0 (qv_move rfl) ?_
                  refine sk ?_
                  refine sk ?_
                  refine sk ?_
                  refine s0 (qv_pickT rfl rfl) ?_
                  refine s0 (qv_assign rfl) ?_
                  refine tl_nil (tp_normal ?_)
                  refine tc_true rfl ?_
                  refine tc_seq ?_
                  refine tc_region ?_
                  refine s0 (qv_assign rfl) ?_
                  refine tl_nil (tp_normal ?_)
                  refine tc_ret (tp_block_ret (tp_block_ret (tp_then_ret (tp_then_ret (tp_block_ret (tp_then_ret (tp_end1 rfl rfl ?_)))))))
                  intro w' hm
                  exact ⟨by rw [hI.2, right_stop he21 (sendErr_range c26 c33 (by omega)) (by decide)], hm.below⟩
                ·
                  refine s0 (qv_pickF rfl rfl) ?_
                  refine s0 (qv_move rfl) ?_
                  refine s0g (qv_fa fo_70_2 rfl) ?_
                  refine s0g (qv_ldB (i := 0) sc_3 rfl rfl rfl) ?_
                  refine sdg (qv_gtr rfl rfl) (fun c52 => ?_) (fun c52 => ?_)
                  ·
                    refine s0 (qv_pickF rfl rfl) ?_
                    refine s0 (qv_assign rfl) ?_
                    refine tl_nil (tp_normal ?_)
                    refine tc_true rfl ?_
                    refine tc_seq ?_
                    refine tc_region ?_
                    refine s0 (qv_assign rfl) ?_
                    refine tl_nil (tp_normal ?_)
                    refine tc_ret (tp_block_ret (tp_block_ret (tp_then_ret (tp_then_ret (tp_block_ret (tp_then_ret (tp_end1 rfl rfl ?_)))))))
                    intro w' hm
                    exact ⟨by rw [hI.2, right_stop he21 (sendErr_range c26 c33 (by omega)) (by decide)], hm.below⟩
                  ·
                    refine s0 (qv_pickF rfl rfl) ?_
                    refine s0 (qv_assign rfl) ?_
                    refine tl_nil (tp_normal ?_)
                    refine tc_false rfl ?_
                    refine tc_seq ?_
                    refine tc_draws mixed (by kernel_rfl) ?_
                    refine q0 (qv_move rfl) ?_
                    refine qd (qv_gtr rfl rfl) (fun c56 => ?_) (fun c56 => ?_)
                    ·
                      refine q0 (qv_move rfl) ?_
                      refine q0g (qv_fa fo_70_1 rfl) ?_
                      refine q0g (qv_ldB (i := 0) sc_3 rfl rfl rfl) ?_
                      refine q0g (qv_move rfl) ?_
                      refine q0g (qv_move rfl) ?_
                      refine q0g (qv_subI rfl rfl (by omega)) ?_
                      refine qig st_25 hl rfl rfl (by omega) (fun e63 he63 => ?_)
                      refine q0g (qv_fa fo_70_1 rfl) ?_
                      refine q0g (qv_ldE (j := 1) sc_3 hl Mem.has_base rfl rfl he63 rfl) ?_
                      refine qdg (qv_lss rfl rfl) (fun c66 => ?_) (fun c66 => ?_)
                      ·
                        refine q0g (qv_move rfl) ?_
                        refine qk ?_
                        refine qk ?_
                        refine qk ?_
                        refine qk ?_
                        refine qk ?_
                        refine qk ?_
                        refine qk ?_
                        refine qk ?_
                        refine qk ?_
                        refine qk ?_
                        refine qk ?_
                        refine qk ?_
                        refine qk ?_
                        refine qk ?_
                        refine qk ?_
                        refine qk ?_
                        refine qk ?_
                        refine qk ?_
                        refine qk ?_
                        refine qk ?_
                        refine q0g (qv_pickT rfl rfl) ?_
                        refine q0 (qv_pickT rfl rfl) ?_
                        refine q0 (qv_assign rfl) ?_
                        refine tq_nil (tp_normal ?_)
                        refine tc_true rfl ?_
                        refine tc_seq ?_
                        refine tc_region ?_
                        refine s0 (qv_assign rfl) ?_
                        refine tl_nil (tp_normal ?_)
                        refine tc_ret (tp_block_ret (tp_block_ret (tp_then_ret (tp_then_ret (tp_block_ret (tp_then_ret (tp_end1 rfl rfl ?_)))))))
                        intro w' hm
                        exact ⟨by rw [hI.2, right_disorder he21 c26 c33 c38 c42 c47 c52 c56 he63 (by omega)], hm.below⟩
                      ·
                        refine q0g (qv_move rfl) ?_
                        refine q0g (qv_fa fo_70_1 rfl) ?_
                        refine q0g (qv_ldB (i := 0) sc_3 rfl rfl rfl) ?_
                        refine q0g (qv_move rfl) ?_
                        refine q0g (qv_move rfl) ?_
                        refine q0g (qv_subI rfl rfl (by omega)) ?_
                        refine qig st_25 hl rfl rfl (by omega) (fun e73 he73 => ?_)
                        obtain rfl : e63 = e73 := Option.some.inj (he63.symm.trans he73)
                        refine q0g (qv_fa fo_70_1 rfl) ?_
                        refine q0g (qv_ldE (j := 1) sc_3 hl Mem.has_base rfl rfl he63 rfl) ?_
                        refine qdg (qv_eql rfl rfl) (fun c76 => ?_) (fun c76 => ?_)
                        ·
                          refine q0g (qv_move rfl) ?_
                          refine q0g (qv_fa fo_70_0 rfl) ?_
                          refine q0g (qv_ldB (i := 0) sc_3 rfl rfl rfl) ?_
                          refine q0g (qv_move rfl) ?_
                          refine q0g (qv_move rfl) ?_
                          refine q0g (qv_subI rfl rfl (by omega)) ?_
                          refine qig st_25 hl rfl rfl (by omega) (fun e83 he83 => ?_)
                          obtain rfl : e63 = e83 := Option.some.inj (he63.symm.trans he83)
                          refine q0g (qv_fa fo_70_0 rfl) ?_
                          refine q0g (qv_ldE (j := 0) sc_3 hl Mem.has_base rfl rfl he63 rfl) ?_
                          refine qdg (qv_leq rfl rfl) (fun c86 => ?_) (fun c86 => ?_)
                          ·
                            refine q0g (qv_pickT rfl rfl) ?_
                            refine q0g (qv_pickF rfl rfl) ?_
                            refine q0 (qv_pickT rfl rfl) ?_
                            refine q0 (qv_assign rfl) ?_
                            refine tq_nil (tp_normal ?_)
                            refine tc_true rfl ?_
                            refine tc_seq ?_
                            refine tc_region ?_
                            refine s0 (qv_assign rfl) ?_
                            refine tl_nil (tp_normal ?_)
                            refine tc_ret (tp_block_ret (tp_block_ret (tp_then_ret (tp_then_ret (tp_block_ret (tp_then_ret (tp_end1 rfl rfl ?_)))))))
                            intro w' hm
                            exact ⟨by rw [hI.2, right_disorder he21 c26 c33 c38 c42 c47 c52 c56 he63 (by omega)], hm.below⟩
                          ·
                            refine q0g (qv_pickT rfl rfl) ?_
                            refine q0g (qv_pickF rfl rfl) ?_
                            refine q0 (qv_pickT rfl rfl) ?_
                            refine q0 (qv_assign rfl) ?_
                            refine tq_nil (tp_normal ?_)
                            refine tc_false rfl ?_
                            refine tc_skip (tp_block_normal (tp_block_normal (tp_normal ?_)))
                            refine tc_region ?_
                            refine s0 (qv_succ rfl rfl (by omega)) ?_
                            refine s0 (qv_move rfl) ?_
                            exact tl_nil (tp_roundS (k + 1) ⟨by omega, by rw [hI.2]; exact right_next he21 c26 c33 c38 c42 c47 c52 (by first | exact fun h => absurd h c56 | (intro _ p hp; rw [he63] at hp; cases hp; omega))⟩ (by omega) ⟨rfl, trivial⟩ rfl rfl rfl rfl)
                        ·
                          refine q0g (qv_move rfl) ?_
                          refine qk ?_
                          refine qk ?_
                          refine qk ?_
                          refine qk ?_
                          refine qk ?_
                          refine qk ?_
                          refine qk ?_
                          refine qk ?_
                          refine qk ?_
                          refine q0g (qv_pickF rfl rfl) ?_
                          refine q0g (qv_pickF rfl rfl) ?_
                          refine q0 (qv_pickT rfl rfl) ?_
                          refine q0 (qv_assign rfl) ?_
                          refine tq_nil (tp_normal ?_)
                          refine tc_false rfl ?_
                          refine tc_skip (tp_block_normal (tp_block_normal (tp_normal ?_)))
                          refine tc_region ?_
                          refine s0 (qv_succ rfl rfl (by omega)) ?_
                          refine s0 (qv_move rfl) ?_
                          exact tl_nil (tp_roundS (k + 1) ⟨by omega, by rw [hI.2]; exact right_next he21 c26 c33 c38 c42 c47 c52 (by first | exact fun h => absurd h c56 | (intro _ p hp; rw [he63] at hp; cases hp; omega))⟩ (by omega) ⟨rfl, trivial⟩ rfl rfl rfl rfl)
                    ·
                      refine q0 (qv_move rfl) ?_
                      refine qk ?_
                      refine qk ?_
                      refine qk ?_
                      refine qk ?_
                      refine qk ?_
                      refine qk ?_
                      refine qk ?_
                      refine qk ?_
                      refine qk ?_
                      refine qk ?_
                      refine qk ?_
                      refine qk ?_
                      refine qk ?_
                      refine qk ?_
                      refine qk ?_
                      refine qk ?_
                      refine qk ?_
                      refine qk ?_
                      refine qk ?_
                      refine qk ?_
                      refine qk ?_
                      refine qk ?_
                      refine qk ?_
                      refine qk ?_
                      refine qk ?_
                      refine qk ?_
                      refine qk ?_
                      refine qk ?_
                      refine qk ?_
                      refine qk ?_
                      refine qk ?_
                      refine q0 (qv_pickF rfl rfl) ?_
                      refine q0 (qv_assign rfl) ?_
                      refine tq_nil (tp_normal ?_)
                      refine tc_false rfl ?_
                      refine tc_skip (tp_block_normal (tp_block_normal (tp_normal ?_)))
                      refine tc_region ?_
                      refine s0 (qv_succ rfl rfl (by omega)) ?_
                      refine s0 (qv_move rfl) ?_
                      exact tl_nil (tp_roundS (k + 1) ⟨by omega, by rw [hI.2]; exact right_next he21 c26 c33 c38 c42 c47 c52 (by first | exact fun h => absurd h c56 | (intro _ p hp; rw [he63] at hp; cases hp; omega))⟩ (by omega) ⟨rfl, trivial⟩ rfl rfl rfl rfl)
      ·
        refine tl_nil (tp_normal ?_)
        refine tc_seq ?_
        refine tc_false rfl ?_
        refine tc_exit (tp_then_exit (tp_then_exit (tp_block_exit (tp_normal ?_))))
        refine tc_seq ?_
        refine tc_region ?_
        refine s0 (qv_assign rfl) ?_
        refine tl_nil (tp_normal ?_)
        refine tc_ret (tp_end1 rfl rfl ?_)
        intro w' hm
        exact ⟨by rw [hI.2, List.drop_eq_nil_of_le (by omega)]; rfl, hm.below⟩

set_option maxRecDepth 100000 in
theorem rright_calls (w : World) (n : Net) (na : Option Addr) (nc : Nat) (l : List Send) (la : Option Addr) (lc : Nat) (hn : SlIn w 50 encLink na n.links) (hk : NetOk n) (hl : SlIn w 3 encSend la l) :
    Calls Try.prog 34 #[.agg (netA n na nc), .slice la l.length lc] w (fun e w' => e = .returned (.int .i64 (right n l)) ∧ Below w.heap.size w w') := by
  have hlen := hl.len
  simp only [maxLen] at hlen
  have hlenn := hn.len
  simp only [maxLen] at hlenn
  refine calls_of_tc (N := 90) (vs := [.agg (netA n na nc), .slice la l.length lc]) Try.func34 rfl rfl (Nat.le_of_ble_eq_true rfl) ?_
  refine tc_seq ?_
  refine tc_region ?_
  refine tl_box rfl (by decide) (fun b2_0 => ?_)
  refine s0 (qv_assign rfl) ?_
  refine tl_nil (tp_normal ?_)
  refine tc_seq ?_
  refine tc_region ?_
  refine s0 (qv_ldBW (i := 0) ag_24 rfl rfl rfl) ?_
  refine s0 (qv_call fn_40 rfl (fun w hm => rcheck_calls w n na nc (hn.into Mem.has_base hm) hk)) ?_
  refine s0 (qv_assign rfl) ?_
  refine tl_nil (tp_normal ?_)
  refine tc_seq ?_
  refine tc_seq ?_
  refine tc_region ?_
  refine s0 (qv_move rfl) ?_
  refine sd (qv_neq rfl rfl) (fun c11 => ?_) (fun c11 => ?_)
  ·
    refine tl_nil (tp_normal ?_)
    refine tc_true rfl ?_
    refine tc_seq ?_
    refine tc_region ?_
    refine s0 (qv_move rfl) ?_
    refine s0 (qv_assign rfl) ?_
    refine tl_nil (tp_normal ?_)
    refine tc_ret (tp_then_ret (tp_end1 rfl rfl ?_))
    intro w' hm
    exact ⟨by rw [right_check c11], hm.below⟩
  ·
    refine tl_nil (tp_normal ?_)
    refine tc_false rfl ?_
    refine tc_skip (tp_normal ?_)
    refine tc_seq ?_
    refine tc_seq ?_
    refine tc_region ?_
    refine s0 (qv_move rfl) ?_
    refine s0 (qv_len st_25 rfl) ?_
    refine sd (qv_gtr rfl rfl) (fun c15 => ?_) (fun c15 => ?_)
    ·
      refine tl_nil (tp_normal ?_)
      refine tc_true rfl ?_
      refine tc_seq ?_
      refine tc_region ?_
      refine s0 (qv_assign rfl) ?_
      refine tl_nil (tp_normal ?_)
      refine tc_ret (tp_then_ret (tp_end1 rfl rfl ?_))
      intro w' hm
      exact ⟨by rw [right_limit c11 (by omega)], hm.below⟩
    ·
      refine tl_nil (tp_normal ?_)
      refine tc_false rfl ?_
      refine tc_skip (tp_normal ?_)
      refine tc_seq ?_
      refine tc_seq ?_
      refine tc_region ?_
      refine s0 (qv_assign rfl) ?_
      refine tl_nil (tp_normal ?_)
      refine tc_block (tc_loopS (fun (k : Nat) => [(6, .int .i64 (k : Int))]) (fun (k : Nat) => k ≤ l.length ∧ right n l = rightFrom n (prevAt l k) (l.drop k)) (fun (k : Nat) => l.length - k) (0) ⟨Nat.zero_le _, by rw [right_from c11 (by omega)]; rfl⟩ ⟨rfl, trivial⟩ ?_)
      rintro k hI
      refine tc_seq ?_
      refine tc_seq ?_
      refine tc_region ?_
      refine s0 (qv_move rfl) ?_
      refine s0 (qv_move rfl) ?_
      refine s0 (qv_len st_25 rfl) ?_
      refine sd (qv_lss rfl rfl) (fun c19 => ?_) (fun c19 => ?_)
      ·
        refine tl_nil (tp_normal ?_)
        refine tc_true rfl ?_
        refine tc_skip (tp_normal ?_)
        refine tc_seq ?_
        refine tc_block ?_
        refine tc_seq ?_
        refine tc_region ?_
        refine s0 (qv_move rfl) ?_
        refine s0 (qv_move rfl) ?_
        refine sn st_25 hl rfl rfl (by omega) (fun e24 he24 => ?_)
        refine s0 (qv_ldEW ag_70 hl Mem.has_base rfl he24) ?_
        refine tl_alloc ze_70 (by decide) (fun b7_1 => ?_)
        refine tl_storeL (i := 0) sz_70 (hl.szs _ (List.mem_of_getElem? he24)) (one_70 _) rfl rfl rfl rfl ?_
        refine tl_nil (tp_normal ?_)
        refine tc_seq ?_
        refine tc_seq ?_
        refine tc_region ?_
        refine s0 (qv_fa fo_70_0 rfl) ?_
        refine s0 (qv_ldB (i := 0) sc_3 rfl rfl rfl) ?_
        refine sd (qv_lss rfl rfl) (fun c28 => ?_) (fun c28 => ?_)
        ·
          refine s0 (qv_move rfl) ?_
          refine sk ?_
          refine sk ?_
          refine sk ?_
          refine sk ?_
          refine sk ?_
          refine sk ?_
          refine s0 (qv_pickT rfl rfl) ?_
          refine tl_nil (tp_normal ?_)
          refine tc_true rfl ?_
          refine tc_seq ?_
          refine tc_region ?_
          refine s0 (qv_assign rfl) ?_
          refine tl_nil (tp_normal ?_)
          refine tc_ret (tp_then_ret (tp_block_ret (tp_then_ret (tp_then_ret (tp_block_ret (tp_then_ret (tp_end1 rfl rfl ?_)))))))
          intro w' hm
          exact ⟨by rw [hI.2, right_stop he24 (sendErr_link (by omega)) (by decide)], hm.below⟩
        ·
          refine s0 (qv_move rfl) ?_
          refine s0g (qv_fa fo_70_0 rfl) ?_
          refine s0g (qv_ldB (i := 0) sc_3 rfl rfl rfl) ?_
          refine s0g (qv_fa fo_24_1 rfl) ?_
          refine s0g (qv_ldB (i := 1) sc_22 rfl rfl rfl) ?_
          refine s0g (qv_len st_22 rfl) ?_
          refine sdg (qv_geq rfl rfl) (fun c35 => ?_) (fun c35 => ?_)
          ·
            refine s0 (qv_pickF rfl rfl) ?_
            refine tl_nil (tp_normal ?_)
            refine tc_true rfl ?_
            refine tc_seq ?_
            refine tc_region ?_
            refine s0 (qv_assign rfl) ?_
            refine tl_nil (tp_normal ?_)
            refine tc_ret (tp_then_ret (tp_block_ret (tp_then_ret (tp_then_ret (tp_block_ret (tp_then_ret (tp_end1 rfl rfl ?_)))))))
            intro w' hm
            exact ⟨by rw [hI.2, right_stop he24 (sendErr_link (by omega)) (by decide)], hm.below⟩
          ·
            refine s0 (qv_pickF rfl rfl) ?_
            refine tl_nil (tp_normal ?_)
            refine tc_false rfl ?_
            refine tc_skip (tp_normal ?_)
            refine tc_seq ?_
            refine tc_seq ?_
            refine tc_region ?_
            refine s0 (qv_fa fo_70_1 rfl) ?_
            refine s0 (qv_ldB (i := 0) sc_3 rfl rfl rfl) ?_
            refine sd (qv_lss rfl rfl) (fun c39 => ?_) (fun c39 => ?_)
            ·
              refine s0 (qv_move rfl) ?_
              refine sk ?_
              refine sk ?_
              refine sk ?_
              refine s0 (qv_pickT rfl rfl) ?_
              refine s0 (qv_move rfl) ?_
              refine sk ?_
              refine sk ?_
              refine sk ?_
              refine s0 (qv_pickT rfl rfl) ?_
              refine s0 (qv_move rfl) ?_
              refine sk ?_
              refine sk ?_
              refine sk ?_
              refine s0 (qv_pickT rfl rfl) ?_
              refine tl_nil (tp_normal ?_)
              refine tc_true rfl ?_
              refine tc_seq ?_
              refine tc_region ?_
              refine s0 (qv_assign rfl) ?_
              refine tl_nil (tp_normal ?_)
              refine tc_ret (tp_then_ret (tp_block_ret (tp_then_ret (tp_then_ret (tp_block_ret (tp_then_ret (tp_end1 rfl rfl ?_)))))))
              intro w' hm
              exact ⟨by rw [hI.2, right_stop he24 (sendErr_range c28 c35 (by omega)) (by decide)], hm.below⟩
            ·
              refine s0 (qv_move rfl) ?_
              refine s0g (qv_fa fo_70_1 rfl) ?_
              refine s0g (qv_ldB (i := 0) sc_3 rfl rfl rfl) ?_
              refine sdg (qv_geq rfl rfl) (fun c43 => ?_) (fun c43 => ?_)
              ·
                refine s0 (qv_pickF rfl rfl) ?_
                refine s0 (qv_move rfl) ?_
                refine sk ?_
                refine sk ?_
                refine sk ?_
                refine s0 (qv_pickT rfl rfl) ?_
                refine s0 (qv_move rfl) ?_
                refine sk ?_
                refine sk ?_
                refine sk ?_
                refine s0 (qv_pickT rfl rfl) ?_
                refine tl_nil (tp_normal ?_)
                refine tc_true rfl ?_
                refine tc_seq ?_
                refine tc_region ?_
                refine s0 (qv_assign rfl) ?_
                refine tl_nil (tp_normal ?_)
                refine tc_ret (tp_then_ret (tp_block_ret (tp_then_ret (tp_then_ret (tp_block_ret (tp_then_ret (tp_end1 rfl rfl ?_)))))))
                intro w' hm
                exact ⟨by rw [hI.2, right_stop he24 (sendErr_range c28 c35 (by omega)) (by decide)], hm.below⟩
              ·
                refine s0 (qv_pickF rfl rfl) ?_
                refine s0 (qv_move rfl) ?_
                refine s0g (qv_fa fo_70_2 rfl) ?_
                refine s0g (qv_ldB (i := 0) sc_3 rfl rfl rfl) ?_
                refine sdg (qv_lss rfl rfl) (fun c48 => ?_) (fun c48 => ?_)
                ·
                  refine s0 (qv_pickF rfl rfl) ?_
                  refine s0 (qv_move rfl) ?_
                  refine sk ?_
                  refine sk ?_
                  refine sk ?_
                  refine s0 (qv_pickT rfl rfl) ?_
                  refine tl_nil (tp_normal ?_)
                  refine tc_true rfl ?_
                  refine tc_seq ?_
                  refine tc_region ?_
                  refine s0 (qv_assign rfl) ?_
                  refine tl_nil (tp_normal ?_)
                  refine tc_ret (tp_then_ret (tp_block_ret (tp_then_ret (tp_then_ret (tp_block_ret (tp_then_ret (tp_end1 rfl rfl ?_)))))))
                  intro w' hm
                  exact ⟨by rw [hI.2, right_stop he24 (sendErr_range c28 c35 (by omega)) (by decide)], hm.below⟩
                ·
                  refine s0 (qv_pickF rfl rfl) ?_
                  refine s0 (qv_move rfl) ?_
                  refine s0g (qv_fa fo_70_2 rfl) ?_
                  refine s0g (qv_ldB (i := 0) sc_3 rfl rfl rfl) ?_
                  refine sdg (qv_gtr rfl rfl) (fun c53 => ?_) (fun c53 => ?_)
                  ·
                    refine s0 (qv_pickF rfl rfl) ?_
                    refine tl_nil (tp_normal ?_)
                    refine tc_true rfl ?_
                    refine tc_seq ?_
                    refine tc_region ?_
                    refine s0 (qv_assign rfl) ?_
                    refine tl_nil (tp_normal ?_)
                    refine tc_ret (tp_then_ret (tp_block_ret (tp_then_ret (tp_then_ret (tp_block_ret (tp_then_ret (tp_end1 rfl rfl ?_)))))))
                    intro w' hm
                    exact ⟨by rw [hI.2, right_stop he24 (sendErr_range c28 c35 (by omega)) (by decide)], hm.below⟩
                  ·
                    refine s0 (qv_pickF rfl rfl) ?_
                    refine tl_nil (tp_normal ?_)
                    refine tc_false rfl ?_
                    refine tc_skip (tp_normal ?_)
                    refine tc_seq ?_
                    refine tc_draws mixed (by kernel_rfl) ?_
                    refine q0 (qv_move rfl) ?_
                    refine qd (qv_gtr rfl rfl) (fun c56 => ?_) (fun c56 => ?_)
                    ·
                      refine q0 (qv_move rfl) ?_
                      refine q0g (qv_move rfl) ?_
                      refine q0g (qv_move rfl) ?_
                      refine q0g (qv_subI rfl rfl (by omega)) ?_
                      refine qig st_25 hl rfl rfl (by omega) (fun e61 he61 => ?_)
                      refine q0g (qv_fa fo_70_1 rfl) ?_
                      refine q0g (qv_ldE (j := 1) sc_3 hl Mem.has_base rfl rfl he61 rfl) ?_
                      refine q0g (qv_fa fo_70_1 rfl) ?_
                      refine q0g (qv_ldB (i := 0) sc_3 rfl rfl rfl) ?_
                      refine qdg (qv_gtr rfl rfl) (fun c66 => ?_) (fun c66 => ?_)
                      ·
                        refine q0g (qv_move rfl) ?_
                        refine qk ?_
                        refine qk ?_
                        refine qk ?_
                        refine qk ?_
                        refine qk ?_
                        refine qk ?_
                        refine qk ?_
                        refine qk ?_
                        refine qk ?_
                        refine qk ?_
                        refine qk ?_
                        refine qk ?_
                        refine qk ?_
                        refine qk ?_
                        refine qk ?_
                        refine qk ?_
                        refine qk ?_
                        refine qk ?_
                        refine qk ?_
                        refine qk ?_
                        refine q0g (qv_pickT rfl rfl) ?_
                        refine q0 (qv_pickT rfl rfl) ?_
                        refine tq_nil (tp_normal ?_)
                        refine tc_true rfl ?_
                        refine tc_seq ?_
                        refine tc_region ?_
                        refine s0 (qv_assign rfl) ?_
                        refine tl_nil (tp_normal ?_)
                        refine tc_ret (tp_block_ret (tp_then_ret (tp_then_ret (tp_block_ret (tp_then_ret (tp_end1 rfl rfl ?_))))))
                        intro w' hm
                        exact ⟨by rw [hI.2, right_disorder he24 c28 c35 c39 c43 c48 c53 c56 he61 (by omega)], hm.below⟩
                      ·
                        refine q0g (qv_move rfl) ?_
                        refine q0g (qv_move rfl) ?_
                        refine q0g (qv_move rfl) ?_
                        refine q0g (qv_subI rfl rfl (by omega)) ?_
                        refine qig st_25 hl rfl rfl (by omega) (fun e71 he71 => ?_)
                        obtain rfl : e61 = e71 := Option.some.inj (he61.symm.trans he71)
                        refine q0g (qv_fa fo_70_1 rfl) ?_
                        refine q0g (qv_ldE (j := 1) sc_3 hl Mem.has_base rfl rfl he61 rfl) ?_
                        refine q0g (qv_fa fo_70_1 rfl) ?_
                        refine q0g (qv_ldB (i := 0) sc_3 rfl rfl rfl) ?_
                        refine qdg (qv_eql rfl rfl) (fun c76 => ?_) (fun c76 => ?_)
                        ·
                          refine q0g (qv_move rfl) ?_
                          refine q0g (qv_move rfl) ?_
                          refine q0g (qv_move rfl) ?_
                          refine q0g (qv_subI rfl rfl (by omega)) ?_
                          refine qig st_25 hl rfl rfl (by omega) (fun e81 he81 => ?_)
                          obtain rfl : e61 = e81 := Option.some.inj (he61.symm.trans he81)
                          refine q0g (qv_fa fo_70_0 rfl) ?_
                          refine q0g (qv_ldE (j := 0) sc_3 hl Mem.has_base rfl rfl he61 rfl) ?_
                          refine q0g (qv_fa fo_70_0 rfl) ?_
                          refine q0g (qv_ldB (i := 0) sc_3 rfl rfl rfl) ?_
                          refine qdg (qv_geq rfl rfl) (fun c86 => ?_) (fun c86 => ?_)
                          ·
                            refine q0g (qv_pickT rfl rfl) ?_
                            refine q0g (qv_pickF rfl rfl) ?_
                            refine q0 (qv_pickT rfl rfl) ?_
                            refine tq_nil (tp_normal ?_)
                            refine tc_true rfl ?_
                            refine tc_seq ?_
                            refine tc_region ?_
                            refine s0 (qv_assign rfl) ?_
                            refine tl_nil (tp_normal ?_)
                            refine tc_ret (tp_block_ret (tp_then_ret (tp_then_ret (tp_block_ret (tp_then_ret (tp_end1 rfl rfl ?_))))))
                            intro w' hm
                            exact ⟨by rw [hI.2, right_disorder he24 c28 c35 c39 c43 c48 c53 c56 he61 (by omega)], hm.below⟩
                          ·
                            refine q0g (qv_pickT rfl rfl) ?_
                            refine q0g (qv_pickF rfl rfl) ?_
                            refine q0 (qv_pickT rfl rfl) ?_
                            refine tq_nil (tp_normal ?_)
                            refine tc_false rfl ?_
                            refine tc_skip (tp_block_normal (tp_normal ?_))
                            refine tc_region ?_
                            refine s0 (qv_move rfl) ?_
                            refine s0 (qv_succ rfl rfl (by omega)) ?_
                            refine s0 (qv_assign rfl) ?_
                            exact tl_nil (tp_roundS (k + 1) ⟨by omega, by rw [hI.2]; exact right_next he24 c28 c35 c39 c43 c48 c53 (by first | exact fun h => absurd h c56 | (intro _ p hp; rw [he61] at hp; cases hp; omega))⟩ (by omega) ⟨rfl, trivial⟩ rfl rfl rfl rfl)
                        ·
                          refine q0g (qv_move rfl) ?_
                          refine qk ?_
                          refine qk ?_
                          refine qk ?_
                          refine qk ?_
                          refine qk ?_
                          refine qk ?_
                          refine qk ?_
                          refine qk ?_
                          refine qk ?_
                          refine q0g (qv_pickF rfl rfl) ?_
                          refine q0g (qv_pickF rfl rfl) ?_
                          refine q0 (qv_pickT rfl rfl) ?_
                          refine tq_nil (tp_normal ?_)
                          refine tc_false rfl ?_
                          refine tc_skip (tp_block_normal (tp_normal ?_))
                          refine tc_region ?_
                          refine s0 (qv_move rfl) ?_
                          refine s0 (qv_succ rfl rfl (by omega)) ?_
                          refine s0 (qv_assign rfl) ?_
                          exact tl_nil (tp_roundS (k + 1) ⟨by omega, by rw [hI.2]; exact right_next he24 c28 c35 c39 c43 c48 c53 (by first | exact fun h => absurd h c56 | (intro _ p hp; rw [he61] at hp; cases hp; omega))⟩ (by omega) ⟨rfl, trivial⟩ rfl rfl rfl rfl)
                    ·
                      refine q0 (qv_move rfl) ?_
                      refine qk ?_
                      refine qk ?_
                      refine qk ?_
                      refine qk ?_
                      refine qk ?_
                      refine qk ?_
                      refine qk ?_
                      refine qk ?_
                      refine qk ?_
                      refine qk ?_
                      refine qk ?_
                      refine qk ?_
                      refine qk ?_
                      refine qk ?_
                      refine qk ?_
                      refine qk ?_
                      refine qk ?_
                      refine qk ?_
                      refine qk ?_
                      refine qk ?_
                      refine qk ?_
                      refine qk ?_
                      refine qk ?_
                      refine qk ?_
                      refine qk ?_
                      refine qk ?_
                      refine qk ?_
                      refine qk ?_
                      refine qk ?_
                      refine qk ?_
                      refine qk ?_
                      refine q0 (qv_pickF rfl rfl) ?_
                      refine tq_nil (tp_normal ?_)
                      refine tc_false rfl ?_
                      refine tc_skip (tp_block_normal (tp_normal ?_))
                      refine tc_region ?_
                      refine s0 (qv_move rfl) ?_
                      refine s0 (qv_succ rfl rfl (by omega)) ?_
                      refine s0 (qv_assign rfl) ?_
                      exact tl_nil (tp_roundS (k + 1) ⟨by omega, by rw [hI.2]; exact right_next he24 c28 c35 c39 c43 c48 c53 (by first | exact fun h => absurd h c56 | (intro _ p hp; rw [he61] at hp; cases hp; omega))⟩ (by omega) ⟨rfl, trivial⟩ rfl rfl rfl rfl)
      ·
        refine tl_nil (tp_normal ?_)
        refine tc_false rfl ?_
        refine tc_exit (tp_then_exit (tp_then_exit (tp_block_exit (tp_normal ?_))))
        refine tc_seq ?_
        refine tc_region ?_
        refine s0 (qv_assign rfl) ?_
        refine tl_nil (tp_normal ?_)
        refine tc_ret (tp_end1 rfl rfl ?_)
        intro w' hm
        exact ⟨by rw [hI.2, List.drop_eq_nil_of_le (by omega)]; rfl, hm.below⟩

set_option maxRecDepth 100000 in
theorem cap_calls (w : World) (n : Net) (na : Option Addr) (nc : Nat) (link tick : Int) (hn : SlIn w 50 encLink na n.links) (hk : NetOk n) (h0 : 0 ≤ link) (h1 : link < n.links.length) (h2 : 0 ≤ tick) :
    Calls Try.prog 57 #[.agg (netA n na nc), .int .i64 link, .int .i64 tick] w (fun e w' => e = .returned (.int .i64 (capOf n link tick)) ∧ Below w.heap.size w w') := by
  refine calls_of_tc (N := 16) (vs := [.agg (netA n na nc), .int .i64 link, .int .i64 tick]) Try.func57 rfl rfl (Nat.le_of_ble_eq_true rfl) ?_
  refine tc_seq ?_
  refine tc_region ?_
  refine tl_box rfl (by decide) (fun b3_0 => ?_)
  refine s0 (qv_assign rfl) ?_
  refine tl_nil (tp_normal ?_)
  refine tc_seq ?_
  refine tc_region ?_
  refine s0 (qv_fa fo_24_1 rfl) ?_
  refine s0 (qv_ldB (i := 0) sc_22 rfl rfl rfl) ?_
  refine s0 (qv_move rfl) ?_
  refine s0 (qv_move rfl) ?_
  refine s0 (qv_remI rfl rfl (by decide) (by omega)) ?_
  refine si st_22 hn rfl rfl (by omega) (fun e12 he12 => ?_)
  refine s0 (qv_fa fo_49_2 rfl) ?_
  refine s0 (qv_iA at_47 rfl rfl (by omega)) ?_
  refine s0 (qv_ldE (i := link.toNat) (j := 2 + (tick % 24).toNat * 1) sc_3 hn Mem.has_base rfl (by omega) he12 (enc_cap (hk _ (List.mem_of_getElem? he12)) (by omega) (by omega))) ?_
  refine s0 (qv_assign rfl) ?_
  refine tl_nil (tp_normal ?_)
  refine tc_ret (tp_end1 rfl rfl ?_)
  intro w' hm
  exact ⟨by rw [capOf_eq he12], hm.below⟩

set_option maxRecDepth 100000 in
theorem rcap_calls (w : World) (n : Net) (na : Option Addr) (nc : Nat) (link tick : Int) (hn : SlIn w 50 encLink na n.links) (hk : NetOk n) (h0 : 0 ≤ link) (h1 : link < n.links.length) (h2 : 0 ≤ tick) :
    Calls Try.prog 60 #[.agg (netA n na nc), .int .i64 link, .int .i64 tick] w (fun e w' => e = .returned (.int .i64 (capOf n link tick)) ∧ Below w.heap.size w w') := by
  refine calls_of_tc (N := 16) (vs := [.agg (netA n na nc), .int .i64 link, .int .i64 tick]) Try.func60 rfl rfl (Nat.le_of_ble_eq_true rfl) ?_
  refine tc_seq ?_
  refine tc_region ?_
  refine tl_box rfl (by decide) (fun b3_0 => ?_)
  refine s0 (qv_assign rfl) ?_
  refine tl_nil (tp_normal ?_)
  refine tc_seq ?_
  refine tc_region ?_
  refine s0 (qv_fa fo_24_1 rfl) ?_
  refine s0 (qv_ldB (i := 0) sc_22 rfl rfl rfl) ?_
  refine s0 (qv_move rfl) ?_
  refine s0 (qv_move rfl) ?_
  refine s0 (qv_remI rfl rfl (by decide) (by omega)) ?_
  refine si st_22 hn rfl rfl (by omega) (fun e12 he12 => ?_)
  refine s0 (qv_fa fo_49_2 rfl) ?_
  refine s0 (qv_iA at_47 rfl rfl (by omega)) ?_
  refine s0 (qv_ldE (i := link.toNat) (j := 2 + (tick % 24).toNat * 1) sc_3 hn Mem.has_base rfl (by omega) he12 (enc_cap (hk _ (List.mem_of_getElem? he12)) (by omega) (by omega))) ?_
  refine s0 (qv_assign rfl) ?_
  refine tl_nil (tp_normal ?_)
  refine tc_ret (tp_end1 rfl rfl ?_)
  intro w' hm
  exact ⟨by rw [capOf_eq he12], hm.below⟩

set_option maxRecDepth 100000 in
theorem fits_calls (w : World) (n : Net) (na : Option Addr) (nc : Nat) (l : List Send) (la : Option Addr) (lc : Nat) (hn : SlIn w 50 encLink na n.links) (hk : NetOk n) (hl : SlIn w 3 encSend la l) :
    Calls Try.prog 35 #[.agg (netA n na nc), .slice la l.length lc] w (fun e w' => e = .returned (.int .i64 (fits n l)) ∧ Below w.heap.size w w') := by
  have hlen := hl.len
  simp only [maxLen] at hlen
  have hlenn := hn.len
  simp only [maxLen] at hlenn
  refine calls_of_tc (N := 30) (vs := [.agg (netA n na nc), .slice la l.length lc]) Try.func35 rfl rfl (Nat.le_of_ble_eq_true rfl) ?_
  refine tc_seq ?_
  refine tc_region ?_
  refine tl_box rfl (by decide) (fun b2_0 => ?_)
  refine s0 (qv_assign rfl) ?_
  refine tl_nil (tp_normal ?_)
  refine tc_seq ?_
  refine tc_seq ?_
  refine tc_region ?_
  refine s0 (qv_ldBW (i := 0) ag_24 rfl rfl rfl) ?_
  refine s0 (qv_move rfl) ?_
  refine s0 (qv_call fn_33 rfl (fun w hm => right_calls w n na nc l la lc (hn.into Mem.has_base hm) hk (hl.into Mem.has_base hm))) ?_
  refine s0 (qv_assign rfl) ?_
  refine tl_nil (tp_normal ?_)
  refine tc_seq ?_
  refine tc_region ?_
  refine s0 (qv_move rfl) ?_
  refine sd (qv_neq rfl rfl) (fun c12 => ?_) (fun c12 => ?_)
  ·
    refine tl_nil (tp_normal ?_)
    refine tc_true rfl ?_
    refine tc_seq ?_
    refine tc_region ?_
    refine s0 (qv_move rfl) ?_
    refine s0 (qv_assign rfl) ?_
    refine tl_nil (tp_normal ?_)
    refine tc_ret (tp_then_ret (tp_end1 rfl rfl ?_))
    intro w' hm
    exact ⟨by rw [fits, if_pos c12], hm.below⟩
  ·
    refine tl_nil (tp_normal ?_)
    refine tc_false rfl ?_
    refine tc_skip (tp_normal ?_)
    refine tc_seq ?_
    refine tc_seq ?_
    refine tc_region ?_
    refine s0 (qv_move rfl) ?_
    refine s0 (qv_len st_25 rfl) ?_
    refine s0 (qv_move rfl) ?_
    refine tl_nil (tp_normal ?_)
    refine tc_block (tc_loopS (fun (k : Nat) => [(16, .int .i64 (k : Int))]) (fun (k : Nat) => k ≤ l.length ∧ fits n l = fitsFrom n (l.drop k)) (fun (k : Nat) => l.length - k) (0) ⟨Nat.zero_le _, by rw [fits, if_neg c12]; rfl⟩ ⟨rfl, trivial⟩ ?_)
    rintro k hI
    refine tc_seq ?_
    refine tc_region ?_
    refine sd (qv_lss rfl rfl) (fun c17 => ?_) (fun c17 => ?_)
    ·
      refine tl_nil (tp_normal ?_)
      refine tc_seq ?_
      refine tc_true rfl ?_
      refine tc_skip (tp_normal ?_)
      refine tc_seq ?_
      refine tc_block ?_
      refine tc_seq ?_
      refine tc_region ?_
      refine sn st_25 hl rfl rfl (by omega) (fun e18 he18 => ?_)
      refine s0 (qv_ldEW ag_70 hl Mem.has_base rfl he18) ?_
      refine tl_alloc ze_70 (by decide) (fun b7_1 => ?_)
      refine tl_storeL (i := 0) sz_70 (hl.szs _ (List.mem_of_getElem? he18)) (one_70 _) rfl rfl rfl rfl ?_
      refine tl_nil (tp_normal ?_)
      refine tc_seq ?_
      refine tc_draws mixed (by kernel_rfl) ?_
      have hs := (right_zero (l := l) (n := n) (by omega)).send e18 (List.mem_of_getElem? he18)
      obtain ⟨hs0, hs1, hs2, hs3, hs4, hs5⟩ := hs
      refine q0 (qv_fa fo_70_2 rfl) ?_
      refine q0 (qv_ldB (i := 0) sc_3 rfl rfl rfl) ?_
      refine q0 (qv_ldBW (i := 1) ag_24 rfl rfl rfl) ?_
      refine q0 (qv_fa fo_70_0 rfl) ?_
      refine q0 (qv_ldB (i := 0) sc_3 rfl rfl rfl) ?_
      refine q0 (qv_fa fo_70_1 rfl) ?_
      refine q0 (qv_ldB (i := 0) sc_3 rfl rfl rfl) ?_
      refine q0 (qv_call fn_57 rfl (fun w hm => cap_calls w n na nc e18.link e18.tick (hn.into Mem.has_base hm) hk (by omega) (by omega) (by omega))) ?_
      refine qd (qv_gtr rfl rfl) (fun c28 => ?_) (fun c28 => ?_)
      ·
        refine tq_nil (tp_normal ?_)
        refine tc_true rfl ?_
        refine tc_seq ?_
        refine tc_region ?_
        refine s0 (qv_assign rfl) ?_
        refine tl_nil (tp_normal ?_)
        refine tc_ret (tp_block_ret (tp_then_ret (tp_then_ret (tp_block_ret (tp_then_ret (tp_end1 rfl rfl ?_))))))
        intro w' hm
        exact ⟨by rw [hI.2, fitsFrom_at he18, if_pos c28], hm.below⟩
      ·
        refine tq_nil (tp_normal ?_)
        refine tc_false rfl ?_
        refine tc_skip (tp_block_normal (tp_normal ?_))
        refine tc_region ?_
        refine s0 (qv_succ rfl rfl (by omega)) ?_
        refine s0 (qv_move rfl) ?_
        exact tl_nil (tp_roundS (k + 1) ⟨by omega, by rw [hI.2, fitsFrom_at he18, if_neg c28]⟩ (by omega) ⟨rfl, trivial⟩ rfl rfl rfl rfl)
    ·
      refine tl_nil (tp_normal ?_)
      refine tc_seq ?_
      refine tc_false rfl ?_
      refine tc_exit (tp_then_exit (tp_then_exit (tp_block_exit (tp_normal ?_))))
      refine tc_seq ?_
      refine tc_region ?_
      refine s0 (qv_assign rfl) ?_
      refine tl_nil (tp_normal ?_)
      refine tc_ret (tp_end1 rfl rfl ?_)
      intro w' hm
      exact ⟨by rw [hI.2, List.drop_eq_nil_of_le (by omega)]; rfl, hm.below⟩

set_option maxRecDepth 100000 in
theorem rfits_calls (w : World) (n : Net) (na : Option Addr) (nc : Nat) (l : List Send) (la : Option Addr) (lc : Nat) (hn : SlIn w 50 encLink na n.links) (hk : NetOk n) (hl : SlIn w 3 encSend la l) :
    Calls Try.prog 36 #[.agg (netA n na nc), .slice la l.length lc] w (fun e w' => e = .returned (.int .i64 (fits n l)) ∧ Below w.heap.size w w') := by
  have hlen := hl.len
  simp only [maxLen] at hlen
  have hlenn := hn.len
  simp only [maxLen] at hlenn
  refine calls_of_tc (N := 37) (vs := [.agg (netA n na nc), .slice la l.length lc]) Try.func36 rfl rfl (Nat.le_of_ble_eq_true rfl) ?_
  refine tc_seq ?_
  refine tc_region ?_
  refine tl_box rfl (by decide) (fun b2_0 => ?_)
  refine s0 (qv_assign rfl) ?_
  refine tl_nil (tp_normal ?_)
  refine tc_seq ?_
  refine tc_region ?_
  refine s0 (qv_ldBW (i := 0) ag_24 rfl rfl rfl) ?_
  refine s0 (qv_move rfl) ?_
  refine s0 (qv_call fn_34 rfl (fun w hm => rright_calls w n na nc l la lc (hn.into Mem.has_base hm) hk (hl.into Mem.has_base hm))) ?_
  refine s0 (qv_assign rfl) ?_
  refine tl_nil (tp_normal ?_)
  refine tc_seq ?_
  refine tc_seq ?_
  refine tc_region ?_
  refine s0 (qv_move rfl) ?_
  refine sd (qv_neq rfl rfl) (fun c11 => ?_) (fun c11 => ?_)
  ·
    refine tl_nil (tp_normal ?_)
    refine tc_true rfl ?_
    refine tc_seq ?_
    refine tc_region ?_
    refine s0 (qv_move rfl) ?_
    refine s0 (qv_assign rfl) ?_
    refine tl_nil (tp_normal ?_)
    refine tc_ret (tp_then_ret (tp_end1 rfl rfl ?_))
    intro w' hm
    exact ⟨by rw [fits, if_pos c11], hm.below⟩
  ·
    refine tl_nil (tp_normal ?_)
    refine tc_false rfl ?_
    refine tc_skip (tp_normal ?_)
    refine tc_seq ?_
    refine tc_seq ?_
    refine tc_region ?_
    refine s0 (qv_assign rfl) ?_
    refine tl_nil (tp_normal ?_)
    refine tc_block (tc_loopS (fun (k : Nat) => [(6, .int .i64 (k : Int))]) (fun (k : Nat) => k ≤ l.length ∧ fits n l = fitsFrom n (l.drop k)) (fun (k : Nat) => l.length - k) (0) ⟨Nat.zero_le _, by rw [fits, if_neg c11]; rfl⟩ ⟨rfl, trivial⟩ ?_)
    rintro k hI
    refine tc_seq ?_
    refine tc_seq ?_
    refine tc_region ?_
    refine s0 (qv_move rfl) ?_
    refine s0 (qv_move rfl) ?_
    refine s0 (qv_len st_25 rfl) ?_
    refine sd (qv_lss rfl rfl) (fun c16 => ?_) (fun c16 => ?_)
    ·
      refine tl_nil (tp_normal ?_)
      refine tc_true rfl ?_
      refine tc_skip (tp_normal ?_)
      refine tc_seq ?_
      refine tc_block ?_
      refine tc_seq ?_
      refine tc_draws mixed (by kernel_rfl) ?_
      refine q0 (qv_move rfl) ?_
      refine q0 (qv_move rfl) ?_
      refine qn st_25 hl rfl rfl (by omega) (fun e21 he21 => ?_)
      have hs := (right_zero (l := l) (n := n) (by omega)).send e21 (List.mem_of_getElem? he21)
      obtain ⟨hs0, hs1, hs2, hs3, hs4, hs5⟩ := hs
      refine q0 (qv_fa fo_70_2 rfl) ?_
      refine q0 (qv_ldE (j := 2) sc_3 hl Mem.has_base rfl rfl he21 rfl) ?_
      refine q0 (qv_ldBW (i := 0) ag_24 rfl rfl rfl) ?_
      refine q0 (qv_move rfl) ?_
      refine q0 (qv_move rfl) ?_
      refine qn st_25 hl rfl rfl (by omega) (fun e27 he27 => ?_)
      obtain rfl : e21 = e27 := Option.some.inj (he21.symm.trans he27)
      refine q0 (qv_fa fo_70_0 rfl) ?_
      refine q0 (qv_ldE (j := 0) sc_3 hl Mem.has_base rfl rfl he21 rfl) ?_
      refine q0 (qv_move rfl) ?_
      refine q0 (qv_move rfl) ?_
      refine qn st_25 hl rfl rfl (by omega) (fun e32 he32 => ?_)
      obtain rfl : e21 = e32 := Option.some.inj (he21.symm.trans he32)
      refine q0 (qv_fa fo_70_1 rfl) ?_
      refine q0 (qv_ldE (j := 1) sc_3 hl Mem.has_base rfl rfl he21 rfl) ?_
      refine q0 (qv_call fn_60 rfl (fun w hm => rcap_calls w n na nc e21.link e21.tick (hn.into Mem.has_base hm) hk (by omega) (by omega) (by omega))) ?_
      refine qd (qv_gtr rfl rfl) (fun c36 => ?_) (fun c36 => ?_)
      ·
        refine tq_nil (tp_normal ?_)
        refine tc_true rfl ?_
        refine tc_seq ?_
        refine tc_region ?_
        refine s0 (qv_assign rfl) ?_
        refine tl_nil (tp_normal ?_)
        refine tc_ret (tp_block_ret (tp_then_ret (tp_then_ret (tp_block_ret (tp_then_ret (tp_end1 rfl rfl ?_))))))
        intro w' hm
        exact ⟨by rw [hI.2, fitsFrom_at he21, if_pos c36], hm.below⟩
      ·
        refine tq_nil (tp_normal ?_)
        refine tc_false rfl ?_
        refine tc_skip (tp_block_normal (tp_normal ?_))
        refine tc_region ?_
        refine s0 (qv_move rfl) ?_
        refine s0 (qv_succ rfl rfl (by omega)) ?_
        refine s0 (qv_assign rfl) ?_
        exact tl_nil (tp_roundS (k + 1) ⟨by omega, by rw [hI.2, fitsFrom_at he21, if_neg c36]⟩ (by omega) ⟨rfl, trivial⟩ rfl rfl rfl rfl)
    ·
      refine tl_nil (tp_normal ?_)
      refine tc_false rfl ?_
      refine tc_exit (tp_then_exit (tp_then_exit (tp_block_exit (tp_normal ?_))))
      refine tc_seq ?_
      refine tc_region ?_
      refine s0 (qv_assign rfl) ?_
      refine tl_nil (tp_normal ?_)
      refine tc_ret (tp_end1 rfl rfl ?_)
      intro w' hm
      exact ⟨by rw [hI.2, List.drop_eq_nil_of_le (by omega)]; rfl, hm.below⟩

set_option maxRecDepth 100000 in
theorem cost_calls (w : World) (n : Net) (na : Option Addr) (nc : Nat) (l : List Send) (la : Option Addr) (lc : Nat) (hn : SlIn w 50 encLink na n.links) (hk : NetOk n) (hl : SlIn w 3 encSend la l) :
    Calls Try.prog 23 #[.agg (netA n na nc), .slice la l.length lc] w (fun e w' => e = .returned (.tuple #[.int .i64 (cost n l).1, .int .i64 (cost n l).2]) ∧ Below w.heap.size w w') := by
  have hlen := hl.len
  simp only [maxLen] at hlen
  have hlenn := hn.len
  simp only [maxLen] at hlenn
  refine calls_of_tc (N := 40) (vs := [.agg (netA n na nc), .slice la l.length lc]) Try.func23 rfl rfl (Nat.le_of_ble_eq_true rfl) ?_
  refine tc_seq ?_
  refine tc_region ?_
  refine tl_box rfl (by decide) (fun b2_0 => ?_)
  refine s0 (qv_assign rfl) ?_
  refine s0 (qv_assign rfl) ?_
  refine tl_nil (tp_normal ?_)
  refine tc_seq ?_
  refine tc_seq ?_
  refine tc_region ?_
  refine s0 (qv_ldBW (i := 0) ag_24 rfl rfl rfl) ?_
  refine s0 (qv_move rfl) ?_
  refine s0 (qv_call fn_33 rfl (fun w hm => right_calls w n na nc l la lc (hn.into Mem.has_base hm) hk (hl.into Mem.has_base hm))) ?_
  refine s0 (qv_assign rfl) ?_
  refine tl_nil (tp_normal ?_)
  refine tc_seq ?_
  refine tc_region ?_
  refine s0 (qv_move rfl) ?_
  refine sd (qv_neq rfl rfl) (fun c14 => ?_) (fun c14 => ?_)
  ·
    refine tl_nil (tp_normal ?_)
    refine tc_true rfl ?_
    refine tc_seq ?_
    refine tc_region ?_
    refine s0 (qv_move rfl) ?_
    refine s0 (qv_assign rfl) ?_
    refine s0 (qv_assign rfl) ?_
    refine tl_nil (tp_normal ?_)
    refine tc_ret (tp_then_ret (tp_end2 rfl rfl rfl ?_))
    intro w' hm
    exact ⟨by rw [cost, if_pos c14], hm.below⟩
  ·
    refine tl_nil (tp_normal ?_)
    refine tc_false rfl ?_
    refine tc_skip (tp_normal ?_)
    refine tc_seq ?_
    refine tc_region ?_
    refine s0 (qv_assign rfl) ?_
    refine tl_nil (tp_normal ?_)
    refine tc_seq ?_
    refine tc_seq ?_
    refine tc_region ?_
    refine s0 (qv_move rfl) ?_
    refine s0 (qv_len st_25 rfl) ?_
    refine s0 (qv_move rfl) ?_
    refine tl_nil (tp_normal ?_)
    refine tc_block (tc_loopS (fun (k : Nat) => [(18, .int .i64 (k : Int)), (7, .int .i64 (costSum n (l.take k)))]) (fun (k : Nat) => k ≤ l.length) (fun (k : Nat) => l.length - k) (0) (Nat.zero_le _) ⟨rfl, rfl, trivial⟩ ?_)
    rintro k hI
    refine tc_seq ?_
    refine tc_region ?_
    refine sd (qv_lss rfl rfl) (fun c19 => ?_) (fun c19 => ?_)
    ·
      refine tl_nil (tp_normal ?_)
      refine tc_seq ?_
      refine tc_true rfl ?_
      refine tc_skip (tp_normal ?_)
      refine tc_seq ?_
      refine tc_block ?_
      refine tc_seq ?_
      refine tc_region ?_
      refine sn st_25 hl rfl rfl (by omega) (fun e20 he20 => ?_)
      refine s0 (qv_ldEW ag_70 hl Mem.has_base rfl he20) ?_
      refine tl_alloc ze_70 (by decide) (fun b9_1 => ?_)
      refine tl_storeL (i := 0) sz_70 (hl.szs _ (List.mem_of_getElem? he20)) (one_70 _) rfl rfl rfl rfl ?_
      refine tl_nil (tp_normal ?_)
      have hgood := right_zero (l := l) (n := n) (by omega)
      have hcs := send_cost hgood.net (hgood.send e20 (List.mem_of_getElem? he20))
      have hsum := costSum_bound hgood k
      have hs := (right_zero (l := l) (n := n) (by omega)).send e20 (List.mem_of_getElem? he20)
      obtain ⟨hs0, hs1, hs2, hs3, hs4, hs5⟩ := hs
      refine tc_draws mixed (by kernel_rfl) ?_
      refine q0 (qv_move rfl) ?_
      refine q0 (qv_fa fo_70_2 rfl) ?_
      refine q0 (qv_ldB (i := 0) sc_3 rfl rfl rfl) ?_
      refine q0 (qv_fa fo_24_1 rfl) ?_
      refine q0 (qv_ldB (i := 1) sc_22 rfl rfl rfl) ?_
      refine q0 (qv_fa fo_70_0 rfl) ?_
      refine q0 (qv_ldB (i := 0) sc_3 rfl rfl rfl) ?_
      refine q0 (qv_fa fo_70_1 rfl) ?_
      refine q0 (qv_ldB (i := 0) sc_3 rfl rfl rfl) ?_
      refine q0 (qv_remI rfl rfl (by decide) (by omega)) ?_
      refine qi st_22 hn rfl rfl (by omega) (fun e32 he32 => ?_)
      refine q0 (qv_fa fo_49_3 rfl) ?_
      refine q0 (qv_iA at_47 rfl rfl (by omega)) ?_
      refine q0 (qv_ldE (i := e20.link.toNat) (j := 26 + (e20.tick % 24).toNat * 1) sc_3 hn Mem.has_base rfl (by omega) he32 (enc_price (hk _ (List.mem_of_getElem? he32)) (by omega) (by omega))) ?_
      refine q0 (qv_mulI rfl rfl (by rw [priceOf_eq he32] at hcs; omega)) ?_
      refine q0 (qv_addI rfl rfl (by rw [priceOf_eq he32] at hcs; omega)) ?_
      refine q0 (qv_assign rfl) ?_
      refine tq_nil (tp_block_normal (tp_normal ?_))
      refine tc_region ?_
      refine s0 (qv_succ rfl rfl (by omega)) ?_
      refine s0 (qv_move rfl) ?_
      exact tl_nil (tp_roundS (k + 1) (by omega) (by omega) ⟨rfl, by rw [costSum_take he20, priceOf_eq he32]; rfl, trivial⟩ rfl rfl rfl rfl)
    ·
      refine tl_nil (tp_normal ?_)
      refine tc_seq ?_
      refine tc_false rfl ?_
      refine tc_exit (tp_then_exit (tp_then_exit (tp_block_exit (tp_normal ?_))))
      refine tc_seq ?_
      refine tc_region ?_
      refine s0 (qv_move rfl) ?_
      refine s0 (qv_assign rfl) ?_
      refine s0 (qv_assign rfl) ?_
      refine tl_nil (tp_normal ?_)
      refine tc_ret (tp_end2 rfl rfl rfl ?_)
      intro w' hm
      exact ⟨by rw [cost, if_neg c14, SlSend_len k c19], hm.below⟩

set_option maxRecDepth 100000 in
theorem rcost_calls (w : World) (n : Net) (na : Option Addr) (nc : Nat) (l : List Send) (la : Option Addr) (lc : Nat) (hn : SlIn w 50 encLink na n.links) (hk : NetOk n) (hl : SlIn w 3 encSend la l) :
    Calls Try.prog 31 #[.agg (netA n na nc), .slice la l.length lc] w (fun e w' => e = .returned (.agg #[.int .i64 (cost n l).1, .int .i64 (cost n l).2]) ∧ Below w.heap.size w w') := by
  have hlen := hl.len
  simp only [maxLen] at hlen
  have hlenn := hn.len
  simp only [maxLen] at hlenn
  refine calls_of_tc (N := 48) (vs := [.agg (netA n na nc), .slice la l.length lc]) Try.func31 rfl rfl (Nat.le_of_ble_eq_true rfl) ?_
  refine tc_seq ?_
  refine tc_region ?_
  refine tl_box rfl (by decide) (fun b2_0 => ?_)
  refine tl_alloc ze_57 (by decide) (fun b4_1 => ?_)
  refine tl_nil (tp_normal ?_)
  refine tc_seq ?_
  refine tc_region ?_
  refine s0 (qv_ldBW (i := 1) ag_24 rfl rfl rfl) ?_
  refine s0 (qv_move rfl) ?_
  refine s0 (qv_call fn_34 rfl (fun w hm => rright_calls w n na nc l la lc (hn.into Mem.has_base hm) hk (hl.into Mem.has_base hm))) ?_
  refine s0 (qv_assign rfl) ?_
  refine tl_nil (tp_normal ?_)
  refine tc_seq ?_
  refine tc_seq ?_
  refine tc_region ?_
  refine s0 (qv_move rfl) ?_
  refine sd (qv_neq rfl rfl) (fun c12 => ?_) (fun c12 => ?_)
  ·
    refine tl_nil (tp_normal ?_)
    refine tc_true rfl ?_
    refine tc_seq ?_
    refine tc_region ?_
    refine s0 (qv_move rfl) ?_
    refine s0 (qv_build bt_57 rfl rfl) ?_
    refine tl_storeO (i := 0) sz_57 rfl rfl rfl rfl rfl rfl rfl ?_
    refine tl_nil (tp_normal ?_)
    refine tc_ret (tp_then_ret (tp_endC (i := 0) rfl rfl ag_57 rfl rfl ?_))
    intro w' hm
    exact ⟨by rw [cost, if_pos c12]; rfl, hm.below⟩
  ·
    refine tl_nil (tp_normal ?_)
    refine tc_false rfl ?_
    refine tc_skip (tp_normal ?_)
    refine tc_seq ?_
    refine tc_region ?_
    refine s0 (qv_assign rfl) ?_
    refine tl_nil (tp_normal ?_)
    refine tc_seq ?_
    refine tc_seq ?_
    refine tc_region ?_
    refine s0 (qv_assign rfl) ?_
    refine tl_nil (tp_normal ?_)
    refine tc_block (tc_loopS (fun (k : Nat) => [(7, .int .i64 (k : Int)), (6, .int .i64 (costSum n (l.take k)))]) (fun (k : Nat) => k ≤ l.length) (fun (k : Nat) => l.length - k) (0) (Nat.zero_le _) ⟨rfl, rfl, trivial⟩ ?_)
    rintro k hI
    refine tc_seq ?_
    refine tc_seq ?_
    refine tc_region ?_
    refine s0 (qv_move rfl) ?_
    refine s0 (qv_move rfl) ?_
    refine s0 (qv_len st_25 rfl) ?_
    refine sd (qv_lss rfl rfl) (fun c18 => ?_) (fun c18 => ?_)
    ·
      refine tl_nil (tp_normal ?_)
      refine tc_true rfl ?_
      refine tc_skip (tp_normal ?_)
      refine tc_seq ?_
      refine tc_block ?_
      refine tc_draws mixed (by kernel_rfl) ?_
      refine q0 (qv_move rfl) ?_
      refine q0 (qv_move rfl) ?_
      refine q0 (qv_move rfl) ?_
      refine qn st_25 hl rfl rfl (by omega) (fun e24 he24 => ?_)
      have hgood := right_zero (l := l) (n := n) (by omega)
      have hcs := send_cost hgood.net (hgood.send e24 (List.mem_of_getElem? he24))
      have hsum := costSum_bound hgood k
      have hs := (right_zero (l := l) (n := n) (by omega)).send e24 (List.mem_of_getElem? he24)
      obtain ⟨hs0, hs1, hs2, hs3, hs4, hs5⟩ := hs
      refine q0 (qv_fa fo_70_2 rfl) ?_
      refine q0 (qv_ldE (j := 2) sc_3 hl Mem.has_base rfl rfl he24 rfl) ?_
      refine q0 (qv_fa fo_24_1 rfl) ?_
      refine q0 (qv_ldB (i := 1) sc_22 rfl rfl rfl) ?_
      refine q0 (qv_move rfl) ?_
      refine q0 (qv_move rfl) ?_
      refine qn st_25 hl rfl rfl (by omega) (fun e31 he31 => ?_)
      obtain rfl : e24 = e31 := Option.some.inj (he24.symm.trans he31)
      refine q0 (qv_fa fo_70_0 rfl) ?_
      refine q0 (qv_ldE (j := 0) sc_3 hl Mem.has_base rfl rfl he24 rfl) ?_
      refine q0 (qv_move rfl) ?_
      refine q0 (qv_move rfl) ?_
      refine qn st_25 hl rfl rfl (by omega) (fun e36 he36 => ?_)
      obtain rfl : e24 = e36 := Option.some.inj (he24.symm.trans he36)
      refine q0 (qv_fa fo_70_1 rfl) ?_
      refine q0 (qv_ldE (j := 1) sc_3 hl Mem.has_base rfl rfl he24 rfl) ?_
      refine q0 (qv_remI rfl rfl (by decide) (by omega)) ?_
      refine qi st_22 hn rfl rfl (by omega) (fun e40 he40 => ?_)
      refine q0 (qv_fa fo_49_3 rfl) ?_
      refine q0 (qv_iA at_47 rfl rfl (by omega)) ?_
      refine q0 (qv_ldE (i := e24.link.toNat) (j := 26 + (e24.tick % 24).toNat * 1) sc_3 hn Mem.has_base rfl (by omega) he40 (enc_price (hk _ (List.mem_of_getElem? he40)) (by omega) (by omega))) ?_
      refine q0 (qv_mulI rfl rfl (by rw [priceOf_eq he40] at hcs; omega)) ?_
      refine q0 (qv_addI rfl rfl (by rw [priceOf_eq he40] at hcs; omega)) ?_
      refine q0 (qv_assign rfl) ?_
      refine tq_nil (tp_block_normal (tp_normal ?_))
      refine tc_region ?_
      refine s0 (qv_move rfl) ?_
      refine s0 (qv_succ rfl rfl (by omega)) ?_
      refine s0 (qv_assign rfl) ?_
      exact tl_nil (tp_roundS (k + 1) (by omega) (by omega) ⟨rfl, by rw [costSum_take he24, priceOf_eq he40]; rfl, trivial⟩ rfl rfl rfl rfl)
    ·
      refine tl_nil (tp_normal ?_)
      refine tc_false rfl ?_
      refine tc_exit (tp_then_exit (tp_then_exit (tp_block_exit (tp_normal ?_))))
      refine tc_seq ?_
      refine tc_region ?_
      refine s0 (qv_move rfl) ?_
      refine s0 (qv_build bt_57 rfl rfl) ?_
      refine tl_storeO (i := 0) sz_57 rfl rfl rfl rfl rfl rfl rfl ?_
      refine tl_nil (tp_normal ?_)
      refine tc_ret (tp_endC (i := 0) rfl rfl ag_57 rfl rfl ?_)
      intro w' hm
      exact ⟨by rw [cost, if_neg c12, SlSend_len k c18]; rfl, hm.below⟩

set_option maxRecDepth 100000 in
theorem left_calls (w : World) (n : Net) (na : Option Addr) (nc : Nat) (l : List Send) (la : Option Addr) (lc : Nat) (link tick : Int) (hn : SlIn w 50 encLink na n.links) (hk : NetOk n) (hl : SlIn w 3 encSend la l) :
    Calls Try.prog 26 #[.agg (netA n na nc), .slice la l.length lc, .int .i64 link, .int .i64 tick] w (fun e w' => e = .returned (.tuple #[.int .i64 (left n l link tick).1, .int .i64 (left n l link tick).2]) ∧ Below w.heap.size w w') := by
  have hlen := hl.len
  simp only [maxLen] at hlen
  have hlenn := hn.len
  simp only [maxLen] at hlenn
  refine calls_of_tc (N := 63) (vs := [.agg (netA n na nc), .slice la l.length lc, .int .i64 link, .int .i64 tick]) Try.func26 rfl rfl (Nat.le_of_ble_eq_true rfl) ?_
  refine tc_seq ?_
  refine tc_region ?_
  refine tl_box rfl (by decide) (fun b4_0 => ?_)
  refine s0 (qv_assign rfl) ?_
  refine s0 (qv_assign rfl) ?_
  refine tl_nil (tp_normal ?_)
  refine tc_seq ?_
  refine tc_seq ?_
  refine tc_region ?_
  refine s0 (qv_ldBW (i := 0) ag_24 rfl rfl rfl) ?_
  refine s0 (qv_move rfl) ?_
  refine s0 (qv_call fn_33 rfl (fun w hm => right_calls w n na nc l la lc (hn.into Mem.has_base hm) hk (hl.into Mem.has_base hm))) ?_
  refine s0 (qv_assign rfl) ?_
  refine tl_nil (tp_normal ?_)
  refine tc_seq ?_
  refine tc_region ?_
  refine s0 (qv_move rfl) ?_
  refine sd (qv_neq rfl rfl) (fun c18 => ?_) (fun c18 => ?_)
  ·
    refine tl_nil (tp_normal ?_)
    refine tc_true rfl ?_
    refine tc_seq ?_
    refine tc_region ?_
    refine s0 (qv_move rfl) ?_
    refine s0 (qv_assign rfl) ?_
    refine s0 (qv_assign rfl) ?_
    refine tl_nil (tp_normal ?_)
    refine tc_ret (tp_then_ret (tp_end2 rfl rfl rfl ?_))
    intro w' hm
    exact ⟨by rw [left, if_pos c18], hm.below⟩
  ·
    refine tl_nil (tp_normal ?_)
    refine tc_false rfl ?_
    refine tc_skip (tp_normal ?_)
    refine tc_seq ?_
    refine tc_seq ?_
    refine tc_region ?_
    refine s0 (qv_move rfl) ?_
    refine sd (qv_lss rfl rfl) (fun c21 => ?_) (fun c21 => ?_)
    ·
      refine s0 (qv_move rfl) ?_
      refine sk ?_
      refine sk ?_
      refine sk ?_
      refine sk ?_
      refine sk ?_
      refine s0 (qv_pickT rfl rfl) ?_
      refine s0 (qv_move rfl) ?_
      refine sk ?_
      refine sk ?_
      refine s0 (qv_pickT rfl rfl) ?_
      refine s0 (qv_move rfl) ?_
      refine sk ?_
      refine sk ?_
      refine s0 (qv_pickT rfl rfl) ?_
      refine tl_nil (tp_normal ?_)
      refine tc_true rfl ?_
      refine tc_seq ?_
      refine tc_region ?_
      refine s0 (qv_assign rfl) ?_
      refine s0 (qv_assign rfl) ?_
      refine tl_nil (tp_normal ?_)
      refine tc_ret (tp_then_ret (tp_end2 rfl rfl rfl ?_))
      intro w' hm
      exact ⟨by rw [left, if_neg c18, if_pos (by omega)], hm.below⟩
    ·
      refine s0 (qv_move rfl) ?_
      refine s0g (qv_move rfl) ?_
      refine s0g (qv_fa fo_24_1 rfl) ?_
      refine s0g (qv_ldB (i := 0) sc_22 rfl rfl rfl) ?_
      refine s0g (qv_len st_22 rfl) ?_
      refine sdg (qv_geq rfl rfl) (fun c27 => ?_) (fun c27 => ?_)
      ·
        refine s0 (qv_pickF rfl rfl) ?_
        refine s0 (qv_move rfl) ?_
        refine sk ?_
        refine sk ?_
        refine s0 (qv_pickT rfl rfl) ?_
        refine s0 (qv_move rfl) ?_
        refine sk ?_
        refine sk ?_
        refine s0 (qv_pickT rfl rfl) ?_
        refine tl_nil (tp_normal ?_)
        refine tc_true rfl ?_
        refine tc_seq ?_
        refine tc_region ?_
        refine s0 (qv_assign rfl) ?_
        refine s0 (qv_assign rfl) ?_
        refine tl_nil (tp_normal ?_)
        refine tc_ret (tp_then_ret (tp_end2 rfl rfl rfl ?_))
        intro w' hm
        exact ⟨by rw [left, if_neg c18, if_pos (by omega)], hm.below⟩
      ·
        refine s0 (qv_pickF rfl rfl) ?_
        refine s0 (qv_move rfl) ?_
        refine s0g (qv_move rfl) ?_
        refine sdg (qv_lss rfl rfl) (fun c31 => ?_) (fun c31 => ?_)
        ·
          refine s0 (qv_pickF rfl rfl) ?_
          refine s0 (qv_move rfl) ?_
          refine sk ?_
          refine sk ?_
          refine s0 (qv_pickT rfl rfl) ?_
          refine tl_nil (tp_normal ?_)
          refine tc_true rfl ?_
          refine tc_seq ?_
          refine tc_region ?_
          refine s0 (qv_assign rfl) ?_
          refine s0 (qv_assign rfl) ?_
          refine tl_nil (tp_normal ?_)
          refine tc_ret (tp_then_ret (tp_end2 rfl rfl rfl ?_))
          intro w' hm
          exact ⟨by rw [left, if_neg c18, if_pos (by omega)], hm.below⟩
        ·
          refine s0 (qv_pickF rfl rfl) ?_
          refine s0 (qv_move rfl) ?_
          refine s0g (qv_move rfl) ?_
          refine sdg (qv_geq rfl rfl) (fun c35 => ?_) (fun c35 => ?_)
          ·
            refine s0 (qv_pickF rfl rfl) ?_
            refine tl_nil (tp_normal ?_)
            refine tc_true rfl ?_
            refine tc_seq ?_
            refine tc_region ?_
            refine s0 (qv_assign rfl) ?_
            refine s0 (qv_assign rfl) ?_
            refine tl_nil (tp_normal ?_)
            refine tc_ret (tp_then_ret (tp_end2 rfl rfl rfl ?_))
            intro w' hm
            exact ⟨by rw [left, if_neg c18, if_pos (by omega)], hm.below⟩
          ·
            refine s0 (qv_pickF rfl rfl) ?_
            refine tl_nil (tp_normal ?_)
            refine tc_false rfl ?_
            refine tc_skip (tp_normal ?_)
            refine tc_seq ?_
            refine tc_region ?_
            refine s0 (qv_ldBW (i := 0) ag_24 rfl rfl rfl) ?_
            refine s0 (qv_move rfl) ?_
            refine s0 (qv_move rfl) ?_
            refine s0 (qv_call fn_57 rfl (fun w hm => cap_calls w n na nc link tick (hn.into Mem.has_base hm) hk (by omega) (by omega) (by omega))) ?_
            refine s0 (qv_assign rfl) ?_
            refine tl_nil (tp_normal ?_)
            refine tc_seq ?_
            refine tc_seq ?_
            refine tc_region ?_
            refine s0 (qv_move rfl) ?_
            refine s0 (qv_len st_25 rfl) ?_
            refine s0 (qv_move rfl) ?_
            refine tl_nil (tp_normal ?_)
            refine tc_block (tc_loopS (fun (k : Nat) => [(43, .int .i64 (k : Int)), (11, .int .i64 (capOf n link tick - sentOver (l.take k) link tick))]) (fun (k : Nat) => k ≤ l.length) (fun (k : Nat) => l.length - k) (0) (Nat.zero_le _) ⟨rfl, by simp [sentOver, isum]; rfl, trivial⟩ ?_)
            rintro k hI
            refine tc_seq ?_
            refine tc_region ?_
            refine sd (qv_lss rfl rfl) (fun c44 => ?_) (fun c44 => ?_)
            ·
              refine tl_nil (tp_normal ?_)
              refine tc_seq ?_
              refine tc_true rfl ?_
              refine tc_skip (tp_normal ?_)
              refine tc_seq ?_
              refine tc_block ?_
              refine tc_seq ?_
              refine tc_region ?_
              refine sn st_25 hl rfl rfl (by omega) (fun e45 he45 => ?_)
              refine s0 (qv_ldEW ag_70 hl Mem.has_base rfl he45) ?_
              refine tl_alloc ze_70 (by decide) (fun b13_1 => ?_)
              refine tl_storeL (i := 0) sz_70 (hl.szs _ (List.mem_of_getElem? he45)) (one_70 _) rfl rfl rfl rfl ?_
              refine tl_nil (tp_normal ?_)
              refine tc_seq ?_
              have hgood := right_zero (l := l) (n := n) (by omega)
              have hsum := sentOver_bound hgood link tick k
              have hcap := hgood.net.cap link tick
              have hs := (right_zero (l := l) (n := n) (by omega)).send e45 (List.mem_of_getElem? he45)
              obtain ⟨hs0, hs1, hs2, hs3, hs4, hs5⟩ := hs
              refine tc_region ?_
              refine s0 (qv_fa fo_70_0 rfl) ?_
              refine s0 (qv_ldB (i := 0) sc_3 rfl rfl rfl) ?_
              refine s0 (qv_move rfl) ?_
              refine sd (qv_eql rfl rfl) (fun c50 => ?_) (fun c50 => ?_)
              ·
                refine s0 (qv_move rfl) ?_
                refine s0g (qv_fa fo_70_1 rfl) ?_
                refine s0g (qv_ldB (i := 0) sc_3 rfl rfl rfl) ?_
                refine s0g (qv_move rfl) ?_
                refine sdg (qv_eql rfl rfl) (fun c55 => ?_) (fun c55 => ?_)
                ·
                  refine s0 (qv_pickT rfl rfl) ?_
                  refine tl_nil (tp_normal ?_)
                  refine tc_true rfl ?_
                  refine tc_region ?_
                  refine s0 (qv_move rfl) ?_
                  refine s0 (qv_fa fo_70_2 rfl) ?_
                  refine s0 (qv_ldB (i := 0) sc_3 rfl rfl rfl) ?_
                  refine s0 (qv_subI rfl rfl (by omega)) ?_
                  refine s0 (qv_assign rfl) ?_
                  refine tl_nil (tp_block_normal (tp_normal ?_))
                  refine tc_region ?_
                  refine s0 (qv_succ rfl rfl (by omega)) ?_
                  refine s0 (qv_move rfl) ?_
                  exact tl_nil (tp_roundS (k + 1) (by omega) (by omega) ⟨rfl, by rw [sentOver_take he45]; first | (rw [if_pos ⟨c50, c55⟩, ← Int.sub_sub]; rfl) | (rw [if_neg (by omega), Int.add_zero]; rfl), trivial⟩ rfl rfl rfl rfl)
                ·
                  refine s0 (qv_pickT rfl rfl) ?_
                  refine tl_nil (tp_normal ?_)
                  refine tc_false rfl ?_
                  refine tc_skip (tp_block_normal (tp_normal ?_))
                  refine tc_region ?_
                  refine s0 (qv_succ rfl rfl (by omega)) ?_
                  refine s0 (qv_move rfl) ?_
                  exact tl_nil (tp_roundS (k + 1) (by omega) (by omega) ⟨rfl, by rw [sentOver_take he45]; first | (rw [if_pos ⟨c50, c55⟩, ← Int.sub_sub]; rfl) | (rw [if_neg (by omega), Int.add_zero]; rfl), trivial⟩ rfl rfl rfl rfl)
              ·
                refine s0 (qv_move rfl) ?_
                refine sk ?_
                refine sk ?_
                refine sk ?_
                refine sk ?_
                refine s0 (qv_pickF rfl rfl) ?_
                refine tl_nil (tp_normal ?_)
                refine tc_false rfl ?_
                refine tc_skip (tp_block_normal (tp_normal ?_))
                refine tc_region ?_
                refine s0 (qv_succ rfl rfl (by omega)) ?_
                refine s0 (qv_move rfl) ?_
                exact tl_nil (tp_roundS (k + 1) (by omega) (by omega) ⟨rfl, by rw [sentOver_take he45]; first | (rw [if_pos ⟨c50, c55⟩, ← Int.sub_sub]; rfl) | (rw [if_neg (by omega), Int.add_zero]; rfl), trivial⟩ rfl rfl rfl rfl)
            ·
              refine tl_nil (tp_normal ?_)
              refine tc_seq ?_
              refine tc_false rfl ?_
              refine tc_exit (tp_then_exit (tp_then_exit (tp_block_exit (tp_normal ?_))))
              refine tc_seq ?_
              refine tc_region ?_
              refine s0 (qv_move rfl) ?_
              refine s0 (qv_assign rfl) ?_
              refine s0 (qv_assign rfl) ?_
              refine tl_nil (tp_normal ?_)
              refine tc_ret (tp_end2 rfl rfl rfl ?_)
              intro w' hm
              exact ⟨by rw [left, if_neg c18, if_neg (by omega), SlSend_len k c44], hm.below⟩

set_option maxRecDepth 100000 in
theorem rsent_calls (w : World) (n : Net) (l : List Send) (la : Option Addr) (lc : Nat) (link tick : Int) (hgood : Sched n l) (hl : SlIn w 3 encSend la l) :
    Calls Try.prog 61 #[.slice la l.length lc, .int .i64 link, .int .i64 tick] w (fun e w' => e = .returned (.int .i64 (sentOver l link tick)) ∧ Below w.heap.size w w') := by
  have hlen := hl.len
  simp only [maxLen] at hlen
  refine calls_of_tc (N := 39) (vs := [.slice la l.length lc, .int .i64 link, .int .i64 tick]) Try.func61 rfl rfl (Nat.le_of_ble_eq_true rfl) ?_
  refine tc_seq ?_
  refine tc_region ?_
  refine s0 (qv_assign rfl) ?_
  refine tl_nil (tp_normal ?_)
  refine tc_seq ?_
  refine tc_region ?_
  refine s0 (qv_assign rfl) ?_
  refine tl_nil (tp_normal ?_)
  refine tc_seq ?_
  refine tc_seq ?_
  refine tc_region ?_
  refine s0 (qv_assign rfl) ?_
  refine tl_nil (tp_normal ?_)
  refine tc_block (tc_loopS (fun (k : Nat) => [(8, .int .i64 (k : Int)), (7, .int .i64 (sentOver (l.take k) link tick))]) (fun (k : Nat) => k ≤ l.length) (fun (k : Nat) => l.length - k) (0) (Nat.zero_le _) ⟨rfl, rfl, trivial⟩ ?_)
  rintro k hI
  refine tc_seq ?_
  refine tc_seq ?_
  refine tc_region ?_
  refine s0 (qv_move rfl) ?_
  refine s0 (qv_move rfl) ?_
  refine s0 (qv_len st_25 rfl) ?_
  refine sd (qv_lss rfl rfl) (fun c12 => ?_) (fun c12 => ?_)
  ·
    refine tl_nil (tp_normal ?_)
    refine tc_true rfl ?_
    refine tc_skip (tp_normal ?_)
    refine tc_seq ?_
    refine tc_block ?_
    refine tc_seq ?_
    refine tc_region ?_
    refine s0 (qv_move rfl) ?_
    refine s0 (qv_move rfl) ?_
    refine sn st_25 hl rfl rfl (by omega) (fun e17 he17 => ?_)
    have hsum := sentOver_bound hgood link tick k
    obtain ⟨hs0, hs1, hs2, hs3, hs4, hs5⟩ := hgood.send e17 (List.mem_of_getElem? he17)
    refine s0 (qv_fa fo_70_0 rfl) ?_
    refine s0 (qv_ldE (j := 0) sc_3 hl Mem.has_base rfl rfl he17 rfl) ?_
    refine s0 (qv_move rfl) ?_
    refine sd (qv_eql rfl rfl) (fun c21 => ?_) (fun c21 => ?_)
    ·
      refine s0 (qv_move rfl) ?_
      refine s0g (qv_move rfl) ?_
      refine s0g (qv_move rfl) ?_
      refine sng st_25 hl rfl rfl (by omega) (fun e25 he25 => ?_)
      obtain rfl : e17 = e25 := Option.some.inj (he17.symm.trans he25)
      refine s0g (qv_fa fo_70_1 rfl) ?_
      refine s0g (qv_ldE (j := 1) sc_3 hl Mem.has_base rfl rfl he17 rfl) ?_
      refine s0g (qv_move rfl) ?_
      refine sdg (qv_eql rfl rfl) (fun c29 => ?_) (fun c29 => ?_)
      ·
        refine s0 (qv_pickT rfl rfl) ?_
        refine tl_nil (tp_normal ?_)
        refine tc_true rfl ?_
        refine tc_region ?_
        refine s0 (qv_move rfl) ?_
        refine s0 (qv_move rfl) ?_
        refine s0 (qv_move rfl) ?_
        refine sn st_25 hl rfl rfl (by omega) (fun e34 he34 => ?_)
        obtain rfl : e17 = e34 := Option.some.inj (he17.symm.trans he34)
        refine s0 (qv_fa fo_70_2 rfl) ?_
        refine s0 (qv_ldE (j := 2) sc_3 hl Mem.has_base rfl rfl he17 rfl) ?_
        refine s0 (qv_addI rfl rfl (by omega)) ?_
        refine s0 (qv_assign rfl) ?_
        refine tl_nil (tp_block_normal (tp_normal ?_))
        refine tc_region ?_
        refine s0 (qv_move rfl) ?_
        refine s0 (qv_succ rfl rfl (by omega)) ?_
        refine s0 (qv_assign rfl) ?_
        exact tl_nil (tp_roundS (k + 1) (by omega) (by omega) ⟨rfl, by rw [sentOver_take he17]; first | (rw [if_pos ⟨c21, c29⟩]; rfl) | (rw [if_neg (by omega), Int.add_zero]; rfl), trivial⟩ rfl rfl rfl rfl)
      ·
        refine s0 (qv_pickT rfl rfl) ?_
        refine tl_nil (tp_normal ?_)
        refine tc_false rfl ?_
        refine tc_skip (tp_block_normal (tp_normal ?_))
        refine tc_region ?_
        refine s0 (qv_move rfl) ?_
        refine s0 (qv_succ rfl rfl (by omega)) ?_
        refine s0 (qv_assign rfl) ?_
        exact tl_nil (tp_roundS (k + 1) (by omega) (by omega) ⟨rfl, by rw [sentOver_take he17]; first | (rw [if_pos ⟨c21, c29⟩]; rfl) | (rw [if_neg (by omega), Int.add_zero]; rfl), trivial⟩ rfl rfl rfl rfl)
    ·
      refine s0 (qv_move rfl) ?_
      refine sk ?_
      refine sk ?_
      refine sk ?_
      refine sk ?_
      refine sk ?_
      refine sk ?_
      refine sk ?_
      refine s0 (qv_pickF rfl rfl) ?_
      refine tl_nil (tp_normal ?_)
      refine tc_false rfl ?_
      refine tc_skip (tp_block_normal (tp_normal ?_))
      refine tc_region ?_
      refine s0 (qv_move rfl) ?_
      refine s0 (qv_succ rfl rfl (by omega)) ?_
      refine s0 (qv_assign rfl) ?_
      exact tl_nil (tp_roundS (k + 1) (by omega) (by omega) ⟨rfl, by rw [sentOver_take he17]; first | (rw [if_pos ⟨c21, c29⟩]; rfl) | (rw [if_neg (by omega), Int.add_zero]; rfl), trivial⟩ rfl rfl rfl rfl)
  ·
    refine tl_nil (tp_normal ?_)
    refine tc_false rfl ?_
    refine tc_exit (tp_then_exit (tp_then_exit (tp_block_exit (tp_normal ?_))))
    refine tc_seq ?_
    refine tc_region ?_
    refine s0 (qv_move rfl) ?_
    refine s0 (qv_assign rfl) ?_
    refine tl_nil (tp_normal ?_)
    refine tc_ret (tp_end1 rfl rfl ?_)
    intro w' hm
    exact ⟨by rw [SlSend_len k c12], hm.below⟩

set_option maxRecDepth 100000 in
theorem rleft_calls (w : World) (n : Net) (na : Option Addr) (nc : Nat) (l : List Send) (la : Option Addr) (lc : Nat) (link tick : Int) (hn : SlIn w 50 encLink na n.links) (hk : NetOk n) (hl : SlIn w 3 encSend la l) :
    Calls Try.prog 32 #[.agg (netA n na nc), .slice la l.length lc, .int .i64 link, .int .i64 tick] w (fun e w' => e = .returned (.agg #[.int .i64 (left n l link tick).1, .int .i64 (left n l link tick).2]) ∧ Below w.heap.size w w') := by
  have hlen := hl.len
  simp only [maxLen] at hlen
  have hlenn := hn.len
  simp only [maxLen] at hlenn
  refine calls_of_tc (N := 45) (vs := [.agg (netA n na nc), .slice la l.length lc, .int .i64 link, .int .i64 tick]) Try.func32 rfl rfl (Nat.le_of_ble_eq_true rfl) ?_
  refine tc_seq ?_
  refine tc_region ?_
  refine tl_box rfl (by decide) (fun b4_0 => ?_)
  refine tl_alloc ze_57 (by decide) (fun b8_1 => ?_)
  refine tl_nil (tp_normal ?_)
  refine tc_seq ?_
  refine tc_region ?_
  refine s0 (qv_ldBW (i := 1) ag_24 rfl rfl rfl) ?_
  refine s0 (qv_move rfl) ?_
  refine s0 (qv_call fn_34 rfl (fun w hm => rright_calls w n na nc l la lc (hn.into Mem.has_base hm) hk (hl.into Mem.has_base hm))) ?_
  refine s0 (qv_assign rfl) ?_
  refine tl_nil (tp_normal ?_)
  refine tc_seq ?_
  refine tc_seq ?_
  refine tc_region ?_
  refine s0 (qv_move rfl) ?_
  refine sd (qv_neq rfl rfl) (fun c14 => ?_) (fun c14 => ?_)
  ·
    refine tl_nil (tp_normal ?_)
    refine tc_true rfl ?_
    refine tc_seq ?_
    refine tc_region ?_
    refine s0 (qv_move rfl) ?_
    refine s0 (qv_build bt_57 rfl rfl) ?_
    refine tl_storeO (i := 0) sz_57 rfl rfl rfl rfl rfl rfl rfl ?_
    refine tl_nil (tp_normal ?_)
    refine tc_ret (tp_then_ret (tp_endC (i := 0) rfl rfl ag_57 rfl rfl ?_))
    intro w' hm
    exact ⟨by rw [left, if_pos c14]; rfl, hm.below⟩
  ·
    refine tl_nil (tp_normal ?_)
    refine tc_false rfl ?_
    refine tc_skip (tp_normal ?_)
    refine tc_seq ?_
    refine tc_seq ?_
    refine tc_region ?_
    refine s0 (qv_move rfl) ?_
    refine sd (qv_lss rfl rfl) (fun c18 => ?_) (fun c18 => ?_)
    ·
      refine s0 (qv_move rfl) ?_
      refine sk ?_
      refine sk ?_
      refine sk ?_
      refine sk ?_
      refine sk ?_
      refine s0 (qv_pickT rfl rfl) ?_
      refine s0 (qv_move rfl) ?_
      refine sk ?_
      refine sk ?_
      refine s0 (qv_pickT rfl rfl) ?_
      refine s0 (qv_move rfl) ?_
      refine sk ?_
      refine sk ?_
      refine s0 (qv_pickT rfl rfl) ?_
      refine tl_nil (tp_normal ?_)
      refine tc_true rfl ?_
      refine tc_seq ?_
      refine tc_region ?_
      refine s0 (qv_build bt_57 rfl rfl) ?_
      refine tl_storeO (i := 0) sz_57 rfl rfl rfl rfl rfl rfl rfl ?_
      refine tl_nil (tp_normal ?_)
      refine tc_ret (tp_then_ret (tp_endC (i := 0) rfl rfl ag_57 rfl rfl ?_))
      intro w' hm
      exact ⟨by rw [left, if_neg c14, if_pos (by omega)]; rfl, hm.below⟩
    ·
      refine s0 (qv_move rfl) ?_
      refine s0g (qv_move rfl) ?_
      refine s0g (qv_fa fo_24_1 rfl) ?_
      refine s0g (qv_ldB (i := 1) sc_22 rfl rfl rfl) ?_
      refine s0g (qv_len st_22 rfl) ?_
      refine sdg (qv_geq rfl rfl) (fun c24 => ?_) (fun c24 => ?_)
      ·
        refine s0 (qv_pickF rfl rfl) ?_
        refine s0 (qv_move rfl) ?_
        refine sk ?_
        refine sk ?_
        refine s0 (qv_pickT rfl rfl) ?_
        refine s0 (qv_move rfl) ?_
        refine sk ?_
        refine sk ?_
        refine s0 (qv_pickT rfl rfl) ?_
        refine tl_nil (tp_normal ?_)
        refine tc_true rfl ?_
        refine tc_seq ?_
        refine tc_region ?_
        refine s0 (qv_build bt_57 rfl rfl) ?_
        refine tl_storeO (i := 0) sz_57 rfl rfl rfl rfl rfl rfl rfl ?_
        refine tl_nil (tp_normal ?_)
        refine tc_ret (tp_then_ret (tp_endC (i := 0) rfl rfl ag_57 rfl rfl ?_))
        intro w' hm
        exact ⟨by rw [left, if_neg c14, if_pos (by omega)]; rfl, hm.below⟩
      ·
        refine s0 (qv_pickF rfl rfl) ?_
        refine s0 (qv_move rfl) ?_
        refine s0g (qv_move rfl) ?_
        refine sdg (qv_lss rfl rfl) (fun c28 => ?_) (fun c28 => ?_)
        ·
          refine s0 (qv_pickF rfl rfl) ?_
          refine s0 (qv_move rfl) ?_
          refine sk ?_
          refine sk ?_
          refine s0 (qv_pickT rfl rfl) ?_
          refine tl_nil (tp_normal ?_)
          refine tc_true rfl ?_
          refine tc_seq ?_
          refine tc_region ?_
          refine s0 (qv_build bt_57 rfl rfl) ?_
          refine tl_storeO (i := 0) sz_57 rfl rfl rfl rfl rfl rfl rfl ?_
          refine tl_nil (tp_normal ?_)
          refine tc_ret (tp_then_ret (tp_endC (i := 0) rfl rfl ag_57 rfl rfl ?_))
          intro w' hm
          exact ⟨by rw [left, if_neg c14, if_pos (by omega)]; rfl, hm.below⟩
        ·
          refine s0 (qv_pickF rfl rfl) ?_
          refine s0 (qv_move rfl) ?_
          refine s0g (qv_move rfl) ?_
          refine sdg (qv_geq rfl rfl) (fun c32 => ?_) (fun c32 => ?_)
          ·
            refine s0 (qv_pickF rfl rfl) ?_
            refine tl_nil (tp_normal ?_)
            refine tc_true rfl ?_
            refine tc_seq ?_
            refine tc_region ?_
            refine s0 (qv_build bt_57 rfl rfl) ?_
            refine tl_storeO (i := 0) sz_57 rfl rfl rfl rfl rfl rfl rfl ?_
            refine tl_nil (tp_normal ?_)
            refine tc_ret (tp_then_ret (tp_endC (i := 0) rfl rfl ag_57 rfl rfl ?_))
            intro w' hm
            exact ⟨by rw [left, if_neg c14, if_pos (by omega)]; rfl, hm.below⟩
          ·
            refine s0 (qv_pickF rfl rfl) ?_
            refine tl_nil (tp_normal ?_)
            refine tc_false rfl ?_
            refine tc_skip (tp_normal ?_)
            refine tc_seq ?_
            have hgood := right_zero (l := l) (n := n) (by omega)
            have hsum := sentOver_bound hgood link tick l.length
            have hcap := hgood.net.cap link tick
            rw [List.take_length] at hsum
            refine tc_region ?_
            refine s0 (qv_ldBW (i := 1) ag_24 rfl rfl rfl) ?_
            refine s0 (qv_move rfl) ?_
            refine s0 (qv_move rfl) ?_
            refine s0 (qv_call fn_60 rfl (fun w hm => rcap_calls w n na nc link tick (hn.into Mem.has_base hm) hk (by omega) (by omega) (by omega))) ?_
            refine s0 (qv_move rfl) ?_
            refine s0 (qv_move rfl) ?_
            refine s0 (qv_move rfl) ?_
            refine s0 (qv_call fn_61 rfl (fun w hm => rsent_calls w n l la lc link tick (right_zero (by omega)) (hl.into Mem.has_base hm))) ?_
            refine s0 (qv_subI rfl rfl (by omega)) ?_
            refine s0 (qv_build bt_57 rfl rfl) ?_
            refine tl_storeO (i := 0) sz_57 rfl rfl rfl rfl rfl rfl rfl ?_
            refine tl_nil (tp_normal ?_)
            refine tc_ret (tp_endC (i := 0) rfl rfl ag_57 rfl rfl ?_)
            intro w' hm
            exact ⟨by rw [left, if_neg c14, if_neg (by omega)]; rfl, hm.below⟩

set_option maxRecDepth 100000 in
theorem demanded_calls (w : World) (n : Net) (na : Option Addr) (nc : Nat) (d : Demand) (hn : SlIn w 50 encLink na n.links) (hk : NetOk n) :
    Calls Try.prog 55 #[.agg (netA n na nc), .agg (demA d)] w (fun e w' => e = .returned (.bool (decide (demanded n d))) ∧ Below w.heap.size w w') := by
  refine calls_of_tc (N := 44) (vs := [.agg (netA n na nc), .agg (demA d)]) Try.func55 rfl rfl (Nat.le_of_ble_eq_true rfl) ?_
  refine tc_seq ?_
  refine tc_region ?_
  refine tl_box rfl (by decide) (fun b2_0 => ?_)
  refine tl_box rfl (by decide) (fun b3_1 => ?_)
  refine s0 (qv_assign rfl) ?_
  refine tl_nil (tp_normal ?_)
  refine tc_seq ?_
  refine tc_region ?_
  refine s0 (qv_mk rfl) ?_
  refine s0 (qv_assign rfl) ?_
  refine tl_nil (tp_normal ?_)
  refine tc_seq ?_
  refine tc_region ?_
  refine s0 (qv_move rfl) ?_
  refine s0 (qv_fa fo_27_0 rfl) ?_
  refine s0 (qv_ldB (i := 0) sc_3 rfl rfl rfl) ?_
  refine sd (qv_callV fn_74 rfl rfl (fun w hm => house2 w n na nc b2_0 d.src (hm.box _ (List.mem_of_getElem? (i := 1) rfl)).2)) (fun c10 => ?_) (fun c10 => ?_)
  ·
    refine s0 (qv_move rfl) ?_
    refine s0g (qv_move rfl) ?_
    refine s0g (qv_fa fo_27_1 rfl) ?_
    refine s0g (qv_ldB (i := 0) sc_3 rfl rfl rfl) ?_
    refine sdg (qv_callV fn_74 rfl rfl (fun w hm => house2 w n na nc b2_0 d.dst (hm.box _ (List.mem_of_getElem? (i := 1) rfl)).2)) (fun c15 => ?_) (fun c15 => ?_)
    ·
      refine s0 (qv_pickT rfl rfl) ?_
      refine s0 (qv_move rfl) ?_
      refine s0g (qv_fa fo_27_2 rfl) ?_
      refine s0g (qv_ldB (i := 0) sc_3 rfl rfl rfl) ?_
      refine sdg (qv_geq rfl rfl) (fun c20 => ?_) (fun c20 => ?_)
      ·
        refine s0 (qv_pickT rfl rfl) ?_
        refine s0 (qv_move rfl) ?_
        refine s0g (qv_fa fo_27_2 rfl) ?_
        refine s0g (qv_ldB (i := 0) sc_3 rfl rfl rfl) ?_
        refine sdg (qv_leq rfl rfl) (fun c25 => ?_) (fun c25 => ?_)
        ·
          refine s0 (qv_pickT rfl rfl) ?_
          refine s0 (qv_move rfl) ?_
          refine s0g (qv_fa fo_27_3 rfl) ?_
          refine s0g (qv_ldB (i := 0) sc_3 rfl rfl rfl) ?_
          refine sdg (qv_geq rfl rfl) (fun c30 => ?_) (fun c30 => ?_)
          ·
            refine s0 (qv_pickT rfl rfl) ?_
            refine s0 (qv_move rfl) ?_
            refine s0g (qv_fa fo_27_3 rfl) ?_
            refine s0g (qv_ldB (i := 0) sc_3 rfl rfl rfl) ?_
            refine s0g (qv_fa fo_27_4 rfl) ?_
            refine s0g (qv_ldB (i := 0) sc_3 rfl rfl rfl) ?_
            refine sdg (qv_leq rfl rfl) (fun c37 => ?_) (fun c37 => ?_)
            ·
              refine s0 (qv_pickT rfl rfl) ?_
              refine s0 (qv_move rfl) ?_
              refine s0g (qv_fa fo_27_4 rfl) ?_
              refine s0g (qv_ldB (i := 0) sc_3 rfl rfl rfl) ?_
              refine s0g (qv_leq rfl rfl) ?_
              refine s0 (qv_pickT rfl rfl) ?_
              refine s0 (qv_assign rfl) ?_
              refine tl_nil (tp_normal ?_)
              refine tc_ret (tp_end1 rfl rfl ?_)
              intro w' hm
              exact ⟨by simp [demanded, *], hm.below⟩
            ·
              refine s0 (qv_pickT rfl rfl) ?_
              refine s0 (qv_move rfl) ?_
              refine sk ?_
              refine sk ?_
              refine sk ?_
              refine s0 (qv_pickF rfl rfl) ?_
              refine s0 (qv_assign rfl) ?_
              refine tl_nil (tp_normal ?_)
              refine tc_ret (tp_end1 rfl rfl ?_)
              intro w' hm
              exact ⟨by simp [demanded, *], hm.below⟩
          ·
            refine s0 (qv_pickT rfl rfl) ?_
            refine s0 (qv_move rfl) ?_
            refine sk ?_
            refine sk ?_
            refine sk ?_
            refine sk ?_
            refine sk ?_
            refine s0 (qv_pickF rfl rfl) ?_
            refine s0 (qv_move rfl) ?_
            refine sk ?_
            refine sk ?_
            refine sk ?_
            refine s0 (qv_pickF rfl rfl) ?_
            refine s0 (qv_assign rfl) ?_
            refine tl_nil (tp_normal ?_)
            refine tc_ret (tp_end1 rfl rfl ?_)
            intro w' hm
            exact ⟨by simp [demanded, *], hm.below⟩
        ·
          refine s0 (qv_pickT rfl rfl) ?_
          refine s0 (qv_move rfl) ?_
          refine sk ?_
          refine sk ?_
          refine sk ?_
          refine s0 (qv_pickF rfl rfl) ?_
          refine s0 (qv_move rfl) ?_
          refine sk ?_
          refine sk ?_
          refine sk ?_
          refine sk ?_
          refine sk ?_
          refine s0 (qv_pickF rfl rfl) ?_
          refine s0 (qv_move rfl) ?_
          refine sk ?_
          refine sk ?_
          refine sk ?_
          refine s0 (qv_pickF rfl rfl) ?_
          refine s0 (qv_assign rfl) ?_
          refine tl_nil (tp_normal ?_)
          refine tc_ret (tp_end1 rfl rfl ?_)
          intro w' hm
          exact ⟨by simp [demanded, *], hm.below⟩
      ·
        refine s0 (qv_pickT rfl rfl) ?_
        refine s0 (qv_move rfl) ?_
        refine sk ?_
        refine sk ?_
        refine sk ?_
        refine s0 (qv_pickF rfl rfl) ?_
        refine s0 (qv_move rfl) ?_
        refine sk ?_
        refine sk ?_
        refine sk ?_
        refine s0 (qv_pickF rfl rfl) ?_
        refine s0 (qv_move rfl) ?_
        refine sk ?_
        refine sk ?_
        refine sk ?_
        refine sk ?_
        refine sk ?_
        refine s0 (qv_pickF rfl rfl) ?_
        refine s0 (qv_move rfl) ?_
        refine sk ?_
        refine sk ?_
        refine sk ?_
        refine s0 (qv_pickF rfl rfl) ?_
        refine s0 (qv_assign rfl) ?_
        refine tl_nil (tp_normal ?_)
        refine tc_ret (tp_end1 rfl rfl ?_)
        intro w' hm
        exact ⟨by simp [demanded, *], hm.below⟩
    ·
      refine s0 (qv_pickT rfl rfl) ?_
      refine s0 (qv_move rfl) ?_
      refine sk ?_
      refine sk ?_
      refine sk ?_
      refine s0 (qv_pickF rfl rfl) ?_
      refine s0 (qv_move rfl) ?_
      refine sk ?_
      refine sk ?_
      refine sk ?_
      refine s0 (qv_pickF rfl rfl) ?_
      refine s0 (qv_move rfl) ?_
      refine sk ?_
      refine sk ?_
      refine sk ?_
      refine s0 (qv_pickF rfl rfl) ?_
      refine s0 (qv_move rfl) ?_
      refine sk ?_
      refine sk ?_
      refine sk ?_
      refine sk ?_
      refine sk ?_
      refine s0 (qv_pickF rfl rfl) ?_
      refine s0 (qv_move rfl) ?_
      refine sk ?_
      refine sk ?_
      refine sk ?_
      refine s0 (qv_pickF rfl rfl) ?_
      refine s0 (qv_assign rfl) ?_
      refine tl_nil (tp_normal ?_)
      refine tc_ret (tp_end1 rfl rfl ?_)
      intro w' hm
      exact ⟨by simp [demanded, *], hm.below⟩
  ·
    refine s0 (qv_move rfl) ?_
    refine sk ?_
    refine sk ?_
    refine sk ?_
    refine sk ?_
    refine s0 (qv_pickF rfl rfl) ?_
    refine s0 (qv_move rfl) ?_
    refine sk ?_
    refine sk ?_
    refine sk ?_
    refine s0 (qv_pickF rfl rfl) ?_
    refine s0 (qv_move rfl) ?_
    refine sk ?_
    refine sk ?_
    refine sk ?_
    refine s0 (qv_pickF rfl rfl) ?_
    refine s0 (qv_move rfl) ?_
    refine sk ?_
    refine sk ?_
    refine sk ?_
    refine s0 (qv_pickF rfl rfl) ?_
    refine s0 (qv_move rfl) ?_
    refine sk ?_
    refine sk ?_
    refine sk ?_
    refine sk ?_
    refine sk ?_
    refine s0 (qv_pickF rfl rfl) ?_
    refine s0 (qv_move rfl) ?_
    refine sk ?_
    refine sk ?_
    refine sk ?_
    refine s0 (qv_pickF rfl rfl) ?_
    refine s0 (qv_assign rfl) ?_
    refine tl_nil (tp_normal ?_)
    refine tc_ret (tp_end1 rfl rfl ?_)
    intro w' hm
    exact ⟨by simp [demanded, *], hm.below⟩

set_option maxRecDepth 100000 in
theorem rdemand_calls (w : World) (n : Net) (na : Option Addr) (nc : Nat) (d : Demand) (hn : SlIn w 50 encLink na n.links) (hk : NetOk n) :
    Calls Try.prog 50 #[.agg (netA n na nc), .agg (demA d)] w (fun e w' => e = .returned (.bool (decide (demanded n d))) ∧ Below w.heap.size w w') := by
  refine calls_of_tc (N := 46) (vs := [.agg (netA n na nc), .agg (demA d)]) Try.func50 rfl rfl (Nat.le_of_ble_eq_true rfl) ?_
  refine tc_seq ?_
  refine tc_region ?_
  refine tl_box rfl (by decide) (fun b2_0 => ?_)
  refine tl_box rfl (by decide) (fun b3_1 => ?_)
  refine s0 (qv_assign rfl) ?_
  refine tl_nil (tp_normal ?_)
  refine tc_seq ?_
  refine tc_region ?_
  refine s0 (qv_ldBW (i := 1) ag_24 rfl rfl rfl) ?_
  refine s0 (qv_fa fo_27_0 rfl) ?_
  refine s0 (qv_ldB (i := 0) sc_3 rfl rfl rfl) ?_
  refine sd (qv_call fn_66 rfl (fun w hm => rhouse_calls w n na nc d.src (hn.into Mem.has_base hm) hk)) (fun c10 => ?_) (fun c10 => ?_)
  ·
    refine s0 (qv_assign rfl) ?_
    refine tl_nil (tp_normal ?_)
    refine tc_seq ?_
    refine tc_region ?_
    refine s0 (qv_ldBW (i := 1) ag_24 rfl rfl rfl) ?_
    refine s0 (qv_fa fo_27_1 rfl) ?_
    refine s0 (qv_ldB (i := 0) sc_3 rfl rfl rfl) ?_
    refine sd (qv_call fn_66 rfl (fun w hm => rhouse_calls w n na nc d.dst (hn.into Mem.has_base hm) hk)) (fun c14 => ?_) (fun c14 => ?_)
    ·
      refine s0 (qv_assign rfl) ?_
      refine tl_nil (tp_normal ?_)
      refine tc_seq ?_
      refine tc_region ?_
      refine s0 (qv_move rfl) ?_
      refine s0 (qv_move rfl) ?_
      refine s0g (qv_move rfl) ?_
      refine s0 (qv_pickT rfl rfl) ?_
      refine s0 (qv_move rfl) ?_
      refine s0g (qv_fa fo_27_2 rfl) ?_
      refine s0g (qv_ldB (i := 0) sc_3 rfl rfl rfl) ?_
      refine sdg (qv_geq rfl rfl) (fun c22 => ?_) (fun c22 => ?_)
      ·
        refine s0 (qv_pickT rfl rfl) ?_
        refine s0 (qv_move rfl) ?_
        refine s0g (qv_fa fo_27_2 rfl) ?_
        refine s0g (qv_ldB (i := 0) sc_3 rfl rfl rfl) ?_
        refine sdg (qv_leq rfl rfl) (fun c27 => ?_) (fun c27 => ?_)
        ·
          refine s0 (qv_pickT rfl rfl) ?_
          refine s0 (qv_move rfl) ?_
          refine s0g (qv_fa fo_27_3 rfl) ?_
          refine s0g (qv_ldB (i := 0) sc_3 rfl rfl rfl) ?_
          refine sdg (qv_geq rfl rfl) (fun c32 => ?_) (fun c32 => ?_)
          ·
            refine s0 (qv_pickT rfl rfl) ?_
            refine s0 (qv_move rfl) ?_
            refine s0g (qv_fa fo_27_3 rfl) ?_
            refine s0g (qv_ldB (i := 0) sc_3 rfl rfl rfl) ?_
            refine s0g (qv_fa fo_27_4 rfl) ?_
            refine s0g (qv_ldB (i := 0) sc_3 rfl rfl rfl) ?_
            refine sdg (qv_leq rfl rfl) (fun c39 => ?_) (fun c39 => ?_)
            ·
              refine s0 (qv_pickT rfl rfl) ?_
              refine s0 (qv_move rfl) ?_
              refine s0g (qv_fa fo_27_4 rfl) ?_
              refine s0g (qv_ldB (i := 0) sc_3 rfl rfl rfl) ?_
              refine s0g (qv_leq rfl rfl) ?_
              refine s0 (qv_pickT rfl rfl) ?_
              refine s0 (qv_assign rfl) ?_
              refine tl_nil (tp_normal ?_)
              refine tc_ret (tp_end1 rfl rfl ?_)
              intro w' hm
              exact ⟨by simp [demanded, *], hm.below⟩
            ·
              refine s0 (qv_pickT rfl rfl) ?_
              refine s0 (qv_move rfl) ?_
              refine sk ?_
              refine sk ?_
              refine sk ?_
              refine s0 (qv_pickF rfl rfl) ?_
              refine s0 (qv_assign rfl) ?_
              refine tl_nil (tp_normal ?_)
              refine tc_ret (tp_end1 rfl rfl ?_)
              intro w' hm
              exact ⟨by simp [demanded, *], hm.below⟩
          ·
            refine s0 (qv_pickT rfl rfl) ?_
            refine s0 (qv_move rfl) ?_
            refine sk ?_
            refine sk ?_
            refine sk ?_
            refine sk ?_
            refine sk ?_
            refine s0 (qv_pickF rfl rfl) ?_
            refine s0 (qv_move rfl) ?_
            refine sk ?_
            refine sk ?_
            refine sk ?_
            refine s0 (qv_pickF rfl rfl) ?_
            refine s0 (qv_assign rfl) ?_
            refine tl_nil (tp_normal ?_)
            refine tc_ret (tp_end1 rfl rfl ?_)
            intro w' hm
            exact ⟨by simp [demanded, *], hm.below⟩
        ·
          refine s0 (qv_pickT rfl rfl) ?_
          refine s0 (qv_move rfl) ?_
          refine sk ?_
          refine sk ?_
          refine sk ?_
          refine s0 (qv_pickF rfl rfl) ?_
          refine s0 (qv_move rfl) ?_
          refine sk ?_
          refine sk ?_
          refine sk ?_
          refine sk ?_
          refine sk ?_
          refine s0 (qv_pickF rfl rfl) ?_
          refine s0 (qv_move rfl) ?_
          refine sk ?_
          refine sk ?_
          refine sk ?_
          refine s0 (qv_pickF rfl rfl) ?_
          refine s0 (qv_assign rfl) ?_
          refine tl_nil (tp_normal ?_)
          refine tc_ret (tp_end1 rfl rfl ?_)
          intro w' hm
          exact ⟨by simp [demanded, *], hm.below⟩
      ·
        refine s0 (qv_pickT rfl rfl) ?_
        refine s0 (qv_move rfl) ?_
        refine sk ?_
        refine sk ?_
        refine sk ?_
        refine s0 (qv_pickF rfl rfl) ?_
        refine s0 (qv_move rfl) ?_
        refine sk ?_
        refine sk ?_
        refine sk ?_
        refine s0 (qv_pickF rfl rfl) ?_
        refine s0 (qv_move rfl) ?_
        refine sk ?_
        refine sk ?_
        refine sk ?_
        refine sk ?_
        refine sk ?_
        refine s0 (qv_pickF rfl rfl) ?_
        refine s0 (qv_move rfl) ?_
        refine sk ?_
        refine sk ?_
        refine sk ?_
        refine s0 (qv_pickF rfl rfl) ?_
        refine s0 (qv_assign rfl) ?_
        refine tl_nil (tp_normal ?_)
        refine tc_ret (tp_end1 rfl rfl ?_)
        intro w' hm
        exact ⟨by simp [demanded, *], hm.below⟩
    ·
      refine s0 (qv_assign rfl) ?_
      refine tl_nil (tp_normal ?_)
      refine tc_seq ?_
      refine tc_region ?_
      refine s0 (qv_move rfl) ?_
      refine s0 (qv_move rfl) ?_
      refine s0g (qv_move rfl) ?_
      refine s0 (qv_pickT rfl rfl) ?_
      refine s0 (qv_move rfl) ?_
      refine sk ?_
      refine sk ?_
      refine sk ?_
      refine s0 (qv_pickF rfl rfl) ?_
      refine s0 (qv_move rfl) ?_
      refine sk ?_
      refine sk ?_
      refine sk ?_
      refine s0 (qv_pickF rfl rfl) ?_
      refine s0 (qv_move rfl) ?_
      refine sk ?_
      refine sk ?_
      refine sk ?_
      refine s0 (qv_pickF rfl rfl) ?_
      refine s0 (qv_move rfl) ?_
      refine sk ?_
      refine sk ?_
      refine sk ?_
      refine sk ?_
      refine sk ?_
      refine s0 (qv_pickF rfl rfl) ?_
      refine s0 (qv_move rfl) ?_
      refine sk ?_
      refine sk ?_
      refine sk ?_
      refine s0 (qv_pickF rfl rfl) ?_
      refine s0 (qv_assign rfl) ?_
      refine tl_nil (tp_normal ?_)
      refine tc_ret (tp_end1 rfl rfl ?_)
      intro w' hm
      exact ⟨by simp [demanded, *], hm.below⟩
  ·
    refine s0 (qv_assign rfl) ?_
    refine tl_nil (tp_normal ?_)
    refine tc_seq ?_
    refine tc_region ?_
    refine s0 (qv_ldBW (i := 1) ag_24 rfl rfl rfl) ?_
    refine s0 (qv_fa fo_27_1 rfl) ?_
    refine s0 (qv_ldB (i := 0) sc_3 rfl rfl rfl) ?_
    refine sd (qv_call fn_66 rfl (fun w hm => rhouse_calls w n na nc d.dst (hn.into Mem.has_base hm) hk)) (fun c14 => ?_) (fun c14 => ?_)
    ·
      refine s0 (qv_assign rfl) ?_
      refine tl_nil (tp_normal ?_)
      refine tc_seq ?_
      refine tc_region ?_
      refine s0 (qv_move rfl) ?_
      refine s0 (qv_move rfl) ?_
      refine sk ?_
      refine s0 (qv_pickF rfl rfl) ?_
      refine s0 (qv_move rfl) ?_
      refine sk ?_
      refine sk ?_
      refine sk ?_
      refine s0 (qv_pickF rfl rfl) ?_
      refine s0 (qv_move rfl) ?_
      refine sk ?_
      refine sk ?_
      refine sk ?_
      refine s0 (qv_pickF rfl rfl) ?_
      refine s0 (qv_move rfl) ?_
      refine sk ?_
      refine sk ?_
      refine sk ?_
      refine s0 (qv_pickF rfl rfl) ?_
      refine s0 (qv_move rfl) ?_
      refine sk ?_
      refine sk ?_
      refine sk ?_
      refine sk ?_
      refine sk ?_
      refine s0 (qv_pickF rfl rfl) ?_
      refine s0 (qv_move rfl) ?_
      refine sk ?_
      refine sk ?_
      refine sk ?_
      refine s0 (qv_pickF rfl rfl) ?_
      refine s0 (qv_assign rfl) ?_
      refine tl_nil (tp_normal ?_)
      refine tc_ret (tp_end1 rfl rfl ?_)
      intro w' hm
      exact ⟨by simp [demanded, *], hm.below⟩
    ·
      refine s0 (qv_assign rfl) ?_
      refine tl_nil (tp_normal ?_)
      refine tc_seq ?_
      refine tc_region ?_
      refine s0 (qv_move rfl) ?_
      refine s0 (qv_move rfl) ?_
      refine sk ?_
      refine s0 (qv_pickF rfl rfl) ?_
      refine s0 (qv_move rfl) ?_
      refine sk ?_
      refine sk ?_
      refine sk ?_
      refine s0 (qv_pickF rfl rfl) ?_
      refine s0 (qv_move rfl) ?_
      refine sk ?_
      refine sk ?_
      refine sk ?_
      refine s0 (qv_pickF rfl rfl) ?_
      refine s0 (qv_move rfl) ?_
      refine sk ?_
      refine sk ?_
      refine sk ?_
      refine s0 (qv_pickF rfl rfl) ?_
      refine s0 (qv_move rfl) ?_
      refine sk ?_
      refine sk ?_
      refine sk ?_
      refine sk ?_
      refine sk ?_
      refine s0 (qv_pickF rfl rfl) ?_
      refine s0 (qv_move rfl) ?_
      refine sk ?_
      refine sk ?_
      refine sk ?_
      refine s0 (qv_pickF rfl rfl) ?_
      refine s0 (qv_assign rfl) ?_
      refine tl_nil (tp_normal ?_)
      refine tc_ret (tp_end1 rfl rfl ?_)
      intro w' hm
      exact ⟨by simp [demanded, *], hm.below⟩

end Go.Q
