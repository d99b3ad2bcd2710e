/- A part of the proof: see the last text. -/
import Derived.Test.YtgcpocaaepoafaaQ12
import Derived.Test.YtgcpocaaepoafaaS15
import Derived.Test.YtgcpocaaepoafaaW15a
import Derived.Test.YtgcpocaaepoafaaProg
set_option linter.unusedVariables false
set_option linter.unusedSimpArgs false
set_option linter.unusedSectionVars false
namespace Go.Q
open Go Go.Proofs Go.RowKit
theorem sc_25 : Scalar Try.prog 25 := fun w => by kernel_rfl
theorem ze_55 : Zero Try.prog 55 #[.int .i64 0, .int .i64 0] := fun w => ⟨.agg #[.int .i64 0, .int .i64 0], by kernel_rfl, rfl⟩
theorem sz_3 : Size Try.prog 3 1 := fun w => by kernel_rfl
theorem ba_55 : BuildArr Try.prog 55 1 #[.int .i64 0, .int .i64 0] := ⟨_, _, Try.underlying55, sz_3, ze_55⟩
theorem ze_3 : Zero Try.prog 3 #[.int .i64 0] := fun w => ⟨.int .i64 0, by kernel_rfl, rfl⟩
theorem fn_75 : IsFn Try.prog 75 := isFn_of Try.func75 (by kernel_rfl) rfl
theorem fn_80 : IsFn Try.prog 80 := isFn_of Try.func80 (by kernel_rfl) rfl
theorem sz_55 : Size Try.prog 55 2 := fun w => by kernel_rfl
theorem at_55 : ArrTy Try.prog 55 2 1 := ⟨3, by kernel_rfl, fun w => by kernel_rfl⟩
theorem ag_27 : Agg Try.prog 27 5 := fun w => ⟨by kernel_rfl, by kernel_rfl⟩
theorem fn_55 : IsFn Try.prog 55 := isFn_of Try.func55 (by kernel_rfl) rfl
theorem fn_56 : IsFn Try.prog 56 := isFn_of Try.func56 (by kernel_rfl) rfl
theorem fn_35 : IsFn Try.prog 35 := isFn_of Try.func35 (by kernel_rfl) rfl
theorem fn_24 : IsFn Try.prog 24 := isFn_of Try.func24 (by kernel_rfl) rfl
theorem fn_58 : IsFn Try.prog 58 := isFn_of Try.func58 (by kernel_rfl) rfl
theorem fn_50 : IsFn Try.prog 50 := isFn_of Try.func50 (by kernel_rfl) rfl
theorem fn_67 : IsFn Try.prog 67 := isFn_of Try.func67 (by kernel_rfl) rfl
theorem fn_36 : IsFn Try.prog 36 := isFn_of Try.func36 (by kernel_rfl) rfl
theorem fn_46 : IsFn Try.prog 46 := isFn_of Try.func46 (by kernel_rfl) rfl
set_option maxRecDepth 100000 in
theorem changes_calls (w : World) (n : Net) (na : Option Addr) (nc : Nat) (l : List Send) (la : Option Addr) (lc : Nat)  :
    Calls Try.prog 75 #[.agg (netA n na nc), .slice la l.length lc] w (fun e w' => ∃ r : Nat × Nat, e = .returned (.func (.func 80) #[] #[.pointer (some ⟨r.1, 0, none⟩), .pointer (some ⟨r.2, 0, none⟩)]) ∧ Below w.heap.size w w' ∧ (w.heap.size ≤ r.1 ∧ w.heap.size ≤ r.2 ∧ r.1 < w'.heap.size ∧ r.2 < w'.heap.size ∧ w'.heap[r.1]? = some (.cells #[.slice la l.length lc] 25 (0, 0)) ∧ w'.heap[r.2]? = some (.cells (netA n na nc) 24 (0, 0)))) := by
  refine calls_of_tc (N := 6) (vs := [.agg (netA n na nc), .slice la l.length lc]) Try.func75 rfl rfl (Nat.le_of_ble_eq_true rfl) ?_
  refine tc_seq ?_
  refine tc_region ?_
  refine tl_box rfl (by decide) (fun b2_0 => ?_)
  refine tl_box rfl (by decide) (fun b3_1 => ?_)
  refine s0 (qv_assign rfl) ?_
  refine tl_nil (tp_normal ?_)
  refine tc_seq ?_
  refine tc_region ?_
  refine s0 (qv_mk rfl) ?_
  refine s0 (qv_assign rfl) ?_
  refine tl_nil (tp_normal ?_)
  refine tc_ret (tp_end1 rfl rfl ?_)
  intro w' hm
  exact ⟨(b3_1, b2_0), rfl, hm.below, (hm.boxOf (List.mem_of_getElem? (i := 0) rfl)).1, (hm.boxOf (List.mem_of_getElem? (i := 1) rfl)).1, get_lt (hm.boxOf (List.mem_of_getElem? (i := 0) rfl)).2, get_lt (hm.boxOf (List.mem_of_getElem? (i := 1) rfl)).2, (hm.boxOf (List.mem_of_getElem? (i := 0) rfl)).2, (hm.boxOf (List.mem_of_getElem? (i := 1) rfl)).2⟩

set_option maxRecDepth 100000 in
theorem changes_it (W1 : World) (n : Net) (na : Option Addr) (nc : Nat) (l : List Send) (la : Option Addr) (lc : Nat) (n0 c1 c2 lp : Nat) (C : Nat → Prop) (hsl : SlAt W1 0 n0 3 encSend la l) (hnl : SlAt W1 0 n0 50 encLink na n.links) (hgood : Sched n l) (h1 : W1.heap[c1]? = some (.cells #[.slice la l.length lc] 25 (0, 0))) (h2 : W1.heap[c2]? = some (.cells (netA n na nc) 24 (0, 0)))
    (hn0 : n0 ≤ W1.heap.size) (hC0 : ∀ b, b < n0 → ¬ C b) (hC1 : ¬ C c1) (hC2 : ¬ C c2) (hCW : ∀ b, C b → b < W1.heap.size) : Yields1 Try.prog 80 [.pointer (some ⟨c1, 0, none⟩), .pointer (some ⟨c2, 0, none⟩)] encChg (changesOf n l) C lp W1 := by
  intro J hJ hY h0
  have hlen := hsl.len
  simp only [maxLen] at hlen
  have hlc1 := get_lt h1
  have hlc2 := get_lt h2
  refine calls_of_tc (N := 46) (vs := [.func (.yield lp) #[] #[], .pointer (some ⟨c1, 0, none⟩), .pointer (some ⟨c2, 0, none⟩)]) Try.func80 rfl rfl (Nat.le_of_ble_eq_true rfl) ?_
  refine tc_seq ?_
  refine tc_region ?_
  refine s0 (qv_ldH sc_25 Mem.has_base (Nat.zero_le _) hlc1 h1 rfl rfl) ?_
  refine s0 (qv_len st_25 rfl) ?_
  refine s0 (qv_move rfl) ?_
  refine tl_nil (tp_normal ?_)
  refine tc_block (tc_loopW [Kin W1 0 n0, Kin W1 c1 (c1 + 1), Kin W1 c2 (c2 + 1)] (fun (k : Nat) => [(8, .int .i64 (k : Int))]) (fun (k : Nat) (W : World) => k ≤ l.length ∧ J (changesOf n (l.take k)) W ∧ W1.heap.size ≤ W.heap.size) (fun (k : Nat) => l.length - k) (0) W1 ⟨Nat.zero_le _, h0, Nat.le_refl _⟩ ⟨rfl, trivial⟩ (fun w hm => Mem.init_known hm (by simp; omega)) ?_)
  rintro k W hI
  refine tc_seq ?_
  refine tc_region ?_
  refine sd (qv_lss rfl rfl) (fun c9 => ?_) (fun c9 => ?_)
  ·
    refine tl_nil (tp_normal ?_)
    refine tc_seq ?_
    refine tc_true rfl ?_
    refine tc_skip (tp_normal ?_)
    refine tc_seq ?_
    refine tc_block ?_
    refine tc_seq ?_
    refine tc_region ?_
    refine sn st_25 hsl rfl rfl (by omega) (fun e10 he10 => ?_)
    refine s0 (qv_ldEW ag_70 hsl (Mem.has_kept (by first | exact .head _ | exact .tail _ (.head _) | exact .tail _ (.tail _ (.head _)) | exact .tail _ (.tail _ (.tail _ (.head _))))) rfl he10) ?_
    refine tl_alloc ze_70 (by decide) (fun b5_0 => ?_)
    refine tl_storeL (i := 0) sz_70 (hsl.szs _ (List.mem_of_getElem? he10)) (one_70 _) rfl rfl rfl rfl ?_
    refine tl_nil (tp_normal ?_)
    refine tc_seq ?_
    have hgs := hgood.send e10 (List.mem_of_getElem? he10)
    obtain ⟨hs0, hs1, hs2, hs3, hs4, hs5⟩ := hgs
    refine tc_any mixed ?_
    refine ta_lex 14 (by kernel_rfl) ?_
    refine q0 (qv_move rfl) ?_
    refine q0 (qv_fa fo_70_1 rfl) ?_
    refine q0 (qv_ldB (i := 0) sc_3 rfl rfl rfl) ?_
    refine q0 (qv_fa fo_24_1 rfl) ?_
    refine q0 (qv_ldH sc_22 (Mem.has_kept (by first | exact .head _ | exact .tail _ (.head _) | exact .tail _ (.tail _ (.head _)) | exact .tail _ (.tail _ (.tail _ (.head _))))) (Nat.le_refl _) (Nat.lt_succ_self _) h2 rfl rfl) ?_
    refine q0 (qv_fa fo_70_0 rfl) ?_
    refine q0 (qv_ldB (i := 0) sc_3 rfl rfl rfl) ?_
    refine qi st_22 hnl rfl rfl (by omega) (fun e19 he19 => ?_)
    refine q0 (qv_fa fo_49_0 rfl) ?_
    refine q0 (qv_ldE (j := 0) sc_3 hnl (Mem.has_kept (by first | exact .head _ | exact .tail _ (.head _) | exact .tail _ (.tail _ (.head _)) | exact .tail _ (.tail _ (.tail _ (.head _))))) rfl rfl he19 rfl) ?_
    refine q0 (qv_fa fo_70_2 rfl) ?_
    refine q0 (qv_ldB (i := 0) sc_3 rfl rfl rfl) ?_
    refine q0 (qv_negI rfl (by omega)) ?_
    refine q0 (qv_buildA ba_55 rfl rfl) ?_
    refine tq_any ?_
    refine ta_op ?_ (by kernel_rfl)
    refine tl_yieldJ (C := C) (enc := encChg) hJ (changesOf n (l.take k)) (e10.tick, e19.src, -e10.bytes) (fun W hW => hY _ _ (_) W (changesOf_at he10 he19) hW) hI.2.1 rfl rfl (fun wa26 wb26 hm26 hj26 hu26 => ?_)
    have hb5 := hm26.boxOf (List.mem_of_getElem? (i := 0) rfl)
    have hk1 := hm26.kept (Kin W1 0 n0) (by first | exact .head _ | exact .tail _ (.head _))
    have hk2 := hm26.kept (Kin W1 c1 (c1 + 1)) (by first | exact .tail _ (.head _) | exact .tail _ (.tail _ (.head _)))
    have hk3 := hm26.kept (Kin W1 c2 (c2 + 1)) (by first | exact .tail _ (.tail _ (.head _)) | exact .tail _ (.tail _ (.tail _ (.head _))))
    refine ⟨⟨wb26, [], [Kin wa26 b5_0 (b5_0 + 1), Kin W1 0 n0, Kin W1 c1 (c1 + 1), Kin W1 c2 (c2 + 1)], [], []⟩, hm26.rebase hu26 (fun q hq => ?_), ?_⟩
    · simp only [List.mem_cons, List.not_mem_nil, or_false] at hq
      rcases hq with rfl | rfl | rfl | rfl
      · exact ⟨get_lt hb5.2, fun b h1 h2 _ => ⟨fun hc => absurd (hCW b hc) (by have := hb5.1; simp only at *; omega), rfl⟩⟩
      · exact ⟨hk1.1, fun b h1 h2 h3 => ⟨hC0 b h2, hk1.2 b h1 h2 h3⟩⟩
      · exact ⟨hk2.1, fun b h1 h2 h3 => ⟨not_at hC1 h1 h2, hk2.2 b h1 h2 h3⟩⟩
      · exact ⟨hk3.1, fun b h1 h2 h3 => ⟨not_at hC2 h1 h2, hk3.2 b h1 h2 h3⟩⟩
    refine tl_nil (tp_any ?_)
    refine ta_lex 30 (by kernel_rfl) ?_
    refine q0 (qv_not rfl) ?_
    refine q0 (qv_move rfl) ?_
    refine q0g (qv_move rfl) ?_
    refine q0g (qv_fa fo_70_1 rfl) ?_
    refine q0g (qv_ldH sc_3 (Mem.has_kept (by first | exact .head _ | exact .tail _ (.head _) | exact .tail _ (.tail _ (.head _)) | exact .tail _ (.tail _ (.tail _ (.head _))))) (Nat.le_refl _) (Nat.lt_succ_self _) hb5.2 rfl rfl) ?_
    refine q0g (qv_fa fo_24_1 rfl) ?_
    refine q0g (qv_ldH sc_22 (Mem.has_kept (by first | exact .head _ | exact .tail _ (.head _) | exact .tail _ (.tail _ (.head _)) | exact .tail _ (.tail _ (.tail _ (.head _))))) (Nat.le_refl _) (Nat.lt_succ_self _) h2 rfl rfl) ?_
    refine q0g (qv_fa fo_70_0 rfl) ?_
    refine q0g (qv_ldH sc_3 (Mem.has_kept (by first | exact .head _ | exact .tail _ (.head _) | exact .tail _ (.tail _ (.head _)) | exact .tail _ (.tail _ (.tail _ (.head _))))) (Nat.le_refl _) (Nat.lt_succ_self _) hb5.2 rfl rfl) ?_
    refine qig st_22 hnl rfl rfl (by omega) (fun e36 he36 => ?_)
    obtain rfl : e19 = e36 := Option.some.inj (he19.symm.trans he36)
    refine q0g (qv_fa fo_49_1 rfl) ?_
    refine q0g (qv_ldE (j := 1) sc_3 hnl (Mem.has_kept (by first | exact .head _ | exact .tail _ (.head _) | exact .tail _ (.tail _ (.head _)) | exact .tail _ (.tail _ (.tail _ (.head _))))) rfl rfl he19 rfl) ?_
    refine q0g (qv_fa fo_70_2 rfl) ?_
    refine q0g (qv_ldH sc_3 (Mem.has_kept (by first | exact .head _ | exact .tail _ (.head _) | exact .tail _ (.tail _ (.head _)) | exact .tail _ (.tail _ (.tail _ (.head _))))) (Nat.le_refl _) (Nat.lt_succ_self _) hb5.2 rfl rfl) ?_
    refine q0g (qv_buildA ba_55 rfl rfl) ?_
    refine tq_any ?_
    refine ta_op ?_ (by kernel_rfl)
    refine tl_unguard ?_
    refine tl_yieldJ (C := C) (enc := encChg) hJ (changesOf n (l.take k) ++ [(e10.tick, e19.src, -e10.bytes)]) (e10.tick, e19.dst, e10.bytes) (fun W hW => hY _ _ (changesOf n (l.drop (k + 1))) W (by rw [changesOf_at he10 he19]; simp) hW) hj26 rfl rfl (fun wa42 wb42 hm42 hj42 hu42 => ?_)
    have hk1 := hm42.kept (Kin W1 0 n0) (by first | exact .head _ | exact .tail _ (.head _))
    have hk2 := hm42.kept (Kin W1 c1 (c1 + 1)) (by first | exact .tail _ (.head _) | exact .tail _ (.tail _ (.head _)))
    have hk3 := hm42.kept (Kin W1 c2 (c2 + 1)) (by first | exact .tail _ (.tail _ (.head _)) | exact .tail _ (.tail _ (.tail _ (.head _))))
    refine ⟨⟨wb42, [], [Kin W1 0 n0, Kin W1 c1 (c1 + 1), Kin W1 c2 (c2 + 1)], [], []⟩, hm42.rebase hu42 (fun q hq => ?_), ?_⟩
    · simp only [List.mem_cons, List.not_mem_nil, or_false] at hq
      rcases hq with rfl | rfl | rfl
      · exact ⟨hk1.1, fun b h1 h2 h3 => ⟨hC0 b h2, hk1.2 b h1 h2 h3⟩⟩
      · exact ⟨hk2.1, fun b h1 h2 h3 => ⟨not_at hC1 h1 h2, hk2.2 b h1 h2 h3⟩⟩
      · exact ⟨hk3.1, fun b h1 h2 h3 => ⟨not_at hC2 h1 h2, hk3.2 b h1 h2 h3⟩⟩
    refine tl_nil (tp_any ?_)
    refine ta_lex 33 (by kernel_rfl) ?_
    refine q0g (qv_not rfl) ?_
    refine q0 (qv_pickF rfl rfl) ?_
    refine tq_any ?_
    refine ta_nil (by kernel_rfl) ?_
    refine tp_normal ?_
    refine tc_false rfl ?_
    refine tc_skip (tp_block_normal (tp_normal ?_))
    refine tc_region ?_
    refine s0 (qv_succ rfl rfl (by omega)) ?_
    refine s0 (qv_move rfl) ?_
    exact tl_nil (tp_roundW (k + 1) ⟨by omega, by rw [changesOf_take he10 he19]; exact hj42, by have := hm26.size; have := hm42.size; have := hu26.size; have := hu42.size; simp only at *; omega⟩ (by omega) ⟨rfl, trivial⟩ rfl rfl rfl)
  ·
    refine tl_nil (tp_normal ?_)
    refine tc_seq ?_
    refine tc_false rfl ?_
    refine tc_exit (tp_then_exit (tp_then_exit (tp_block_exit (tp_end0n rfl ?_))))
    intro w' hm
    exact ⟨rfl, by rw [show l.take k = l from SlSend_len k c9] at hI; exact hJ _ _ _ hI.2.1 hm.below⟩

set_option maxRecDepth 100000 in
theorem stock_calls (w : World) (n : Net) (na : Option Addr) (nc : Nat) (l : List Send) (la : Option Addr) (lc : Nat) (d : Demand) (house tick : Int) (hgood : Sched n l) (hd0 : 0 ≤ d.bytes ∧ d.bytes ≤ 1099511627776) (hn : SlIn w 50 encLink na n.links) (hk : NetOk n) (hl : SlIn w 3 encSend la l) :
    Calls Try.prog 56 #[.agg (netA n na nc), .slice la l.length lc, .agg (demA d), .int .i64 house, .int .i64 tick] w (fun e w' => e = .returned (.int .i64 (have' n l d house tick)) ∧ Below w.heap.size w w') := by
  refine calls_of_tcM (N := 45) (vs := [.agg (netA n na nc), .slice la l.length lc, .agg (demA d), .int .i64 house, .int .i64 tick]) Try.func56 rfl rfl (Nat.le_of_ble_eq_true rfl) ?_
  refine tc_seq ?_
  refine tc_region ?_
  refine tl_box rfl (by decide) (fun b5_0 => ?_)
  refine tl_box rfl (by decide) (fun b7_1 => ?_)
  refine tl_box rfl (by decide) (fun b8_2 => ?_)
  refine tl_box rfl (by decide) (fun b9_3 => ?_)
  refine s0 (qv_assign rfl) ?_
  refine tl_nil (tp_normal ?_)
  refine tc_seq ?_
  refine tc_region ?_
  refine tl_alloc ze_3 (by decide) (fun b11_4 => ?_)
  refine tl_store1 (i := 0) sz_3 rfl rfl rfl rfl rfl (Nat.le_of_ble_eq_true rfl) ?_
  refine tl_nil (tp_normal ?_)
  refine tc_seq ?_
  refine tc_seq ?_
  refine tc_region ?_
  refine s0 (qv_ldB (i := 2) sc_3 rfl rfl rfl) ?_
  refine s0 (qv_fa fo_27_0 rfl) ?_
  refine s0 (qv_ldB (i := 3) sc_3 rfl rfl rfl) ?_
  refine sd (qv_eql rfl rfl) (fun c17 => ?_) (fun c17 => ?_)
  ·
    refine s0 (qv_move rfl) ?_
    refine s0g (qv_ldB (i := 1) sc_3 rfl rfl rfl) ?_
    refine s0g (qv_fa fo_27_3 rfl) ?_
    refine s0g (qv_ldB (i := 3) sc_3 rfl rfl rfl) ?_
    refine sdg (qv_geq rfl rfl) (fun c22 => ?_) (fun c22 => ?_)
    ·
      refine s0 (qv_pickT rfl rfl) ?_
      refine tl_nil (tp_normal ?_)
      refine tc_true rfl ?_
      refine tc_region ?_
      refine s0 (qv_fa fo_27_2 rfl) ?_
      refine s0 (qv_ldB (i := 3) sc_3 rfl rfl rfl) ?_
      refine tl_store1 (i := 0) sz_3 rfl rfl rfl rfl rfl (Nat.le_of_ble_eq_true rfl) ?_
      refine tl_nil (tp_normal ?_)
      refine tc_seq ?_
      refine tc_seq ?_
      refine tc_region ?_
      refine s0 (qv_ldBW (i := 4) ag_24 rfl rfl rfl) ?_
      refine s0 (qv_move rfl) ?_
      refine tl_callR fn_75 rfl (by decide) (fun w hm => changes_calls w n na nc l la lc) (fun r28 wa28 wb28 ha28 hb28 hr28 => ?_)
      refine tl_nil (tp_normal ?_)
      refine tc_block ?_
      refine tc_rangeFuncB (encChg) (changesOf n l) (fun (s : Int) => [(0, b11_4, .cells #[.int .i64 s] 3 (0, 0))]) (fun pre (s : Int) => s = d.bytes + chgSum house tick pre) (d.bytes) fn_80 (by simp [chgSum, isum]) (fun _ => rfl) (fun _ => rfl) rfl (fun w1 W1 lq C hm1 hB hC0 hCk hCW => changes_it W1 n na nc l la lc w.heap.size r28.1 r28.2 lq C (hl.move (Mem.has_base.later hm1 hB).2 (Nat.le_refl _) (Nat.le_refl _)) (hn.move (Mem.has_base.later hm1 hB).2 (Nat.le_refl _) (Nat.le_refl _)) hgood (((Mem.has_kept (.head _)).later hm1 hB).2 _ hr28.1 hr28.2.2.1 |>.trans hr28.2.2.2.2.1) (((Mem.has_kept (.head _)).later hm1 hB).2 _ hr28.2.1 hr28.2.2.2.1 |>.trans hr28.2.2.2.2.2) (Mem.has_base.later hm1 hB).1 hC0 (hCk _ (.head _) _ hr28.1 hr28.2.2.1 trivial) (hCk _ (.head _) _ hr28.2.1 hr28.2.2.2.1 trivial) hCW) ?_ ?_
      ·
        intro lp Dp Wp rp pre xe post s hx hI hr
        have hbd := chgSum_bound hgood house tick hx
        have hbe := chg_bound hgood (c := xe) (by rw [hx]; simp)
        refine tc_seq ?_
        refine tc_region ?_
        refine s0 (qv_assign rfl) ?_
        refine tl_nil (tp_normal ?_)
        refine tc_region ?_
        refine tl_alloc ze_55 (by decide) (fun b13_5 => ?_)
        refine tl_storeO (i := 0) sz_55 rfl rfl rfl rfl rfl rfl rfl ?_
        refine tl_nil (tp_begin (i := 6) rfl hr ?_)
        refine tc_block ?_
        refine tc_seq ?_
        refine tc_region ?_
        refine s0 (qv_move rfl) ?_
        refine s0 (qv_ldB (i := 2) sc_3 rfl rfl rfl) ?_
        refine sd (qv_lss rfl rfl) (fun c33 => ?_) (fun c33 => ?_)
        ·
          refine s0 (qv_move rfl) ?_
          refine s0g (qv_iA at_55 rfl rfl (by omega)) ?_
          refine s0g (qv_ldB (i := 0) sc_3 rfl rfl rfl) ?_
          refine s0g (qv_ldB (i := 3) sc_3 rfl rfl rfl) ?_
          refine sdg (qv_eql rfl rfl) (fun c38 => ?_) (fun c38 => ?_)
          ·
            refine s0 (qv_pickT rfl rfl) ?_
            refine tl_nil (tp_normal ?_)
            refine tc_true rfl ?_
            refine tc_region ?_
            refine s0 (qv_ldB (i := 1) sc_3 rfl rfl rfl) ?_
            refine s0 (qv_iA at_55 rfl rfl (by omega)) ?_
            refine s0 (qv_ldB (i := 0) sc_3 rfl rfl rfl) ?_
            refine s0 (qv_addI rfl rfl (by omega)) ?_
            refine tl_store1 (i := 1) sz_3 rfl rfl rfl rfl rfl (Nat.le_of_ble_eq_true rfl) ?_
            exact tl_nil (tp_block_normal (tp_roundF ((s + xe.2.2)) (by rw [hI, chgSum_snoc]; split <;> omega) rfl rfl))
          ·
            refine s0 (qv_pickT rfl rfl) ?_
            refine tl_nil (tp_normal ?_)
            refine tc_false rfl ?_
            exact tc_skip (tp_block_normal (tp_roundF (s) (by rw [hI, chgSum_snoc]; split <;> omega) rfl rfl))
        ·
          refine s0 (qv_move rfl) ?_
          refine sk ?_
          refine sk ?_
          refine sk ?_
          refine sk ?_
          refine s0 (qv_pickF rfl rfl) ?_
          refine tl_nil (tp_normal ?_)
          refine tc_false rfl ?_
          exact tc_skip (tp_block_normal (tp_roundF (s) (by rw [hI, chgSum_snoc]; split <;> omega) rfl rfl))
      ·
        intro Dp s hI
        refine tp_block_normal (tp_normal ?_)
        refine tc_seq ?_
        refine tc_region ?_
        refine s0 (qv_ldB (i := 0) sc_3 rfl rfl rfl) ?_
        refine s0 (qv_assign rfl) ?_
        refine tl_nil (tp_normal ?_)
        refine tc_ret (tp_end1M rfl rfl ?_)
        intro w' hm
        have e : s = have' n l d house tick := by first | (rw [have_from (by assumption) (by assumption)]; exact hI) | (rw [have_else (by omega)]; exact hI)
        exact ⟨by rw [e]; rfl, hm.below⟩
    ·
      refine s0 (qv_pickT rfl rfl) ?_
      refine tl_nil (tp_normal ?_)
      refine tc_false rfl ?_
      refine tc_skip (tp_normal ?_)
      refine tc_seq ?_
      refine tc_seq ?_
      refine tc_region ?_
      refine s0 (qv_ldBW (i := 4) ag_24 rfl rfl rfl) ?_
      refine s0 (qv_move rfl) ?_
      refine tl_callR fn_75 rfl (by decide) (fun w hm => changes_calls w n na nc l la lc) (fun r28 wa28 wb28 ha28 hb28 hr28 => ?_)
      refine tl_nil (tp_normal ?_)
      refine tc_block ?_
      refine tc_rangeFuncB (encChg) (changesOf n l) (fun (s : Int) => [(0, b11_4, .cells #[.int .i64 s] 3 (0, 0))]) (fun pre (s : Int) => s = (0) + chgSum house tick pre) ((0)) fn_80 (by simp [chgSum, isum]) (fun _ => rfl) (fun _ => rfl) rfl (fun w1 W1 lq C hm1 hB hC0 hCk hCW => changes_it W1 n na nc l la lc w.heap.size r28.1 r28.2 lq C (hl.move (Mem.has_base.later hm1 hB).2 (Nat.le_refl _) (Nat.le_refl _)) (hn.move (Mem.has_base.later hm1 hB).2 (Nat.le_refl _) (Nat.le_refl _)) hgood (((Mem.has_kept (.head _)).later hm1 hB).2 _ hr28.1 hr28.2.2.1 |>.trans hr28.2.2.2.2.1) (((Mem.has_kept (.head _)).later hm1 hB).2 _ hr28.2.1 hr28.2.2.2.1 |>.trans hr28.2.2.2.2.2) (Mem.has_base.later hm1 hB).1 hC0 (hCk _ (.head _) _ hr28.1 hr28.2.2.1 trivial) (hCk _ (.head _) _ hr28.2.1 hr28.2.2.2.1 trivial) hCW) ?_ ?_
      ·
        intro lp Dp Wp rp pre xe post s hx hI hr
        have hbd := chgSum_bound hgood house tick hx
        have hbe := chg_bound hgood (c := xe) (by rw [hx]; simp)
        refine tc_seq ?_
        refine tc_region ?_
        refine s0 (qv_assign rfl) ?_
        refine tl_nil (tp_normal ?_)
        refine tc_region ?_
        refine tl_alloc ze_55 (by decide) (fun b13_6 => ?_)
        refine tl_storeO (i := 0) sz_55 rfl rfl rfl rfl rfl rfl rfl ?_
        refine tl_nil (tp_begin (i := 6) rfl hr ?_)
        refine tc_block ?_
        refine tc_seq ?_
        refine tc_region ?_
        refine s0 (qv_move rfl) ?_
        refine s0 (qv_ldB (i := 2) sc_3 rfl rfl rfl) ?_
        refine sd (qv_lss rfl rfl) (fun c33 => ?_) (fun c33 => ?_)
        ·
          refine s0 (qv_move rfl) ?_
          refine s0g (qv_iA at_55 rfl rfl (by omega)) ?_
          refine s0g (qv_ldB (i := 0) sc_3 rfl rfl rfl) ?_
          refine s0g (qv_ldB (i := 3) sc_3 rfl rfl rfl) ?_
          refine sdg (qv_eql rfl rfl) (fun c38 => ?_) (fun c38 => ?_)
          ·
            refine s0 (qv_pickT rfl rfl) ?_
            refine tl_nil (tp_normal ?_)
            refine tc_true rfl ?_
            refine tc_region ?_
            refine s0 (qv_ldB (i := 1) sc_3 rfl rfl rfl) ?_
            refine s0 (qv_iA at_55 rfl rfl (by omega)) ?_
            refine s0 (qv_ldB (i := 0) sc_3 rfl rfl rfl) ?_
            refine s0 (qv_addI rfl rfl (by omega)) ?_
            refine tl_store1 (i := 1) sz_3 rfl rfl rfl rfl rfl (Nat.le_of_ble_eq_true rfl) ?_
            exact tl_nil (tp_block_normal (tp_roundF ((s + xe.2.2)) (by rw [hI, chgSum_snoc]; split <;> omega) rfl rfl))
          ·
            refine s0 (qv_pickT rfl rfl) ?_
            refine tl_nil (tp_normal ?_)
            refine tc_false rfl ?_
            exact tc_skip (tp_block_normal (tp_roundF (s) (by rw [hI, chgSum_snoc]; split <;> omega) rfl rfl))
        ·
          refine s0 (qv_move rfl) ?_
          refine sk ?_
          refine sk ?_
          refine sk ?_
          refine sk ?_
          refine s0 (qv_pickF rfl rfl) ?_
          refine tl_nil (tp_normal ?_)
          refine tc_false rfl ?_
          exact tc_skip (tp_block_normal (tp_roundF (s) (by rw [hI, chgSum_snoc]; split <;> omega) rfl rfl))
      ·
        intro Dp s hI
        refine tp_block_normal (tp_normal ?_)
        refine tc_seq ?_
        refine tc_region ?_
        refine s0 (qv_ldB (i := 0) sc_3 rfl rfl rfl) ?_
        refine s0 (qv_assign rfl) ?_
        refine tl_nil (tp_normal ?_)
        refine tc_ret (tp_end1M rfl rfl ?_)
        intro w' hm
        have e : s = have' n l d house tick := by first | (rw [have_from (by assumption) (by assumption)]; exact hI) | (rw [have_else (by omega)]; exact hI)
        exact ⟨by rw [e]; rfl, hm.below⟩
  ·
    refine s0 (qv_move rfl) ?_
    refine sk ?_
    refine sk ?_
    refine sk ?_
    refine sk ?_
    refine s0 (qv_pickF rfl rfl) ?_
    refine tl_nil (tp_normal ?_)
    refine tc_false rfl ?_
    refine tc_skip (tp_normal ?_)
    refine tc_seq ?_
    refine tc_seq ?_
    refine tc_region ?_
    refine s0 (qv_ldBW (i := 4) ag_24 rfl rfl rfl) ?_
    refine s0 (qv_move rfl) ?_
    refine tl_callR fn_75 rfl (by decide) (fun w hm => changes_calls w n na nc l la lc) (fun r28 wa28 wb28 ha28 hb28 hr28 => ?_)
    refine tl_nil (tp_normal ?_)
    refine tc_block ?_
    refine tc_rangeFuncB (encChg) (changesOf n l) (fun (s : Int) => [(0, b11_4, .cells #[.int .i64 s] 3 (0, 0))]) (fun pre (s : Int) => s = (0) + chgSum house tick pre) ((0)) fn_80 (by simp [chgSum, isum]) (fun _ => rfl) (fun _ => rfl) rfl (fun w1 W1 lq C hm1 hB hC0 hCk hCW => changes_it W1 n na nc l la lc w.heap.size r28.1 r28.2 lq C (hl.move (Mem.has_base.later hm1 hB).2 (Nat.le_refl _) (Nat.le_refl _)) (hn.move (Mem.has_base.later hm1 hB).2 (Nat.le_refl _) (Nat.le_refl _)) hgood (((Mem.has_kept (.head _)).later hm1 hB).2 _ hr28.1 hr28.2.2.1 |>.trans hr28.2.2.2.2.1) (((Mem.has_kept (.head _)).later hm1 hB).2 _ hr28.2.1 hr28.2.2.2.1 |>.trans hr28.2.2.2.2.2) (Mem.has_base.later hm1 hB).1 hC0 (hCk _ (.head _) _ hr28.1 hr28.2.2.1 trivial) (hCk _ (.head _) _ hr28.2.1 hr28.2.2.2.1 trivial) hCW) ?_ ?_
    ·
      intro lp Dp Wp rp pre xe post s hx hI hr
      have hbd := chgSum_bound hgood house tick hx
      have hbe := chg_bound hgood (c := xe) (by rw [hx]; simp)
      refine tc_seq ?_
      refine tc_region ?_
      refine s0 (qv_assign rfl) ?_
      refine tl_nil (tp_normal ?_)
      refine tc_region ?_
      refine tl_alloc ze_55 (by decide) (fun b13_7 => ?_)
      refine tl_storeO (i := 0) sz_55 rfl rfl rfl rfl rfl rfl rfl ?_
      refine tl_nil (tp_begin (i := 6) rfl hr ?_)
      refine tc_block ?_
      refine tc_seq ?_
      refine tc_region ?_
      refine s0 (qv_move rfl) ?_
      refine s0 (qv_ldB (i := 2) sc_3 rfl rfl rfl) ?_
      refine sd (qv_lss rfl rfl) (fun c33 => ?_) (fun c33 => ?_)
      ·
        refine s0 (qv_move rfl) ?_
        refine s0g (qv_iA at_55 rfl rfl (by omega)) ?_
        refine s0g (qv_ldB (i := 0) sc_3 rfl rfl rfl) ?_
        refine s0g (qv_ldB (i := 3) sc_3 rfl rfl rfl) ?_
        refine sdg (qv_eql rfl rfl) (fun c38 => ?_) (fun c38 => ?_)
        ·
          refine s0 (qv_pickT rfl rfl) ?_
          refine tl_nil (tp_normal ?_)
          refine tc_true rfl ?_
          refine tc_region ?_
          refine s0 (qv_ldB (i := 1) sc_3 rfl rfl rfl) ?_
          refine s0 (qv_iA at_55 rfl rfl (by omega)) ?_
          refine s0 (qv_ldB (i := 0) sc_3 rfl rfl rfl) ?_
          refine s0 (qv_addI rfl rfl (by omega)) ?_
          refine tl_store1 (i := 1) sz_3 rfl rfl rfl rfl rfl (Nat.le_of_ble_eq_true rfl) ?_
          exact tl_nil (tp_block_normal (tp_roundF ((s + xe.2.2)) (by rw [hI, chgSum_snoc]; split <;> omega) rfl rfl))
        ·
          refine s0 (qv_pickT rfl rfl) ?_
          refine tl_nil (tp_normal ?_)
          refine tc_false rfl ?_
          exact tc_skip (tp_block_normal (tp_roundF (s) (by rw [hI, chgSum_snoc]; split <;> omega) rfl rfl))
      ·
        refine s0 (qv_move rfl) ?_
        refine sk ?_
        refine sk ?_
        refine sk ?_
        refine sk ?_
        refine s0 (qv_pickF rfl rfl) ?_
        refine tl_nil (tp_normal ?_)
        refine tc_false rfl ?_
        exact tc_skip (tp_block_normal (tp_roundF (s) (by rw [hI, chgSum_snoc]; split <;> omega) rfl rfl))
    ·
      intro Dp s hI
      refine tp_block_normal (tp_normal ?_)
      refine tc_seq ?_
      refine tc_region ?_
      refine s0 (qv_ldB (i := 0) sc_3 rfl rfl rfl) ?_
      refine s0 (qv_assign rfl) ?_
      refine tl_nil (tp_normal ?_)
      refine tc_ret (tp_end1M rfl rfl ?_)
      intro w' hm
      have e : s = have' n l d house tick := by first | (rw [have_from (by assumption) (by assumption)]; exact hI) | (rw [have_else (by omega)]; exact hI)
      exact ⟨by rw [e]; rfl, hm.below⟩

set_option maxRecDepth 100000 in
theorem Stock_calls (w : World) (n : Net) (na : Option Addr) (nc : Nat) (l : List Send) (la : Option Addr) (lc : Nat) (d : Demand) (house tick : Int) (hn : SlIn w 50 encLink na n.links) (hk : NetOk n) (hl : SlIn w 3 encSend la l) :
    Calls Try.prog 42 #[.agg (netA n na nc), .slice la l.length lc, .agg (demA d), .int .i64 house, .int .i64 tick] w (fun e w' => e = .returned (.tuple #[.int .i64 (stock n l d house tick).1, .int .i64 (stock n l d house tick).2]) ∧ Below w.heap.size w w') := by
  refine calls_of_tc (N := 47) (vs := [.agg (netA n na nc), .slice la l.length lc, .agg (demA d), .int .i64 house, .int .i64 tick]) Try.func42 rfl rfl (Nat.le_of_ble_eq_true rfl) ?_
  refine tc_seq ?_
  refine tc_region ?_
  refine tl_box rfl (by decide) (fun b5_0 => ?_)
  refine tl_box rfl (by decide) (fun b7_1 => ?_)
  refine s0 (qv_assign rfl) ?_
  refine s0 (qv_assign rfl) ?_
  refine tl_nil (tp_normal ?_)
  refine tc_seq ?_
  refine tc_seq ?_
  refine tc_region ?_
  refine s0 (qv_ldBW (i := 1) ag_24 rfl rfl rfl) ?_
  refine s0 (qv_move rfl) ?_
  refine s0 (qv_call fn_33 rfl (fun w hm => right_calls w n na nc l la lc (hn.into Mem.has_base hm) hk (hl.into Mem.has_base hm))) ?_
  refine s0 (qv_assign rfl) ?_
  refine tl_nil (tp_normal ?_)
  refine tc_seq ?_
  refine tc_region ?_
  refine s0 (qv_move rfl) ?_
  refine sd (qv_neq rfl rfl) (fun c17 => ?_) (fun c17 => ?_)
  ·
    refine tl_nil (tp_normal ?_)
    refine tc_true rfl ?_
    refine tc_seq ?_
    refine tc_region ?_
    refine s0 (qv_move rfl) ?_
    refine s0 (qv_assign rfl) ?_
    refine s0 (qv_assign rfl) ?_
    refine tl_nil (tp_normal ?_)
    refine tc_ret (tp_then_ret (tp_end2 rfl rfl rfl ?_))
    intro w' hm
    exact ⟨by rw [stock_err c17], hm.below⟩
  ·
    refine tl_nil (tp_normal ?_)
    refine tc_false rfl ?_
    refine tc_skip (tp_normal ?_)
    refine tc_seq ?_
    refine tc_seq ?_
    refine tc_region ?_
    refine s0 (qv_ldBW (i := 1) ag_24 rfl rfl rfl) ?_
    refine s0 (qv_ldBW (i := 0) ag_27 rfl rfl rfl) ?_
    refine sd (qv_call fn_55 rfl (fun w hm => demanded_calls w n na nc d (hn.into Mem.has_base hm) hk)) (fun c21 => ?_) (fun c21 => ?_)
    ·
      refine s0 (qv_not rfl) ?_
      refine s0 (qv_move rfl) ?_
      refine s0g (qv_move rfl) ?_
      refine sdg (qv_lss rfl rfl) (fun c25 => ?_) (fun c25 => ?_)
      ·
        refine s0 (qv_pickF rfl rfl) ?_
        refine s0 (qv_move rfl) ?_
        refine sk ?_
        refine sk ?_
        refine sk ?_
        refine sk ?_
        refine s0 (qv_pickT rfl rfl) ?_
        refine s0 (qv_move rfl) ?_
        refine sk ?_
        refine sk ?_
        refine s0 (qv_pickT rfl rfl) ?_
        refine s0 (qv_move rfl) ?_
        refine sk ?_
        refine sk ?_
        refine s0 (qv_pickT rfl rfl) ?_
        refine tl_nil (tp_normal ?_)
        refine tc_true rfl ?_
        refine tc_seq ?_
        refine tc_region ?_
        refine s0 (qv_assign rfl) ?_
        refine s0 (qv_assign rfl) ?_
        refine tl_nil (tp_normal ?_)
        refine tc_ret (tp_then_ret (tp_end2 rfl rfl rfl ?_))
        intro w' hm
        exact ⟨by rw [stock_arg c17 (by first | exact .inl (by assumption) | exact .inr (.inl (by assumption)) | exact .inr (.inl (by unfold isHouse; omega)) | exact .inr (.inr (by omega)))], hm.below⟩
      ·
        refine s0 (qv_pickF rfl rfl) ?_
        refine s0 (qv_move rfl) ?_
        refine s0g (qv_move rfl) ?_
        refine s0g (qv_fa fo_24_0 rfl) ?_
        refine s0g (qv_ldB (i := 1) sc_3 rfl rfl rfl) ?_
        refine sdg (qv_geq rfl rfl) (fun c31 => ?_) (fun c31 => ?_)
        ·
          refine s0 (qv_pickF rfl rfl) ?_
          refine s0 (qv_move rfl) ?_
          refine sk ?_
          refine sk ?_
          refine s0 (qv_pickT rfl rfl) ?_
          refine s0 (qv_move rfl) ?_
          refine sk ?_
          refine sk ?_
          refine s0 (qv_pickT rfl rfl) ?_
          refine tl_nil (tp_normal ?_)
          refine tc_true rfl ?_
          refine tc_seq ?_
          refine tc_region ?_
          refine s0 (qv_assign rfl) ?_
          refine s0 (qv_assign rfl) ?_
          refine tl_nil (tp_normal ?_)
          refine tc_ret (tp_then_ret (tp_end2 rfl rfl rfl ?_))
          intro w' hm
          exact ⟨by rw [stock_arg c17 (by first | exact .inl (by assumption) | exact .inr (.inl (by assumption)) | exact .inr (.inl (by unfold isHouse; omega)) | exact .inr (.inr (by omega)))], hm.below⟩
        ·
          refine s0 (qv_pickF rfl rfl) ?_
          refine s0 (qv_move rfl) ?_
          refine s0g (qv_move rfl) ?_
          refine sdg (qv_lss rfl rfl) (fun c35 => ?_) (fun c35 => ?_)
          ·
            refine s0 (qv_pickF rfl rfl) ?_
            refine s0 (qv_move rfl) ?_
            refine sk ?_
            refine sk ?_
            refine s0 (qv_pickT rfl rfl) ?_
            refine tl_nil (tp_normal ?_)
            refine tc_true rfl ?_
            refine tc_seq ?_
            refine tc_region ?_
            refine s0 (qv_assign rfl) ?_
            refine s0 (qv_assign rfl) ?_
            refine tl_nil (tp_normal ?_)
            refine tc_ret (tp_then_ret (tp_end2 rfl rfl rfl ?_))
            intro w' hm
            exact ⟨by rw [stock_arg c17 (by first | exact .inl (by assumption) | exact .inr (.inl (by assumption)) | exact .inr (.inl (by unfold isHouse; omega)) | exact .inr (.inr (by omega)))], hm.below⟩
          ·
            refine s0 (qv_pickF rfl rfl) ?_
            refine s0 (qv_move rfl) ?_
            refine s0g (qv_move rfl) ?_
            refine sdg (qv_gtr rfl rfl) (fun c39 => ?_) (fun c39 => ?_)
            ·
              refine s0 (qv_pickF rfl rfl) ?_
              refine tl_nil (tp_normal ?_)
              refine tc_true rfl ?_
              refine tc_seq ?_
              refine tc_region ?_
              refine s0 (qv_assign rfl) ?_
              refine s0 (qv_assign rfl) ?_
              refine tl_nil (tp_normal ?_)
              refine tc_ret (tp_then_ret (tp_end2 rfl rfl rfl ?_))
              intro w' hm
              exact ⟨by rw [stock_arg c17 (by first | exact .inl (by assumption) | exact .inr (.inl (by assumption)) | exact .inr (.inl (by unfold isHouse; omega)) | exact .inr (.inr (by omega)))], hm.below⟩
            ·
              refine s0 (qv_pickF rfl rfl) ?_
              refine tl_nil (tp_normal ?_)
              refine tc_false rfl ?_
              refine tc_skip (tp_normal ?_)
              refine tc_seq ?_
              refine tc_region ?_
              refine s0 (qv_ldBW (i := 1) ag_24 rfl rfl rfl) ?_
              refine s0 (qv_move rfl) ?_
              refine s0 (qv_ldBW (i := 0) ag_27 rfl rfl rfl) ?_
              refine s0 (qv_move rfl) ?_
              refine s0 (qv_move rfl) ?_
              refine s0 (qv_call fn_56 rfl (fun w hm => stock_calls w n na nc l la lc d house tick (right_zero (n := n) (l := l) (by omega)) (dem_bytes (n := n) (d := d) (by assumption)) (hn.into Mem.has_base hm) hk (hl.into Mem.has_base hm))) ?_
              refine s0 (qv_assign rfl) ?_
              refine s0 (qv_assign rfl) ?_
              refine tl_nil (tp_normal ?_)
              refine tc_ret (tp_end2 rfl rfl rfl ?_)
              intro w' hm
              exact ⟨by rw [stock_ok c17 c21 (by unfold isHouse; omega) (by omega) (by omega)], hm.below⟩
    ·
      refine s0 (qv_not rfl) ?_
      refine s0 (qv_move rfl) ?_
      refine sk ?_
      refine sk ?_
      refine s0 (qv_pickT rfl rfl) ?_
      refine s0 (qv_move rfl) ?_
      refine sk ?_
      refine sk ?_
      refine sk ?_
      refine sk ?_
      refine s0 (qv_pickT rfl rfl) ?_
      refine s0 (qv_move rfl) ?_
      refine sk ?_
      refine sk ?_
      refine s0 (qv_pickT rfl rfl) ?_
      refine s0 (qv_move rfl) ?_
      refine sk ?_
      refine sk ?_
      refine s0 (qv_pickT rfl rfl) ?_
      refine tl_nil (tp_normal ?_)
      refine tc_true rfl ?_
      refine tc_seq ?_
      refine tc_region ?_
      refine s0 (qv_assign rfl) ?_
      refine s0 (qv_assign rfl) ?_
      refine tl_nil (tp_normal ?_)
      refine tc_ret (tp_then_ret (tp_end2 rfl rfl rfl ?_))
      intro w' hm
      exact ⟨by rw [stock_arg c17 (by first | exact .inl (by assumption) | exact .inr (.inl (by assumption)) | exact .inr (.inl (by unfold isHouse; omega)) | exact .inr (.inr (by omega)))], hm.below⟩

set_option maxRecDepth 100000 in
theorem serves_calls (w : World) (n : Net) (na : Option Addr) (nc : Nat) (l : List Send) (la : Option Addr) (lc : Nat) (d : Demand) (hlc : l.length ≤ lc) (hn : SlIn w 50 encLink na n.links) (hk : NetOk n) (hl : SlIn w 3 encSend la l) :
    Calls Try.prog 24 #[.agg (netA n na nc), .slice la l.length lc, .agg (demA d)] w (fun e w' => e = .returned (.int .i64 (serves n l d)) ∧ Below w.heap.size w w') := by
  have hlen := hl.len
  simp only [maxLen] at hlen
  have hlenn := hn.len
  simp only [maxLen] at hlenn
  refine calls_of_tc (N := 96) (vs := [.agg (netA n na nc), .slice la l.length lc, .agg (demA d)]) Try.func24 rfl rfl (Nat.le_of_ble_eq_true rfl) ?_
  refine tc_seq ?_
  refine tc_region ?_
  refine tl_box rfl (by decide) (fun b3_0 => ?_)
  refine tl_box rfl (by decide) (fun b5_1 => ?_)
  refine s0 (qv_assign rfl) ?_
  refine tl_nil (tp_normal ?_)
  refine tc_seq ?_
  refine tc_seq ?_
  refine tc_region ?_
  refine s0 (qv_ldBW (i := 1) ag_24 rfl rfl rfl) ?_
  refine s0 (qv_move rfl) ?_
  refine s0 (qv_call fn_33 rfl (fun w hm => right_calls w n na nc l la lc (hn.into Mem.has_base hm) hk (hl.into Mem.has_base hm))) ?_
  refine s0 (qv_assign rfl) ?_
  refine tl_nil (tp_normal ?_)
  refine tc_seq ?_
  refine tc_region ?_
  refine s0 (qv_move rfl) ?_
  refine sd (qv_neq rfl rfl) (fun c19 => ?_) (fun c19 => ?_)
  ·
    refine tl_nil (tp_normal ?_)
    refine tc_true rfl ?_
    refine tc_seq ?_
    refine tc_region ?_
    refine s0 (qv_move rfl) ?_
    refine s0 (qv_assign rfl) ?_
    refine tl_nil (tp_normal ?_)
    refine tc_ret (tp_then_ret (tp_end1 rfl rfl ?_))
    intro w' hm
    exact ⟨by rw [serves_right c19], hm.below⟩
  ·
    refine tl_nil (tp_normal ?_)
    refine tc_false rfl ?_
    refine tc_skip (tp_normal ?_)
    refine tc_seq ?_
    refine tc_seq ?_
    refine tc_region ?_
    refine s0 (qv_ldBW (i := 1) ag_24 rfl rfl rfl) ?_
    refine s0 (qv_ldBW (i := 0) ag_27 rfl rfl rfl) ?_
    refine sd (qv_call fn_55 rfl (fun w hm => demanded_calls w n na nc d (hn.into Mem.has_base hm) hk)) (fun c23 => ?_) (fun c23 => ?_)
    ·
      refine s0 (qv_not rfl) ?_
      refine tl_nil (tp_normal ?_)
      refine tc_false rfl ?_
      refine tc_skip (tp_normal ?_)
      refine tc_seq ?_
      refine tc_seq ?_
      refine tc_region ?_
      refine s0 (qv_ldBW (i := 1) ag_24 rfl rfl rfl) ?_
      refine s0 (qv_move rfl) ?_
      refine s0 (qv_call fn_35 rfl (fun w hm => fits_calls w n na nc l la lc (hn.into Mem.has_base hm) hk (hl.into Mem.has_base hm))) ?_
      refine s0 (qv_assign rfl) ?_
      refine tl_nil (tp_normal ?_)
      refine tc_seq ?_
      refine tc_region ?_
      refine s0 (qv_move rfl) ?_
      refine sd (qv_neq rfl rfl) (fun c29 => ?_) (fun c29 => ?_)
      ·
        refine tl_nil (tp_normal ?_)
        refine tc_true rfl ?_
        refine tc_seq ?_
        refine tc_region ?_
        refine s0 (qv_move rfl) ?_
        refine s0 (qv_assign rfl) ?_
        refine tl_nil (tp_normal ?_)
        refine tc_ret (tp_then_ret (tp_end1 rfl rfl ?_))
        intro w' hm
        exact ⟨by rw [serves_fits c19 c23 c29], hm.below⟩
      ·
        refine tl_nil (tp_normal ?_)
        refine tc_false rfl ?_
        refine tc_skip (tp_normal ?_)
        refine tc_seq ?_
        refine tc_seq ?_
        refine tc_region ?_
        refine s0 (qv_move rfl) ?_
        refine s0 (qv_len st_25 rfl) ?_
        refine s0 (qv_move rfl) ?_
        refine tl_nil (tp_normal ?_)
        refine tc_block (tc_loopS (fun (k : Nat) => [(33, .int .i64 (k : Int))]) (fun (k : Nat) => k ≤ l.length ∧ ∀ (j : Nat) x, j < k → l[j]? = some x → ¬ have' n l d (srcOf n x.link) x.tick < outOf n (l.take (j + 1)) (srcOf n x.link) x.tick) (fun (k : Nat) => l.length - k) (0) ⟨Nat.zero_le _, fun _ _ h => absurd h (Nat.not_lt_zero _)⟩ ⟨rfl, trivial⟩ ?_)
        rintro k hI
        refine tc_seq ?_
        refine tc_region ?_
        refine sd (qv_lss rfl rfl) (fun c34 => ?_) (fun c34 => ?_)
        ·
          refine tl_nil (tp_normal ?_)
          refine tc_seq ?_
          refine tc_true rfl ?_
          refine tc_skip (tp_normal ?_)
          refine tc_seq ?_
          refine tc_block ?_
          refine tc_seq ?_
          refine tc_region ?_
          refine s0 (qv_move rfl) ?_
          refine sn st_25 hl rfl rfl (by omega) (fun e36 he36 => ?_)
          refine s0 (qv_ldEW ag_70 hl Mem.has_base rfl he36) ?_
          refine tl_alloc ze_70 (by decide) (fun b10_2 => ?_)
          refine s0 (qv_assign rfl) ?_
          refine tl_storeL (i := 0) sz_70 (hl.szs _ (List.mem_of_getElem? he36)) (one_70 _) rfl rfl rfl rfl ?_
          refine tl_nil (tp_normal ?_)
          refine tc_seq ?_
          have hs := (right_zero (n := n) (l := l) (by omega)).send e36 (List.mem_of_getElem? he36)
          obtain ⟨hs0, hs1, hs2, hs3, hs4, hs5⟩ := hs
          refine tc_region ?_
          refine s0 (qv_fa fo_24_1 rfl) ?_
          refine s0 (qv_ldB (i := 2) sc_22 rfl rfl rfl) ?_
          refine s0 (qv_fa fo_70_0 rfl) ?_
          refine s0 (qv_ldB (i := 0) sc_3 rfl rfl rfl) ?_
          refine si st_22 hn rfl rfl (by omega) (fun e42 he42 => ?_)
          refine s0 (qv_fa fo_49_0 rfl) ?_
          refine s0 (qv_ldE (j := 0) sc_3 hn Mem.has_base rfl rfl he42 rfl) ?_
          refine s0 (qv_assign rfl) ?_
          refine s0 (qv_assign rfl) ?_
          refine tl_nil (tp_normal ?_)
          refine tc_seq ?_
          refine tc_seq ?_
          refine tc_region ?_
          refine s0 (qv_move rfl) ?_
          refine s0 (qv_move rfl) ?_
          refine s0 (qv_succ rfl rfl (by omega)) ?_
          refine s0 (qv_sliceN st_25 hl rfl rfl ⟨by omega, by omega⟩ (by omega)) ?_
          refine s0 (qv_len st_25 rfl) ?_
          refine s0 (qv_move rfl) ?_
          refine tl_nil (tp_normal ?_)
          refine tc_block (tc_loopS (fun (j : Nat) => [(50, .int .i64 (j : Int)), (12, .int .i64 (outOf n ((l.take (k + 1)).take j) e42.src e36.tick))]) (fun (j : Nat) => j ≤ (l.take (k + 1)).length) (fun (j : Nat) => (l.take (k + 1)).length - j) (0) (Nat.zero_le _) ⟨rfl, lk rfl (by simp [outOf, isum]), trivial⟩ ?_)
          rintro j hJ
          have hlt := List.length_take_le' (k + 1) l
          refine tc_seq ?_
          refine tc_region ?_
          refine sd (qv_lss rfl rfl) (fun c51 => ?_) (fun c51 => ?_)
          ·
            refine tl_nil (tp_normal ?_)
            refine tc_seq ?_
            refine tc_true rfl ?_
            refine tc_skip (tp_normal ?_)
            refine tc_seq ?_
            refine tc_block ?_
            refine tc_seq ?_
            refine tc_region ?_
            refine sn st_25 (hl.take (k + 1)) rfl rfl (by omega) (fun e52 he52 => ?_)
            refine s0 (qv_ldEW ag_70 (hl.take (k + 1)) Mem.has_base rfl he52) ?_
            refine tl_alloc ze_70 (by decide) (fun b14_3 => ?_)
            refine tl_storeL (i := 0) sz_70 ((hl.take (k + 1)).szs _ (List.mem_of_getElem? he52)) (one_70 _) rfl rfl rfl rfl ?_
            refine tl_nil (tp_normal ?_)
            refine tc_seq ?_
            have hs_ := (right_zero (n := n) (l := l) (by omega)).send e52 (mem_take (List.mem_of_getElem? he52))
            obtain ⟨ht0, ht1, ht2, ht3, ht4, ht5⟩ := hs_
            refine tc_region ?_
            refine s0 (qv_fa fo_70_1 rfl) ?_
            refine s0 (qv_ldB (i := 0) sc_3 rfl rfl rfl) ?_
            refine s0 (qv_fa fo_70_1 rfl) ?_
            refine s0 (qv_ldB (i := 1) sc_3 rfl rfl rfl) ?_
            refine sd (qv_eql rfl rfl) (fun c58 => ?_) (fun c58 => ?_)
            ·
              refine s0 (qv_move rfl) ?_
              refine s0g (qv_fa fo_24_1 rfl) ?_
              refine s0g (qv_ldB (i := 3) sc_22 rfl rfl rfl) ?_
              refine s0g (qv_fa fo_70_0 rfl) ?_
              refine s0g (qv_ldB (i := 0) sc_3 rfl rfl rfl) ?_
              refine sig st_22 hn rfl rfl (by omega) (fun e64 he64 => ?_)
              refine s0g (qv_fa fo_49_0 rfl) ?_
              refine s0g (qv_ldE (j := 0) sc_3 hn Mem.has_base rfl rfl he64 rfl) ?_
              refine s0g (qv_move rfl) ?_
              refine sdg (qv_eql rfl rfl) (fun c68 => ?_) (fun c68 => ?_)
              ·
                refine s0 (qv_pickT rfl rfl) ?_
                refine tl_nil (tp_normal ?_)
                refine tc_true rfl ?_
                have hb := outOf_bound (right_zero (n := n) (l := l) (by omega)) e42.src e36.tick (min j (k + 1))
                rw [← List.take_take] at hb
                refine tc_region ?_
                refine s0 (qv_move rfl) ?_
                refine s0 (qv_fa fo_70_2 rfl) ?_
                refine s0 (qv_ldB (i := 0) sc_3 rfl rfl rfl) ?_
                refine s0 (qv_addI rfl rfl (by omega)) ?_
                refine s0 (qv_assign rfl) ?_
                refine tl_nil (tp_block_normal (tp_normal ?_))
                refine tc_region ?_
                refine s0 (qv_succ rfl rfl (by omega)) ?_
                refine s0 (qv_move rfl) ?_
                exact tl_nil (tp_roundS (j + 1) (by omega) (by omega) ⟨rfl, lk rfl (by first | (rw [outOf_skip _ _ he52 c58]) | (rw [outOf_take _ _ he52 he64]; split <;> omega)), trivial⟩ rfl rfl rfl rfl)
              ·
                refine s0 (qv_pickT rfl rfl) ?_
                refine tl_nil (tp_normal ?_)
                refine tc_false rfl ?_
                refine tc_skip (tp_block_normal (tp_normal ?_))
                refine tc_region ?_
                refine s0 (qv_succ rfl rfl (by omega)) ?_
                refine s0 (qv_move rfl) ?_
                exact tl_nil (tp_roundS (j + 1) (by omega) (by omega) ⟨rfl, lk rfl (by first | (rw [outOf_skip _ _ he52 c58]) | (rw [outOf_take _ _ he52 he64]; split <;> omega)), trivial⟩ rfl rfl rfl rfl)
            ·
              refine s0 (qv_move rfl) ?_
              refine sk ?_
              refine sk ?_
              refine sk ?_
              refine sk ?_
              refine sk ?_
              refine sk ?_
              refine sk ?_
              refine sk ?_
              refine sk ?_
              refine s0 (qv_pickF rfl rfl) ?_
              refine tl_nil (tp_normal ?_)
              refine tc_false rfl ?_
              refine tc_skip (tp_block_normal (tp_normal ?_))
              refine tc_region ?_
              refine s0 (qv_succ rfl rfl (by omega)) ?_
              refine s0 (qv_move rfl) ?_
              exact tl_nil (tp_roundS (j + 1) (by omega) (by omega) ⟨rfl, lk rfl (by first | (rw [outOf_skip _ _ he52 c58]) | (rw [outOf_take _ _ he52 he64]; split <;> omega)), trivial⟩ rfl rfl rfl rfl)
          ·
            refine tl_nil (tp_normal ?_)
            refine tc_seq ?_
            refine tc_false rfl ?_
            refine tc_exit (tp_then_exit (tp_then_exit (tp_block_exit (tp_normal ?_))))
            refine tc_seq ?_
            refine tc_region ?_
            refine s0 (qv_move rfl) ?_
            refine s0 (qv_ldBW (i := 2) ag_24 rfl rfl rfl) ?_
            refine s0 (qv_move rfl) ?_
            refine s0 (qv_ldBW (i := 1) ag_27 rfl rfl rfl) ?_
            refine s0 (qv_move rfl) ?_
            refine s0 (qv_fa fo_70_1 rfl) ?_
            refine s0 (qv_ldB (i := 0) sc_3 rfl rfl rfl) ?_
            refine s0 (qv_call fn_56 rfl (fun w hm => stock_calls w n na nc l la lc d e42.src e36.tick (right_zero (n := n) (l := l) (by omega)) (dem_bytes (n := n) (d := d) (by assumption)) (hn.into Mem.has_base hm) hk (hl.into Mem.has_base hm))) ?_
            refine sd (qv_gtr rfl rfl) (fun c83 => ?_) (fun c83 => ?_)
            ·
              refine tl_nil (tp_normal ?_)
              refine tc_true rfl ?_
              refine tc_seq ?_
              refine tc_region ?_
              refine s0 (qv_assign rfl) ?_
              refine tl_nil (tp_normal ?_)
              refine tc_ret (tp_block_ret (tp_then_ret (tp_then_ret (tp_block_ret (tp_then_ret (tp_end1 rfl rfl ?_))))))
              intro w' hm
              exact ⟨by rw [serves_bad c19 c23 c29 he36 (bad_prefix (right_zero (by omega)) he36 he42 (by rw [SlSend_len j c51] at c83; exact c83))], hm.below⟩
            ·
              refine tl_nil (tp_normal ?_)
              refine tc_false rfl ?_
              refine tc_skip (tp_block_normal (tp_normal ?_))
              refine tc_region ?_
              refine s0 (qv_succ rfl rfl (by omega)) ?_
              refine s0 (qv_move rfl) ?_
              exact tl_nil (tp_roundS (k + 1) ⟨by omega, none_step (n := n) (P := fun j x => ¬ have' n l d (srcOf n x.link) x.tick < outOf n (l.take (j + 1)) (srcOf n x.link) x.tick) hI.2 he36 (by rw [srcOf_eq he42]; rw [SlSend_len j c51] at c83; exact c83)⟩ (by omega) ⟨rfl, trivial⟩ rfl rfl rfl rfl)
        ·
          refine tl_nil (tp_normal ?_)
          refine tc_seq ?_
          refine tc_false rfl ?_
          refine tc_exit (tp_then_exit (tp_then_exit (tp_block_exit (tp_normal ?_))))
          refine tc_seq ?_
          refine tc_seq ?_
          refine tc_draws mixed (by kernel_rfl) ?_
          refine q0 (qv_ldBW (i := 1) ag_24 rfl rfl rfl) ?_
          refine q0 (qv_move rfl) ?_
          refine q0 (qv_ldBW (i := 0) ag_27 rfl rfl rfl) ?_
          refine q0 (qv_fa fo_27_1 rfl) ?_
          refine q0 (qv_ldB (i := 0) sc_3 rfl rfl rfl) ?_
          refine q0 (qv_fa fo_27_4 rfl) ?_
          refine q0 (qv_ldB (i := 0) sc_3 rfl rfl rfl) ?_
          refine q0 (qv_call fn_56 rfl (fun w hm => stock_calls w n na nc l la lc d d.dst d.due (right_zero (n := n) (l := l) (by omega)) (dem_bytes (n := n) (d := d) (by assumption)) (hn.into Mem.has_base hm) hk (hl.into Mem.has_base hm))) ?_
          refine q0 (qv_fa fo_27_2 rfl) ?_
          refine q0 (qv_ldB (i := 0) sc_3 rfl rfl rfl) ?_
          refine qd (qv_lss rfl rfl) (fun c95 => ?_) (fun c95 => ?_)
          ·
            refine tq_nil (tp_normal ?_)
            refine tc_true rfl ?_
            refine tc_seq ?_
            refine tc_region ?_
            refine s0 (qv_assign rfl) ?_
            refine tl_nil (tp_normal ?_)
            refine tc_ret (tp_then_ret (tp_end1 rfl rfl ?_))
            intro w' hm
            exact ⟨by rw [serves_late c19 c23 c29 (no_bad (fun j x hx => hI.2 j x (by have := (List.getElem?_eq_some_iff.1 hx).1; omega) hx)), late, if_pos c95], hm.below⟩
          ·
            refine tq_nil (tp_normal ?_)
            refine tc_false rfl ?_
            refine tc_skip (tp_normal ?_)
            refine tc_seq ?_
            refine tc_region ?_
            refine s0 (qv_assign rfl) ?_
            refine tl_nil (tp_normal ?_)
            refine tc_ret (tp_end1 rfl rfl ?_)
            intro w' hm
            exact ⟨by rw [serves_late c19 c23 c29 (no_bad (fun j x hx => hI.2 j x (by have := (List.getElem?_eq_some_iff.1 hx).1; omega) hx)), late, if_neg c95], hm.below⟩
    ·
      refine s0 (qv_not rfl) ?_
      refine tl_nil (tp_normal ?_)
      refine tc_true rfl ?_
      refine tc_seq ?_
      refine tc_region ?_
      refine s0 (qv_assign rfl) ?_
      refine tl_nil (tp_normal ?_)
      refine tc_ret (tp_then_ret (tp_end1 rfl rfl ?_))
      intro w' hm
      exact ⟨by rw [serves_arg c19 c23], hm.below⟩

set_option maxRecDepth 100000 in
theorem arrives1_calls (w : World) (n : Net) (na : Option Addr) (nc : Nat) (l : List Send) (la : Option Addr) (lc : Nat) (d : Demand) (b1 b2 b3 : Nat) (tick : Int) (hb1 : w.heap[b1]? = some (.cells (demA d) 27 (0, 0))) (hb2 : w.heap[b2]? = some (.cells (netA n na nc) 24 (0, 0))) (hb3 : w.heap[b3]? = some (.cells #[.slice la l.length lc] 25 (0, 0))) (hgood : Sched n l) (hd0 : 0 ≤ d.bytes ∧ d.bytes ≤ 1099511627776) (hn : SlIn w 50 encLink na n.links) (hk : NetOk n) (hl : SlIn w 3 encSend la l) :
    Calls Try.prog 58 #[.int .i64 tick, .pointer (some ⟨b1, 0, none⟩), .pointer (some ⟨b2, 0, none⟩), .pointer (some ⟨b3, 0, none⟩)] w (fun e w' => e = .returned (.bool (decide (atOk n l d tick))) ∧ Below w.heap.size w w') := by
  refine calls_of_tc (N := 28) (vs := [.int .i64 tick, .pointer (some ⟨b1, 0, none⟩), .pointer (some ⟨b2, 0, none⟩), .pointer (some ⟨b3, 0, none⟩)]) Try.func58 rfl rfl (Nat.le_of_ble_eq_true rfl) ?_
  refine tc_seq ?_
  refine tc_region ?_
  refine s0 (qv_assign rfl) ?_
  refine tl_nil (tp_normal ?_)
  refine tc_seq ?_
  refine tc_draws mixed (by kernel_rfl) ?_
  refine q0 (qv_move rfl) ?_
  refine q0 (qv_fa fo_27_3 rfl) ?_
  refine q0 (qv_ldO sc_3 rfl hb1 rfl) ?_
  refine qd (qv_geq rfl rfl) (fun c9 => ?_) (fun c9 => ?_)
  ·
    refine q0 (qv_move rfl) ?_
    refine q0g (qv_move rfl) ?_
    refine q0g (qv_fa fo_27_4 rfl) ?_
    refine q0g (qv_ldO sc_3 rfl hb1 rfl) ?_
    refine qdg (qv_leq rfl rfl) (fun c14 => ?_) (fun c14 => ?_)
    ·
      refine q0 (qv_pickT rfl rfl) ?_
      refine q0 (qv_move rfl) ?_
      refine q0g (qv_ldOW ag_24 rfl hb2 rfl) ?_
      refine q0g (qv_ldO sc_25 rfl hb3 rfl) ?_
      refine q0g (qv_ldOW ag_27 rfl hb1 rfl) ?_
      refine q0g (qv_fa fo_27_1 rfl) ?_
      refine q0g (qv_ldO sc_3 rfl hb1 rfl) ?_
      refine q0g (qv_move rfl) ?_
      refine q0g (qv_call fn_56 rfl (fun w hm => stock_calls w n na nc l la lc d d.dst tick hgood hd0 (hn.into Mem.has_base hm) hk (hl.into Mem.has_base hm))) ?_
      refine q0g (qv_fa fo_27_2 rfl) ?_
      refine q0g (qv_ldO sc_3 rfl hb1 rfl) ?_
      refine q0g (qv_geq rfl rfl) ?_
      refine q0 (qv_pickT rfl rfl) ?_
      refine q0 (qv_assign rfl) ?_
      refine tq_nil (tp_normal ?_)
      refine tc_ret (tp_end1 rfl rfl ?_)
      intro w' hm
      exact ⟨by simp [atOk, *], hm.below⟩
    ·
      refine q0 (qv_pickT rfl rfl) ?_
      refine q0 (qv_move rfl) ?_
      refine qk ?_
      refine qk ?_
      refine qk ?_
      refine qk ?_
      refine qk ?_
      refine qk ?_
      refine qk ?_
      refine qk ?_
      refine qk ?_
      refine qk ?_
      refine q0 (qv_pickF rfl rfl) ?_
      refine q0 (qv_assign rfl) ?_
      refine tq_nil (tp_normal ?_)
      refine tc_ret (tp_end1 rfl rfl ?_)
      intro w' hm
      exact ⟨by simp [atOk, *], hm.below⟩
  ·
    refine q0 (qv_move rfl) ?_
    refine qk ?_
    refine qk ?_
    refine qk ?_
    refine qk ?_
    refine q0 (qv_pickF rfl rfl) ?_
    refine q0 (qv_move rfl) ?_
    refine qk ?_
    refine qk ?_
    refine qk ?_
    refine qk ?_
    refine qk ?_
    refine qk ?_
    refine qk ?_
    refine qk ?_
    refine qk ?_
    refine qk ?_
    refine q0 (qv_pickF rfl rfl) ?_
    refine q0 (qv_assign rfl) ?_
    refine tq_nil (tp_normal ?_)
    refine tc_ret (tp_end1 rfl rfl ?_)
    intro w' hm
    exact ⟨by simp [atOk, *], hm.below⟩

set_option maxRecDepth 100000 in
theorem arrives_calls (w : World) (n : Net) (na : Option Addr) (nc : Nat) (l : List Send) (la : Option Addr) (lc : Nat) (d : Demand) (hlc : l.length ≤ lc) (hn : SlIn w 50 encLink na n.links) (hk : NetOk n) (hl : SlIn w 3 encSend la l) :
    Calls Try.prog 28 #[.agg (netA n na nc), .slice la l.length lc, .agg (demA d)] w (fun e w' => e = .returned (.tuple #[.int .i64 (arrives n l d).1, .int .i64 (arrives n l d).2]) ∧ Below w.heap.size w w') := by
  have hlen := hl.len
  simp only [maxLen] at hlen
  have hlenn := hn.len
  simp only [maxLen] at hlenn
  refine calls_of_tc (N := 43) (vs := [.agg (netA n na nc), .slice la l.length lc, .agg (demA d)]) Try.func28 rfl rfl (Nat.le_of_ble_eq_true rfl) ?_
  refine tc_seq ?_
  refine tc_region ?_
  refine tl_box rfl (by decide) (fun b3_0 => ?_)
  refine tl_box rfl (by decide) (fun b4_1 => ?_)
  refine tl_box rfl (by decide) (fun b5_2 => ?_)
  refine s0 (qv_assign rfl) ?_
  refine s0 (qv_assign rfl) ?_
  refine tl_nil (tp_normal ?_)
  refine tc_seq ?_
  refine tc_seq ?_
  refine tc_region ?_
  refine s0 (qv_ldBW (i := 2) ag_24 rfl rfl rfl) ?_
  refine s0 (qv_ldB (i := 1) sc_25 rfl rfl rfl) ?_
  refine s0 (qv_ldBW (i := 0) ag_27 rfl rfl rfl) ?_
  refine s0 (qv_call fn_24 rfl (fun w hm => serves_calls w n na nc l la lc d hlc (hn.into Mem.has_base hm) hk (hl.into Mem.has_base hm))) ?_
  refine s0 (qv_assign rfl) ?_
  refine tl_nil (tp_normal ?_)
  refine tc_seq ?_
  refine tc_region ?_
  refine s0 (qv_move rfl) ?_
  refine sd (qv_neq rfl rfl) (fun c17 => ?_) (fun c17 => ?_)
  ·
    refine tl_nil (tp_normal ?_)
    refine tc_true rfl ?_
    refine tc_seq ?_
    refine tc_region ?_
    refine s0 (qv_move rfl) ?_
    refine s0 (qv_assign rfl) ?_
    refine s0 (qv_assign rfl) ?_
    refine tl_nil (tp_normal ?_)
    refine tc_ret (tp_then_ret (tp_end2 rfl rfl rfl ?_))
    intro w' hm
    exact ⟨by rw [arrives_err c17], hm.below⟩
  ·
    refine tl_nil (tp_normal ?_)
    refine tc_false rfl ?_
    refine tc_skip (tp_normal ?_)
    refine tc_seq ?_
    refine tc_region ?_
    refine s0 (qv_mk rfl) ?_
    refine s0 (qv_assign rfl) ?_
    refine tl_nil (tp_normal ?_)
    refine tc_seq ?_
    refine tc_seq ?_
    refine tc_region ?_
    refine s0 (qv_move rfl) ?_
    refine s0 (qv_fa fo_27_3 rfl) ?_
    refine s0 (qv_ldB (i := 0) sc_3 rfl rfl rfl) ?_
    refine sd (qv_callV fn_58 rfl rfl (fun w hm => arrives1_calls w n na nc l la lc d b5_2 b3_0 b4_1 d.ready (hm.boxOf (List.mem_of_getElem? (i := 0) rfl)).2 (hm.boxOf (List.mem_of_getElem? (i := 2) rfl)).2 (hm.boxOf (List.mem_of_getElem? (i := 1) rfl)).2 (right_zero (serves_zero (n := n) (l := l) (d := d) (by omega)).1) (dem_bytes (serves_zero (n := n) (l := l) (d := d) (by omega)).2.1) (hn.into Mem.has_base hm) hk (hl.into Mem.has_base hm))) (fun c23 => ?_) (fun c23 => ?_)
    ·
      refine tl_nil (tp_normal ?_)
      refine tc_true rfl ?_
      refine tc_seq ?_
      refine tc_region ?_
      refine s0 (qv_fa fo_27_3 rfl) ?_
      refine s0 (qv_ldB (i := 0) sc_3 rfl rfl rfl) ?_
      refine s0 (qv_assign rfl) ?_
      refine s0 (qv_assign rfl) ?_
      refine tl_nil (tp_normal ?_)
      refine tc_ret (tp_then_ret (tp_end2 rfl rfl rfl ?_))
      intro w' hm
      exact ⟨by rw [arrives_ok c17, arriveTick, if_pos c23]; rfl, hm.below⟩
    ·
      refine tl_nil (tp_normal ?_)
      refine tc_false rfl ?_
      refine tc_skip (tp_normal ?_)
      refine tc_seq ?_
      refine tc_seq ?_
      refine tc_region ?_
      refine s0 (qv_ldB (i := 1) sc_25 rfl rfl rfl) ?_
      refine s0 (qv_len st_25 rfl) ?_
      refine s0 (qv_move rfl) ?_
      refine tl_nil (tp_normal ?_)
      refine tc_block (tc_loopS (fun (k : Nat) => [(28, .int .i64 (k : Int))]) (fun (k : Nat) => k ≤ l.length ∧ arriveTick n l d = arriveFrom n l d (l.drop k)) (fun (k : Nat) => l.length - k) (0) ⟨Nat.zero_le _, by rw [arriveTick, if_neg c23]; rfl⟩ ⟨rfl, trivial⟩ ?_)
      rintro k hI
      refine tc_seq ?_
      refine tc_region ?_
      refine sd (qv_lss rfl rfl) (fun c29 => ?_) (fun c29 => ?_)
      ·
        refine tl_nil (tp_normal ?_)
        refine tc_seq ?_
        refine tc_true rfl ?_
        refine tc_skip (tp_normal ?_)
        refine tc_seq ?_
        refine tc_block ?_
        refine tc_seq ?_
        refine tc_region ?_
        refine sn st_25 hl rfl rfl (by omega) (fun e30 he30 => ?_)
        refine s0 (qv_ldEW ag_70 hl Mem.has_base rfl he30) ?_
        refine tl_alloc ze_70 (by decide) (fun b11_3 => ?_)
        refine tl_storeL (i := 0) sz_70 (hl.szs _ (List.mem_of_getElem? he30)) (one_70 _) rfl rfl rfl rfl ?_
        refine tl_nil (tp_normal ?_)
        refine tc_seq ?_
        have hs_ := (right_zero (serves_zero (n := n) (l := l) (d := d) (by omega)).1).send e30 (List.mem_of_getElem? he30)
        obtain ⟨ht0, ht1, ht2, ht3, ht4, ht5⟩ := hs_
        refine tc_region ?_
        refine s0 (qv_move rfl) ?_
        refine s0 (qv_fa fo_70_1 rfl) ?_
        refine s0 (qv_ldB (i := 0) sc_3 rfl rfl rfl) ?_
        refine s0 (qv_addI rfl rfl (by omega)) ?_
        refine sd (qv_callV fn_58 rfl rfl (fun w hm => arrives1_calls w n na nc l la lc d b5_2 b3_0 b4_1 (e30.tick + (1)) (hm.boxOf (List.mem_of_getElem? (i := 1) rfl)).2 (hm.boxOf (List.mem_of_getElem? (i := 3) rfl)).2 (hm.boxOf (List.mem_of_getElem? (i := 2) rfl)).2 (right_zero (serves_zero (n := n) (l := l) (d := d) (by omega)).1) (dem_bytes (serves_zero (n := n) (l := l) (d := d) (by omega)).2.1) (hn.into Mem.has_base hm) hk (hl.into Mem.has_base hm))) (fun c36 => ?_) (fun c36 => ?_)
        ·
          refine tl_nil (tp_normal ?_)
          refine tc_true rfl ?_
          refine tc_seq ?_
          refine tc_region ?_
          refine s0 (qv_fa fo_70_1 rfl) ?_
          refine s0 (qv_ldB (i := 0) sc_3 rfl rfl rfl) ?_
          refine s0 (qv_addI rfl rfl (by omega)) ?_
          refine s0 (qv_assign rfl) ?_
          refine s0 (qv_assign rfl) ?_
          refine tl_nil (tp_normal ?_)
          refine tc_ret (tp_block_ret (tp_then_ret (tp_then_ret (tp_block_ret (tp_then_ret (tp_end2 rfl rfl rfl ?_))))))
          intro w' hm
          exact ⟨by rw [arrives_ok c17, hI.2, arriveFrom_at he30, if_pos c36], hm.below⟩
        ·
          refine tl_nil (tp_normal ?_)
          refine tc_false rfl ?_
          refine tc_skip (tp_block_normal (tp_normal ?_))
          refine tc_region ?_
          refine s0 (qv_succ rfl rfl (by omega)) ?_
          refine s0 (qv_move rfl) ?_
          exact tl_nil (tp_roundS (k + 1) ⟨by omega, by rw [hI.2, arriveFrom_at he30, if_neg c36]⟩ (by omega) ⟨rfl, trivial⟩ rfl rfl rfl rfl)
      ·
        refine tl_nil (tp_normal ?_)
        refine tc_seq ?_
        refine tc_false rfl ?_
        refine tc_exit (tp_then_exit (tp_then_exit (tp_block_exit (tp_normal ?_))))
        refine tc_seq ?_
        refine tc_region ?_
        refine s0 (qv_fa fo_27_4 rfl) ?_
        refine s0 (qv_ldB (i := 0) sc_3 rfl rfl rfl) ?_
        refine s0 (qv_assign rfl) ?_
        refine s0 (qv_assign rfl) ?_
        refine tl_nil (tp_normal ?_)
        refine tc_ret (tp_end2 rfl rfl rfl ?_)
        intro w' hm
        exact ⟨by rw [arrives_ok c17, hI.2, List.drop_eq_nil_of_le (by omega)]; rfl, hm.below⟩

set_option maxRecDepth 100000 in
theorem rhave_calls (w : World) (n : Net) (na : Option Addr) (nc : Nat) (l : List Send) (la : Option Addr) (lc : Nat) (d : Demand) (house tick : Int) (hgood : Sched n l) (hd0 : 0 ≤ d.bytes ∧ d.bytes ≤ 1099511627776) (hn : SlIn w 50 encLink na n.links) (hk : NetOk n) (hl : SlIn w 3 encSend la l) :
    Calls Try.prog 67 #[.agg (netA n na nc), .slice la l.length lc, .agg (demA d), .int .i64 house, .int .i64 tick] w (fun e w' => e = .returned (.int .i64 (have' n l d house tick)) ∧ Below w.heap.size w w') := by
  have hlen := hl.len
  simp only [maxLen] at hlen
  have hlenn := hn.len
  simp only [maxLen] at hlenn
  refine calls_of_tc (N := 71) (vs := [.agg (netA n na nc), .slice la l.length lc, .agg (demA d), .int .i64 house, .int .i64 tick]) Try.func67 rfl rfl (Nat.le_of_ble_eq_true rfl) ?_
  refine tc_seq ?_
  refine tc_region ?_
  refine tl_box rfl (by decide) (fun b5_0 => ?_)
  refine tl_box rfl (by decide) (fun b7_1 => ?_)
  refine s0 (qv_assign rfl) ?_
  refine tl_nil (tp_normal ?_)
  refine tc_seq ?_
  refine tc_region ?_
  refine s0 (qv_assign rfl) ?_
  refine tl_nil (tp_normal ?_)
  refine tc_cut (fun (_u : Unit) => [(11, .int .i64 (have0 d house tick))]) (fun (_u : Unit) => True) ?_ ?_
  ·
    refine tc_seq ?_
    refine tc_region ?_
    refine s0 (qv_move rfl) ?_
    refine s0 (qv_fa fo_27_0 rfl) ?_
    refine s0 (qv_ldB (i := 0) sc_3 rfl rfl rfl) ?_
    refine sd (qv_eql rfl rfl) (fun c17 => ?_) (fun c17 => ?_)
    ·
      refine s0 (qv_move rfl) ?_
      refine s0g (qv_move rfl) ?_
      refine s0g (qv_fa fo_27_3 rfl) ?_
      refine s0g (qv_ldB (i := 0) sc_3 rfl rfl rfl) ?_
      refine sdg (qv_geq rfl rfl) (fun c22 => ?_) (fun c22 => ?_)
      ·
        refine s0 (qv_pickT rfl rfl) ?_
        refine tl_nil (tp_normal ?_)
        refine tc_true rfl ?_
        refine tc_region ?_
        refine s0 (qv_fa fo_27_2 rfl) ?_
        refine s0 (qv_ldB (i := 0) sc_3 rfl rfl rfl) ?_
        refine s0 (qv_assign rfl) ?_
        exact tl_nil (tp_cut (()) trivial ⟨lk rfl (by first | exact (have0_pos (by assumption) (by assumption)).symm | exact (have0_neg (by omega)).symm), trivial⟩ rfl rfl rfl rfl)
      ·
        refine s0 (qv_pickT rfl rfl) ?_
        refine tl_nil (tp_normal ?_)
        refine tc_false rfl ?_
        exact tc_skip (tp_cut (()) trivial ⟨lk rfl (by first | exact (have0_pos (by assumption) (by assumption)).symm | exact (have0_neg (by omega)).symm), trivial⟩ rfl rfl rfl rfl)
    ·
      refine s0 (qv_move rfl) ?_
      refine sk ?_
      refine sk ?_
      refine sk ?_
      refine sk ?_
      refine s0 (qv_pickF rfl rfl) ?_
      refine tl_nil (tp_normal ?_)
      refine tc_false rfl ?_
      exact tc_skip (tp_cut (()) trivial ⟨lk rfl (by first | exact (have0_pos (by assumption) (by assumption)).symm | exact (have0_neg (by omega)).symm), trivial⟩ rfl rfl rfl rfl)
  ·
    rintro _u hJ
    refine tc_seq ?_
    refine tc_seq ?_
    refine tc_region ?_
    refine s0 (qv_assign rfl) ?_
    refine tl_nil (tp_normal ?_)
    refine tc_block (tc_loopS (fun (k : Nat) => [(12, .int .i64 (k : Int)), (11, .int .i64 (have0 d house tick + chgSum house tick (changesOf n (l.take k))))]) (fun (k : Nat) => k ≤ l.length) (fun (k : Nat) => l.length - k) (0) (Nat.zero_le _) ⟨rfl, lk rfl (by simp [chgSum, isum, changesOf]), trivial⟩ ?_)
    rintro k hI
    refine tc_seq ?_
    refine tc_seq ?_
    refine tc_region ?_
    refine s0 (qv_move rfl) ?_
    refine s0 (qv_move rfl) ?_
    refine s0 (qv_len st_25 rfl) ?_
    refine sd (qv_lss rfl rfl) (fun c29 => ?_) (fun c29 => ?_)
    ·
      refine tl_nil (tp_normal ?_)
      refine tc_true rfl ?_
      refine tc_skip (tp_normal ?_)
      refine tc_seq ?_
      refine tc_block ?_
      refine tc_seq ?_
      refine tc_region ?_
      refine s0 (qv_move rfl) ?_
      refine s0 (qv_move rfl) ?_
      refine sn st_25 hl rfl rfl (by omega) (fun e34 he34 => ?_)
      refine s0 (qv_fa fo_70_1 rfl) ?_
      refine s0 (qv_ldE (j := 1) sc_3 hl Mem.has_base rfl rfl he34 rfl) ?_
      refine s0 (qv_move rfl) ?_
      refine sd (qv_lss rfl rfl) (fun c38 => ?_) (fun c38 => ?_)
      ·
        refine tl_nil (tp_normal ?_)
        refine tc_true rfl ?_
        refine tc_seq ?_
        have hb := chgSum_boundk hgood house tick k
        have h0_ := have0_bound hd0 house tick
        have hs_ := hgood.send e34 (List.mem_of_getElem? he34)
        obtain ⟨ht0, ht1, ht2, ht3, ht4, ht5⟩ := hs_
        refine tc_drawU 10 9 mixed (by kernel_rfl) ?_
        refine q0 (qv_fa fo_24_1 rfl) ?_
        refine q0 (qv_ldB (i := 1) sc_22 rfl rfl rfl) ?_
        refine q0 (qv_move rfl) ?_
        refine q0 (qv_move rfl) ?_
        refine qn st_25 hl rfl rfl (by omega) (fun e43 he43 => ?_)
        obtain rfl : e34 = e43 := Option.some.inj (he34.symm.trans he43)
        refine q0 (qv_fa fo_70_0 rfl) ?_
        refine q0 (qv_ldE (j := 0) sc_3 hl Mem.has_base rfl rfl he34 rfl) ?_
        refine qi st_22 hn rfl rfl (by omega) (fun e46 he46 => ?_)
        refine q0 (qv_ldEW ag_49 hn Mem.has_base rfl he46) ?_
        refine tq_up ?_
        refine tu_one 9 ?_ (by kernel_rfl) (by kernel_rfl) (by kernel_rfl)
        refine tg_alloc ze_49 (fun b13_2 => ?_) (fun _ _ h => hD_drop rfl rfl _ h)
        refine tu_tail rfl rfl rfl (by kernel_rfl) ?_
        refine tl_storeL (i := 0) sz_49 (hn.szs _ (List.mem_of_getElem? he46)) (one_49 _) rfl rfl rfl rfl ?_
        refine tl_nil (tp_normal ?_)
        refine tc_seq ?_
        refine tc_seq ?_
        refine tc_region ?_
        refine s0 (qv_fa fo_49_1 rfl) ?_
        refine s0 (qv_ldB (i := 0) sc_3 rfl rfl rfl) ?_
        refine s0 (qv_move rfl) ?_
        refine sd (qv_eql rfl rfl) (fun c51 => ?_) (fun c51 => ?_)
        ·
          refine tl_nil (tp_normal ?_)
          refine tc_true rfl ?_
          refine tc_region ?_
          refine s0 (qv_move rfl) ?_
          refine s0 (qv_move rfl) ?_
          refine s0 (qv_move rfl) ?_
          refine sn st_25 hl rfl rfl (by omega) (fun e55 he55 => ?_)
          obtain rfl : e34 = e55 := Option.some.inj (he34.symm.trans he55)
          refine s0 (qv_fa fo_70_2 rfl) ?_
          refine s0 (qv_ldE (j := 2) sc_3 hl Mem.has_base rfl rfl he34 rfl) ?_
          refine s0 (qv_addI rfl rfl (by omega)) ?_
          refine s0 (qv_assign rfl) ?_
          refine tl_nil (tp_normal ?_)
          refine tc_seq ?_
          refine tc_region ?_
          refine s0 (qv_fa fo_49_0 rfl) ?_
          refine s0 (qv_ldB (i := 0) sc_3 rfl rfl rfl) ?_
          refine s0 (qv_move rfl) ?_
          refine sd (qv_eql rfl rfl) (fun c62 => ?_) (fun c62 => ?_)
          ·
            refine tl_nil (tp_normal ?_)
            refine tc_true rfl ?_
            refine tc_region ?_
            refine s0 (qv_move rfl) ?_
            refine s0 (qv_move rfl) ?_
            refine s0 (qv_move rfl) ?_
            refine sn st_25 hl rfl rfl (by omega) (fun e66 he66 => ?_)
            obtain rfl : e34 = e66 := Option.some.inj (he34.symm.trans he66)
            refine s0 (qv_fa fo_70_2 rfl) ?_
            refine s0 (qv_ldE (j := 2) sc_3 hl Mem.has_base rfl rfl he34 rfl) ?_
            refine s0 (qv_subI rfl rfl (by omega)) ?_
            refine s0 (qv_assign rfl) ?_
            refine tl_nil (tp_block_normal (tp_normal ?_))
            refine tc_region ?_
            refine s0 (qv_move rfl) ?_
            refine s0 (qv_succ rfl rfl (by omega)) ?_
            refine s0 (qv_assign rfl) ?_
            exact tl_nil (tp_roundS (k + 1) (by omega) (by omega) ⟨rfl, lk rfl (by first | (rw [chgSum_skip _ _ he34 c38]) | (rw [chgSum_take _ _ he34 he46]; split <;> split <;> omega)), trivial⟩ rfl rfl rfl rfl)
          ·
            refine tl_nil (tp_normal ?_)
            refine tc_false rfl ?_
            refine tc_skip (tp_block_normal (tp_normal ?_))
            refine tc_region ?_
            refine s0 (qv_move rfl) ?_
            refine s0 (qv_succ rfl rfl (by omega)) ?_
            refine s0 (qv_assign rfl) ?_
            exact tl_nil (tp_roundS (k + 1) (by omega) (by omega) ⟨rfl, lk rfl (by first | (rw [chgSum_skip _ _ he34 c38]) | (rw [chgSum_take _ _ he34 he46]; split <;> split <;> omega)), trivial⟩ rfl rfl rfl rfl)
        ·
          refine tl_nil (tp_normal ?_)
          refine tc_false rfl ?_
          refine tc_skip (tp_normal ?_)
          refine tc_seq ?_
          refine tc_region ?_
          refine s0 (qv_fa fo_49_0 rfl) ?_
          refine s0 (qv_ldB (i := 0) sc_3 rfl rfl rfl) ?_
          refine s0 (qv_move rfl) ?_
          refine sd (qv_eql rfl rfl) (fun c62 => ?_) (fun c62 => ?_)
          ·
            refine tl_nil (tp_normal ?_)
            refine tc_true rfl ?_
            refine tc_region ?_
            refine s0 (qv_move rfl) ?_
            refine s0 (qv_move rfl) ?_
            refine s0 (qv_move rfl) ?_
            refine sn st_25 hl rfl rfl (by omega) (fun e66 he66 => ?_)
            obtain rfl : e34 = e66 := Option.some.inj (he34.symm.trans he66)
            refine s0 (qv_fa fo_70_2 rfl) ?_
            refine s0 (qv_ldE (j := 2) sc_3 hl Mem.has_base rfl rfl he34 rfl) ?_
            refine s0 (qv_subI rfl rfl (by omega)) ?_
            refine s0 (qv_assign rfl) ?_
            refine tl_nil (tp_block_normal (tp_normal ?_))
            refine tc_region ?_
            refine s0 (qv_move rfl) ?_
            refine s0 (qv_succ rfl rfl (by omega)) ?_
            refine s0 (qv_assign rfl) ?_
            exact tl_nil (tp_roundS (k + 1) (by omega) (by omega) ⟨rfl, lk rfl (by first | (rw [chgSum_skip _ _ he34 c38]) | (rw [chgSum_take _ _ he34 he46]; split <;> split <;> omega)), trivial⟩ rfl rfl rfl rfl)
          ·
            refine tl_nil (tp_normal ?_)
            refine tc_false rfl ?_
            refine tc_skip (tp_block_normal (tp_normal ?_))
            refine tc_region ?_
            refine s0 (qv_move rfl) ?_
            refine s0 (qv_succ rfl rfl (by omega)) ?_
            refine s0 (qv_assign rfl) ?_
            exact tl_nil (tp_roundS (k + 1) (by omega) (by omega) ⟨rfl, lk rfl (by first | (rw [chgSum_skip _ _ he34 c38]) | (rw [chgSum_take _ _ he34 he46]; split <;> split <;> omega)), trivial⟩ rfl rfl rfl rfl)
      ·
        refine tl_nil (tp_normal ?_)
        refine tc_false rfl ?_
        refine tc_skip (tp_block_normal (tp_normal ?_))
        refine tc_region ?_
        refine s0 (qv_move rfl) ?_
        refine s0 (qv_succ rfl rfl (by omega)) ?_
        refine s0 (qv_assign rfl) ?_
        exact tl_nil (tp_roundS (k + 1) (by omega) (by omega) ⟨rfl, lk rfl (by first | (rw [chgSum_skip _ _ he34 c38]) | (rw [chgSum_take _ _ he34 he46]; split <;> split <;> omega)), trivial⟩ rfl rfl rfl rfl)
    ·
      refine tl_nil (tp_normal ?_)
      refine tc_false rfl ?_
      refine tc_exit (tp_then_exit (tp_then_exit (tp_block_exit (tp_normal ?_))))
      refine tc_seq ?_
      refine tc_region ?_
      refine s0 (qv_move rfl) ?_
      refine s0 (qv_assign rfl) ?_
      refine tl_nil (tp_normal ?_)
      refine tc_ret (tp_end1 rfl rfl ?_)
      intro w' hm
      exact ⟨by rw [SlSend_len k c29]; rfl, hm.below⟩

set_option maxRecDepth 100000 in
theorem rStock_calls (w : World) (n : Net) (na : Option Addr) (nc : Nat) (l : List Send) (la : Option Addr) (lc : Nat) (d : Demand) (house tick : Int) (hn : SlIn w 50 encLink na n.links) (hk : NetOk n) (hl : SlIn w 3 encSend la l) :
    Calls Try.prog 44 #[.agg (netA n na nc), .slice la l.length lc, .agg (demA d), .int .i64 house, .int .i64 tick] w (fun e w' => e = .returned (.agg #[.int .i64 (stock n l d house tick).1, .int .i64 (stock n l d house tick).2]) ∧ Below w.heap.size w w') := by
  refine calls_of_tc (N := 49) (vs := [.agg (netA n na nc), .slice la l.length lc, .agg (demA d), .int .i64 house, .int .i64 tick]) Try.func44 rfl rfl (Nat.le_of_ble_eq_true rfl) ?_
  refine tc_seq ?_
  refine tc_region ?_
  refine tl_box rfl (by decide) (fun b5_0 => ?_)
  refine tl_box rfl (by decide) (fun b7_1 => ?_)
  refine tl_alloc ze_57 (by decide) (fun b10_2 => ?_)
  refine tl_nil (tp_normal ?_)
  refine tc_seq ?_
  refine tc_region ?_
  refine s0 (qv_ldBW (i := 2) ag_24 rfl rfl rfl) ?_
  refine s0 (qv_move rfl) ?_
  refine s0 (qv_call fn_34 rfl (fun w hm => rright_calls w n na nc l la lc (hn.into Mem.has_base hm) hk (hl.into Mem.has_base hm))) ?_
  refine s0 (qv_assign rfl) ?_
  refine tl_nil (tp_normal ?_)
  refine tc_seq ?_
  refine tc_seq ?_
  refine tc_region ?_
  refine s0 (qv_move rfl) ?_
  refine sd (qv_neq rfl rfl) (fun c18 => ?_) (fun c18 => ?_)
  ·
    refine tl_nil (tp_normal ?_)
    refine tc_true rfl ?_
    refine tc_seq ?_
    refine tc_region ?_
    refine s0 (qv_move rfl) ?_
    refine s0 (qv_build bt_57 rfl rfl) ?_
    refine tl_storeO (i := 0) sz_57 rfl rfl rfl rfl rfl rfl rfl ?_
    refine tl_nil (tp_normal ?_)
    refine tc_ret (tp_then_ret (tp_endC (i := 0) rfl rfl ag_57 rfl rfl ?_))
    intro w' hm
    exact ⟨by rw [stock_err c18]; rfl, hm.below⟩
  ·
    refine tl_nil (tp_normal ?_)
    refine tc_false rfl ?_
    refine tc_skip (tp_normal ?_)
    refine tc_seq ?_
    refine tc_region ?_
    refine s0 (qv_ldBW (i := 2) ag_24 rfl rfl rfl) ?_
    refine s0 (qv_ldBW (i := 1) ag_27 rfl rfl rfl) ?_
    refine sd (qv_call fn_50 rfl (fun w hm => rdemand_calls w n na nc d (hn.into Mem.has_base hm) hk)) (fun c23 => ?_) (fun c23 => ?_)
    ·
      refine s0 (qv_assign rfl) ?_
      refine tl_nil (tp_normal ?_)
      refine tc_seq ?_
      refine tc_region ?_
      refine s0 (qv_ldBW (i := 2) ag_24 rfl rfl rfl) ?_
      refine s0 (qv_move rfl) ?_
      refine sd (qv_call fn_66 rfl (fun w hm => rhouse_calls w n na nc house (hn.into Mem.has_base hm) hk)) (fun c26 => ?_) (fun c26 => ?_)
      ·
        refine s0 (qv_assign rfl) ?_
        refine tl_nil (tp_normal ?_)
        refine tc_seq ?_
        refine tc_seq ?_
        refine tc_region ?_
        refine s0 (qv_move rfl) ?_
        refine s0 (qv_not rfl) ?_
        refine s0 (qv_move rfl) ?_
        refine s0g (qv_move rfl) ?_
        refine s0g (qv_not rfl) ?_
        refine s0 (qv_pickF rfl rfl) ?_
        refine s0 (qv_move rfl) ?_
        refine s0g (qv_move rfl) ?_
        refine sdg (qv_lss rfl rfl) (fun c35 => ?_) (fun c35 => ?_)
        ·
          refine s0 (qv_pickF rfl rfl) ?_
          refine s0 (qv_move rfl) ?_
          refine sk ?_
          refine sk ?_
          refine s0 (qv_pickT rfl rfl) ?_
          refine tl_nil (tp_normal ?_)
          refine tc_true rfl ?_
          refine tc_seq ?_
          refine tc_region ?_
          refine s0 (qv_build bt_57 rfl rfl) ?_
          refine tl_storeO (i := 0) sz_57 rfl rfl rfl rfl rfl rfl rfl ?_
          refine tl_nil (tp_normal ?_)
          refine tc_ret (tp_then_ret (tp_endC (i := 0) rfl rfl ag_57 rfl rfl ?_))
          intro w' hm
          exact ⟨by rw [stock_arg c18 (by first | exact .inl (by assumption) | exact .inr (.inl (by assumption)) | exact .inr (.inl (by unfold isHouse; omega)) | exact .inr (.inr (by omega)))]; rfl, hm.below⟩
        ·
          refine s0 (qv_pickF rfl rfl) ?_
          refine s0 (qv_move rfl) ?_
          refine s0g (qv_move rfl) ?_
          refine sdg (qv_gtr rfl rfl) (fun c39 => ?_) (fun c39 => ?_)
          ·
            refine s0 (qv_pickF rfl rfl) ?_
            refine tl_nil (tp_normal ?_)
            refine tc_true rfl ?_
            refine tc_seq ?_
            refine tc_region ?_
            refine s0 (qv_build bt_57 rfl rfl) ?_
            refine tl_storeO (i := 0) sz_57 rfl rfl rfl rfl rfl rfl rfl ?_
            refine tl_nil (tp_normal ?_)
            refine tc_ret (tp_then_ret (tp_endC (i := 0) rfl rfl ag_57 rfl rfl ?_))
            intro w' hm
            exact ⟨by rw [stock_arg c18 (by first | exact .inl (by assumption) | exact .inr (.inl (by assumption)) | exact .inr (.inl (by unfold isHouse; omega)) | exact .inr (.inr (by omega)))]; rfl, hm.below⟩
          ·
            refine s0 (qv_pickF rfl rfl) ?_
            refine tl_nil (tp_normal ?_)
            refine tc_false rfl ?_
            refine tc_skip (tp_normal ?_)
            refine tc_seq ?_
            refine tc_region ?_
            refine s0 (qv_ldBW (i := 2) ag_24 rfl rfl rfl) ?_
            refine s0 (qv_move rfl) ?_
            refine s0 (qv_ldBW (i := 1) ag_27 rfl rfl rfl) ?_
            refine s0 (qv_move rfl) ?_
            refine s0 (qv_move rfl) ?_
            refine s0 (qv_call fn_67 rfl (fun w hm => rhave_calls w n na nc l la lc d house tick (right_zero (n := n) (l := l) (by omega)) (dem_bytes (n := n) (d := d) (by assumption)) (hn.into Mem.has_base hm) hk (hl.into Mem.has_base hm))) ?_
            refine s0 (qv_build bt_57 rfl rfl) ?_
            refine tl_storeO (i := 0) sz_57 rfl rfl rfl rfl rfl rfl rfl ?_
            refine tl_nil (tp_normal ?_)
            refine tc_ret (tp_endC (i := 0) rfl rfl ag_57 rfl rfl ?_)
            intro w' hm
            exact ⟨by rw [stock_ok c18 c23 c26 (by omega) (by omega)]; rfl, hm.below⟩
      ·
        refine s0 (qv_assign rfl) ?_
        refine tl_nil (tp_normal ?_)
        refine tc_seq ?_
        refine tc_seq ?_
        refine tc_region ?_
        refine s0 (qv_move rfl) ?_
        refine s0 (qv_not rfl) ?_
        refine s0 (qv_move rfl) ?_
        refine s0g (qv_move rfl) ?_
        refine s0g (qv_not rfl) ?_
        refine s0 (qv_pickF rfl rfl) ?_
        refine s0 (qv_move rfl) ?_
        refine sk ?_
        refine sk ?_
        refine s0 (qv_pickT rfl rfl) ?_
        refine s0 (qv_move rfl) ?_
        refine sk ?_
        refine sk ?_
        refine s0 (qv_pickT rfl rfl) ?_
        refine tl_nil (tp_normal ?_)
        refine tc_true rfl ?_
        refine tc_seq ?_
        refine tc_region ?_
        refine s0 (qv_build bt_57 rfl rfl) ?_
        refine tl_storeO (i := 0) sz_57 rfl rfl rfl rfl rfl rfl rfl ?_
        refine tl_nil (tp_normal ?_)
        refine tc_ret (tp_then_ret (tp_endC (i := 0) rfl rfl ag_57 rfl rfl ?_))
        intro w' hm
        exact ⟨by rw [stock_arg c18 (by first | exact .inl (by assumption) | exact .inr (.inl (by assumption)) | exact .inr (.inl (by unfold isHouse; omega)) | exact .inr (.inr (by omega)))]; rfl, hm.below⟩
    ·
      refine s0 (qv_assign rfl) ?_
      refine tl_nil (tp_normal ?_)
      refine tc_seq ?_
      refine tc_region ?_
      refine s0 (qv_ldBW (i := 2) ag_24 rfl rfl rfl) ?_
      refine s0 (qv_move rfl) ?_
      refine sd (qv_call fn_66 rfl (fun w hm => rhouse_calls w n na nc house (hn.into Mem.has_base hm) hk)) (fun c26 => ?_) (fun c26 => ?_)
      ·
        refine s0 (qv_assign rfl) ?_
        refine tl_nil (tp_normal ?_)
        refine tc_seq ?_
        refine tc_seq ?_
        refine tc_region ?_
        refine s0 (qv_move rfl) ?_
        refine s0 (qv_not rfl) ?_
        refine s0 (qv_move rfl) ?_
        refine sk ?_
        refine sk ?_
        refine s0 (qv_pickT rfl rfl) ?_
        refine s0 (qv_move rfl) ?_
        refine sk ?_
        refine sk ?_
        refine s0 (qv_pickT rfl rfl) ?_
        refine s0 (qv_move rfl) ?_
        refine sk ?_
        refine sk ?_
        refine s0 (qv_pickT rfl rfl) ?_
        refine tl_nil (tp_normal ?_)
        refine tc_true rfl ?_
        refine tc_seq ?_
        refine tc_region ?_
        refine s0 (qv_build bt_57 rfl rfl) ?_
        refine tl_storeO (i := 0) sz_57 rfl rfl rfl rfl rfl rfl rfl ?_
        refine tl_nil (tp_normal ?_)
        refine tc_ret (tp_then_ret (tp_endC (i := 0) rfl rfl ag_57 rfl rfl ?_))
        intro w' hm
        exact ⟨by rw [stock_arg c18 (by first | exact .inl (by assumption) | exact .inr (.inl (by assumption)) | exact .inr (.inl (by unfold isHouse; omega)) | exact .inr (.inr (by omega)))]; rfl, hm.below⟩
      ·
        refine s0 (qv_assign rfl) ?_
        refine tl_nil (tp_normal ?_)
        refine tc_seq ?_
        refine tc_seq ?_
        refine tc_region ?_
        refine s0 (qv_move rfl) ?_
        refine s0 (qv_not rfl) ?_
        refine s0 (qv_move rfl) ?_
        refine sk ?_
        refine sk ?_
        refine s0 (qv_pickT rfl rfl) ?_
        refine s0 (qv_move rfl) ?_
        refine sk ?_
        refine sk ?_
        refine s0 (qv_pickT rfl rfl) ?_
        refine s0 (qv_move rfl) ?_
        refine sk ?_
        refine sk ?_
        refine s0 (qv_pickT rfl rfl) ?_
        refine tl_nil (tp_normal ?_)
        refine tc_true rfl ?_
        refine tc_seq ?_
        refine tc_region ?_
        refine s0 (qv_build bt_57 rfl rfl) ?_
        refine tl_storeO (i := 0) sz_57 rfl rfl rfl rfl rfl rfl rfl ?_
        refine tl_nil (tp_normal ?_)
        refine tc_ret (tp_then_ret (tp_endC (i := 0) rfl rfl ag_57 rfl rfl ?_))
        intro w' hm
        exact ⟨by rw [stock_arg c18 (by first | exact .inl (by assumption) | exact .inr (.inl (by assumption)) | exact .inr (.inl (by unfold isHouse; omega)) | exact .inr (.inr (by omega)))]; rfl, hm.below⟩

set_option maxRecDepth 100000 in
theorem rserves_calls (w : World) (n : Net) (na : Option Addr) (nc : Nat) (l : List Send) (la : Option Addr) (lc : Nat) (d : Demand) (hn : SlIn w 50 encLink na n.links) (hk : NetOk n) (hl : SlIn w 3 encSend la l) :
    Calls Try.prog 46 #[.agg (netA n na nc), .slice la l.length lc, .agg (demA d)] w (fun e w' => e = .returned (.int .i64 (serves n l d)) ∧ Below w.heap.size w w') := by
  have hlen := hl.len
  simp only [maxLen] at hlen
  have hlenn := hn.len
  simp only [maxLen] at hlenn
  refine calls_of_tc (N := 107) (vs := [.agg (netA n na nc), .slice la l.length lc, .agg (demA d)]) Try.func46 rfl rfl (Nat.le_of_ble_eq_true rfl) ?_
  refine tc_seq ?_
  refine tc_region ?_
  refine tl_box rfl (by decide) (fun b3_0 => ?_)
  refine tl_box rfl (by decide) (fun b5_1 => ?_)
  refine s0 (qv_assign rfl) ?_
  refine tl_nil (tp_normal ?_)
  refine tc_seq ?_
  refine tc_region ?_
  refine s0 (qv_ldBW (i := 1) ag_24 rfl rfl rfl) ?_
  refine s0 (qv_move rfl) ?_
  refine s0 (qv_call fn_34 rfl (fun w hm => rright_calls w n na nc l la lc (hn.into Mem.has_base hm) hk (hl.into Mem.has_base hm))) ?_
  refine s0 (qv_assign rfl) ?_
  refine tl_nil (tp_normal ?_)
  refine tc_seq ?_
  refine tc_seq ?_
  refine tc_region ?_
  refine s0 (qv_move rfl) ?_
  refine sd (qv_neq rfl rfl) (fun c17 => ?_) (fun c17 => ?_)
  ·
    refine tl_nil (tp_normal ?_)
    refine tc_true rfl ?_
    refine tc_seq ?_
    refine tc_region ?_
    refine s0 (qv_move rfl) ?_
    refine s0 (qv_assign rfl) ?_
    refine tl_nil (tp_normal ?_)
    refine tc_ret (tp_then_ret (tp_end1 rfl rfl ?_))
    intro w' hm
    exact ⟨by rw [serves_right c17], hm.below⟩
  ·
    refine tl_nil (tp_normal ?_)
    refine tc_false rfl ?_
    refine tc_skip (tp_normal ?_)
    refine tc_seq ?_
    refine tc_region ?_
    refine s0 (qv_ldBW (i := 1) ag_24 rfl rfl rfl) ?_
    refine s0 (qv_ldBW (i := 0) ag_27 rfl rfl rfl) ?_
    refine sd (qv_call fn_50 rfl (fun w hm => rdemand_calls w n na nc d (hn.into Mem.has_base hm) hk)) (fun c21 => ?_) (fun c21 => ?_)
    ·
      refine s0 (qv_assign rfl) ?_
      refine tl_nil (tp_normal ?_)
      refine tc_seq ?_
      refine tc_seq ?_
      refine tc_region ?_
      refine s0 (qv_move rfl) ?_
      refine s0 (qv_not rfl) ?_
      refine tl_nil (tp_normal ?_)
      refine tc_false rfl ?_
      refine tc_skip (tp_normal ?_)
      refine tc_seq ?_
      refine tc_region ?_
      refine s0 (qv_ldBW (i := 1) ag_24 rfl rfl rfl) ?_
      refine s0 (qv_move rfl) ?_
      refine s0 (qv_call fn_36 rfl (fun w hm => rfits_calls w n na nc l la lc (hn.into Mem.has_base hm) hk (hl.into Mem.has_base hm))) ?_
      refine s0 (qv_assign rfl) ?_
      refine tl_nil (tp_normal ?_)
      refine tc_seq ?_
      refine tc_seq ?_
      refine tc_region ?_
      refine s0 (qv_move rfl) ?_
      refine sd (qv_neq rfl rfl) (fun c28 => ?_) (fun c28 => ?_)
      ·
        refine tl_nil (tp_normal ?_)
        refine tc_true rfl ?_
        refine tc_seq ?_
        refine tc_region ?_
        refine s0 (qv_move rfl) ?_
        refine s0 (qv_assign rfl) ?_
        refine tl_nil (tp_normal ?_)
        refine tc_ret (tp_then_ret (tp_end1 rfl rfl ?_))
        intro w' hm
        exact ⟨by rw [serves_fits c17 c21 c28], hm.below⟩
      ·
        refine tl_nil (tp_normal ?_)
        refine tc_false rfl ?_
        refine tc_skip (tp_normal ?_)
        refine tc_seq ?_
        refine tc_seq ?_
        refine tc_region ?_
        refine s0 (qv_assign rfl) ?_
        refine tl_nil (tp_normal ?_)
        refine tc_block (tc_loopS (fun (k : Nat) => [(9, .int .i64 (k : Int))]) (fun (k : Nat) => k ≤ l.length ∧ ∀ (j : Nat) x, j < k → l[j]? = some x → ¬ bad n l d x) (fun (k : Nat) => l.length - k) (0) ⟨Nat.zero_le _, fun _ _ h => absurd h (Nat.not_lt_zero _)⟩ ⟨rfl, trivial⟩ ?_)
        rintro k hI
        refine tc_seq ?_
        refine tc_seq ?_
        refine tc_region ?_
        refine s0 (qv_move rfl) ?_
        refine s0 (qv_move rfl) ?_
        refine s0 (qv_len st_25 rfl) ?_
        refine sd (qv_lss rfl rfl) (fun c33 => ?_) (fun c33 => ?_)
        ·
          refine tl_nil (tp_normal ?_)
          refine tc_true rfl ?_
          refine tc_skip (tp_normal ?_)
          refine tc_seq ?_
          refine tc_block ?_
          refine tc_seq ?_
          refine tc_draws mixed (by kernel_rfl) ?_
          refine q0 (qv_fa fo_24_1 rfl) ?_
          refine q0 (qv_ldB (i := 1) sc_22 rfl rfl rfl) ?_
          refine q0 (qv_move rfl) ?_
          refine q0 (qv_move rfl) ?_
          refine qn st_25 hl rfl rfl (by omega) (fun e40 he40 => ?_)
          refine q0 (qv_fa fo_70_0 rfl) ?_
          have hs := (right_zero (n := n) (l := l) (by omega)).send e40 (List.mem_of_getElem? he40)
          obtain ⟨hs0, hs1, hs2, hs3, hs4, hs5⟩ := hs
          refine q0 (qv_ldE (j := 0) sc_3 hl Mem.has_base rfl rfl he40 rfl) ?_
          refine qi st_22 hn rfl rfl (by omega) (fun e43 he43 => ?_)
          refine q0 (qv_fa fo_49_0 rfl) ?_
          refine q0 (qv_ldE (j := 0) sc_3 hn Mem.has_base rfl rfl he43 rfl) ?_
          refine q0 (qv_assign rfl) ?_
          refine tq_nil (tp_normal ?_)
          refine tc_seq ?_
          refine tc_region ?_
          refine s0 (qv_assign rfl) ?_
          refine tl_nil (tp_normal ?_)
          refine tc_seq ?_
          refine tc_seq ?_
          refine tc_region ?_
          refine s0 (qv_assign rfl) ?_
          refine tl_nil (tp_normal ?_)
          refine tc_block (tc_loopS (fun (i : Nat) => [(12, .int .i64 (i : Int)), (11, .int .i64 (outOf n (l.take i) e43.src e40.tick))]) (fun (i : Nat) => i ≤ l.length) (fun (i : Nat) => l.length - i) (0) (Nat.zero_le _) ⟨rfl, lk rfl (by simp [outOf, isum]), trivial⟩ ?_)
          rintro i hJ
          refine tc_seq ?_
          refine tc_seq ?_
          refine tc_region ?_
          refine s0 (qv_move rfl) ?_
          refine s0 (qv_move rfl) ?_
          refine s0 (qv_len st_25 rfl) ?_
          refine sd (qv_lss rfl rfl) (fun c49 => ?_) (fun c49 => ?_)
          ·
            refine tl_nil (tp_normal ?_)
            refine tc_true rfl ?_
            refine tc_skip (tp_normal ?_)
            refine tc_seq ?_
            refine tc_block ?_
            refine tc_seq ?_
            refine tc_draws mixed (by kernel_rfl) ?_
            refine q0 (qv_move rfl) ?_
            refine q0 (qv_move rfl) ?_
            refine qn st_25 hl rfl rfl (by omega) (fun e54 he54 => ?_)
            have hs_ := (right_zero (n := n) (l := l) (by omega)).send e54 (List.mem_of_getElem? he54)
            obtain ⟨ht0, ht1, ht2, ht3, ht4, ht5⟩ := hs_
            refine q0 (qv_fa fo_70_1 rfl) ?_
            refine q0 (qv_ldE (j := 1) sc_3 hl Mem.has_base rfl rfl he54 rfl) ?_
            refine q0 (qv_move rfl) ?_
            refine q0 (qv_move rfl) ?_
            refine qn st_25 hl rfl rfl (by omega) (fun e59 he59 => ?_)
            obtain rfl : e40 = e59 := Option.some.inj (he40.symm.trans he59)
            refine q0 (qv_fa fo_70_1 rfl) ?_
            refine q0 (qv_ldE (j := 1) sc_3 hl Mem.has_base rfl rfl he40 rfl) ?_
            refine qd (qv_eql rfl rfl) (fun c62 => ?_) (fun c62 => ?_)
            ·
              refine q0 (qv_move rfl) ?_
              refine q0g (qv_fa fo_24_1 rfl) ?_
              refine q0g (qv_ldB (i := 1) sc_22 rfl rfl rfl) ?_
              refine q0g (qv_move rfl) ?_
              refine q0g (qv_move rfl) ?_
              refine qng st_25 hl rfl rfl (by omega) (fun e68 he68 => ?_)
              obtain rfl : e54 = e68 := Option.some.inj (he54.symm.trans he68)
              refine q0g (qv_fa fo_70_0 rfl) ?_
              refine q0g (qv_ldE (j := 0) sc_3 hl Mem.has_base rfl rfl he54 rfl) ?_
              refine qig st_22 hn rfl rfl (by omega) (fun e71 he71 => ?_)
              refine q0g (qv_fa fo_49_0 rfl) ?_
              refine q0g (qv_ldE (j := 0) sc_3 hn Mem.has_base rfl rfl he71 rfl) ?_
              refine q0g (qv_move rfl) ?_
              refine qdg (qv_eql rfl rfl) (fun c75 => ?_) (fun c75 => ?_)
              ·
                refine q0 (qv_pickT rfl rfl) ?_
                refine tq_nil (tp_normal ?_)
                refine tc_true rfl ?_
                have hb := outOf_bound (right_zero (n := n) (l := l) (by omega)) e43.src e40.tick i
                refine tc_region ?_
                refine s0 (qv_move rfl) ?_
                refine s0 (qv_move rfl) ?_
                refine s0 (qv_move rfl) ?_
                refine sn st_25 hl rfl rfl (by omega) (fun e80 he80 => ?_)
                obtain rfl : e54 = e80 := Option.some.inj (he54.symm.trans he80)
                refine s0 (qv_fa fo_70_2 rfl) ?_
                refine s0 (qv_ldE (j := 2) sc_3 hl Mem.has_base rfl rfl he54 rfl) ?_
                refine s0 (qv_addI rfl rfl (by omega)) ?_
                refine s0 (qv_assign rfl) ?_
                refine tl_nil (tp_block_normal (tp_normal ?_))
                refine tc_region ?_
                refine s0 (qv_move rfl) ?_
                refine s0 (qv_succ rfl rfl (by omega)) ?_
                refine s0 (qv_assign rfl) ?_
                exact tl_nil (tp_roundS (i + 1) (by omega) (by omega) ⟨rfl, lk rfl (by first | (rw [outOf_skip _ _ he54 c62]) | (rw [outOf_take _ _ he54 he71]; split <;> omega)), trivial⟩ rfl rfl rfl rfl)
              ·
                refine q0 (qv_pickT rfl rfl) ?_
                refine tq_nil (tp_normal ?_)
                refine tc_false rfl ?_
                refine tc_skip (tp_block_normal (tp_normal ?_))
                refine tc_region ?_
                refine s0 (qv_move rfl) ?_
                refine s0 (qv_succ rfl rfl (by omega)) ?_
                refine s0 (qv_assign rfl) ?_
                exact tl_nil (tp_roundS (i + 1) (by omega) (by omega) ⟨rfl, lk rfl (by first | (rw [outOf_skip _ _ he54 c62]) | (rw [outOf_take _ _ he54 he71]; split <;> omega)), trivial⟩ rfl rfl rfl rfl)
            ·
              refine q0 (qv_move rfl) ?_
              refine qk ?_
              refine qk ?_
              refine qk ?_
              refine qk ?_
              refine qk ?_
              refine qk ?_
              refine qk ?_
              refine qk ?_
              refine qk ?_
              refine qk ?_
              refine qk ?_
              refine qk ?_
              refine q0 (qv_pickF rfl rfl) ?_
              refine tq_nil (tp_normal ?_)
              refine tc_false rfl ?_
              refine tc_skip (tp_block_normal (tp_normal ?_))
              refine tc_region ?_
              refine s0 (qv_move rfl) ?_
              refine s0 (qv_succ rfl rfl (by omega)) ?_
              refine s0 (qv_assign rfl) ?_
              exact tl_nil (tp_roundS (i + 1) (by omega) (by omega) ⟨rfl, lk rfl (by first | (rw [outOf_skip _ _ he54 c62]) | (rw [outOf_take _ _ he54 he71]; split <;> omega)), trivial⟩ rfl rfl rfl rfl)
          ·
            refine tl_nil (tp_normal ?_)
            refine tc_false rfl ?_
            refine tc_exit (tp_then_exit (tp_then_exit (tp_block_exit (tp_normal ?_))))
            refine tc_seq ?_
            refine tc_draws mixed (by kernel_rfl) ?_
            refine q0 (qv_move rfl) ?_
            refine q0 (qv_ldBW (i := 1) ag_24 rfl rfl rfl) ?_
            refine q0 (qv_move rfl) ?_
            refine q0 (qv_ldBW (i := 0) ag_27 rfl rfl rfl) ?_
            refine q0 (qv_move rfl) ?_
            refine q0 (qv_move rfl) ?_
            refine q0 (qv_move rfl) ?_
            refine qn st_25 hl rfl rfl (by omega) (fun e91 he91 => ?_)
            obtain rfl : e40 = e91 := Option.some.inj (he40.symm.trans he91)
            refine q0 (qv_fa fo_70_1 rfl) ?_
            refine q0 (qv_ldE (j := 1) sc_3 hl Mem.has_base rfl rfl he40 rfl) ?_
            refine q0 (qv_call fn_67 rfl (fun w hm => rhave_calls w n na nc l la lc d e43.src e40.tick (right_zero (n := n) (l := l) (by omega)) (dem_bytes (n := n) (d := d) (by assumption)) (hn.into Mem.has_base hm) hk (hl.into Mem.has_base hm))) ?_
            refine qd (qv_gtr rfl rfl) (fun c95 => ?_) (fun c95 => ?_)
            ·
              refine tq_nil (tp_normal ?_)
              refine tc_true rfl ?_
              refine tc_seq ?_
              refine tc_region ?_
              refine s0 (qv_assign rfl) ?_
              refine tl_nil (tp_normal ?_)
              refine tc_ret (tp_block_ret (tp_then_ret (tp_then_ret (tp_block_ret (tp_then_ret (tp_end1 rfl rfl ?_))))))
              intro w' hm
              exact ⟨by rw [serves_bad c17 c21 c28 he40 (by unfold bad; rw [srcOf_eq he43]; rw [SlSend_len i c49] at c95; exact c95)], hm.below⟩
            ·
              refine tq_nil (tp_normal ?_)
              refine tc_false rfl ?_
              refine tc_skip (tp_block_normal (tp_normal ?_))
              refine tc_region ?_
              refine s0 (qv_move rfl) ?_
              refine s0 (qv_succ rfl rfl (by omega)) ?_
              refine s0 (qv_assign rfl) ?_
              exact tl_nil (tp_roundS (k + 1) ⟨by omega, none_step (n := n) (P := fun _ x => ¬ bad n l d x) hI.2 he40 (by unfold bad; rw [srcOf_eq he43]; rw [SlSend_len i c49] at c95; exact c95)⟩ (by omega) ⟨rfl, trivial⟩ rfl rfl rfl rfl)
        ·
          refine tl_nil (tp_normal ?_)
          refine tc_false rfl ?_
          refine tc_exit (tp_then_exit (tp_then_exit (tp_block_exit (tp_normal ?_))))
          refine tc_seq ?_
          refine tc_seq ?_
          refine tc_draws mixed (by kernel_rfl) ?_
          refine q0 (qv_ldBW (i := 1) ag_24 rfl rfl rfl) ?_
          refine q0 (qv_move rfl) ?_
          refine q0 (qv_ldBW (i := 0) ag_27 rfl rfl rfl) ?_
          refine q0 (qv_fa fo_27_1 rfl) ?_
          refine q0 (qv_ldB (i := 0) sc_3 rfl rfl rfl) ?_
          refine q0 (qv_fa fo_27_4 rfl) ?_
          refine q0 (qv_ldB (i := 0) sc_3 rfl rfl rfl) ?_
          refine q0 (qv_call fn_67 rfl (fun w hm => rhave_calls w n na nc l la lc d d.dst d.due (right_zero (n := n) (l := l) (by omega)) (dem_bytes (n := n) (d := d) (by assumption)) (hn.into Mem.has_base hm) hk (hl.into Mem.has_base hm))) ?_
          refine q0 (qv_fa fo_27_2 rfl) ?_
          refine q0 (qv_ldB (i := 0) sc_3 rfl rfl rfl) ?_
          refine qd (qv_lss rfl rfl) (fun c106 => ?_) (fun c106 => ?_)
          ·
            refine tq_nil (tp_normal ?_)
            refine tc_true rfl ?_
            refine tc_seq ?_
            refine tc_region ?_
            refine s0 (qv_assign rfl) ?_
            refine tl_nil (tp_normal ?_)
            refine tc_ret (tp_then_ret (tp_end1 rfl rfl ?_))
            intro w' hm
            exact ⟨by rw [serves_late c17 c21 c28 (fun j x hx => hI.2 j x (by have := (List.getElem?_eq_some_iff.1 hx).1; omega) hx), late, if_pos c106], hm.below⟩
          ·
            refine tq_nil (tp_normal ?_)
            refine tc_false rfl ?_
            refine tc_skip (tp_normal ?_)
            refine tc_seq ?_
            refine tc_region ?_
            refine s0 (qv_assign rfl) ?_
            refine tl_nil (tp_normal ?_)
            refine tc_ret (tp_end1 rfl rfl ?_)
            intro w' hm
            exact ⟨by rw [serves_late c17 c21 c28 (fun j x hx => hI.2 j x (by have := (List.getElem?_eq_some_iff.1 hx).1; omega) hx), late, if_neg c106], hm.below⟩
    ·
      refine s0 (qv_assign rfl) ?_
      refine tl_nil (tp_normal ?_)
      refine tc_seq ?_
      refine tc_seq ?_
      refine tc_region ?_
      refine s0 (qv_move rfl) ?_
      refine s0 (qv_not rfl) ?_
      refine tl_nil (tp_normal ?_)
      refine tc_true rfl ?_
      refine tc_seq ?_
      refine tc_region ?_
      refine s0 (qv_assign rfl) ?_
      refine tl_nil (tp_normal ?_)
      refine tc_ret (tp_then_ret (tp_end1 rfl rfl ?_))
      intro w' hm
      exact ⟨by rw [serves_arg c17 c21], hm.below⟩

set_option maxRecDepth 100000 in
theorem rarrives_calls (w : World) (n : Net) (na : Option Addr) (nc : Nat) (l : List Send) (la : Option Addr) (lc : Nat) (d : Demand) (hn : SlIn w 50 encLink na n.links) (hk : NetOk n) (hl : SlIn w 3 encSend la l) :
    Calls Try.prog 45 #[.agg (netA n na nc), .slice la l.length lc, .agg (demA d)] w (fun e w' => e = .returned (.agg #[.int .i64 (arrives n l d).1, .int .i64 (arrives n l d).2]) ∧ Below w.heap.size w w') := by
  have hlen := hl.len
  simp only [maxLen] at hlen
  have hlenn := hn.len
  simp only [maxLen] at hlenn
  refine calls_of_tc (N := 71) (vs := [.agg (netA n na nc), .slice la l.length lc, .agg (demA d)]) Try.func45 rfl rfl (Nat.le_of_ble_eq_true rfl) ?_
  refine tc_seq ?_
  refine tc_region ?_
  refine tl_box rfl (by decide) (fun b3_0 => ?_)
  refine tl_box rfl (by decide) (fun b5_1 => ?_)
  refine tl_alloc ze_57 (by decide) (fun b6_2 => ?_)
  refine tl_nil (tp_normal ?_)
  refine tc_seq ?_
  refine tc_region ?_
  refine s0 (qv_ldBW (i := 2) ag_24 rfl rfl rfl) ?_
  refine s0 (qv_move rfl) ?_
  refine s0 (qv_ldBW (i := 1) ag_27 rfl rfl rfl) ?_
  refine s0 (qv_call fn_46 rfl (fun w hm => rserves_calls w n na nc l la lc d (hn.into Mem.has_base hm) hk (hl.into Mem.has_base hm))) ?_
  refine s0 (qv_assign rfl) ?_
  refine tl_nil (tp_normal ?_)
  refine tc_seq ?_
  refine tc_seq ?_
  refine tc_region ?_
  refine s0 (qv_move rfl) ?_
  refine sd (qv_neq rfl rfl) (fun c16 => ?_) (fun c16 => ?_)
  ·
    refine tl_nil (tp_normal ?_)
    refine tc_true rfl ?_
    refine tc_seq ?_
    refine tc_region ?_
    refine s0 (qv_move rfl) ?_
    refine s0 (qv_build bt_57 rfl rfl) ?_
    refine tl_storeO (i := 0) sz_57 rfl rfl rfl rfl rfl rfl rfl ?_
    refine tl_nil (tp_normal ?_)
    refine tc_ret (tp_then_ret (tp_endC (i := 0) rfl rfl ag_57 rfl rfl ?_))
    intro w' hm
    exact ⟨by rw [arrives_err c16]; rfl, hm.below⟩
  ·
    refine tl_nil (tp_normal ?_)
    refine tc_false rfl ?_
    refine tc_skip (tp_normal ?_)
    refine tc_seq ?_
    refine tc_seq ?_
    refine tc_draws mixed (by kernel_rfl) ?_
    refine q0 (qv_ldBW (i := 2) ag_24 rfl rfl rfl) ?_
    refine q0 (qv_move rfl) ?_
    refine q0 (qv_ldBW (i := 1) ag_27 rfl rfl rfl) ?_
    refine q0 (qv_fa fo_27_1 rfl) ?_
    refine q0 (qv_ldB (i := 1) sc_3 rfl rfl rfl) ?_
    refine q0 (qv_fa fo_27_3 rfl) ?_
    refine q0 (qv_ldB (i := 1) sc_3 rfl rfl rfl) ?_
    refine q0 (qv_call fn_67 rfl (fun w hm => rhave_calls w n na nc l la lc d d.dst d.ready (right_zero (serves_zero (n := n) (l := l) (d := d) (by omega)).1) (dem_bytes (serves_zero (n := n) (l := l) (d := d) (by omega)).2.1) (hn.into Mem.has_base hm) hk (hl.into Mem.has_base hm))) ?_
    refine q0 (qv_fa fo_27_2 rfl) ?_
    refine q0 (qv_ldB (i := 1) sc_3 rfl rfl rfl) ?_
    refine qd (qv_geq rfl rfl) (fun c29 => ?_) (fun c29 => ?_)
    ·
      refine tq_nil (tp_normal ?_)
      refine tc_true rfl ?_
      refine tc_seq ?_
      refine tc_region ?_
      refine s0 (qv_fa fo_27_3 rfl) ?_
      refine s0 (qv_ldB (i := 1) sc_3 rfl rfl rfl) ?_
      refine s0 (qv_build bt_57 rfl rfl) ?_
      refine tl_storeO (i := 0) sz_57 rfl rfl rfl rfl rfl rfl rfl ?_
      refine tl_nil (tp_normal ?_)
      refine tc_ret (tp_then_ret (tp_endC (i := 0) rfl rfl ag_57 rfl rfl ?_))
      intro w' hm
      exact ⟨by rw [arrives_ok c16, arriveTick_ready c16 c29]; rfl, hm.below⟩
    ·
      refine tq_nil (tp_normal ?_)
      refine tc_false rfl ?_
      refine tc_skip (tp_normal ?_)
      refine tc_seq ?_
      refine tc_region ?_
      refine s0 (qv_fa fo_27_4 rfl) ?_
      refine s0 (qv_ldB (i := 1) sc_3 rfl rfl rfl) ?_
      refine s0 (qv_assign rfl) ?_
      refine tl_nil (tp_normal ?_)
      refine tc_seq ?_
      refine tc_seq ?_
      refine tc_region ?_
      refine s0 (qv_assign rfl) ?_
      refine tl_nil (tp_normal ?_)
      refine tc_block (tc_loopS (fun (k : Nat) => [(9, .int .i64 (k : Int)), (8, .int .i64 (bestOf n l d d.due (l.take k)))]) (fun (k : Nat) => k ≤ l.length) (fun (k : Nat) => l.length - k) (0) (Nat.zero_le _) ⟨rfl, rfl, trivial⟩ ?_)
      rintro k hI
      refine tc_seq ?_
      refine tc_seq ?_
      refine tc_region ?_
      refine s0 (qv_move rfl) ?_
      refine s0 (qv_move rfl) ?_
      refine s0 (qv_len st_25 rfl) ?_
      refine sd (qv_lss rfl rfl) (fun c38 => ?_) (fun c38 => ?_)
      ·
        refine tl_nil (tp_normal ?_)
        refine tc_true rfl ?_
        refine tc_skip (tp_normal ?_)
        refine tc_seq ?_
        refine tc_block ?_
        refine tc_seq ?_
        refine tc_region ?_
        refine s0 (qv_move rfl) ?_
        refine s0 (qv_move rfl) ?_
        refine sn st_25 hl rfl rfl (by omega) (fun e43 he43 => ?_)
        have hs_ := (right_zero (serves_zero (n := n) (l := l) (d := d) (by omega)).1).send e43 (List.mem_of_getElem? he43)
        obtain ⟨ht0, ht1, ht2, ht3, ht4, ht5⟩ := hs_
        refine s0 (qv_fa fo_70_1 rfl) ?_
        refine s0 (qv_ldE (j := 1) sc_3 hl Mem.has_base rfl rfl he43 rfl) ?_
        refine s0 (qv_addI rfl rfl (by omega)) ?_
        refine s0 (qv_assign rfl) ?_
        refine tl_nil (tp_normal ?_)
        refine tc_seq ?_
        refine tc_draws mixed (by kernel_rfl) ?_
        refine q0 (qv_move rfl) ?_
        refine q0 (qv_fa fo_27_3 rfl) ?_
        refine q0 (qv_ldB (i := 1) sc_3 rfl rfl rfl) ?_
        refine qd (qv_geq rfl rfl) (fun c50 => ?_) (fun c50 => ?_)
        ·
          refine q0 (qv_move rfl) ?_
          refine q0g (qv_move rfl) ?_
          refine q0g (qv_move rfl) ?_
          refine qdg (qv_lss rfl rfl) (fun c54 => ?_) (fun c54 => ?_)
          ·
            refine q0 (qv_pickT rfl rfl) ?_
            refine q0 (qv_move rfl) ?_
            refine q0g (qv_ldBW (i := 2) ag_24 rfl rfl rfl) ?_
            refine q0g (qv_move rfl) ?_
            refine q0g (qv_ldBW (i := 1) ag_27 rfl rfl rfl) ?_
            refine q0g (qv_fa fo_27_1 rfl) ?_
            refine q0g (qv_ldB (i := 1) sc_3 rfl rfl rfl) ?_
            refine q0g (qv_move rfl) ?_
            refine q0g (qv_call fn_67 rfl (fun w hm => rhave_calls w n na nc l la lc d d.dst (e43.tick + (1)) (right_zero (serves_zero (n := n) (l := l) (d := d) (by omega)).1) (dem_bytes (serves_zero (n := n) (l := l) (d := d) (by omega)).2.1) (hn.into Mem.has_base hm) hk (hl.into Mem.has_base hm))) ?_
            refine q0g (qv_fa fo_27_2 rfl) ?_
            refine q0g (qv_ldB (i := 1) sc_3 rfl rfl rfl) ?_
            refine qdg (qv_geq rfl rfl) (fun c66 => ?_) (fun c66 => ?_)
            ·
              refine q0 (qv_pickT rfl rfl) ?_
              refine tq_nil (tp_normal ?_)
              refine tc_true rfl ?_
              refine tc_region ?_
              refine s0 (qv_move rfl) ?_
              refine s0 (qv_assign rfl) ?_
              refine tl_nil (tp_block_normal (tp_normal ?_))
              refine tc_region ?_
              refine s0 (qv_move rfl) ?_
              refine s0 (qv_succ rfl rfl (by omega)) ?_
              refine s0 (qv_assign rfl) ?_
              exact tl_nil (tp_roundS (k + 1) (by omega) (by omega) ⟨rfl, lk rfl (by rw [bestOf_take he43]; split <;> omega), trivial⟩ rfl rfl rfl rfl)
            ·
              refine q0 (qv_pickT rfl rfl) ?_
              refine tq_nil (tp_normal ?_)
              refine tc_false rfl ?_
              refine tc_skip (tp_block_normal (tp_normal ?_))
              refine tc_region ?_
              refine s0 (qv_move rfl) ?_
              refine s0 (qv_succ rfl rfl (by omega)) ?_
              refine s0 (qv_assign rfl) ?_
              exact tl_nil (tp_roundS (k + 1) (by omega) (by omega) ⟨rfl, lk rfl (by rw [bestOf_take he43]; split <;> omega), trivial⟩ rfl rfl rfl rfl)
          ·
            refine q0 (qv_pickT rfl rfl) ?_
            refine q0 (qv_move rfl) ?_
            refine qk ?_
            refine qk ?_
            refine qk ?_
            refine qk ?_
            refine qk ?_
            refine qk ?_
            refine qk ?_
            refine qk ?_
            refine qk ?_
            refine qk ?_
            refine q0 (qv_pickF rfl rfl) ?_
            refine tq_nil (tp_normal ?_)
            refine tc_false rfl ?_
            refine tc_skip (tp_block_normal (tp_normal ?_))
            refine tc_region ?_
            refine s0 (qv_move rfl) ?_
            refine s0 (qv_succ rfl rfl (by omega)) ?_
            refine s0 (qv_assign rfl) ?_
            exact tl_nil (tp_roundS (k + 1) (by omega) (by omega) ⟨rfl, lk rfl (by rw [bestOf_take he43]; split <;> omega), trivial⟩ rfl rfl rfl rfl)
        ·
          refine q0 (qv_move rfl) ?_
          refine qk ?_
          refine qk ?_
          refine qk ?_
          refine q0 (qv_pickF rfl rfl) ?_
          refine q0 (qv_move rfl) ?_
          refine qk ?_
          refine qk ?_
          refine qk ?_
          refine qk ?_
          refine qk ?_
          refine qk ?_
          refine qk ?_
          refine qk ?_
          refine qk ?_
          refine qk ?_
          refine q0 (qv_pickF rfl rfl) ?_
          refine tq_nil (tp_normal ?_)
          refine tc_false rfl ?_
          refine tc_skip (tp_block_normal (tp_normal ?_))
          refine tc_region ?_
          refine s0 (qv_move rfl) ?_
          refine s0 (qv_succ rfl rfl (by omega)) ?_
          refine s0 (qv_assign rfl) ?_
          exact tl_nil (tp_roundS (k + 1) (by omega) (by omega) ⟨rfl, lk rfl (by rw [bestOf_take he43]; split <;> omega), trivial⟩ rfl rfl rfl rfl)
      ·
        refine tl_nil (tp_normal ?_)
        refine tc_false rfl ?_
        refine tc_exit (tp_then_exit (tp_then_exit (tp_block_exit (tp_normal ?_))))
        refine tc_seq ?_
        refine tc_region ?_
        refine s0 (qv_move rfl) ?_
        refine s0 (qv_build bt_57 rfl rfl) ?_
        refine tl_storeO (i := 0) sz_57 rfl rfl rfl rfl rfl rfl rfl ?_
        refine tl_nil (tp_normal ?_)
        refine tc_ret (tp_endC (i := 0) rfl rfl ag_57 rfl rfl ?_)
        intro w' hm
        exact ⟨by rw [arrives_ok c16, arriveTick_best c16 c29, SlSend_len k c38]; rfl, hm.below⟩

end Go.Q
