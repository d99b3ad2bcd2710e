/- A part of the proof: see the last text. -/
import Derived.WalkKit
import Derived.Deep.Quiet
import Derived.KernelRfl
import Derived.RangeFuncNested
import Derived.RangeFuncCalls
import Derived.OrdersIn
import Derived.TacticsIn
import Derived.Maps.AppendAt
import Derived.OwnWalkIn
import Derived.Maps.RangeRun
import Derived.Laws.StructEq
import Derived.Shelf.SlSortCmp.InsertionK
import Derived.Sort.OwnSortedInts
import Derived.OpenShut
import Derived.WideShapes
import Derived.ChangeArms
import Derived.ChangeKeysEq
import GoSem.Core.Value
import Derived.Laws.MakeOwn
import Derived.Lib.BufferMore
import Derived.Sort.Grow
import Derived.Deep.Draws
import Derived.Shelf.SlSortCmp.NoneTotal
import Derived.Shelf.Small.Bits
import Derived.Test.YtafpeblkodpkmaaShelf
import Derived.Test.YtafpeblkodpkmaaProg
import Derived.Test.YtafpeblkodpkmaaMeterSettlesC
set_option linter.unusedVariables false
set_option linter.unusedSimpArgs false
set_option linter.unusedSectionVars false
namespace Go.Q
open Go Go.Proofs Go.RowKit
theorem fn_90 : IsFn Try.prog 90 := isFn_of Try.func90 (by kernel_rfl) rfl
theorem fn_109 : IsFn Try.prog 109 := isFn_of Try.func109 (by kernel_rfl) rfl
theorem fn_88 : IsFn Try.prog 88 := isFn_of Try.func88 (by kernel_rfl) rfl
theorem fn_89 : IsFn Try.prog 89 := isFn_of Try.func89 (by kernel_rfl) rfl
theorem ze_104 : Zero Try.prog 104 #[.int .i64 0, .int .i64 0, .int .i64 0, .int .i64 0, .int .i64 0, .int .i64 0, .int .i64 0, .int .i64 0] := fun w => ⟨.agg #[.int .i64 0, .int .i64 0, .int .i64 0, .int .i64 0, .int .i64 0, .int .i64 0, .int .i64 0, .int .i64 0], by kernel_rfl, rfl⟩
theorem at_104 : ArrTy Try.prog 104 8 1 := ⟨3, by kernel_rfl, fun w => by kernel_rfl⟩
set_option maxRecDepth 100000 in
theorem of_calls (w : World) (b : Book) (ba : Option Addr) (bc : Nat) (acc before : Int)  :
    Calls Try.prog 90 #[.agg (bookA b ba bc), .int .i64 acc, .int .i64 before] w (fun e w' => ∃ r : Nat × Nat × Nat, e = .returned (.func (.func 109) #[] #[.pointer (some ⟨r.1, 0, none⟩), .pointer (some ⟨r.2.1, 0, none⟩), .pointer (some ⟨r.2.2, 0, none⟩)]) ∧ Below w.heap.size w w' ∧ ((w.heap.size ≤ r.1 ∧ r.1 < w'.heap.size ∧ w'.heap[r.1]? = some (.cells (bookA b ba bc) 80 (0, 0))) ∧ (w.heap.size ≤ r.2.1 ∧ r.2.1 < w'.heap.size ∧ w'.heap[r.2.1]? = some (.cells #[.int .i64 before] 3 (0, 0))) ∧ (w.heap.size ≤ r.2.2 ∧ r.2.2 < w'.heap.size ∧ w'.heap[r.2.2]? = some (.cells #[.int .i64 acc] 3 (0, 0))))) := by
  refine calls_of_tc (N := 8) (vs := [.agg (bookA b ba bc), .int .i64 acc, .int .i64 before]) Try.func90 rfl rfl (Nat.le_of_ble_eq_true rfl) ?_
  refine tc_seq ?_
  refine tc_region ?_
  refine tl_box rfl (by decide) (fun b3_0 => ?_)
  refine tl_box rfl (by decide) (fun b4_1 => ?_)
  refine tl_box rfl (by decide) (fun b5_2 => ?_)
  refine s0 (qv_assign rfl) ?_
  refine tl_nil (tp_normal ?_)
  refine tc_seq ?_
  refine tc_region ?_
  refine s0 (qv_mk rfl) ?_
  refine s0 (qv_assign rfl) ?_
  refine tl_nil (tp_normal ?_)
  refine tc_ret (tp_end1 rfl rfl ?_)
  intro w' hm
  exact ⟨(b3_0, b5_2, b4_1), rfl, hm.below, ⟨(hm.boxOf (List.mem_of_getElem? (i := 2) rfl)).1, get_lt (hm.boxOf (List.mem_of_getElem? (i := 2) rfl)).2, (hm.boxOf (List.mem_of_getElem? (i := 2) rfl)).2⟩, ⟨(hm.boxOf (List.mem_of_getElem? (i := 0) rfl)).1, get_lt (hm.boxOf (List.mem_of_getElem? (i := 0) rfl)).2, (hm.boxOf (List.mem_of_getElem? (i := 0) rfl)).2⟩, (hm.boxOf (List.mem_of_getElem? (i := 1) rfl)).1, get_lt (hm.boxOf (List.mem_of_getElem? (i := 1) rfl)).2, (hm.boxOf (List.mem_of_getElem? (i := 1) rfl)).2⟩
set_option maxRecDepth 100000 in
theorem of_it (W1 : World) (b : Book) (ba : Option Addr) (bc : Nat) (acc before : Int) (n0 c1 c2 c3 lp : Nat) (C : Nat → Prop) (hsl : SlAt W1 0 n0 6 encPost ba b.posts) (hok : BookOk b) (h1 : W1.heap[c1]? = some (.cells (bookA b ba bc) 80 (0, 0))) (h2 : W1.heap[c2]? = some (.cells #[.int .i64 before] 3 (0, 0))) (h3 : W1.heap[c3]? = some (.cells #[.int .i64 acc] 3 (0, 0)))
    (hn0 : n0 ≤ W1.heap.size) (hC0 : ∀ b, b < n0 → ¬ C b) (hC1 : ¬ C c1) (hC2 : ¬ C c2) (hC3 : ¬ C c3) (hCW : ∀ b, C b → b < W1.heap.size) : Yields1 Try.prog 109 [.pointer (some ⟨c1, 0, none⟩), .pointer (some ⟨c2, 0, none⟩), .pointer (some ⟨c3, 0, none⟩)] encPair (ofL acc before 0 b.posts) C lp W1 := by
  intro J hJ hY h0
  have hlen := hsl.len
  simp only [maxLen] at hlen
  have hlc1 := get_lt h1
  have hlc2 := get_lt h2
  have hlc3 := get_lt h3
  refine calls_of_tc (N := 47) (vs := [.func (.yield lp) #[] #[], .pointer (some ⟨c1, 0, none⟩), .pointer (some ⟨c2, 0, none⟩), .pointer (some ⟨c3, 0, none⟩)]) Try.func109 rfl rfl (Nat.le_of_ble_eq_true rfl) ?_
  refine tc_seq ?_
  refine tc_region ?_
  refine s0 (qv_fa fo_80_1 rfl) ?_
  refine s0 (qv_ldH sc_40 Mem.has_base (Nat.zero_le _) hlc1 h1 rfl rfl) ?_
  refine s0 (qv_len st_40 rfl) ?_
  refine s0 (qv_move rfl) ?_
  refine tl_nil (tp_normal ?_)
  refine tc_block (tc_loopW [Kin W1 0 n0, Kin W1 c1 (c1 + 1), Kin W1 c2 (c2 + 1), Kin W1 c3 (c3 + 1)] (fun (k : Nat) => [(10, .int .i64 (k : Int))]) (fun (k : Nat) (W : World) => k ≤ b.posts.length ∧ J (ofL acc before 0 (b.posts.take k)) W ∧ Early b.posts before k ∧ W1.heap.size ≤ W.heap.size) (fun (k : Nat) => b.posts.length - k) (0) W1 ⟨Nat.zero_le _, h0, fun _ _ h => absurd h (Nat.not_lt_zero _), Nat.le_refl _⟩ ⟨rfl, trivial⟩ (fun w hm => Mem.init_known hm (by simp; omega)) ?_)
  rintro k W hI
  refine tc_seq ?_
  refine tc_region ?_
  refine sd (qv_lss rfl rfl) (fun c11 => ?_) (fun c11 => ?_)
  ·
    refine tl_nil (tp_normal ?_)
    refine tc_seq ?_
    refine tc_true rfl ?_
    refine tc_skip (tp_normal ?_)
    refine tc_seq ?_
    refine tc_block ?_
    refine tc_seq ?_
    refine tc_region ?_
    refine s0 (qv_move rfl) ?_
    refine sn st_40 hsl rfl rfl (by omega) (fun e13 he13 => ?_)
    refine s0 (qv_ldEW ag_54 hsl (Mem.has_kept (by repeat (first | exact .head _ | refine .tail _ ?_))) rfl he13) ?_
    refine tl_alloc ze_54 (by decide) (fun b6_0 => ?_)
    refine s0 (qv_assign rfl) ?_
    refine tl_storeL (i := 0) sz_54 (hsl.szs _ (List.mem_of_getElem? he13)) (one_54 _) rfl rfl rfl rfl ?_
    refine tl_nil (tp_normal ?_)
    refine tc_seq ?_
    refine tc_seq ?_
    refine tc_region ?_
    refine s0 (qv_fa fo_54_3 rfl) ?_
    refine s0 (qv_ldB (i := 0) sc_3 rfl rfl rfl) ?_
    refine s0 (qv_ldH sc_3 (Mem.has_kept (by repeat (first | exact .head _ | refine .tail _ ?_))) (Nat.le_refl _) (Nat.lt_succ_self _) h2 rfl rfl) ?_
    refine sd (qv_geq rfl rfl) (fun c18 => ?_) (fun c18 => ?_)
    ·
      refine tl_nil (tp_normal ?_)
      refine tc_true rfl ?_
      refine tc_ret (tp_then_ret (tp_block_ret (tp_then_ret (tp_then_ret (tp_block_ret (tp_end0 rfl ?_))))))
      intro w' hm
      exact ⟨rfl, by rw [ofL_stop hI.2.2.1 he13 c18]; exact hJ _ _ _ hI.2.1 hm.below⟩
    ·
      refine tl_nil (tp_normal ?_)
      refine tc_false rfl ?_
      refine tc_skip (tp_normal ?_)
      refine tc_seq ?_
      obtain ⟨_, _, _, _, _, hp0, hp1, _, _, _, _, _, _⟩ := hok.posts e13 (List.mem_of_getElem? he13)
      refine tc_region ?_
      refine s0 (qv_fa fo_54_0 rfl) ?_
      refine s0 (qv_ldB (i := 0) sc_3 rfl rfl rfl) ?_
      refine s0 (qv_ldH sc_3 (Mem.has_kept (by repeat (first | exact .head _ | refine .tail _ ?_))) (Nat.le_refl _) (Nat.lt_succ_self _) h3 rfl rfl) ?_
      refine sd (qv_eql rfl rfl) (fun c22 => ?_) (fun c22 => ?_)
      ·
        refine s0 (qv_move rfl) ?_
        refine s0g (qv_move rfl) ?_
        refine s0g (qv_move rfl) ?_
        refine s0g (qv_fa fo_54_2 rfl) ?_
        refine s0g (qv_ldB (i := 0) sc_3 rfl rfl rfl) ?_
        refine tl_unguard ?_
        refine tl_yieldJ (C := C) (enc := encPair) hJ ((ofL acc before 0 (b.posts.take k))) ((k : Int), e13.amount) (fun W hW => hY _ _ ((if e13.credit = acc then [((k : Int), -e13.amount)] else []) ++ ofL acc before (k + 1) (b.posts.drop (k + 1))) W (by rw [ofL_here hI.2.2.1 he13 c18, if_pos c22]; rfl) hW) hI.2.1 rfl rfl (fun wa28 wb28 hm28 hj28 hu28 => ?_)
        have hb6 := hm28.boxOf (List.mem_of_getElem? (i := 0) rfl)
        have hk0 := hm28.kept (Kin W1 0 n0) (by first | exact .head _ | exact .tail _ (.head _) | exact .tail _ (.tail _ (.head _)) | exact .tail _ (.tail _ (.tail _ (.head _))) | exact .tail _ (.tail _ (.tail _ (.tail _ (.head _)))) | exact .tail _ (.tail _ (.tail _ (.tail _ (.tail _ (.head _))))))
        have hk1 := hm28.kept (Kin W1 c1 (c1 + 1)) (by first | exact .head _ | exact .tail _ (.head _) | exact .tail _ (.tail _ (.head _)) | exact .tail _ (.tail _ (.tail _ (.head _))) | exact .tail _ (.tail _ (.tail _ (.tail _ (.head _)))) | exact .tail _ (.tail _ (.tail _ (.tail _ (.tail _ (.head _))))))
        have hk2 := hm28.kept (Kin W1 c2 (c2 + 1)) (by first | exact .head _ | exact .tail _ (.head _) | exact .tail _ (.tail _ (.head _)) | exact .tail _ (.tail _ (.tail _ (.head _))) | exact .tail _ (.tail _ (.tail _ (.tail _ (.head _)))) | exact .tail _ (.tail _ (.tail _ (.tail _ (.tail _ (.head _))))))
        have hk3 := hm28.kept (Kin W1 c3 (c3 + 1)) (by first | exact .head _ | exact .tail _ (.head _) | exact .tail _ (.tail _ (.head _)) | exact .tail _ (.tail _ (.tail _ (.head _))) | exact .tail _ (.tail _ (.tail _ (.tail _ (.head _)))) | exact .tail _ (.tail _ (.tail _ (.tail _ (.tail _ (.head _))))))
        refine ⟨⟨wb28, [], [Kin wa28 b6_0 (b6_0 + 1), Kin W1 0 n0, Kin W1 c1 (c1 + 1), Kin W1 c2 (c2 + 1), Kin W1 c3 (c3 + 1)], [], []⟩, hm28.rebase hu28 (fun q hq => ?_), ?_⟩
        · simp only [List.mem_cons, List.not_mem_nil, or_false] at hq
          rcases hq with rfl | rfl | rfl | rfl | rfl
          · exact ⟨get_lt hb6.2, fun b h1 h2 _ => ⟨fun hc => absurd (hCW b hc) (by have := hb6.1; simp only at *; omega), rfl⟩⟩
          · exact ⟨hk0.1, fun b h1 h2 h3 => ⟨hC0 b h2, hk0.2 b h1 h2 h3⟩⟩
          · exact ⟨hk1.1, fun b h1 h2 h3 => ⟨not_at hC1 h1 h2, hk1.2 b h1 h2 h3⟩⟩
          · exact ⟨hk2.1, fun b h1 h2 h3 => ⟨not_at hC2 h1 h2, hk2.2 b h1 h2 h3⟩⟩
          · exact ⟨hk3.1, fun b h1 h2 h3 => ⟨not_at hC3 h1 h2, hk3.2 b h1 h2 h3⟩⟩
        refine s0g (qv_not rfl) ?_
        refine s0 (qv_pickT rfl rfl) ?_
        refine s0 (qv_move rfl) ?_
        refine s0g (qv_fa fo_54_1 rfl) ?_
        refine s0g (qv_ldH sc_3 (Mem.has_kept (by repeat (first | exact .head _ | refine .tail _ ?_))) (Nat.le_refl _) (Nat.lt_succ_self _) hb6.2 rfl rfl) ?_
        refine s0g (qv_ldH sc_3 (Mem.has_kept (by repeat (first | exact .head _ | refine .tail _ ?_))) (Nat.le_refl _) (Nat.lt_succ_self _) h3 rfl rfl) ?_
        refine sdg (qv_eql rfl rfl) (fun c35 => ?_) (fun c35 => ?_)
        ·
          refine s0g (qv_move rfl) ?_
          refine s0g (qv_move rfl) ?_
          refine s0g (qv_move rfl) ?_
          refine s0g (qv_fa fo_54_2 rfl) ?_
          refine s0g (qv_ldH sc_3 (Mem.has_kept (by repeat (first | exact .head _ | refine .tail _ ?_))) (Nat.le_refl _) (Nat.lt_succ_self _) hb6.2 rfl rfl) ?_
          refine s0g (qv_negI rfl (by omega)) ?_
          refine tl_unguard ?_
          refine tl_yieldJ (C := C) (enc := encPair) hJ ((ofL acc before 0 (b.posts.take k)) ++ [((k : Int), e13.amount)]) ((k : Int), -e13.amount) (fun W hW => hY _ _ (ofL acc before (k + 1) (b.posts.drop (k + 1))) W (by rw [ofL_here hI.2.2.1 he13 c18, if_pos c22, if_pos c35]; simp) hW) hj28 rfl rfl (fun wa42 wb42 hm42 hj42 hu42 => ?_)
          have hk0 := hm42.kept (Kin W1 0 n0) (by first | exact .head _ | exact .tail _ (.head _) | exact .tail _ (.tail _ (.head _)) | exact .tail _ (.tail _ (.tail _ (.head _))) | exact .tail _ (.tail _ (.tail _ (.tail _ (.head _)))) | exact .tail _ (.tail _ (.tail _ (.tail _ (.tail _ (.head _))))))
          have hk1 := hm42.kept (Kin W1 c1 (c1 + 1)) (by first | exact .head _ | exact .tail _ (.head _) | exact .tail _ (.tail _ (.head _)) | exact .tail _ (.tail _ (.tail _ (.head _))) | exact .tail _ (.tail _ (.tail _ (.tail _ (.head _)))) | exact .tail _ (.tail _ (.tail _ (.tail _ (.tail _ (.head _))))))
          have hk2 := hm42.kept (Kin W1 c2 (c2 + 1)) (by first | exact .head _ | exact .tail _ (.head _) | exact .tail _ (.tail _ (.head _)) | exact .tail _ (.tail _ (.tail _ (.head _))) | exact .tail _ (.tail _ (.tail _ (.tail _ (.head _)))) | exact .tail _ (.tail _ (.tail _ (.tail _ (.tail _ (.head _))))))
          have hk3 := hm42.kept (Kin W1 c3 (c3 + 1)) (by first | exact .head _ | exact .tail _ (.head _) | exact .tail _ (.tail _ (.head _)) | exact .tail _ (.tail _ (.tail _ (.head _))) | exact .tail _ (.tail _ (.tail _ (.tail _ (.head _)))) | exact .tail _ (.tail _ (.tail _ (.tail _ (.tail _ (.head _))))))
          refine ⟨⟨wb42, [], [Kin W1 0 n0, Kin W1 c1 (c1 + 1), Kin W1 c2 (c2 + 1), Kin W1 c3 (c3 + 1)], [], []⟩, hm42.rebase hu42 (fun q hq => ?_), ?_⟩
          · simp only [List.mem_cons, List.not_mem_nil, or_false] at hq
            rcases hq with rfl | rfl | rfl | rfl
            · exact ⟨hk0.1, fun b h1 h2 h3 => ⟨hC0 b h2, hk0.2 b h1 h2 h3⟩⟩
            · exact ⟨hk1.1, fun b h1 h2 h3 => ⟨not_at hC1 h1 h2, hk1.2 b h1 h2 h3⟩⟩
            · exact ⟨hk2.1, fun b h1 h2 h3 => ⟨not_at hC2 h1 h2, hk2.2 b h1 h2 h3⟩⟩
            · exact ⟨hk3.1, fun b h1 h2 h3 => ⟨not_at hC3 h1 h2, hk3.2 b h1 h2 h3⟩⟩
          refine s0g (qv_not rfl) ?_
          refine s0g (qv_pickT rfl rfl) ?_
          refine s0 (qv_pickF rfl rfl) ?_
          refine tl_nil (tp_normal ?_)
          refine tc_false rfl ?_
          refine tc_skip (tp_block_normal (tp_normal ?_))
          refine tc_region ?_
          refine s0 (qv_succ rfl rfl (by omega)) ?_
          refine s0 (qv_move rfl) ?_
          exact tl_nil (tp_roundW (k + 1) ⟨by omega, by first | (rw [ofL_take hI.2.2.1 he13 c18, if_pos c22, if_pos c35]; simpa using hj42) | (rw [ofL_take hI.2.2.1 he13 c18, if_pos c22, if_neg c35]; simpa using hj28) | (rw [ofL_take hI.2.2.1 he13 c18, if_neg c22, if_pos c35]; simpa using hj42) | (rw [ofL_take hI.2.2.1 he13 c18, if_neg c22, if_neg c35]; simpa using hI.2.1), hI.2.2.1.step he13 c18, by have h_ := hI.2.2.2; first | exact h_ | (have := hm28.size; have := hm42.size; have := hu28.size; have := hu42.size; simp only at *; omega) | (have := hm28.size; have := hu28.size; simp only at *; omega) | (have := hm42.size; have := hu42.size; simp only at *; omega)⟩ (by omega) ⟨rfl, trivial⟩ rfl rfl rfl)
        ·
          refine s0g (qv_move rfl) ?_
          refine sk ?_
          refine sk ?_
          refine sk ?_
          refine sk ?_
          refine sk ?_
          refine sk ?_
          refine sk ?_
          refine s0g (qv_pickF rfl rfl) ?_
          refine s0 (qv_pickF rfl rfl) ?_
          refine tl_nil (tp_normal ?_)
          refine tc_false rfl ?_
          refine tc_skip (tp_block_normal (tp_normal ?_))
          refine tc_region ?_
          refine s0 (qv_succ rfl rfl (by omega)) ?_
          refine s0 (qv_move rfl) ?_
          exact tl_nil (tp_roundW (k + 1) ⟨by omega, by first | (rw [ofL_take hI.2.2.1 he13 c18, if_pos c22, if_pos c35]; simpa using hj42) | (rw [ofL_take hI.2.2.1 he13 c18, if_pos c22, if_neg c35]; simpa using hj28) | (rw [ofL_take hI.2.2.1 he13 c18, if_neg c22, if_pos c35]; simpa using hj42) | (rw [ofL_take hI.2.2.1 he13 c18, if_neg c22, if_neg c35]; simpa using hI.2.1), hI.2.2.1.step he13 c18, by have h_ := hI.2.2.2; first | exact h_ | (have := hm28.size; have := hm42.size; have := hu28.size; have := hu42.size; simp only at *; omega) | (have := hm28.size; have := hu28.size; simp only at *; omega) | (have := hm42.size; have := hu42.size; simp only at *; omega)⟩ (by omega) ⟨rfl, trivial⟩ rfl rfl rfl)
      ·
        refine s0 (qv_move rfl) ?_
        refine sk ?_
        refine sk ?_
        refine sk ?_
        refine sk ?_
        refine sk ?_
        refine sk ?_
        refine s0 (qv_pickF rfl rfl) ?_
        refine s0 (qv_move rfl) ?_
        refine s0g (qv_fa fo_54_1 rfl) ?_
        refine s0g (qv_ldB (i := 0) sc_3 rfl rfl rfl) ?_
        refine s0g (qv_ldH sc_3 (Mem.has_kept (by repeat (first | exact .head _ | refine .tail _ ?_))) (Nat.le_refl _) (Nat.lt_succ_self _) h3 rfl rfl) ?_
        refine sdg (qv_eql rfl rfl) (fun c35 => ?_) (fun c35 => ?_)
        ·
          refine s0g (qv_move rfl) ?_
          refine s0g (qv_move rfl) ?_
          refine s0g (qv_move rfl) ?_
          refine s0g (qv_fa fo_54_2 rfl) ?_
          refine s0g (qv_ldB (i := 0) sc_3 rfl rfl rfl) ?_
          refine s0g (qv_negI rfl (by omega)) ?_
          refine tl_unguard ?_
          refine tl_yieldJ (C := C) (enc := encPair) hJ ((ofL acc before 0 (b.posts.take k))) ((k : Int), -e13.amount) (fun W hW => hY _ _ (ofL acc before (k + 1) (b.posts.drop (k + 1))) W (by rw [ofL_here hI.2.2.1 he13 c18, if_neg c22, if_pos c35]; simp) hW) hI.2.1 rfl rfl (fun wa42 wb42 hm42 hj42 hu42 => ?_)
          have hk0 := hm42.kept (Kin W1 0 n0) (by first | exact .head _ | exact .tail _ (.head _) | exact .tail _ (.tail _ (.head _)) | exact .tail _ (.tail _ (.tail _ (.head _))) | exact .tail _ (.tail _ (.tail _ (.tail _ (.head _)))) | exact .tail _ (.tail _ (.tail _ (.tail _ (.tail _ (.head _))))))
          have hk1 := hm42.kept (Kin W1 c1 (c1 + 1)) (by first | exact .head _ | exact .tail _ (.head _) | exact .tail _ (.tail _ (.head _)) | exact .tail _ (.tail _ (.tail _ (.head _))) | exact .tail _ (.tail _ (.tail _ (.tail _ (.head _)))) | exact .tail _ (.tail _ (.tail _ (.tail _ (.tail _ (.head _))))))
          have hk2 := hm42.kept (Kin W1 c2 (c2 + 1)) (by first | exact .head _ | exact .tail _ (.head _) | exact .tail _ (.tail _ (.head _)) | exact .tail _ (.tail _ (.tail _ (.head _))) | exact .tail _ (.tail _ (.tail _ (.tail _ (.head _)))) | exact .tail _ (.tail _ (.tail _ (.tail _ (.tail _ (.head _))))))
          have hk3 := hm42.kept (Kin W1 c3 (c3 + 1)) (by first | exact .head _ | exact .tail _ (.head _) | exact .tail _ (.tail _ (.head _)) | exact .tail _ (.tail _ (.tail _ (.head _))) | exact .tail _ (.tail _ (.tail _ (.tail _ (.head _)))) | exact .tail _ (.tail _ (.tail _ (.tail _ (.tail _ (.head _))))))
          refine ⟨⟨wb42, [], [Kin W1 0 n0, Kin W1 c1 (c1 + 1), Kin W1 c2 (c2 + 1), Kin W1 c3 (c3 + 1)], [], []⟩, hm42.rebase hu42 (fun q hq => ?_), ?_⟩
          · simp only [List.mem_cons, List.not_mem_nil, or_false] at hq
            rcases hq with rfl | rfl | rfl | rfl
            · exact ⟨hk0.1, fun b h1 h2 h3 => ⟨hC0 b h2, hk0.2 b h1 h2 h3⟩⟩
            · exact ⟨hk1.1, fun b h1 h2 h3 => ⟨not_at hC1 h1 h2, hk1.2 b h1 h2 h3⟩⟩
            · exact ⟨hk2.1, fun b h1 h2 h3 => ⟨not_at hC2 h1 h2, hk2.2 b h1 h2 h3⟩⟩
            · exact ⟨hk3.1, fun b h1 h2 h3 => ⟨not_at hC3 h1 h2, hk3.2 b h1 h2 h3⟩⟩
          refine s0g (qv_not rfl) ?_
          refine s0g (qv_pickT rfl rfl) ?_
          refine s0 (qv_pickF rfl rfl) ?_
          refine tl_nil (tp_normal ?_)
          refine tc_false rfl ?_
          refine tc_skip (tp_block_normal (tp_normal ?_))
          refine tc_region ?_
          refine s0 (qv_succ rfl rfl (by omega)) ?_
          refine s0 (qv_move rfl) ?_
          exact tl_nil (tp_roundW (k + 1) ⟨by omega, by first | (rw [ofL_take hI.2.2.1 he13 c18, if_pos c22, if_pos c35]; simpa using hj42) | (rw [ofL_take hI.2.2.1 he13 c18, if_pos c22, if_neg c35]; simpa using hj28) | (rw [ofL_take hI.2.2.1 he13 c18, if_neg c22, if_pos c35]; simpa using hj42) | (rw [ofL_take hI.2.2.1 he13 c18, if_neg c22, if_neg c35]; simpa using hI.2.1), hI.2.2.1.step he13 c18, by have h_ := hI.2.2.2; first | exact h_ | (have := hm28.size; have := hm42.size; have := hu28.size; have := hu42.size; simp only at *; omega) | (have := hm28.size; have := hu28.size; simp only at *; omega) | (have := hm42.size; have := hu42.size; simp only at *; omega)⟩ (by omega) ⟨rfl, trivial⟩ rfl rfl rfl)
        ·
          refine s0g (qv_move rfl) ?_
          refine sk ?_
          refine sk ?_
          refine sk ?_
          refine sk ?_
          refine sk ?_
          refine sk ?_
          refine sk ?_
          refine s0g (qv_pickF rfl rfl) ?_
          refine s0 (qv_pickF rfl rfl) ?_
          refine tl_nil (tp_normal ?_)
          refine tc_false rfl ?_
          refine tc_skip (tp_block_normal (tp_normal ?_))
          refine tc_region ?_
          refine s0 (qv_succ rfl rfl (by omega)) ?_
          refine s0 (qv_move rfl) ?_
          exact tl_nil (tp_roundW (k + 1) ⟨by omega, by first | (rw [ofL_take hI.2.2.1 he13 c18, if_pos c22, if_pos c35]; simpa using hj42) | (rw [ofL_take hI.2.2.1 he13 c18, if_pos c22, if_neg c35]; simpa using hj28) | (rw [ofL_take hI.2.2.1 he13 c18, if_neg c22, if_pos c35]; simpa using hj42) | (rw [ofL_take hI.2.2.1 he13 c18, if_neg c22, if_neg c35]; simpa using hI.2.1), hI.2.2.1.step he13 c18, by have h_ := hI.2.2.2; first | exact h_ | (have := hm28.size; have := hm42.size; have := hu28.size; have := hu42.size; simp only at *; omega) | (have := hm28.size; have := hu28.size; simp only at *; omega) | (have := hm42.size; have := hu42.size; simp only at *; omega)⟩ (by omega) ⟨rfl, trivial⟩ rfl rfl rfl)
  ·
    refine tl_nil (tp_normal ?_)
    refine tc_seq ?_
    refine tc_false rfl ?_
    refine tc_exit (tp_then_exit (tp_then_exit (tp_block_exit (tp_end0n rfl ?_))))
    intro w' hm
    exact ⟨rfl, by rw [← ofL_end (k := k) (by omega)]; exact hJ _ _ _ hI.2.1 hm.below⟩
set_option maxRecDepth 100000 in
theorem balB_calls (w : World) (b : Book) (ba : Option Addr) (bc : Nat) (acc before : Int) (hok : BookOk b) (hb : SlIn w 6 encPost ba b.posts) :
    Calls Try.prog 88 #[.agg (bookA b ba bc), .int .i64 acc, .int .i64 before] w (fun e w' => e = .returned (.int .i64 (balB b acc before)) ∧ Below w.heap.size w w') := by
  refine calls_of_tcM (N := 20) (vs := [.agg (bookA b ba bc), .int .i64 acc, .int .i64 before]) Try.func88 rfl rfl (Nat.le_of_ble_eq_true rfl) ?_
  refine tc_seq ?_
  refine tc_region ?_
  refine tl_box rfl (by decide) (fun b3_0 => ?_)
  refine s0 (qv_assign rfl) ?_
  refine tl_nil (tp_normal ?_)
  refine tc_seq ?_
  refine tc_region ?_
  refine tl_alloc ze_3 (by decide) (fun b7_1 => ?_)
  refine tl_store1 (i := 0) sz_3 rfl rfl rfl rfl rfl (Nat.le_of_ble_eq_true rfl) ?_
  refine tl_nil (tp_normal ?_)
  refine tc_seq ?_
  refine tc_seq ?_
  refine tc_region ?_
  refine s0 (qv_ldBW (i := 1) ag_80 rfl rfl rfl) ?_
  refine s0 (qv_move rfl) ?_
  refine s0 (qv_move rfl) ?_
  refine tl_callR fn_90 rfl (by decide) (fun w hm => of_calls w b ba bc acc before) (fun r13 wa13 wb13 ha13 hb13 hr13 => ?_)
  refine tl_nil (tp_normal ?_)
  refine tc_block ?_
  refine tc_rangeFuncB (encPair) (ofL acc before 0 b.posts) (fun (s : Int) => [(0, b7_1, .cells #[.int .i64 s] 3 (0, 0))]) (fun pre (s : Int) => s = isum (fun x : Int × Int => x.2) pre) (0) fn_109 rfl (fun _ => rfl) (fun _ => rfl) rfl (fun w1 W1 lq C hm1 hB hC0 hCk hCW => of_it W1 b ba bc acc before w.heap.size r13.1 r13.2.1 r13.2.2 lq C (hb.move (Mem.has_base.later hm1 hB).2 (Nat.le_refl _) (Nat.le_refl _)) hok (((Mem.has_kept (.head _)).later hm1 hB).2 _ hr13.1.1 hr13.1.2.1 |>.trans hr13.1.2.2) (((Mem.has_kept (.head _)).later hm1 hB).2 _ hr13.2.1.1 hr13.2.1.2.1 |>.trans hr13.2.1.2.2) (((Mem.has_kept (.head _)).later hm1 hB).2 _ hr13.2.2.1 hr13.2.2.2.1 |>.trans hr13.2.2.2.2) (Mem.has_base.later hm1 hB).1 hC0 (hCk _ (.head _) _ hr13.1.1 hr13.1.2.1 trivial) (hCk _ (.head _) _ hr13.2.1.1 hr13.2.1.2.1 trivial) (hCk _ (.head _) _ hr13.2.2.1 hr13.2.2.2.1 trivial) hCW) ?_ ?_
  ·
    intro lp Dp Wp rp pre xe post s hx hI hr
    have hbd := of_sum_bd hok hx (fun x => x.2) (fun y hy => (of_bd hok hy).2.2)
    have hbe := of_bd hok (show xe ∈ (ofL acc before 0 b.posts) from by rw [hx]; simp)
    refine tc_region ?_
    refine s0 (qv_assign rfl) ?_
    refine tl_nil (tp_begin (i := 2) rfl hr ?_)
    refine tc_block ?_
    refine tc_region ?_
    refine s0 (qv_ldB (i := 0) sc_3 rfl rfl rfl) ?_
    refine s0 (qv_move rfl) ?_
    refine s0 (qv_addI rfl rfl (by omega)) ?_
    refine tl_store1 (i := 0) sz_3 rfl rfl rfl rfl rfl (Nat.le_of_ble_eq_true rfl) ?_
    exact tl_nil (tp_block_normal (tp_roundF ((s + xe.2)) (by rw [hI, isum_append]; simp [isum]) rfl rfl))
  ·
    intro Dp s hI
    refine tp_block_normal (tp_normal ?_)
    refine tc_seq ?_
    refine tc_region ?_
    refine s0 (qv_ldB (i := 0) sc_3 rfl rfl rfl) ?_
    refine s0 (qv_assign rfl) ?_
    refine tl_nil (tp_normal ?_)
    refine tc_ret (tp_end1M rfl rfl ?_)
    intro w' hm
    exact ⟨by rw [hI]; rfl, hm.below⟩
set_option maxRecDepth 100000 in
theorem balance_calls (w : World) (b : Book) (ba : Option Addr) (bc : Nat) (at_ tick : Int) (htk : -1000000000000 ≤ tick) (hb : SlIn w 6 encPost ba b.posts) :
    Calls Try.prog 45 #[.agg (bookA b ba bc), .int .i64 at_, .int .i64 tick] w (fun e w' => e = .returned (.tuple #[.int .i64 (balance b at_ tick).1, .int .i64 (balance b at_ tick).2]) ∧ Below w.heap.size w w') := by
  refine calls_of_tc (N := 24) (vs := [.agg (bookA b ba bc), .int .i64 at_, .int .i64 tick]) Try.func45 rfl rfl (Nat.le_of_ble_eq_true rfl) ?_
  refine tc_seq ?_
  refine tc_region ?_
  refine tl_box rfl (by decide) (fun b3_0 => ?_)
  refine s0 (qv_assign rfl) ?_
  refine s0 (qv_assign rfl) ?_
  refine tl_nil (tp_normal ?_)
  refine tc_seq ?_
  refine tc_seq ?_
  refine tc_region ?_
  refine s0 (qv_ldBW (i := 0) ag_80 rfl rfl rfl) ?_
  refine s0 (qv_call fn_42 rfl (fun w hm => bcheck_calls w b ba bc (hb.into Mem.has_base hm))) ?_
  refine s0 (qv_assign rfl) ?_
  refine tl_nil (tp_normal ?_)
  refine tc_seq ?_
  refine tc_region ?_
  refine s0 (qv_move rfl) ?_
  refine sd (qv_neq rfl rfl) (fun c12 => ?_) (fun c12 => ?_)
  ·
    refine tl_nil (tp_normal ?_)
    refine tc_true rfl ?_
    refine tc_seq ?_
    refine tc_region ?_
    refine s0 (qv_move rfl) ?_
    refine s0 (qv_assign rfl) ?_
    refine s0 (qv_assign rfl) ?_
    refine tl_nil (tp_normal ?_)
    refine tc_ret (tp_then_ret (tp_end2 rfl rfl rfl ?_))
    intro w' hm
    exact ⟨by rw [balance_err (by omega)], hm.below⟩
  ·
    refine tl_nil (tp_normal ?_)
    refine tc_false rfl ?_
    refine tc_skip (tp_normal ?_)
    refine tc_seq ?_
    refine tc_seq ?_
    refine tc_region ?_
    refine s0 (qv_ldBW (i := 0) ag_80 rfl rfl rfl) ?_
    refine s0 (qv_move rfl) ?_
    refine sd (qv_call fn_87 rfl (fun w hm => account_calls w b ba bc at_)) (fun c16 => ?_) (fun c16 => ?_)
    ·
      refine s0 (qv_not rfl) ?_
      refine tl_nil (tp_normal ?_)
      refine tc_false rfl ?_
      refine tc_skip (tp_normal ?_)
      refine tc_seq ?_
      refine tc_region ?_
      refine s0 (qv_ldBW (i := 0) ag_80 rfl rfl rfl) ?_
      refine s0 (qv_move rfl) ?_
      refine s0 (qv_move rfl) ?_
      refine s0 (qv_min2 rfl rfl) ?_
      refine s0 (qv_addI rfl rfl (by split <;> omega)) ?_
      refine s0 (qv_call fn_88 rfl (fun w hm => balB_calls w b ba bc at_ ((if (1000000) < tick then (1000000) else tick) + (1)) (bookErr_zero (by omega)) (hb.into Mem.has_base hm))) ?_
      refine s0 (qv_assign rfl) ?_
      refine s0 (qv_assign rfl) ?_
      refine tl_nil (tp_normal ?_)
      refine tc_ret (tp_end2 rfl rfl rfl ?_)
      intro w' hm
      exact ⟨by rw [balance_ok (by omega) c16], hm.below⟩
    ·
      refine s0 (qv_not rfl) ?_
      refine tl_nil (tp_normal ?_)
      refine tc_true rfl ?_
      refine tc_seq ?_
      refine tc_region ?_
      refine s0 (qv_assign rfl) ?_
      refine s0 (qv_assign rfl) ?_
      refine tl_nil (tp_normal ?_)
      refine tc_ret (tp_then_ret (tp_end2 rfl rfl rfl ?_))
      intro w' hm
      exact ⟨by rw [balance_none (by omega) c16], hm.below⟩
set_option maxRecDepth 100000 in
theorem span_calls (w : World) (b : Book) (ba : Option Addr) (bc : Nat) (at_ f t : Int) (hb : SlIn w 6 encPost ba b.posts) :
    Calls Try.prog 89 #[.agg (bookA b ba bc), .int .i64 at_, .int .i64 f, .int .i64 t] w (fun e w' => e = .returned (.int .i64 (spanErr b at_ f t)) ∧ Below w.heap.size w w') := by
  refine calls_of_tc (N := 29) (vs := [.agg (bookA b ba bc), .int .i64 at_, .int .i64 f, .int .i64 t]) Try.func89 rfl rfl (Nat.le_of_ble_eq_true rfl) ?_
  refine tc_seq ?_
  refine tc_region ?_
  refine tl_box rfl (by decide) (fun b4_0 => ?_)
  refine s0 (qv_assign rfl) ?_
  refine tl_nil (tp_normal ?_)
  refine tc_seq ?_
  refine tc_seq ?_
  refine tc_region ?_
  refine s0 (qv_ldBW (i := 0) ag_80 rfl rfl rfl) ?_
  refine s0 (qv_call fn_42 rfl (fun w hm => bcheck_calls w b ba bc (hb.into Mem.has_base hm))) ?_
  refine s0 (qv_assign rfl) ?_
  refine tl_nil (tp_normal ?_)
  refine tc_block ?_
  refine tc_seq ?_
  refine tc_region ?_
  refine s0 (qv_move rfl) ?_
  refine sd (qv_neq rfl rfl) (fun c14 => ?_) (fun c14 => ?_)
  ·
    refine s0 (qv_assign rfl) ?_
    refine tl_nil (tp_normal ?_)
    refine tc_true rfl ?_
    refine tc_seq ?_
    refine tc_region ?_
    refine s0 (qv_move rfl) ?_
    refine s0 (qv_assign rfl) ?_
    refine tl_nil (tp_normal ?_)
    refine tc_ret (tp_block_ret (tp_then_ret (tp_end1 rfl rfl ?_)))
    intro w' hm
    exact ⟨by rw [span_err (by omega)], hm.below⟩
  ·
    refine s0 (qv_assign rfl) ?_
    refine tl_nil (tp_normal ?_)
    refine tc_false rfl ?_
    refine tc_seq ?_
    refine tc_region ?_
    refine s0 (qv_ldBW (i := 0) ag_80 rfl rfl rfl) ?_
    refine s0 (qv_move rfl) ?_
    refine sd (qv_call fn_87 rfl (fun w hm => account_calls w b ba bc at_)) (fun c19 => ?_) (fun c19 => ?_)
    ·
      refine s0 (qv_not rfl) ?_
      refine s0 (qv_assign rfl) ?_
      refine tl_nil (tp_normal ?_)
      refine tc_false rfl ?_
      refine tc_seq ?_
      refine tc_seq ?_
      refine tc_region ?_
      refine s0 (qv_move rfl) ?_
      refine sd (qv_lss rfl rfl) (fun c23 => ?_) (fun c23 => ?_)
      ·
        refine s0 (qv_assign rfl) ?_
        refine tl_nil (tp_normal ?_)
        refine tc_true rfl ?_
        refine tc_skip (tp_normal ?_)
        refine tc_true rfl ?_
        refine tc_seq ?_
        refine tc_region ?_
        refine s0 (qv_assign rfl) ?_
        refine tl_nil (tp_normal ?_)
        refine tc_ret (tp_block_ret (tp_then_ret (tp_end1 rfl rfl ?_)))
        intro w' hm
        exact ⟨by rw [span_arg (by omega) c19 (by omega)], hm.below⟩
      ·
        refine s0 (qv_assign rfl) ?_
        refine tl_nil (tp_normal ?_)
        refine tc_false rfl ?_
        refine tc_seq ?_
        refine tc_region ?_
        refine s0 (qv_move rfl) ?_
        refine s0 (qv_move rfl) ?_
        refine sd (qv_gtr rfl rfl) (fun c26 => ?_) (fun c26 => ?_)
        ·
          refine s0 (qv_assign rfl) ?_
          refine tl_nil (tp_normal ?_)
          refine tc_true rfl ?_
          refine tc_skip (tp_normal ?_)
          refine tc_true rfl ?_
          refine tc_seq ?_
          refine tc_region ?_
          refine s0 (qv_assign rfl) ?_
          refine tl_nil (tp_normal ?_)
          refine tc_ret (tp_block_ret (tp_then_ret (tp_end1 rfl rfl ?_)))
          intro w' hm
          exact ⟨by rw [span_arg (by omega) c19 (by omega)], hm.below⟩
        ·
          refine s0 (qv_assign rfl) ?_
          refine tl_nil (tp_normal ?_)
          refine tc_false rfl ?_
          refine tc_region ?_
          refine s0 (qv_move rfl) ?_
          refine sd (qv_gtr rfl rfl) (fun c28 => ?_) (fun c28 => ?_)
          ·
            refine s0 (qv_assign rfl) ?_
            refine tl_nil (tp_normal ?_)
            refine tc_true rfl ?_
            refine tc_seq ?_
            refine tc_region ?_
            refine s0 (qv_assign rfl) ?_
            refine tl_nil (tp_normal ?_)
            refine tc_ret (tp_block_ret (tp_then_ret (tp_end1 rfl rfl ?_)))
            intro w' hm
            exact ⟨by rw [span_arg (by omega) c19 (by omega)], hm.below⟩
          ·
            refine s0 (qv_assign rfl) ?_
            refine tl_nil (tp_normal ?_)
            refine tc_false rfl ?_
            refine tc_skip (tp_block_normal (tp_normal ?_))
            refine tc_seq ?_
            refine tc_region ?_
            refine s0 (qv_assign rfl) ?_
            refine tl_nil (tp_normal ?_)
            refine tc_ret (tp_end1 rfl rfl ?_)
            intro w' hm
            exact ⟨by rw [span_ok (by omega) c19 (by omega)], hm.below⟩
    ·
      refine s0 (qv_not rfl) ?_
      refine s0 (qv_assign rfl) ?_
      refine tl_nil (tp_normal ?_)
      refine tc_true rfl ?_
      refine tc_seq ?_
      refine tc_region ?_
      refine s0 (qv_assign rfl) ?_
      refine tl_nil (tp_normal ?_)
      refine tc_ret (tp_block_ret (tp_then_ret (tp_end1 rfl rfl ?_)))
      intro w' hm
      exact ⟨by rw [span_none (by omega) c19], hm.below⟩
set_option maxRecDepth 100000 in
set_option maxHeartbeats 4000000 in
theorem totals_calls (w : World) (b : Book) (ba : Option Addr) (bc : Nat) (acc f before : Int) (hb : SlIn w 6 encPost ba b.posts) :
    Calls Try.prog 46 #[.agg (bookA b ba bc), .int .i64 acc, .int .i64 f, .int .i64 before] w (fun e w' => ∃ r : Option Addr × Nat, e = .returned (.tuple #[.slice r.1 (totals b acc f before).1.length r.2, .int .i64 (totals b acc f before).2]) ∧ Below w.heap.size w w' ∧ ((totals b acc f before).1.length ≤ r.2 ∧ SlAt w' w.heap.size w'.heap.size 1 encZ r.1 (totals b acc f before).1)) := by
  refine calls_of_tcM (N := 46) (vs := [.agg (bookA b ba bc), .int .i64 acc, .int .i64 f, .int .i64 before]) Try.func46 rfl rfl (Nat.le_of_ble_eq_true rfl) ?_
  refine tc_seq ?_
  refine tc_region ?_
  refine tl_box rfl (by decide) (fun b4_0 => ?_)
  refine tl_box rfl (by decide) (fun b6_1 => ?_)
  refine s0 (qv_assign rfl) ?_
  refine s0 (qv_assign rfl) ?_
  refine tl_nil (tp_normal ?_)
  refine tc_seq ?_
  refine tc_seq ?_
  refine tc_region ?_
  refine s0 (qv_ldBW (i := 1) ag_80 rfl rfl rfl) ?_
  refine s0 (qv_move rfl) ?_
  refine s0 (qv_ldB (i := 0) sc_3 rfl rfl rfl) ?_
  refine s0 (qv_move rfl) ?_
  refine s0 (qv_call fn_89 rfl (fun w hm => span_calls w b ba bc acc f before (hb.into Mem.has_base hm))) ?_
  refine s0 (qv_assign rfl) ?_
  refine tl_nil (tp_normal ?_)
  refine tc_seq ?_
  refine tc_region ?_
  refine s0 (qv_move rfl) ?_
  refine sd (qv_neq rfl rfl) (fun c21 => ?_) (fun c21 => ?_)
  ·
    refine tl_nil (tp_normal ?_)
    refine tc_true rfl ?_
    refine tc_seq ?_
    refine tc_region ?_
    refine s0 (qv_move rfl) ?_
    refine s0 (qv_assign rfl) ?_
    refine s0 (qv_assign rfl) ?_
    refine tl_nil (tp_normal ?_)
    refine tc_ret (tp_then_ret (tp_end2M rfl rfl rfl ?_))
    intro w' hm
    rw [show totals b acc f before = ([], spanErr b acc f before) from by rw [totals, if_pos (by omega)]]
    exact ⟨(none, 0), rfl, hm.below, Nat.le_refl 0, SlAt.nothing⟩
  ·
    refine tl_nil (tp_normal ?_)
    refine tc_false rfl ?_
    refine tc_skip (tp_normal ?_)
    refine tc_seq ?_
    refine tc_region ?_
    refine tl_alloc ze_104 (by decide) (fun b11_2 => ?_)
    refine tl_nil (tp_normal ?_)
    refine tc_seq ?_
    refine tc_seq ?_
    have hz0 : LBox encZ 1 104 8 (tot8 b.posts f []) (.cells #[.int .i64 0, .int .i64 0, .int .i64 0, .int .i64 0, .int .i64 0, .int .i64 0, .int .i64 0, .int .i64 0] 104 (0, 0)) := LBox.ofInts (l := [0, 0, 0, 0, 0, 0, 0, 0]) (by decide)
    obtain ⟨hok, hacc, hf0, hf1, hf2⟩ := span_zero (b := b) (k := acc) (f := f) (t := before) (by omega)
    refine tc_region ?_
    refine s0 (qv_ldBW (i := 2) ag_80 rfl rfl rfl) ?_
    refine s0 (qv_move rfl) ?_
    refine s0 (qv_move rfl) ?_
    refine tl_callR fn_90 rfl (by decide) (fun w hm => of_calls w b ba bc acc before) (fun r26 wa26 wb26 ha26 hb26 hr26 => ?_)
    refine tl_nil (tp_normal ?_)
    refine tc_block ?_
    refine tc_rangeFuncB (encPair) (ofL acc before 0 b.posts) (fun (z : List Int × Obj) => [(0, b11_2, z.2)]) (fun pre (z : List Int × Obj) => z.1 = tot8 b.posts f pre ∧ LBox encZ 1 104 8 z.1 z.2) ((tot8 b.posts f [], .cells #[.int .i64 0, .int .i64 0, .int .i64 0, .int .i64 0, .int .i64 0, .int .i64 0, .int .i64 0, .int .i64 0] 104 (0, 0))) fn_109 ⟨rfl, hz0⟩ (fun _ => rfl) (fun _ => rfl) rfl (fun w1 W1 lq C hm1 hB hC0 hCk hCW => of_it W1 b ba bc acc before w.heap.size r26.1 r26.2.1 r26.2.2 lq C (hb.move (Mem.has_base.later hm1 hB).2 (Nat.le_refl _) (Nat.le_refl _)) hok (((Mem.has_kept (.head _)).later hm1 hB).2 _ hr26.1.1 hr26.1.2.1 |>.trans hr26.1.2.2) (((Mem.has_kept (.head _)).later hm1 hB).2 _ hr26.2.1.1 hr26.2.1.2.1 |>.trans hr26.2.1.2.2) (((Mem.has_kept (.head _)).later hm1 hB).2 _ hr26.2.2.1 hr26.2.2.2.1 |>.trans hr26.2.2.2.2) (Mem.has_base.later hm1 hB).1 hC0 (hCk _ (.head _) _ hr26.1.1 hr26.1.2.1 trivial) (hCk _ (.head _) _ hr26.2.1.1 hr26.2.1.2.1 trivial) (hCk _ (.head _) _ hr26.2.2.1 hr26.2.2.2.1 trivial) hCW) ?_ ?_
    ·
      intro lp Dp Wp rp pre xe post z hx hI hr
      have hbe := of_bd hok (show xe ∈ (ofL acc before 0 b.posts) from by rw [hx]; simp)
      refine tc_seq ?_
      refine tc_region ?_
      refine s0 (qv_assign rfl) ?_
      refine tl_nil (tp_normal ?_)
      refine tc_region ?_
      refine s0 (qv_assign rfl) ?_
      refine tl_nil (tp_begin (i := 3) rfl hr ?_)
      refine tc_block ?_
      refine tc_seq ?_
      refine tc_region ?_
      refine s0 (qv_fa fo_80_1 rfl) ?_
      refine s0 (qv_ldB (i := 2) sc_40 rfl rfl rfl) ?_
      refine s0 (qv_move rfl) ?_
      refine si st_40 hb rfl rfl (by omega) (fun e32 he32 => ?_)
      refine s0 (qv_ldEW ag_54 hb Mem.has_base rfl he32) ?_
      refine tl_alloc ze_54 (by decide) (fun b14_3 => ?_)
      refine tl_storeL (i := 0) sz_54 (hb.szs _ (List.mem_of_getElem? he32)) (one_54 _) rfl rfl rfl rfl ?_
      refine tl_nil (tp_normal ?_)
      refine tc_seq ?_
      refine tc_region ?_
      refine s0 (qv_fa fo_54_3 rfl) ?_
      refine s0 (qv_ldB (i := 0) sc_3 rfl rfl rfl) ?_
      refine s0 (qv_ldB (i := 2) sc_3 rfl rfl rfl) ?_
      refine sd (qv_geq rfl rfl) (fun c37 => ?_) (fun c37 => ?_)
      ·
        refine tl_nil (tp_normal ?_)
        refine tc_true rfl ?_
        obtain ⟨_, _, _, _, _, hp0, hp1, _, _, hw0, hw1, _, _⟩ := hok.posts e32 (List.mem_of_getElem? he32)
        refine tc_region ?_
        refine s0 (qv_fa fo_54_4 rfl) ?_
        refine s0 (qv_ldB (i := 0) sc_3 rfl rfl rfl) ?_
        obtain ⟨e40, he40⟩ := LBox.at hI.2 (show (e32.why).toNat < 8 from (by omega))
        refine s0 (qv_iA at_104 rfl rfl (by omega)) ?_
        refine s0 (qv_ldLB (i := (e32.why).toNat) (j := 0) 1 sc_3 rfl hI.2 rfl (by first | rfl | omega) he40 rfl) ?_
        refine s0 (qv_move rfl) ?_
        have hbs := of_sum_bd hok hx (fun x => if pwB b.posts f x.1.toNat ((e32.why.toNat : Nat) : Int) then x.2 else 0) (fun y hy => by have := of_bd hok hy; split <;> omega)
        have h40 : e40 = isum (fun x : Int × Int => if pwB b.posts f x.1.toNat ((e32.why.toNat : Nat) : Int) then x.2 else 0) pre := by (have h_ := he40; rw [hI.1, tot8_at _ _ _ (by omega)] at h_; exact (Option.some.inj h_).symm)
        refine s0 (qv_addI rfl rfl (by omega)) ?_
        refine s0 (qv_iA at_104 rfl rfl (by omega)) ?_
        refine tl_storeL1 (f := (Value.int .i64)) (i := (e32.why).toNat) (j := 1) ((e40 + xe.2)) sz_3 hI.2 he40 rfl rfl (by first | rfl | omega) rfl rfl rfl (fun ol1 hll1 => ?_)
        exact tl_nil (tp_block_normal (tp_roundF ((z.1.set (e32.why).toNat ((e40 + xe.2))), ol1) ⟨by rw [tot8_add he32 (by omega) (show e32.why = ((e32.why.toNat : Nat) : Int) by omega) (by omega) (hI.1 ▸ he40), ← hI.1], hll1⟩ rfl rfl))
      ·
        refine tl_nil (tp_normal ?_)
        refine tc_false rfl ?_
        exact tc_skip (tp_block_normal (tp_roundF (z.1, z.2) ⟨by rw [tot8_skip he32 (by omega)]; exact hI.1, hI.2⟩ rfl rfl))
    ·
      intro Dp z hI
      refine tp_block_normal (tp_normal ?_)
      refine tc_seq ?_
      refine tc_region ?_
      refine s0 (qv_sliceArr Try.underlying104 sz_3 rfl) ?_
      refine s0 (qv_assign rfl) ?_
      refine s0 (qv_assign rfl) ?_
      refine tl_nil (tp_normal ?_)
      refine tc_ret (tp_end2M rfl rfl rfl ?_)
      intro w' hm
      have e1 : totals b acc f before = (totalsL b acc f before, 0) := by rw [totals, if_neg (by omega)]
      have h8 := hI.2.len
      rw [hI.1] at h8
      have hbx := hm.boxOf (List.mem_of_getElem? (i := 0) rfl)
      rw [e1]
      refine ⟨(some ⟨b11_2, 0, none⟩, 8), by rw [show (totalsL b acc f before).length = 8 from h8], hm.below, Nat.le_of_eq h8, ?_⟩
      have hsl := hI.2.sl b11_2
      rw [hI.1] at hsl
      exact hsl.move (fun c h1 h2 => by obtain rfl : c = b11_2 := by omega
                                        rw [boxW_get]; exact hbx.2) hbx.1 (get_lt hbx.2)
end Go.Q
namespace Go.Q
open Go Go.Proofs Go.RowKit
theorem fn_47 : IsFn Try.prog 47 := isFn_of Try.func47 (by kernel_rfl) rfl
theorem fn_83 : IsFn Try.prog 83 := isFn_of Try.func83 (by kernel_rfl) rfl
theorem ze_101 : Zero Try.prog 101 #[.int .i64 0, .slice none 0 0, .int .i64 0] := fun w => ⟨.agg #[.int .i64 0, .slice none 0 0, .int .i64 0], by kernel_rfl, rfl⟩
theorem bt_101 : BuildTy Try.prog 101 #[(0, 2), (2, 1)] #[.int .i64 0, .slice none 0 0, .int .i64 0] := ⟨_, Try.underlying101, fun w => by kernel_rfl, ze_101⟩
theorem sz_101 : Size Try.prog 101 3 := fun w => by kernel_rfl
theorem ag_101 : Agg Try.prog 101 3 := fun w => ⟨by kernel_rfl, by kernel_rfl⟩
set_option maxRecDepth 100000 in
theorem sameB_calls (w : World) (b : Book) (ba : Option Addr) (bc : Nat) (b2 : Book) (ba2 : Option Addr) (bc2 : Nat) (hb : SlIn w 6 encPost ba b.posts) (hb2 : SlIn w 6 encPost ba2 b2.posts) :
    Calls Try.prog 40 #[.agg (bookA b ba bc), .agg (bookA b2 ba2 bc2)] w (fun e w' => e = .returned (.bool (decide (b = b2))) ∧ Below w.heap.size w w') := by
  have hlenb := hb.len
  simp only [maxLen] at hlenb
  have hlenb2 := hb2.len
  simp only [maxLen] at hlenb2
  refine calls_of_tc (N := 38) (vs := [.agg (bookA b ba bc), .agg (bookA b2 ba2 bc2)]) Try.func40 rfl rfl (Nat.le_of_ble_eq_true rfl) ?_
  refine tc_seq ?_
  refine tc_region ?_
  refine tl_box rfl (by decide) (fun b2_0 => ?_)
  refine tl_box rfl (by decide) (fun b3_1 => ?_)
  refine s0 (qv_assign rfl) ?_
  refine tl_nil (tp_normal ?_)
  refine tc_seq ?_
  refine tc_seq ?_
  refine tc_region ?_
  refine s0 (qv_fa fo_80_0 rfl) ?_
  refine s0 (qv_ldB (i := 1) sc_3 rfl rfl rfl) ?_
  refine s0 (qv_fa fo_80_0 rfl) ?_
  refine s0 (qv_ldB (i := 0) sc_3 rfl rfl rfl) ?_
  refine sd (qv_neq rfl rfl) (fun c10 => ?_) (fun c10 => ?_)
  ·
    refine s0 (qv_move rfl) ?_
    refine sk ?_
    refine sk ?_
    refine sk ?_
    refine sk ?_
    refine sk ?_
    refine sk ?_
    refine sk ?_
    refine s0 (qv_pickT rfl rfl) ?_
    refine tl_nil (tp_normal ?_)
    refine tc_true rfl ?_
    refine tc_seq ?_
    refine tc_region ?_
    refine s0 (qv_assign rfl) ?_
    refine tl_nil (tp_normal ?_)
    refine tc_ret (tp_then_ret (tp_end1 rfl rfl ?_))
    intro w' hm
    exact ⟨by rw [decide_eq_false (book_ne (by first | exact .inl c10 | exact .inr (fun e => by rw [e] at c18; exact c18 rfl)))], hm.below⟩
  ·
    refine s0 (qv_move rfl) ?_
    refine s0g (qv_fa fo_80_1 rfl) ?_
    refine s0g (qv_ldB (i := 1) sc_40 rfl rfl rfl) ?_
    refine s0g (qv_len st_40 rfl) ?_
    refine s0g (qv_fa fo_80_1 rfl) ?_
    refine s0g (qv_ldB (i := 0) sc_40 rfl rfl rfl) ?_
    refine s0g (qv_len st_40 rfl) ?_
    refine sdg (qv_neq rfl rfl) (fun c18 => ?_) (fun c18 => ?_)
    ·
      refine s0 (qv_pickF rfl rfl) ?_
      refine tl_nil (tp_normal ?_)
      refine tc_true rfl ?_
      refine tc_seq ?_
      refine tc_region ?_
      refine s0 (qv_assign rfl) ?_
      refine tl_nil (tp_normal ?_)
      refine tc_ret (tp_then_ret (tp_end1 rfl rfl ?_))
      intro w' hm
      exact ⟨by rw [decide_eq_false (book_ne (by first | exact .inl c10 | exact .inr (fun e => by rw [e] at c18; exact c18 rfl)))], hm.below⟩
    ·
      refine s0 (qv_pickF rfl rfl) ?_
      refine tl_nil (tp_normal ?_)
      refine tc_false rfl ?_
      refine tc_skip (tp_normal ?_)
      refine tc_seq ?_
      refine tc_seq ?_
      refine tc_region ?_
      refine s0 (qv_assign rfl) ?_
      refine tl_nil (tp_normal ?_)
      refine tc_block (tc_loopS (fun (k : Nat) => [(5, .int .i64 (k : Int))]) (fun (k : Nat) => k ≤ b.posts.length ∧ b.posts.take k = b2.posts.take k) (fun (k : Nat) => b.posts.length - k) (0) ⟨Nat.zero_le _, rfl⟩ ⟨rfl, trivial⟩ ?_)
      rintro k hI
      refine tc_seq ?_
      refine tc_seq ?_
      refine tc_region ?_
      refine s0 (qv_move rfl) ?_
      refine s0 (qv_fa fo_80_1 rfl) ?_
      refine s0 (qv_ldB (i := 1) sc_40 rfl rfl rfl) ?_
      refine s0 (qv_len st_40 rfl) ?_
      refine sd (qv_lss rfl rfl) (fun c24 => ?_) (fun c24 => ?_)
      ·
        refine tl_nil (tp_normal ?_)
        refine tc_true rfl ?_
        refine tc_skip (tp_normal ?_)
        refine tc_seq ?_
        refine tc_block ?_
        refine tc_seq ?_
        refine tc_draws mixed (by kernel_rfl) ?_
        refine q0 (qv_fa fo_80_1 rfl) ?_
        refine q0 (qv_ldB (i := 1) sc_40 rfl rfl rfl) ?_
        refine q0 (qv_move rfl) ?_
        refine qn st_40 hb rfl rfl (by omega) (fun e30 he30 => ?_)
        refine q0 (qv_ldEW ag_54 hb Mem.has_base rfl he30) ?_
        refine q0 (qv_fa fo_80_1 rfl) ?_
        refine q0 (qv_ldB (i := 0) sc_40 rfl rfl rfl) ?_
        refine q0 (qv_move rfl) ?_
        refine qn st_40 hb2 rfl rfl (by omega) (fun e35 he35 => ?_)
        refine q0 (qv_ldEW ag_54 hb2 Mem.has_base rfl he35) ?_
        refine qd (qv_nePosting e30 e35 rfl rfl) (fun c37 => ?_) (fun c37 => ?_)
        ·
          refine tq_nil (tp_normal ?_)
          refine tc_true rfl ?_
          refine tc_seq ?_
          refine tc_region ?_
          refine s0 (qv_assign rfl) ?_
          refine tl_nil (tp_normal ?_)
          refine tc_ret (tp_block_ret (tp_then_ret (tp_then_ret (tp_block_ret (tp_then_ret (tp_end1 rfl rfl ?_))))))
          intro w' hm
          exact ⟨by rw [decide_eq_false (book_ne (.inr (of_decide_eq_false (by rw [decide_eq_false (take_diff he30 he35 c37)])))) ], hm.below⟩
        ·
          refine tq_nil (tp_normal ?_)
          refine tc_false rfl ?_
          refine tc_skip (tp_block_normal (tp_normal ?_))
          refine tc_region ?_
          refine s0 (qv_move rfl) ?_
          refine s0 (qv_succ rfl rfl (by omega)) ?_
          refine s0 (qv_assign rfl) ?_
          exact tl_nil (tp_roundS (k + 1) ⟨by omega, take_step hI.2 he30 he35 (Classical.not_not.1 c37)⟩ (by omega) ⟨rfl, trivial⟩ rfl rfl rfl rfl)
      ·
        refine tl_nil (tp_normal ?_)
        refine tc_false rfl ?_
        refine tc_exit (tp_then_exit (tp_then_exit (tp_block_exit (tp_normal ?_))))
        refine tc_seq ?_
        refine tc_region ?_
        refine s0 (qv_assign rfl) ?_
        refine tl_nil (tp_normal ?_)
        refine tc_ret (tp_end1 rfl rfl ?_)
        intro w' hm
        exact ⟨by rw [decide_eq_true (book_eq (by omega) (take_same hI.2 (by omega) (by omega)))], hm.below⟩
set_option maxRecDepth 100000 in
set_option maxHeartbeats 4000000 in
theorem settle_calls (w : World) (b : Book) (ba : Option Addr) (bc : Nat) (l : List Posting) (la : Option Addr) (lc : Nat) (hb : SlIn w 6 encPost ba b.posts) (hl : SlIn w 6 encPost la l) :
    Calls Try.prog 43 #[.agg (bookA b ba bc), .slice la l.length lc] w (fun e w' => ∃ r : Option Addr × Nat, e = .returned (.tuple #[.agg (bookA (settle b l).1 r.1 r.2), .int .i64 (settle b l).2]) ∧ Below w.heap.size w w' ∧ ((settle b l).1.posts.length ≤ r.2 ∧ SlAt w' w.heap.size w'.heap.size 6 encPost r.1 (settle b l).1.posts)) := by
  have hlenb := hb.len
  simp only [maxLen] at hlenb
  refine calls_of_tc (N := 40) (vs := [.agg (bookA b ba bc), .slice la l.length lc]) Try.func43 rfl rfl (Nat.le_of_ble_eq_true rfl) ?_
  refine tc_rowRoom ?_
  refine tc_seq ?_
  refine tc_region ?_
  refine tl_box rfl (by decide) (fun b2_0 => ?_)
  refine tl_alloc ze_80 (by decide) (fun b4_1 => ?_)
  refine s0 (qv_assign rfl) ?_
  refine tl_nil (tp_normal ?_)
  refine tc_seq ?_
  refine tc_seq ?_
  refine tc_region ?_
  refine s0 (qv_ldBW (i := 1) ag_80 rfl rfl rfl) ?_
  refine s0 (qv_call fn_42 rfl (fun w hm => bcheck_calls w b ba bc (hb.into Mem.has_base hm))) ?_
  refine s0 (qv_assign rfl) ?_
  refine tl_nil (tp_normal ?_)
  refine tc_seq ?_
  refine tc_region ?_
  refine s0 (qv_move rfl) ?_
  refine sd (qv_neq rfl rfl) (fun c14 => ?_) (fun c14 => ?_)
  ·
    refine tl_nil (tp_normal ?_)
    refine tc_true rfl ?_
    refine tc_seq ?_
    refine tc_region ?_
    refine s0 (qv_build bt_80 rfl rfl) ?_
    refine s0 (qv_move rfl) ?_
    refine tl_storeO (i := 0) sz_80 rfl rfl rfl rfl rfl rfl rfl ?_
    refine s0 (qv_assign rfl) ?_
    refine tl_nil (tp_normal ?_)
    refine tc_ret (tp_then_ret (tp_endCT (i := 0) rfl rfl rfl ag_80 rfl rfl ?_))
    intro w' hm
    rw [settle_err (by omega)]
    exact ⟨(none, 0), rfl, hm.below, Nat.le_refl 0, SlAt.nothing⟩
  ·
    refine tl_nil (tp_normal ?_)
    refine tc_false rfl ?_
    refine tc_skip (tp_normal ?_)
    refine tc_seq ?_
    have hbk := bookErr_zero (b := b) (by omega)
    have hbl := hbk.len
    refine tc_region ?_
    refine s0 (qv_fa fo_80_1 rfl) ?_
    refine s0 (qv_ldB (i := 1) sc_40 rfl rfl rfl) ?_
    refine tl_callRow 0 fn_82 (fun w hm => cloneP_calls w b.posts ba bc (hb.into Mem.has_base hm) (by omega)) (fun v19 ob19 hr19 => ?_)
    obtain ⟨ra19, rc19, hv19, hc19⟩ := RowOf.slice hr19
    subst hv19
    refine s0 (qv_fa fo_80_1 rfl) ?_
    refine tl_store1 (i := 1) sz_40 rfl rfl rfl rfl rfl (Nat.le_of_ble_eq_true rfl) ?_
    refine tl_nil (tp_normal ?_)
    refine tc_seq ?_
    refine tc_seq ?_
    refine tc_rowKeepL 0 hr19 (fun _ => rfl) (fun Wk lok hik ak ck hvk hck_ hlok hsk => ?_)
    obtain ⟨g1, _, g2⟩ := Value.slice.inj hvk
    subst g1 g2
    have hlp := hl.len
    simp only [maxLen] at hlp
    refine tc_region ?_
    refine s0 (qv_move rfl) ?_
    refine s0 (qv_len st_40 rfl) ?_
    refine s0 (qv_move rfl) ?_
    refine tl_nil (tp_normal ?_)
    refine tc_block (tc_loopG (fun (q : Nat × SlG) => [(23, .int .i64 (q.1 : Int))]) (fun (q : Nat × SlG) => [(1, b2_0, .cells #[.int .i64 b.accounts, .slice q.2.a (addPosts b l q.1).posts.length q.2.c] 80 (0, 0))]) (fun (q : Nat × SlG) => [Kin q.2.W q.2.lo q.2.hi]) (fun (q : Nat × SlG) => [none]) (fun (q : Nat × SlG) => q.1 ≤ l.length ∧ settle b l = settleB (addPosts b l q.1) (l.drop q.1) ∧ w.heap.size ≤ q.2.lo ∧ SlAt q.2.W q.2.lo q.2.hi 6 encPost q.2.a (addPosts b l q.1).posts ∧ (addPosts b l q.1).posts.length ≤ q.2.c ∧ bookErr (addPosts b l q.1) = 0) (fun (q : Nat × SlG) => l.length - q.1) ((0, ⟨Wk, lok, hik, ra19, rc19⟩)) ⟨Nat.zero_le _, settle_from (by omega), hlok, by simp only [addPosts_zero]; exact hsk, by simp only [addPosts_zero]; exact hck_, by simp only [addPosts_zero]; omega⟩ ⟨rfl, trivial⟩ (by simp only [addPosts_zero]; rfl) (hK_same (.head _)) rfl ?_)
    rintro q hI
    refine tc_seq ?_
    refine tc_region ?_
    refine sd (qv_lss rfl rfl) (fun c24 => ?_) (fun c24 => ?_)
    ·
      refine tl_nil (tp_normal ?_)
      refine tc_seq ?_
      refine tc_true rfl ?_
      refine tc_skip (tp_normal ?_)
      refine tc_seq ?_
      refine tc_block ?_
      refine tc_seq ?_
      refine tc_region ?_
      refine sn st_40 hl rfl rfl (by omega) (fun e25 he25 => ?_)
      refine s0 (qv_ldEW ag_54 hl Mem.has_base rfl he25) ?_
      refine tl_alloc ze_54 (by decide) (fun b8_2 => ?_)
      refine tl_storeL (i := 0) sz_54 (hl.szs _ (List.mem_of_getElem? he25)) (one_54 _) rfl rfl rfl rfl ?_
      refine tl_nil (tp_normal ?_)
      refine tc_seq ?_
      refine tc_region ?_
      refine s0 (qv_ldBW (i := 2) ag_80 rfl rfl rfl) ?_
      refine s0 (qv_ldBW (i := 0) ag_54 rfl rfl rfl) ?_
      refine tl_callR fn_83 rfl (by decide) (fun w hm => post_calls w (addPosts b l q.1) q.2.a q.2.c e25 (hI.2.2.2.1.into (Mem.has_kept (by repeat (first | exact .head _ | refine .tail _ ?_))) hm)) (fun r30 wa30 wb30 hm30 hb30 hr30 => ?_)
      refine s0 (qv_move rfl) ?_
      refine s0 (qv_extract rfl rfl) ?_
      refine s0 (qv_extract rfl rfl) ?_
      refine tl_alloc ze_80 (by decide) (fun b9_3 => ?_)
      refine tl_storeO (i := 0) sz_80 rfl rfl rfl rfl rfl rfl rfl ?_
      refine s0 (qv_assign rfl) ?_
      refine tl_nil (tp_normal ?_)
      refine tc_seq ?_
      refine tc_seq ?_
      refine tc_region ?_
      refine s0 (qv_move rfl) ?_
      refine sd (qv_neq rfl rfl) (fun c34 => ?_) (fun c34 => ?_)
      ·
        refine tl_nil (tp_normal ?_)
        refine tc_true rfl ?_
        refine tc_seq ?_
        refine tc_region ?_
        refine s0 (qv_build bt_80 rfl rfl) ?_
        refine s0 (qv_move rfl) ?_
        refine tl_storeO (i := 2) sz_80 rfl rfl rfl rfl rfl rfl rfl ?_
        refine s0 (qv_assign rfl) ?_
        refine tl_nil (tp_normal ?_)
        refine tc_ret (tp_then_ret (tp_block_ret (tp_then_ret (tp_then_ret (tp_block_ret (tp_then_ret (tp_endCT (i := 2) rfl rfl rfl ag_80 rfl rfl ?_)))))))
        intro w' hm
        have hps := (post_step hI.2.2.2.2.2 he25).1
        rw [hI.2.1, settleB_bad he25 (by omega), hps]
        exact ⟨(none, 0), rfl, hm.below, Nat.le_refl 0, SlAt.nothing⟩
      ·
        refine tl_nil (tp_normal ?_)
        refine tc_false rfl ?_
        refine tc_skip (tp_normal ?_)
        have hps := (post_step hI.2.2.2.2.2 he25).2 (by omega)
        rw [hps]
        rw [hps] at hr30
        refine tc_region ?_
        refine s0 (qv_ldBW (i := 0) ag_80 rfl rfl rfl) ?_
        refine tl_storeO (i := 3) sz_80 rfl rfl rfl rfl rfl rfl rfl ?_
        refine tl_nil (tp_block_normal (tp_normal ?_))
        refine tc_region ?_
        refine s0 (qv_succ rfl rfl (by omega)) ?_
        refine s0 (qv_move rfl) ?_
        exact tl_nil (tp_roundG (q.1 + 1, ⟨wb30, wa30.heap.size, wb30.heap.size, r30.1, r30.2⟩) ⟨by simp only; omega, by rw [hI.2.1]; exact settleB_ok he25 (by (have h_ := (post_step hI.2.2.2.2.2 he25).1; omega)), hm30.size, hr30.2, hr30.1, by (have h_ := (post_step hI.2.2.2.2.2 he25).1; simp only; omega)⟩ (by simp only; omega) ⟨rfl, trivial⟩ rfl rfl rfl (by repeat (first | exact List.Sublist.refl _ | refine List.Sublist.cons_cons _ ?_ | refine List.Sublist.cons _ ?_)) (by first | exact List.Sublist.refl _ | exact List.nil_sublist _))
    ·
      refine tl_nil (tp_normal ?_)
      refine tc_seq ?_
      refine tc_false rfl ?_
      refine tc_exit (tp_then_exit (tp_then_exit (tp_block_exit (tp_normal ?_))))
      refine tc_seq ?_
      refine tc_region ?_
      refine s0 (qv_ldBW (i := 1) ag_80 rfl rfl rfl) ?_
      refine tl_storeO (i := 0) sz_80 rfl rfl rfl rfl rfl rfl rfl ?_
      refine s0 (qv_assign rfl) ?_
      refine tl_nil (tp_normal ?_)
      refine tc_ret (tp_endCT (i := 0) rfl rfl rfl ag_80 rfl rfl ?_)
      intro w' hm
      rw [hI.2.1, settleB_end (by omega)]
      have h_ := (Mem.has_kept (W := q.2.W) (lo := q.2.lo) (hi := q.2.hi) (by repeat (first | exact .head _ | refine .tail _ ?_))) _ hm
      exact ⟨(q.2.a, q.2.c), rfl, hm.below, hI.2.2.2.2.1, hI.2.2.2.1.move h_.2 hI.2.2.1 h_.1⟩
set_option maxRecDepth 100000 in
set_option maxHeartbeats 4000000 in
theorem rsettle_calls (w : World) (b : Book) (ba : Option Addr) (bc : Nat) (l : List Posting) (la : Option Addr) (lc : Nat) (hbc : b.posts.length ≤ bc) (hb : SlIn w 6 encPost ba b.posts) (hl : SlIn w 6 encPost la l) :
    Calls Try.prog 44 #[.agg (bookA b ba bc), .slice la l.length lc] w (fun e w' => ∃ r : Option Addr × Nat, e = .returned (.agg #[.int .i64 (settle b l).1.accounts, .slice r.1 (settle b l).1.posts.length r.2, .int .i64 (settle b l).2]) ∧ Below w.heap.size w w' ∧ ((settle b l).1.posts.length ≤ r.2 ∧ (SlAt w' w.heap.size w'.heap.size 6 encPost r.1 (settle b l).1.posts ∨ (r.1 = ba ∧ (settle b l).1 = b)))) := by
  have hlenb := hb.len
  simp only [maxLen] at hlenb
  have hlp := hl.len
  simp only [maxLen] at hlp
  refine calls_of_tc (N := 43) (vs := [.agg (bookA b ba bc), .slice la l.length lc]) Try.func44 rfl rfl (Nat.le_of_ble_eq_true rfl) ?_
  refine tc_rowRoom ?_
  refine tc_seq ?_
  refine tc_region ?_
  refine tl_box rfl (by decide) (fun b2_0 => ?_)
  refine tl_alloc ze_101 (by decide) (fun b4_1 => ?_)
  refine tl_nil (tp_normal ?_)
  refine tc_seq ?_
  refine tc_region ?_
  refine s0 (qv_ldBW (i := 1) ag_80 rfl rfl rfl) ?_
  refine s0 (qv_call fn_47 rfl (fun w hm => rbcheck_calls w b ba bc (hb.into Mem.has_base hm))) ?_
  refine s0 (qv_assign rfl) ?_
  refine tl_nil (tp_normal ?_)
  refine tc_seq ?_
  refine tc_seq ?_
  refine tc_region ?_
  refine s0 (qv_move rfl) ?_
  refine sd (qv_neq rfl rfl) (fun c12 => ?_) (fun c12 => ?_)
  ·
    refine tl_nil (tp_normal ?_)
    refine tc_true rfl ?_
    refine tc_seq ?_
    refine tc_region ?_
    refine s0 (qv_move rfl) ?_
    refine s0 (qv_build bt_101 rfl rfl) ?_
    refine tl_storeO (i := 0) sz_101 rfl rfl rfl rfl rfl rfl rfl ?_
    refine tl_nil (tp_normal ?_)
    refine tc_ret (tp_then_ret (tp_endC (i := 0) rfl rfl ag_101 rfl rfl ?_))
    intro w' hm
    rw [settle_err (by omega)]
    exact ⟨(none, 0), rfl, hm.below, Nat.le_refl 0, .inl SlAt.nothing⟩
  ·
    refine tl_nil (tp_normal ?_)
    refine tc_false rfl ?_
    refine tc_skip (tp_normal ?_)
    refine tc_seq ?_
    refine tc_seq ?_
    have hbk := bookErr_zero (b := b) (by omega)
    have hbl := hbk.len
    refine tc_region ?_
    refine s0 (qv_assign rfl) ?_
    refine tl_nil (tp_normal ?_)
    refine tc_block (tc_loopG (fun (q : Nat × SlG) => [(6, .int .i64 (q.1 : Int))]) (fun (q : Nat × SlG) => [(1, b2_0, .cells #[.int .i64 b.accounts, .slice q.2.a (addPosts b l q.1).posts.length q.2.c] 80 (0, 0))]) (fun (q : Nat × SlG) => [Kin q.2.W q.2.lo q.2.hi]) (fun (q : Nat × SlG) => [none]) (fun (q : Nat × SlG) => q.1 ≤ l.length ∧ settle b l = settleB (addPosts b l q.1) (l.drop q.1) ∧ (w.heap.size ≤ q.2.lo ∨ (q.1 = 0 ∧ q.2.a = ba)) ∧ SlAt q.2.W q.2.lo q.2.hi 6 encPost q.2.a (addPosts b l q.1).posts ∧ (addPosts b l q.1).posts.length ≤ q.2.c ∧ bookErr (addPosts b l q.1) = 0) (fun (q : Nat × SlG) => l.length - q.1) ((0, ⟨w, 0, w.heap.size, ba, bc⟩)) ⟨Nat.zero_le _, settle_from (by omega), .inr ⟨rfl, rfl⟩, by simp only [addPosts_zero]; exact hb, by simp only [addPosts_zero]; exact hbc, by simp only [addPosts_zero]; omega⟩ ⟨rfl, trivial⟩ (by simp only [addPosts_zero]; rfl) hK_base rfl ?_)
    rintro q hI
    refine tc_seq ?_
    refine tc_seq ?_
    refine tc_region ?_
    refine s0 (qv_move rfl) ?_
    refine s0 (qv_move rfl) ?_
    refine s0 (qv_len st_40 rfl) ?_
    refine sd (qv_lss rfl rfl) (fun c18 => ?_) (fun c18 => ?_)
    ·
      refine tl_nil (tp_normal ?_)
      refine tc_true rfl ?_
      refine tc_skip (tp_normal ?_)
      refine tc_seq ?_
      refine tc_block ?_
      refine tc_seq ?_
      have hql := (bookErr_zero hI.2.2.2.2.2).len
      refine tc_drawU 14 2 mixed (by kernel_rfl) ?_
      refine q0 (qv_fa fo_80_0 rfl) ?_
      refine q0 (qv_ldB (i := 1) sc_3 rfl rfl rfl) ?_
      refine tq_up ?_
      refine tu_take (i := 3) (ho := rfl) (qv_fa fo_80_1 rfl) ?_ (by kernel_rfl) (by kernel_rfl)
      refine tu_take (i := 4) (ho := rfl) (qv_ldB (i := 1) sc_40 rfl rfl rfl) ?_ (by kernel_rfl) (by kernel_rfl)
      refine tu_take (i := 6) (ho := rfl) (qv_move rfl) ?_ (by kernel_rfl) (by kernel_rfl)
      refine tu_take (i := 7) (ho := rfl) (qv_move rfl) ?_ (by kernel_rfl) (by kernel_rfl)
      obtain ⟨e29, he29⟩ := get_exN (show q.1 < l.length from (by omega))
      refine tu_take (i := 8) (ho := rfl) (qv_iaN st_40 hl rfl rfl (by omega)) ?_ (by kernel_rfl) (by kernel_rfl)
      refine tu_take (i := 9) (ho := rfl) (qv_ldEW ag_54 hl Mem.has_base rfl he29) ?_ (by kernel_rfl) (by kernel_rfl)
      refine tu_3 2 10 13 (by kernel_rfl) (by kernel_rfl) (by kernel_rfl) ?_ ?_ ?_
      ·
        refine tg_buildRow0 (enc := encPost) 0 Try.underlying40 sz_54 (fun br23 hrw23 => ?_) (fun o_ w h => hD_rows rfl rfl rfl w h)
        refine tu_3 5 10 13 (by kernel_rfl) (by kernel_rfl) (by kernel_rfl) ?_ ?_ ?_
        ·
          refine tg_appendS 0 apt_40 hrw23 hI.2.2.2.1 (Mem.has_kept (by repeat (first | exact .head _ | refine .tail _ ?_))) (fun h => hI.2.2.2.1.nil_of_none (by rw [h]; rfl)) (fun v26 ob26 hr26 => ?_) (one_flat one_54 _) (by simp only [List.length_nil]; omega) rfl (fun _ _ => rfl) (fun o_ w h => hD_rows rfl rfl rfl w h)
          rw [List.nil_append] at hr26
          obtain ⟨ra26, rc26, hv26, hc26⟩ := RowOf.slice hr26
          subst hv26
          refine tu_2 10 13 (by kernel_rfl) (by kernel_rfl) (by kernel_rfl) ?_ ?_
          ·
            refine tg_buildSlice (cells := #[.int .i64 e29.debit, .int .i64 e29.credit, .int .i64 e29.amount, .int .i64 e29.tick, .int .i64 e29.why, .int .i64 e29.ref]) (hc := by kernel_rfl) bsl_40_1 (fun b31_2 => ?_) (fun _ _ h => hD_rows rfl rfl rfl _ h)
            refine tu_2 11 13 (by kernel_rfl) (by kernel_rfl) (by kernel_rfl) ?_ ?_
            ·
              refine tg_appendS 0 apt_40 hr26 (SlAt.ofBox (enc := encPost) (sz := 6) (b := b31_2) (E := 54) (l := [e29]) (Nat.le_of_ble_eq_true rfl) (fun _ _ => rfl)) (Mem.has_box (by repeat (first | exact List.Mem.head _ | refine List.Mem.tail _ ?_))) (fun h => by simp at h) (fun v32 ob32 hr32 => ?_) (one_flat one_54 _) (by first | omega | (simp only [List.length_append, List.length_cons, List.length_nil]; omega)) rfl (fun _ _ => rfl) (fun o_ w h => hD_rows rfl rfl rfl w h)
              obtain ⟨ra32, rc32, hv32, hc32⟩ := RowOf.slice hr32
              subst hv32
              refine tu_take (i := 12) (ho := rfl) (qv_build bt_80 rfl rfl) ?_ (by kernel_rfl) (by kernel_rfl)
              refine tu_one 13 ?_ (by kernel_rfl) (by kernel_rfl) (by kernel_rfl)
              refine tg_alloc ze_80 (fun b7_3 => ?_) (fun _ _ h => hD_rows rfl rfl rfl _ h)
              refine tu_tail rfl rfl rfl (by kernel_rfl) ?_
              refine tl_storeO (i := 0) sz_80 rfl rfl rfl rfl rfl rfl rfl ?_
              refine tl_nil (tp_normal ?_)
              refine tc_seq ?_
              have hst := addPosts_step (b := b) he29
              refine tc_rowKeepL 0 hr32 (fun _ => rfl) (fun Wk lok hik ak ck hvk hck_ hlok hsk => ?_)
              obtain ⟨g1, _, g2⟩ := Value.slice.inj hvk
              subst g1 g2
              rw [show (addPosts b l q.1).posts ++ [e29] = (addPosts b l (q.1 + 1)).posts by rw [hst]; rfl] at hsk hck_ ⊢
              refine tc_region ?_
              refine s0 (qv_ldBW (i := 0) ag_80 rfl rfl rfl) ?_
              refine s0 (qv_call fn_47 rfl (fun w hm => rbcheck_calls w (addPosts b l (q.1 + 1)) ra32 rc32 (hsk.into (Mem.has_kept (by repeat (first | exact .head _ | refine .tail _ ?_))) hm))) ?_
              refine s0 (qv_assign rfl) ?_
              refine tl_nil (tp_normal ?_)
              refine tc_seq ?_
              refine tc_seq ?_
              refine tc_region ?_
              refine s0 (qv_move rfl) ?_
              refine sd (qv_neq rfl rfl) (fun c37 => ?_) (fun c37 => ?_)
              ·
                refine tl_nil (tp_normal ?_)
                refine tc_true rfl ?_
                refine tc_seq ?_
                refine tc_region ?_
                refine s0 (qv_move rfl) ?_
                refine s0 (qv_build bt_101 rfl rfl) ?_
                refine tl_storeO (i := 2) sz_101 rfl rfl rfl rfl rfl rfl rfl ?_
                refine tl_nil (tp_normal ?_)
                refine tc_ret (tp_then_ret (tp_block_ret (tp_then_ret (tp_then_ret (tp_block_ret (tp_then_ret (tp_endC (i := 2) rfl rfl ag_101 rfl rfl ?_)))))))
                intro w' hm
                rw [hI.2.1, settleB_bad he29 (by omega)]
                exact ⟨(none, 0), rfl, hm.below, Nat.le_refl 0, .inl SlAt.nothing⟩
              ·
                refine tl_nil (tp_normal ?_)
                refine tc_false rfl ?_
                refine tc_skip (tp_normal ?_)
                refine tc_region ?_
                refine s0 (qv_ldBW (i := 0) ag_80 rfl rfl rfl) ?_
                refine tl_storeO (i := 3) sz_80 rfl rfl rfl rfl rfl rfl rfl ?_
                refine tl_nil (tp_block_normal (tp_normal ?_))
                refine tc_region ?_
                refine s0 (qv_move rfl) ?_
                refine s0 (qv_succ rfl rfl (by omega)) ?_
                refine s0 (qv_assign rfl) ?_
                exact tl_nil (tp_roundG (q.1 + 1, ⟨Wk, lok, hik, ra32, rc32⟩) ⟨by simp only; omega, by rw [hI.2.1]; exact settleB_ok he29 (by omega), .inl hlok, hsk, hck_, by simp only; omega⟩ (by simp only; omega) ⟨rfl, trivial⟩ rfl rfl rfl (by repeat (first | exact List.Sublist.refl _ | refine List.Sublist.cons_cons _ ?_ | refine List.Sublist.cons _ ?_)) (by first | exact List.Sublist.refl _ | exact List.nil_sublist _))
            ·
              refine tg_alloc ze_80 (fun b7_4 => ?_) (fun _ _ h => hD_rows rfl rfl rfl _ h)
              refine tu_one 11 ?_ (by kernel_rfl) (by kernel_rfl) (by kernel_rfl)
              refine tg_appendS 0 apt_40 hr26 (SlAt.ofBox (enc := encPost) (sz := 6) (b := b31_2) (E := 54) (l := [e29]) (Nat.le_of_ble_eq_true rfl) (fun _ _ => rfl)) (Mem.has_box (by repeat (first | exact List.Mem.head _ | refine List.Mem.tail _ ?_))) (fun h => by simp at h) (fun v32 ob32 hr32 => ?_) (one_flat one_54 _) (by first | omega | (simp only [List.length_append, List.length_cons, List.length_nil]; omega)) rfl (fun _ _ => rfl) (fun o_ w h => hD_rows rfl rfl rfl w h)
              obtain ⟨ra32, rc32, hv32, hc32⟩ := RowOf.slice hr32
              subst hv32
              refine tu_take (i := 12) (ho := rfl) (qv_build bt_80 rfl rfl) ?_ (by kernel_rfl) (by kernel_rfl)
              refine tu_tail rfl rfl rfl (by kernel_rfl) ?_
              refine tl_storeO (i := 0) sz_80 rfl rfl rfl rfl rfl rfl rfl ?_
              refine tl_nil (tp_normal ?_)
              refine tc_seq ?_
              have hst := addPosts_step (b := b) he29
              refine tc_rowKeepL 0 hr32 (fun _ => rfl) (fun Wk lok hik ak ck hvk hck_ hlok hsk => ?_)
              obtain ⟨g1, _, g2⟩ := Value.slice.inj hvk
              subst g1 g2
              rw [show (addPosts b l q.1).posts ++ [e29] = (addPosts b l (q.1 + 1)).posts by rw [hst]; rfl] at hsk hck_ ⊢
              refine tc_region ?_
              refine s0 (qv_ldBW (i := 0) ag_80 rfl rfl rfl) ?_
              refine s0 (qv_call fn_47 rfl (fun w hm => rbcheck_calls w (addPosts b l (q.1 + 1)) ra32 rc32 (hsk.into (Mem.has_kept (by repeat (first | exact .head _ | refine .tail _ ?_))) hm))) ?_
              refine s0 (qv_assign rfl) ?_
              refine tl_nil (tp_normal ?_)
              refine tc_seq ?_
              refine tc_seq ?_
              refine tc_region ?_
              refine s0 (qv_move rfl) ?_
              refine sd (qv_neq rfl rfl) (fun c37 => ?_) (fun c37 => ?_)
              ·
                refine tl_nil (tp_normal ?_)
                refine tc_true rfl ?_
                refine tc_seq ?_
                refine tc_region ?_
                refine s0 (qv_move rfl) ?_
                refine s0 (qv_build bt_101 rfl rfl) ?_
                refine tl_storeO (i := 2) sz_101 rfl rfl rfl rfl rfl rfl rfl ?_
                refine tl_nil (tp_normal ?_)
                refine tc_ret (tp_then_ret (tp_block_ret (tp_then_ret (tp_then_ret (tp_block_ret (tp_then_ret (tp_endC (i := 2) rfl rfl ag_101 rfl rfl ?_)))))))
                intro w' hm
                rw [hI.2.1, settleB_bad he29 (by omega)]
                exact ⟨(none, 0), rfl, hm.below, Nat.le_refl 0, .inl SlAt.nothing⟩
              ·
                refine tl_nil (tp_normal ?_)
                refine tc_false rfl ?_
                refine tc_skip (tp_normal ?_)
                refine tc_region ?_
                refine s0 (qv_ldBW (i := 0) ag_80 rfl rfl rfl) ?_
                refine tl_storeO (i := 3) sz_80 rfl rfl rfl rfl rfl rfl rfl ?_
                refine tl_nil (tp_block_normal (tp_normal ?_))
                refine tc_region ?_
                refine s0 (qv_move rfl) ?_
                refine s0 (qv_succ rfl rfl (by omega)) ?_
                refine s0 (qv_assign rfl) ?_
                exact tl_nil (tp_roundG (q.1 + 1, ⟨Wk, lok, hik, ra32, rc32⟩) ⟨by simp only; omega, by rw [hI.2.1]; exact settleB_ok he29 (by omega), .inl hlok, hsk, hck_, by simp only; omega⟩ (by simp only; omega) ⟨rfl, trivial⟩ rfl rfl rfl (by repeat (first | exact List.Sublist.refl _ | refine List.Sublist.cons_cons _ ?_ | refine List.Sublist.cons _ ?_)) (by first | exact List.Sublist.refl _ | exact List.nil_sublist _))
          ·
            refine tg_alloc ze_80 (fun b7_5 => ?_) (fun _ _ h => hD_rows rfl rfl rfl _ h)
            refine tu_one 10 ?_ (by kernel_rfl) (by kernel_rfl) (by kernel_rfl)
            refine tg_buildSlice (cells := #[.int .i64 e29.debit, .int .i64 e29.credit, .int .i64 e29.amount, .int .i64 e29.tick, .int .i64 e29.why, .int .i64 e29.ref]) (hc := by kernel_rfl) bsl_40_1 (fun b31_6 => ?_) (fun _ _ h => hD_rows rfl rfl rfl _ h)
            refine tu_one 11 ?_ (by kernel_rfl) (by kernel_rfl) (by kernel_rfl)
            refine tg_appendS 0 apt_40 hr26 (SlAt.ofBox (enc := encPost) (sz := 6) (b := b31_6) (E := 54) (l := [e29]) (Nat.le_of_ble_eq_true rfl) (fun _ _ => rfl)) (Mem.has_box (by repeat (first | exact List.Mem.head _ | refine List.Mem.tail _ ?_))) (fun h => by simp at h) (fun v32 ob32 hr32 => ?_) (one_flat one_54 _) (by first | omega | (simp only [List.length_append, List.length_cons, List.length_nil]; omega)) rfl (fun _ _ => rfl) (fun o_ w h => hD_rows rfl rfl rfl w h)
            obtain ⟨ra32, rc32, hv32, hc32⟩ := RowOf.slice hr32
            subst hv32
            refine tu_take (i := 12) (ho := rfl) (qv_build bt_80 rfl rfl) ?_ (by kernel_rfl) (by kernel_rfl)
            refine tu_tail rfl rfl rfl (by kernel_rfl) ?_
            refine tl_storeO (i := 1) sz_80 rfl rfl rfl rfl rfl rfl rfl ?_
            refine tl_nil (tp_normal ?_)
            refine tc_seq ?_
            have hst := addPosts_step (b := b) he29
            refine tc_rowKeepL 0 hr32 (fun _ => rfl) (fun Wk lok hik ak ck hvk hck_ hlok hsk => ?_)
            obtain ⟨g1, _, g2⟩ := Value.slice.inj hvk
            subst g1 g2
            rw [show (addPosts b l q.1).posts ++ [e29] = (addPosts b l (q.1 + 1)).posts by rw [hst]; rfl] at hsk hck_ ⊢
            refine tc_region ?_
            refine s0 (qv_ldBW (i := 1) ag_80 rfl rfl rfl) ?_
            refine s0 (qv_call fn_47 rfl (fun w hm => rbcheck_calls w (addPosts b l (q.1 + 1)) ra32 rc32 (hsk.into (Mem.has_kept (by repeat (first | exact .head _ | refine .tail _ ?_))) hm))) ?_
            refine s0 (qv_assign rfl) ?_
            refine tl_nil (tp_normal ?_)
            refine tc_seq ?_
            refine tc_seq ?_
            refine tc_region ?_
            refine s0 (qv_move rfl) ?_
            refine sd (qv_neq rfl rfl) (fun c37 => ?_) (fun c37 => ?_)
            ·
              refine tl_nil (tp_normal ?_)
              refine tc_true rfl ?_
              refine tc_seq ?_
              refine tc_region ?_
              refine s0 (qv_move rfl) ?_
              refine s0 (qv_build bt_101 rfl rfl) ?_
              refine tl_storeO (i := 2) sz_101 rfl rfl rfl rfl rfl rfl rfl ?_
              refine tl_nil (tp_normal ?_)
              refine tc_ret (tp_then_ret (tp_block_ret (tp_then_ret (tp_then_ret (tp_block_ret (tp_then_ret (tp_endC (i := 2) rfl rfl ag_101 rfl rfl ?_)))))))
              intro w' hm
              rw [hI.2.1, settleB_bad he29 (by omega)]
              exact ⟨(none, 0), rfl, hm.below, Nat.le_refl 0, .inl SlAt.nothing⟩
            ·
              refine tl_nil (tp_normal ?_)
              refine tc_false rfl ?_
              refine tc_skip (tp_normal ?_)
              refine tc_region ?_
              refine s0 (qv_ldBW (i := 1) ag_80 rfl rfl rfl) ?_
              refine tl_storeO (i := 3) sz_80 rfl rfl rfl rfl rfl rfl rfl ?_
              refine tl_nil (tp_block_normal (tp_normal ?_))
              refine tc_region ?_
              refine s0 (qv_move rfl) ?_
              refine s0 (qv_succ rfl rfl (by omega)) ?_
              refine s0 (qv_assign rfl) ?_
              exact tl_nil (tp_roundG (q.1 + 1, ⟨Wk, lok, hik, ra32, rc32⟩) ⟨by simp only; omega, by rw [hI.2.1]; exact settleB_ok he29 (by omega), .inl hlok, hsk, hck_, by simp only; omega⟩ (by simp only; omega) ⟨rfl, trivial⟩ rfl rfl rfl (by repeat (first | exact List.Sublist.refl _ | refine List.Sublist.cons_cons _ ?_ | refine List.Sublist.cons _ ?_)) (by first | exact List.Sublist.refl _ | exact List.nil_sublist _))
        ·
          refine tg_buildSlice (cells := #[.int .i64 e29.debit, .int .i64 e29.credit, .int .i64 e29.amount, .int .i64 e29.tick, .int .i64 e29.why, .int .i64 e29.ref]) (hc := by kernel_rfl) bsl_40_1 (fun b31_7 => ?_) (fun _ _ h => hD_rows rfl rfl rfl _ h)
          refine tu_2 5 13 (by kernel_rfl) (by kernel_rfl) (by kernel_rfl) ?_ ?_
          ·
            refine tg_appendS 0 apt_40 hrw23 hI.2.2.2.1 (Mem.has_kept (by repeat (first | exact .head _ | refine .tail _ ?_))) (fun h => hI.2.2.2.1.nil_of_none (by rw [h]; rfl)) (fun v26 ob26 hr26 => ?_) (one_flat one_54 _) (by simp only [List.length_nil]; omega) rfl (fun _ _ => rfl) (fun o_ w h => hD_rows rfl rfl rfl w h)
            rw [List.nil_append] at hr26
            obtain ⟨ra26, rc26, hv26, hc26⟩ := RowOf.slice hr26
            subst hv26
            refine tu_2 11 13 (by kernel_rfl) (by kernel_rfl) (by kernel_rfl) ?_ ?_
            ·
              refine tg_appendS 0 apt_40 hr26 (SlAt.ofBox (enc := encPost) (sz := 6) (b := b31_7) (E := 54) (l := [e29]) (Nat.le_of_ble_eq_true rfl) (fun _ _ => rfl)) (Mem.has_box (by repeat (first | exact List.Mem.head _ | refine List.Mem.tail _ ?_))) (fun h => by simp at h) (fun v32 ob32 hr32 => ?_) (one_flat one_54 _) (by first | omega | (simp only [List.length_append, List.length_cons, List.length_nil]; omega)) rfl (fun _ _ => rfl) (fun o_ w h => hD_rows rfl rfl rfl w h)
              obtain ⟨ra32, rc32, hv32, hc32⟩ := RowOf.slice hr32
              subst hv32
              refine tu_take (i := 12) (ho := rfl) (qv_build bt_80 rfl rfl) ?_ (by kernel_rfl) (by kernel_rfl)
              refine tu_one 13 ?_ (by kernel_rfl) (by kernel_rfl) (by kernel_rfl)
              refine tg_alloc ze_80 (fun b7_8 => ?_) (fun _ _ h => hD_rows rfl rfl rfl _ h)
              refine tu_tail rfl rfl rfl (by kernel_rfl) ?_
              refine tl_storeO (i := 0) sz_80 rfl rfl rfl rfl rfl rfl rfl ?_
              refine tl_nil (tp_normal ?_)
              refine tc_seq ?_
              have hst := addPosts_step (b := b) he29
              refine tc_rowKeepL 0 hr32 (fun _ => rfl) (fun Wk lok hik ak ck hvk hck_ hlok hsk => ?_)
              obtain ⟨g1, _, g2⟩ := Value.slice.inj hvk
              subst g1 g2
              rw [show (addPosts b l q.1).posts ++ [e29] = (addPosts b l (q.1 + 1)).posts by rw [hst]; rfl] at hsk hck_ ⊢
              refine tc_region ?_
              refine s0 (qv_ldBW (i := 0) ag_80 rfl rfl rfl) ?_
              refine s0 (qv_call fn_47 rfl (fun w hm => rbcheck_calls w (addPosts b l (q.1 + 1)) ra32 rc32 (hsk.into (Mem.has_kept (by repeat (first | exact .head _ | refine .tail _ ?_))) hm))) ?_
              refine s0 (qv_assign rfl) ?_
              refine tl_nil (tp_normal ?_)
              refine tc_seq ?_
              refine tc_seq ?_
              refine tc_region ?_
              refine s0 (qv_move rfl) ?_
              refine sd (qv_neq rfl rfl) (fun c37 => ?_) (fun c37 => ?_)
              ·
                refine tl_nil (tp_normal ?_)
                refine tc_true rfl ?_
                refine tc_seq ?_
                refine tc_region ?_
                refine s0 (qv_move rfl) ?_
                refine s0 (qv_build bt_101 rfl rfl) ?_
                refine tl_storeO (i := 2) sz_101 rfl rfl rfl rfl rfl rfl rfl ?_
                refine tl_nil (tp_normal ?_)
                refine tc_ret (tp_then_ret (tp_block_ret (tp_then_ret (tp_then_ret (tp_block_ret (tp_then_ret (tp_endC (i := 2) rfl rfl ag_101 rfl rfl ?_)))))))
                intro w' hm
                rw [hI.2.1, settleB_bad he29 (by omega)]
                exact ⟨(none, 0), rfl, hm.below, Nat.le_refl 0, .inl SlAt.nothing⟩
              ·
                refine tl_nil (tp_normal ?_)
                refine tc_false rfl ?_
                refine tc_skip (tp_normal ?_)
                refine tc_region ?_
                refine s0 (qv_ldBW (i := 0) ag_80 rfl rfl rfl) ?_
                refine tl_storeO (i := 3) sz_80 rfl rfl rfl rfl rfl rfl rfl ?_
                refine tl_nil (tp_block_normal (tp_normal ?_))
                refine tc_region ?_
                refine s0 (qv_move rfl) ?_
                refine s0 (qv_succ rfl rfl (by omega)) ?_
                refine s0 (qv_assign rfl) ?_
                exact tl_nil (tp_roundG (q.1 + 1, ⟨Wk, lok, hik, ra32, rc32⟩) ⟨by simp only; omega, by rw [hI.2.1]; exact settleB_ok he29 (by omega), .inl hlok, hsk, hck_, by simp only; omega⟩ (by simp only; omega) ⟨rfl, trivial⟩ rfl rfl rfl (by repeat (first | exact List.Sublist.refl _ | refine List.Sublist.cons_cons _ ?_ | refine List.Sublist.cons _ ?_)) (by first | exact List.Sublist.refl _ | exact List.nil_sublist _))
            ·
              refine tg_alloc ze_80 (fun b7_9 => ?_) (fun _ _ h => hD_rows rfl rfl rfl _ h)
              refine tu_one 11 ?_ (by kernel_rfl) (by kernel_rfl) (by kernel_rfl)
              refine tg_appendS 0 apt_40 hr26 (SlAt.ofBox (enc := encPost) (sz := 6) (b := b31_7) (E := 54) (l := [e29]) (Nat.le_of_ble_eq_true rfl) (fun _ _ => rfl)) (Mem.has_box (by repeat (first | exact List.Mem.head _ | refine List.Mem.tail _ ?_))) (fun h => by simp at h) (fun v32 ob32 hr32 => ?_) (one_flat one_54 _) (by first | omega | (simp only [List.length_append, List.length_cons, List.length_nil]; omega)) rfl (fun _ _ => rfl) (fun o_ w h => hD_rows rfl rfl rfl w h)
              obtain ⟨ra32, rc32, hv32, hc32⟩ := RowOf.slice hr32
              subst hv32
              refine tu_take (i := 12) (ho := rfl) (qv_build bt_80 rfl rfl) ?_ (by kernel_rfl) (by kernel_rfl)
              refine tu_tail rfl rfl rfl (by kernel_rfl) ?_
              refine tl_storeO (i := 0) sz_80 rfl rfl rfl rfl rfl rfl rfl ?_
              refine tl_nil (tp_normal ?_)
              refine tc_seq ?_
              have hst := addPosts_step (b := b) he29
              refine tc_rowKeepL 0 hr32 (fun _ => rfl) (fun Wk lok hik ak ck hvk hck_ hlok hsk => ?_)
              obtain ⟨g1, _, g2⟩ := Value.slice.inj hvk
              subst g1 g2
              rw [show (addPosts b l q.1).posts ++ [e29] = (addPosts b l (q.1 + 1)).posts by rw [hst]; rfl] at hsk hck_ ⊢
              refine tc_region ?_
              refine s0 (qv_ldBW (i := 0) ag_80 rfl rfl rfl) ?_
              refine s0 (qv_call fn_47 rfl (fun w hm => rbcheck_calls w (addPosts b l (q.1 + 1)) ra32 rc32 (hsk.into (Mem.has_kept (by repeat (first | exact .head _ | refine .tail _ ?_))) hm))) ?_
              refine s0 (qv_assign rfl) ?_
              refine tl_nil (tp_normal ?_)
              refine tc_seq ?_
              refine tc_seq ?_
              refine tc_region ?_
              refine s0 (qv_move rfl) ?_
              refine sd (qv_neq rfl rfl) (fun c37 => ?_) (fun c37 => ?_)
              ·
                refine tl_nil (tp_normal ?_)
                refine tc_true rfl ?_
                refine tc_seq ?_
                refine tc_region ?_
                refine s0 (qv_move rfl) ?_
                refine s0 (qv_build bt_101 rfl rfl) ?_
                refine tl_storeO (i := 2) sz_101 rfl rfl rfl rfl rfl rfl rfl ?_
                refine tl_nil (tp_normal ?_)
                refine tc_ret (tp_then_ret (tp_block_ret (tp_then_ret (tp_then_ret (tp_block_ret (tp_then_ret (tp_endC (i := 2) rfl rfl ag_101 rfl rfl ?_)))))))
                intro w' hm
                rw [hI.2.1, settleB_bad he29 (by omega)]
                exact ⟨(none, 0), rfl, hm.below, Nat.le_refl 0, .inl SlAt.nothing⟩
              ·
                refine tl_nil (tp_normal ?_)
                refine tc_false rfl ?_
                refine tc_skip (tp_normal ?_)
                refine tc_region ?_
                refine s0 (qv_ldBW (i := 0) ag_80 rfl rfl rfl) ?_
                refine tl_storeO (i := 3) sz_80 rfl rfl rfl rfl rfl rfl rfl ?_
                refine tl_nil (tp_block_normal (tp_normal ?_))
                refine tc_region ?_
                refine s0 (qv_move rfl) ?_
                refine s0 (qv_succ rfl rfl (by omega)) ?_
                refine s0 (qv_assign rfl) ?_
                exact tl_nil (tp_roundG (q.1 + 1, ⟨Wk, lok, hik, ra32, rc32⟩) ⟨by simp only; omega, by rw [hI.2.1]; exact settleB_ok he29 (by omega), .inl hlok, hsk, hck_, by simp only; omega⟩ (by simp only; omega) ⟨rfl, trivial⟩ rfl rfl rfl (by repeat (first | exact List.Sublist.refl _ | refine List.Sublist.cons_cons _ ?_ | refine List.Sublist.cons _ ?_)) (by first | exact List.Sublist.refl _ | exact List.nil_sublist _))
          ·
            refine tg_alloc ze_80 (fun b7_10 => ?_) (fun _ _ h => hD_rows rfl rfl rfl _ h)
            refine tu_one 5 ?_ (by kernel_rfl) (by kernel_rfl) (by kernel_rfl)
            refine tg_appendS 0 apt_40 hrw23 hI.2.2.2.1 (Mem.has_kept (by repeat (first | exact .head _ | refine .tail _ ?_))) (fun h => hI.2.2.2.1.nil_of_none (by rw [h]; rfl)) (fun v26 ob26 hr26 => ?_) (one_flat one_54 _) (by simp only [List.length_nil]; omega) rfl (fun _ _ => rfl) (fun o_ w h => hD_rows rfl rfl rfl w h)
            rw [List.nil_append] at hr26
            obtain ⟨ra26, rc26, hv26, hc26⟩ := RowOf.slice hr26
            subst hv26
            refine tu_one 11 ?_ (by kernel_rfl) (by kernel_rfl) (by kernel_rfl)
            refine tg_appendS 0 apt_40 hr26 (SlAt.ofBox (enc := encPost) (sz := 6) (b := b31_7) (E := 54) (l := [e29]) (Nat.le_of_ble_eq_true rfl) (fun _ _ => rfl)) (Mem.has_box (by repeat (first | exact List.Mem.head _ | refine List.Mem.tail _ ?_))) (fun h => by simp at h) (fun v32 ob32 hr32 => ?_) (one_flat one_54 _) (by first | omega | (simp only [List.length_append, List.length_cons, List.length_nil]; omega)) rfl (fun _ _ => rfl) (fun o_ w h => hD_rows rfl rfl rfl w h)
            obtain ⟨ra32, rc32, hv32, hc32⟩ := RowOf.slice hr32
            subst hv32
            refine tu_take (i := 12) (ho := rfl) (qv_build bt_80 rfl rfl) ?_ (by kernel_rfl) (by kernel_rfl)
            refine tu_tail rfl rfl rfl (by kernel_rfl) ?_
            refine tl_storeO (i := 0) sz_80 rfl rfl rfl rfl rfl rfl rfl ?_
            refine tl_nil (tp_normal ?_)
            refine tc_seq ?_
            have hst := addPosts_step (b := b) he29
            refine tc_rowKeepL 0 hr32 (fun _ => rfl) (fun Wk lok hik ak ck hvk hck_ hlok hsk => ?_)
            obtain ⟨g1, _, g2⟩ := Value.slice.inj hvk
            subst g1 g2
            rw [show (addPosts b l q.1).posts ++ [e29] = (addPosts b l (q.1 + 1)).posts by rw [hst]; rfl] at hsk hck_ ⊢
            refine tc_region ?_
            refine s0 (qv_ldBW (i := 0) ag_80 rfl rfl rfl) ?_
            refine s0 (qv_call fn_47 rfl (fun w hm => rbcheck_calls w (addPosts b l (q.1 + 1)) ra32 rc32 (hsk.into (Mem.has_kept (by repeat (first | exact .head _ | refine .tail _ ?_))) hm))) ?_
            refine s0 (qv_assign rfl) ?_
            refine tl_nil (tp_normal ?_)
            refine tc_seq ?_
            refine tc_seq ?_
            refine tc_region ?_
            refine s0 (qv_move rfl) ?_
            refine sd (qv_neq rfl rfl) (fun c37 => ?_) (fun c37 => ?_)
            ·
              refine tl_nil (tp_normal ?_)
              refine tc_true rfl ?_
              refine tc_seq ?_
              refine tc_region ?_
              refine s0 (qv_move rfl) ?_
              refine s0 (qv_build bt_101 rfl rfl) ?_
              refine tl_storeO (i := 2) sz_101 rfl rfl rfl rfl rfl rfl rfl ?_
              refine tl_nil (tp_normal ?_)
              refine tc_ret (tp_then_ret (tp_block_ret (tp_then_ret (tp_then_ret (tp_block_ret (tp_then_ret (tp_endC (i := 2) rfl rfl ag_101 rfl rfl ?_)))))))
              intro w' hm
              rw [hI.2.1, settleB_bad he29 (by omega)]
              exact ⟨(none, 0), rfl, hm.below, Nat.le_refl 0, .inl SlAt.nothing⟩
            ·
              refine tl_nil (tp_normal ?_)
              refine tc_false rfl ?_
              refine tc_skip (tp_normal ?_)
              refine tc_region ?_
              refine s0 (qv_ldBW (i := 0) ag_80 rfl rfl rfl) ?_
              refine tl_storeO (i := 3) sz_80 rfl rfl rfl rfl rfl rfl rfl ?_
              refine tl_nil (tp_block_normal (tp_normal ?_))
              refine tc_region ?_
              refine s0 (qv_move rfl) ?_
              refine s0 (qv_succ rfl rfl (by omega)) ?_
              refine s0 (qv_assign rfl) ?_
              exact tl_nil (tp_roundG (q.1 + 1, ⟨Wk, lok, hik, ra32, rc32⟩) ⟨by simp only; omega, by rw [hI.2.1]; exact settleB_ok he29 (by omega), .inl hlok, hsk, hck_, by simp only; omega⟩ (by simp only; omega) ⟨rfl, trivial⟩ rfl rfl rfl (by repeat (first | exact List.Sublist.refl _ | refine List.Sublist.cons_cons _ ?_ | refine List.Sublist.cons _ ?_)) (by first | exact List.Sublist.refl _ | exact List.nil_sublist _))
        ·
          refine tg_alloc ze_80 (fun b7_11 => ?_) (fun _ _ h => hD_rows rfl rfl rfl _ h)
          refine tu_2 5 10 (by kernel_rfl) (by kernel_rfl) (by kernel_rfl) ?_ ?_
          ·
            refine tg_appendS 0 apt_40 hrw23 hI.2.2.2.1 (Mem.has_kept (by repeat (first | exact .head _ | refine .tail _ ?_))) (fun h => hI.2.2.2.1.nil_of_none (by rw [h]; rfl)) (fun v26 ob26 hr26 => ?_) (one_flat one_54 _) (by simp only [List.length_nil]; omega) rfl (fun _ _ => rfl) (fun o_ w h => hD_rows rfl rfl rfl w h)
            rw [List.nil_append] at hr26
            obtain ⟨ra26, rc26, hv26, hc26⟩ := RowOf.slice hr26
            subst hv26
            refine tu_one 10 ?_ (by kernel_rfl) (by kernel_rfl) (by kernel_rfl)
            refine tg_buildSlice (cells := #[.int .i64 e29.debit, .int .i64 e29.credit, .int .i64 e29.amount, .int .i64 e29.tick, .int .i64 e29.why, .int .i64 e29.ref]) (hc := by kernel_rfl) bsl_40_1 (fun b31_12 => ?_) (fun _ _ h => hD_rows rfl rfl rfl _ h)
            refine tu_one 11 ?_ (by kernel_rfl) (by kernel_rfl) (by kernel_rfl)
            refine tg_appendS 0 apt_40 hr26 (SlAt.ofBox (enc := encPost) (sz := 6) (b := b31_12) (E := 54) (l := [e29]) (Nat.le_of_ble_eq_true rfl) (fun _ _ => rfl)) (Mem.has_box (by repeat (first | exact List.Mem.head _ | refine List.Mem.tail _ ?_))) (fun h => by simp at h) (fun v32 ob32 hr32 => ?_) (one_flat one_54 _) (by first | omega | (simp only [List.length_append, List.length_cons, List.length_nil]; omega)) rfl (fun _ _ => rfl) (fun o_ w h => hD_rows rfl rfl rfl w h)
            obtain ⟨ra32, rc32, hv32, hc32⟩ := RowOf.slice hr32
            subst hv32
            refine tu_take (i := 12) (ho := rfl) (qv_build bt_80 rfl rfl) ?_ (by kernel_rfl) (by kernel_rfl)
            refine tu_tail rfl rfl rfl (by kernel_rfl) ?_
            refine tl_storeO (i := 1) sz_80 rfl rfl rfl rfl rfl rfl rfl ?_
            refine tl_nil (tp_normal ?_)
            refine tc_seq ?_
            have hst := addPosts_step (b := b) he29
            refine tc_rowKeepL 0 hr32 (fun _ => rfl) (fun Wk lok hik ak ck hvk hck_ hlok hsk => ?_)
            obtain ⟨g1, _, g2⟩ := Value.slice.inj hvk
            subst g1 g2
            rw [show (addPosts b l q.1).posts ++ [e29] = (addPosts b l (q.1 + 1)).posts by rw [hst]; rfl] at hsk hck_ ⊢
            refine tc_region ?_
            refine s0 (qv_ldBW (i := 1) ag_80 rfl rfl rfl) ?_
            refine s0 (qv_call fn_47 rfl (fun w hm => rbcheck_calls w (addPosts b l (q.1 + 1)) ra32 rc32 (hsk.into (Mem.has_kept (by repeat (first | exact .head _ | refine .tail _ ?_))) hm))) ?_
            refine s0 (qv_assign rfl) ?_
            refine tl_nil (tp_normal ?_)
            refine tc_seq ?_
            refine tc_seq ?_
            refine tc_region ?_
            refine s0 (qv_move rfl) ?_
            refine sd (qv_neq rfl rfl) (fun c37 => ?_) (fun c37 => ?_)
            ·
              refine tl_nil (tp_normal ?_)
              refine tc_true rfl ?_
              refine tc_seq ?_
              refine tc_region ?_
              refine s0 (qv_move rfl) ?_
              refine s0 (qv_build bt_101 rfl rfl) ?_
              refine tl_storeO (i := 2) sz_101 rfl rfl rfl rfl rfl rfl rfl ?_
              refine tl_nil (tp_normal ?_)
              refine tc_ret (tp_then_ret (tp_block_ret (tp_then_ret (tp_then_ret (tp_block_ret (tp_then_ret (tp_endC (i := 2) rfl rfl ag_101 rfl rfl ?_)))))))
              intro w' hm
              rw [hI.2.1, settleB_bad he29 (by omega)]
              exact ⟨(none, 0), rfl, hm.below, Nat.le_refl 0, .inl SlAt.nothing⟩
            ·
              refine tl_nil (tp_normal ?_)
              refine tc_false rfl ?_
              refine tc_skip (tp_normal ?_)
              refine tc_region ?_
              refine s0 (qv_ldBW (i := 1) ag_80 rfl rfl rfl) ?_
              refine tl_storeO (i := 3) sz_80 rfl rfl rfl rfl rfl rfl rfl ?_
              refine tl_nil (tp_block_normal (tp_normal ?_))
              refine tc_region ?_
              refine s0 (qv_move rfl) ?_
              refine s0 (qv_succ rfl rfl (by omega)) ?_
              refine s0 (qv_assign rfl) ?_
              exact tl_nil (tp_roundG (q.1 + 1, ⟨Wk, lok, hik, ra32, rc32⟩) ⟨by simp only; omega, by rw [hI.2.1]; exact settleB_ok he29 (by omega), .inl hlok, hsk, hck_, by simp only; omega⟩ (by simp only; omega) ⟨rfl, trivial⟩ rfl rfl rfl (by repeat (first | exact List.Sublist.refl _ | refine List.Sublist.cons_cons _ ?_ | refine List.Sublist.cons _ ?_)) (by first | exact List.Sublist.refl _ | exact List.nil_sublist _))
          ·
            refine tg_buildSlice (cells := #[.int .i64 e29.debit, .int .i64 e29.credit, .int .i64 e29.amount, .int .i64 e29.tick, .int .i64 e29.why, .int .i64 e29.ref]) (hc := by kernel_rfl) bsl_40_1 (fun b31_13 => ?_) (fun _ _ h => hD_rows rfl rfl rfl _ h)
            refine tu_one 5 ?_ (by kernel_rfl) (by kernel_rfl) (by kernel_rfl)
            refine tg_appendS 0 apt_40 hrw23 hI.2.2.2.1 (Mem.has_kept (by repeat (first | exact .head _ | refine .tail _ ?_))) (fun h => hI.2.2.2.1.nil_of_none (by rw [h]; rfl)) (fun v26 ob26 hr26 => ?_) (one_flat one_54 _) (by simp only [List.length_nil]; omega) rfl (fun _ _ => rfl) (fun o_ w h => hD_rows rfl rfl rfl w h)
            rw [List.nil_append] at hr26
            obtain ⟨ra26, rc26, hv26, hc26⟩ := RowOf.slice hr26
            subst hv26
            refine tu_one 11 ?_ (by kernel_rfl) (by kernel_rfl) (by kernel_rfl)
            refine tg_appendS 0 apt_40 hr26 (SlAt.ofBox (enc := encPost) (sz := 6) (b := b31_13) (E := 54) (l := [e29]) (Nat.le_of_ble_eq_true rfl) (fun _ _ => rfl)) (Mem.has_box (by repeat (first | exact List.Mem.head _ | refine List.Mem.tail _ ?_))) (fun h => by simp at h) (fun v32 ob32 hr32 => ?_) (one_flat one_54 _) (by first | omega | (simp only [List.length_append, List.length_cons, List.length_nil]; omega)) rfl (fun _ _ => rfl) (fun o_ w h => hD_rows rfl rfl rfl w h)
            obtain ⟨ra32, rc32, hv32, hc32⟩ := RowOf.slice hr32
            subst hv32
            refine tu_take (i := 12) (ho := rfl) (qv_build bt_80 rfl rfl) ?_ (by kernel_rfl) (by kernel_rfl)
            refine tu_tail rfl rfl rfl (by kernel_rfl) ?_
            refine tl_storeO (i := 1) sz_80 rfl rfl rfl rfl rfl rfl rfl ?_
            refine tl_nil (tp_normal ?_)
            refine tc_seq ?_
            have hst := addPosts_step (b := b) he29
            refine tc_rowKeepL 0 hr32 (fun _ => rfl) (fun Wk lok hik ak ck hvk hck_ hlok hsk => ?_)
            obtain ⟨g1, _, g2⟩ := Value.slice.inj hvk
            subst g1 g2
            rw [show (addPosts b l q.1).posts ++ [e29] = (addPosts b l (q.1 + 1)).posts by rw [hst]; rfl] at hsk hck_ ⊢
            refine tc_region ?_
            refine s0 (qv_ldBW (i := 1) ag_80 rfl rfl rfl) ?_
            refine s0 (qv_call fn_47 rfl (fun w hm => rbcheck_calls w (addPosts b l (q.1 + 1)) ra32 rc32 (hsk.into (Mem.has_kept (by repeat (first | exact .head _ | refine .tail _ ?_))) hm))) ?_
            refine s0 (qv_assign rfl) ?_
            refine tl_nil (tp_normal ?_)
            refine tc_seq ?_
            refine tc_seq ?_
            refine tc_region ?_
            refine s0 (qv_move rfl) ?_
            refine sd (qv_neq rfl rfl) (fun c37 => ?_) (fun c37 => ?_)
            ·
              refine tl_nil (tp_normal ?_)
              refine tc_true rfl ?_
              refine tc_seq ?_
              refine tc_region ?_
              refine s0 (qv_move rfl) ?_
              refine s0 (qv_build bt_101 rfl rfl) ?_
              refine tl_storeO (i := 2) sz_101 rfl rfl rfl rfl rfl rfl rfl ?_
              refine tl_nil (tp_normal ?_)
              refine tc_ret (tp_then_ret (tp_block_ret (tp_then_ret (tp_then_ret (tp_block_ret (tp_then_ret (tp_endC (i := 2) rfl rfl ag_101 rfl rfl ?_)))))))
              intro w' hm
              rw [hI.2.1, settleB_bad he29 (by omega)]
              exact ⟨(none, 0), rfl, hm.below, Nat.le_refl 0, .inl SlAt.nothing⟩
            ·
              refine tl_nil (tp_normal ?_)
              refine tc_false rfl ?_
              refine tc_skip (tp_normal ?_)
              refine tc_region ?_
              refine s0 (qv_ldBW (i := 1) ag_80 rfl rfl rfl) ?_
              refine tl_storeO (i := 3) sz_80 rfl rfl rfl rfl rfl rfl rfl ?_
              refine tl_nil (tp_block_normal (tp_normal ?_))
              refine tc_region ?_
              refine s0 (qv_move rfl) ?_
              refine s0 (qv_succ rfl rfl (by omega)) ?_
              refine s0 (qv_assign rfl) ?_
              exact tl_nil (tp_roundG (q.1 + 1, ⟨Wk, lok, hik, ra32, rc32⟩) ⟨by simp only; omega, by rw [hI.2.1]; exact settleB_ok he29 (by omega), .inl hlok, hsk, hck_, by simp only; omega⟩ (by simp only; omega) ⟨rfl, trivial⟩ rfl rfl rfl (by repeat (first | exact List.Sublist.refl _ | refine List.Sublist.cons_cons _ ?_ | refine List.Sublist.cons _ ?_)) (by first | exact List.Sublist.refl _ | exact List.nil_sublist _))
      ·
        refine tg_buildSlice (cells := #[.int .i64 e29.debit, .int .i64 e29.credit, .int .i64 e29.amount, .int .i64 e29.tick, .int .i64 e29.why, .int .i64 e29.ref]) (hc := by kernel_rfl) bsl_40_1 (fun b31_14 => ?_) (fun _ _ h => hD_rows rfl rfl rfl _ h)
        refine tu_2 2 13 (by kernel_rfl) (by kernel_rfl) (by kernel_rfl) ?_ ?_
        ·
          refine tg_buildRow0 (enc := encPost) 0 Try.underlying40 sz_54 (fun br23 hrw23 => ?_) (fun o_ w h => hD_rows rfl rfl rfl w h)
          refine tu_2 5 13 (by kernel_rfl) (by kernel_rfl) (by kernel_rfl) ?_ ?_
          ·
            refine tg_appendS 0 apt_40 hrw23 hI.2.2.2.1 (Mem.has_kept (by repeat (first | exact .head _ | refine .tail _ ?_))) (fun h => hI.2.2.2.1.nil_of_none (by rw [h]; rfl)) (fun v26 ob26 hr26 => ?_) (one_flat one_54 _) (by simp only [List.length_nil]; omega) rfl (fun _ _ => rfl) (fun o_ w h => hD_rows rfl rfl rfl w h)
            rw [List.nil_append] at hr26
            obtain ⟨ra26, rc26, hv26, hc26⟩ := RowOf.slice hr26
            subst hv26
            refine tu_2 11 13 (by kernel_rfl) (by kernel_rfl) (by kernel_rfl) ?_ ?_
            ·
              refine tg_appendS 0 apt_40 hr26 (SlAt.ofBox (enc := encPost) (sz := 6) (b := b31_14) (E := 54) (l := [e29]) (Nat.le_of_ble_eq_true rfl) (fun _ _ => rfl)) (Mem.has_box (by repeat (first | exact List.Mem.head _ | refine List.Mem.tail _ ?_))) (fun h => by simp at h) (fun v32 ob32 hr32 => ?_) (one_flat one_54 _) (by first | omega | (simp only [List.length_append, List.length_cons, List.length_nil]; omega)) rfl (fun _ _ => rfl) (fun o_ w h => hD_rows rfl rfl rfl w h)
              obtain ⟨ra32, rc32, hv32, hc32⟩ := RowOf.slice hr32
              subst hv32
              refine tu_take (i := 12) (ho := rfl) (qv_build bt_80 rfl rfl) ?_ (by kernel_rfl) (by kernel_rfl)
              refine tu_one 13 ?_ (by kernel_rfl) (by kernel_rfl) (by kernel_rfl)
              refine tg_alloc ze_80 (fun b7_15 => ?_) (fun _ _ h => hD_rows rfl rfl rfl _ h)
              refine tu_tail rfl rfl rfl (by kernel_rfl) ?_
              refine tl_storeO (i := 0) sz_80 rfl rfl rfl rfl rfl rfl rfl ?_
              refine tl_nil (tp_normal ?_)
              refine tc_seq ?_
              have hst := addPosts_step (b := b) he29
              refine tc_rowKeepL 0 hr32 (fun _ => rfl) (fun Wk lok hik ak ck hvk hck_ hlok hsk => ?_)
              obtain ⟨g1, _, g2⟩ := Value.slice.inj hvk
              subst g1 g2
              rw [show (addPosts b l q.1).posts ++ [e29] = (addPosts b l (q.1 + 1)).posts by rw [hst]; rfl] at hsk hck_ ⊢
              refine tc_region ?_
              refine s0 (qv_ldBW (i := 0) ag_80 rfl rfl rfl) ?_
              refine s0 (qv_call fn_47 rfl (fun w hm => rbcheck_calls w (addPosts b l (q.1 + 1)) ra32 rc32 (hsk.into (Mem.has_kept (by repeat (first | exact .head _ | refine .tail _ ?_))) hm))) ?_
              refine s0 (qv_assign rfl) ?_
              refine tl_nil (tp_normal ?_)
              refine tc_seq ?_
              refine tc_seq ?_
              refine tc_region ?_
              refine s0 (qv_move rfl) ?_
              refine sd (qv_neq rfl rfl) (fun c37 => ?_) (fun c37 => ?_)
              ·
                refine tl_nil (tp_normal ?_)
                refine tc_true rfl ?_
                refine tc_seq ?_
                refine tc_region ?_
                refine s0 (qv_move rfl) ?_
                refine s0 (qv_build bt_101 rfl rfl) ?_
                refine tl_storeO (i := 2) sz_101 rfl rfl rfl rfl rfl rfl rfl ?_
                refine tl_nil (tp_normal ?_)
                refine tc_ret (tp_then_ret (tp_block_ret (tp_then_ret (tp_then_ret (tp_block_ret (tp_then_ret (tp_endC (i := 2) rfl rfl ag_101 rfl rfl ?_)))))))
                intro w' hm
                rw [hI.2.1, settleB_bad he29 (by omega)]
                exact ⟨(none, 0), rfl, hm.below, Nat.le_refl 0, .inl SlAt.nothing⟩
              ·
                refine tl_nil (tp_normal ?_)
                refine tc_false rfl ?_
                refine tc_skip (tp_normal ?_)
                refine tc_region ?_
                refine s0 (qv_ldBW (i := 0) ag_80 rfl rfl rfl) ?_
                refine tl_storeO (i := 3) sz_80 rfl rfl rfl rfl rfl rfl rfl ?_
                refine tl_nil (tp_block_normal (tp_normal ?_))
                refine tc_region ?_
                refine s0 (qv_move rfl) ?_
                refine s0 (qv_succ rfl rfl (by omega)) ?_
                refine s0 (qv_assign rfl) ?_
                exact tl_nil (tp_roundG (q.1 + 1, ⟨Wk, lok, hik, ra32, rc32⟩) ⟨by simp only; omega, by rw [hI.2.1]; exact settleB_ok he29 (by omega), .inl hlok, hsk, hck_, by simp only; omega⟩ (by simp only; omega) ⟨rfl, trivial⟩ rfl rfl rfl (by repeat (first | exact List.Sublist.refl _ | refine List.Sublist.cons_cons _ ?_ | refine List.Sublist.cons _ ?_)) (by first | exact List.Sublist.refl _ | exact List.nil_sublist _))
            ·
              refine tg_alloc ze_80 (fun b7_16 => ?_) (fun _ _ h => hD_rows rfl rfl rfl _ h)
              refine tu_one 11 ?_ (by kernel_rfl) (by kernel_rfl) (by kernel_rfl)
              refine tg_appendS 0 apt_40 hr26 (SlAt.ofBox (enc := encPost) (sz := 6) (b := b31_14) (E := 54) (l := [e29]) (Nat.le_of_ble_eq_true rfl) (fun _ _ => rfl)) (Mem.has_box (by repeat (first | exact List.Mem.head _ | refine List.Mem.tail _ ?_))) (fun h => by simp at h) (fun v32 ob32 hr32 => ?_) (one_flat one_54 _) (by first | omega | (simp only [List.length_append, List.length_cons, List.length_nil]; omega)) rfl (fun _ _ => rfl) (fun o_ w h => hD_rows rfl rfl rfl w h)
              obtain ⟨ra32, rc32, hv32, hc32⟩ := RowOf.slice hr32
              subst hv32
              refine tu_take (i := 12) (ho := rfl) (qv_build bt_80 rfl rfl) ?_ (by kernel_rfl) (by kernel_rfl)
              refine tu_tail rfl rfl rfl (by kernel_rfl) ?_
              refine tl_storeO (i := 0) sz_80 rfl rfl rfl rfl rfl rfl rfl ?_
              refine tl_nil (tp_normal ?_)
              refine tc_seq ?_
              have hst := addPosts_step (b := b) he29
              refine tc_rowKeepL 0 hr32 (fun _ => rfl) (fun Wk lok hik ak ck hvk hck_ hlok hsk => ?_)
              obtain ⟨g1, _, g2⟩ := Value.slice.inj hvk
              subst g1 g2
              rw [show (addPosts b l q.1).posts ++ [e29] = (addPosts b l (q.1 + 1)).posts by rw [hst]; rfl] at hsk hck_ ⊢
              refine tc_region ?_
              refine s0 (qv_ldBW (i := 0) ag_80 rfl rfl rfl) ?_
              refine s0 (qv_call fn_47 rfl (fun w hm => rbcheck_calls w (addPosts b l (q.1 + 1)) ra32 rc32 (hsk.into (Mem.has_kept (by repeat (first | exact .head _ | refine .tail _ ?_))) hm))) ?_
              refine s0 (qv_assign rfl) ?_
              refine tl_nil (tp_normal ?_)
              refine tc_seq ?_
              refine tc_seq ?_
              refine tc_region ?_
              refine s0 (qv_move rfl) ?_
              refine sd (qv_neq rfl rfl) (fun c37 => ?_) (fun c37 => ?_)
              ·
                refine tl_nil (tp_normal ?_)
                refine tc_true rfl ?_
                refine tc_seq ?_
                refine tc_region ?_
                refine s0 (qv_move rfl) ?_
                refine s0 (qv_build bt_101 rfl rfl) ?_
                refine tl_storeO (i := 2) sz_101 rfl rfl rfl rfl rfl rfl rfl ?_
                refine tl_nil (tp_normal ?_)
                refine tc_ret (tp_then_ret (tp_block_ret (tp_then_ret (tp_then_ret (tp_block_ret (tp_then_ret (tp_endC (i := 2) rfl rfl ag_101 rfl rfl ?_)))))))
                intro w' hm
                rw [hI.2.1, settleB_bad he29 (by omega)]
                exact ⟨(none, 0), rfl, hm.below, Nat.le_refl 0, .inl SlAt.nothing⟩
              ·
                refine tl_nil (tp_normal ?_)
                refine tc_false rfl ?_
                refine tc_skip (tp_normal ?_)
                refine tc_region ?_
                refine s0 (qv_ldBW (i := 0) ag_80 rfl rfl rfl) ?_
                refine tl_storeO (i := 3) sz_80 rfl rfl rfl rfl rfl rfl rfl ?_
                refine tl_nil (tp_block_normal (tp_normal ?_))
                refine tc_region ?_
                refine s0 (qv_move rfl) ?_
                refine s0 (qv_succ rfl rfl (by omega)) ?_
                refine s0 (qv_assign rfl) ?_
                exact tl_nil (tp_roundG (q.1 + 1, ⟨Wk, lok, hik, ra32, rc32⟩) ⟨by simp only; omega, by rw [hI.2.1]; exact settleB_ok he29 (by omega), .inl hlok, hsk, hck_, by simp only; omega⟩ (by simp only; omega) ⟨rfl, trivial⟩ rfl rfl rfl (by repeat (first | exact List.Sublist.refl _ | refine List.Sublist.cons_cons _ ?_ | refine List.Sublist.cons _ ?_)) (by first | exact List.Sublist.refl _ | exact List.nil_sublist _))
          ·
            refine tg_alloc ze_80 (fun b7_17 => ?_) (fun _ _ h => hD_rows rfl rfl rfl _ h)
            refine tu_one 5 ?_ (by kernel_rfl) (by kernel_rfl) (by kernel_rfl)
            refine tg_appendS 0 apt_40 hrw23 hI.2.2.2.1 (Mem.has_kept (by repeat (first | exact .head _ | refine .tail _ ?_))) (fun h => hI.2.2.2.1.nil_of_none (by rw [h]; rfl)) (fun v26 ob26 hr26 => ?_) (one_flat one_54 _) (by simp only [List.length_nil]; omega) rfl (fun _ _ => rfl) (fun o_ w h => hD_rows rfl rfl rfl w h)
            rw [List.nil_append] at hr26
            obtain ⟨ra26, rc26, hv26, hc26⟩ := RowOf.slice hr26
            subst hv26
            refine tu_one 11 ?_ (by kernel_rfl) (by kernel_rfl) (by kernel_rfl)
            refine tg_appendS 0 apt_40 hr26 (SlAt.ofBox (enc := encPost) (sz := 6) (b := b31_14) (E := 54) (l := [e29]) (Nat.le_of_ble_eq_true rfl) (fun _ _ => rfl)) (Mem.has_box (by repeat (first | exact List.Mem.head _ | refine List.Mem.tail _ ?_))) (fun h => by simp at h) (fun v32 ob32 hr32 => ?_) (one_flat one_54 _) (by first | omega | (simp only [List.length_append, List.length_cons, List.length_nil]; omega)) rfl (fun _ _ => rfl) (fun o_ w h => hD_rows rfl rfl rfl w h)
            obtain ⟨ra32, rc32, hv32, hc32⟩ := RowOf.slice hr32
            subst hv32
            refine tu_take (i := 12) (ho := rfl) (qv_build bt_80 rfl rfl) ?_ (by kernel_rfl) (by kernel_rfl)
            refine tu_tail rfl rfl rfl (by kernel_rfl) ?_
            refine tl_storeO (i := 0) sz_80 rfl rfl rfl rfl rfl rfl rfl ?_
            refine tl_nil (tp_normal ?_)
            refine tc_seq ?_
            have hst := addPosts_step (b := b) he29
            refine tc_rowKeepL 0 hr32 (fun _ => rfl) (fun Wk lok hik ak ck hvk hck_ hlok hsk => ?_)
            obtain ⟨g1, _, g2⟩ := Value.slice.inj hvk
            subst g1 g2
            rw [show (addPosts b l q.1).posts ++ [e29] = (addPosts b l (q.1 + 1)).posts by rw [hst]; rfl] at hsk hck_ ⊢
            refine tc_region ?_
            refine s0 (qv_ldBW (i := 0) ag_80 rfl rfl rfl) ?_
            refine s0 (qv_call fn_47 rfl (fun w hm => rbcheck_calls w (addPosts b l (q.1 + 1)) ra32 rc32 (hsk.into (Mem.has_kept (by repeat (first | exact .head _ | refine .tail _ ?_))) hm))) ?_
            refine s0 (qv_assign rfl) ?_
            refine tl_nil (tp_normal ?_)
            refine tc_seq ?_
            refine tc_seq ?_
            refine tc_region ?_
            refine s0 (qv_move rfl) ?_
            refine sd (qv_neq rfl rfl) (fun c37 => ?_) (fun c37 => ?_)
            ·
              refine tl_nil (tp_normal ?_)
              refine tc_true rfl ?_
              refine tc_seq ?_
              refine tc_region ?_
              refine s0 (qv_move rfl) ?_
              refine s0 (qv_build bt_101 rfl rfl) ?_
              refine tl_storeO (i := 2) sz_101 rfl rfl rfl rfl rfl rfl rfl ?_
              refine tl_nil (tp_normal ?_)
              refine tc_ret (tp_then_ret (tp_block_ret (tp_then_ret (tp_then_ret (tp_block_ret (tp_then_ret (tp_endC (i := 2) rfl rfl ag_101 rfl rfl ?_)))))))
              intro w' hm
              rw [hI.2.1, settleB_bad he29 (by omega)]
              exact ⟨(none, 0), rfl, hm.below, Nat.le_refl 0, .inl SlAt.nothing⟩
            ·
              refine tl_nil (tp_normal ?_)
              refine tc_false rfl ?_
              refine tc_skip (tp_normal ?_)
              refine tc_region ?_
              refine s0 (qv_ldBW (i := 0) ag_80 rfl rfl rfl) ?_
              refine tl_storeO (i := 3) sz_80 rfl rfl rfl rfl rfl rfl rfl ?_
              refine tl_nil (tp_block_normal (tp_normal ?_))
              refine tc_region ?_
              refine s0 (qv_move rfl) ?_
              refine s0 (qv_succ rfl rfl (by omega)) ?_
              refine s0 (qv_assign rfl) ?_
              exact tl_nil (tp_roundG (q.1 + 1, ⟨Wk, lok, hik, ra32, rc32⟩) ⟨by simp only; omega, by rw [hI.2.1]; exact settleB_ok he29 (by omega), .inl hlok, hsk, hck_, by simp only; omega⟩ (by simp only; omega) ⟨rfl, trivial⟩ rfl rfl rfl (by repeat (first | exact List.Sublist.refl _ | refine List.Sublist.cons_cons _ ?_ | refine List.Sublist.cons _ ?_)) (by first | exact List.Sublist.refl _ | exact List.nil_sublist _))
        ·
          refine tg_alloc ze_80 (fun b7_18 => ?_) (fun _ _ h => hD_rows rfl rfl rfl _ h)
          refine tu_one 2 ?_ (by kernel_rfl) (by kernel_rfl) (by kernel_rfl)
          refine tg_buildRow0 (enc := encPost) 0 Try.underlying40 sz_54 (fun br23 hrw23 => ?_) (fun o_ w h => hD_rows rfl rfl rfl w h)
          refine tu_one 5 ?_ (by kernel_rfl) (by kernel_rfl) (by kernel_rfl)
          refine tg_appendS 0 apt_40 hrw23 hI.2.2.2.1 (Mem.has_kept (by repeat (first | exact .head _ | refine .tail _ ?_))) (fun h => hI.2.2.2.1.nil_of_none (by rw [h]; rfl)) (fun v26 ob26 hr26 => ?_) (one_flat one_54 _) (by simp only [List.length_nil]; omega) rfl (fun _ _ => rfl) (fun o_ w h => hD_rows rfl rfl rfl w h)
          rw [List.nil_append] at hr26
          obtain ⟨ra26, rc26, hv26, hc26⟩ := RowOf.slice hr26
          subst hv26
          refine tu_one 11 ?_ (by kernel_rfl) (by kernel_rfl) (by kernel_rfl)
          refine tg_appendS 0 apt_40 hr26 (SlAt.ofBox (enc := encPost) (sz := 6) (b := b31_14) (E := 54) (l := [e29]) (Nat.le_of_ble_eq_true rfl) (fun _ _ => rfl)) (Mem.has_box (by repeat (first | exact List.Mem.head _ | refine List.Mem.tail _ ?_))) (fun h => by simp at h) (fun v32 ob32 hr32 => ?_) (one_flat one_54 _) (by first | omega | (simp only [List.length_append, List.length_cons, List.length_nil]; omega)) rfl (fun _ _ => rfl) (fun o_ w h => hD_rows rfl rfl rfl w h)
          obtain ⟨ra32, rc32, hv32, hc32⟩ := RowOf.slice hr32
          subst hv32
          refine tu_take (i := 12) (ho := rfl) (qv_build bt_80 rfl rfl) ?_ (by kernel_rfl) (by kernel_rfl)
          refine tu_tail rfl rfl rfl (by kernel_rfl) ?_
          refine tl_storeO (i := 0) sz_80 rfl rfl rfl rfl rfl rfl rfl ?_
          refine tl_nil (tp_normal ?_)
          refine tc_seq ?_
          have hst := addPosts_step (b := b) he29
          refine tc_rowKeepL 0 hr32 (fun _ => rfl) (fun Wk lok hik ak ck hvk hck_ hlok hsk => ?_)
          obtain ⟨g1, _, g2⟩ := Value.slice.inj hvk
          subst g1 g2
          rw [show (addPosts b l q.1).posts ++ [e29] = (addPosts b l (q.1 + 1)).posts by rw [hst]; rfl] at hsk hck_ ⊢
          refine tc_region ?_
          refine s0 (qv_ldBW (i := 0) ag_80 rfl rfl rfl) ?_
          refine s0 (qv_call fn_47 rfl (fun w hm => rbcheck_calls w (addPosts b l (q.1 + 1)) ra32 rc32 (hsk.into (Mem.has_kept (by repeat (first | exact .head _ | refine .tail _ ?_))) hm))) ?_
          refine s0 (qv_assign rfl) ?_
          refine tl_nil (tp_normal ?_)
          refine tc_seq ?_
          refine tc_seq ?_
          refine tc_region ?_
          refine s0 (qv_move rfl) ?_
          refine sd (qv_neq rfl rfl) (fun c37 => ?_) (fun c37 => ?_)
          ·
            refine tl_nil (tp_normal ?_)
            refine tc_true rfl ?_
            refine tc_seq ?_
            refine tc_region ?_
            refine s0 (qv_move rfl) ?_
            refine s0 (qv_build bt_101 rfl rfl) ?_
            refine tl_storeO (i := 2) sz_101 rfl rfl rfl rfl rfl rfl rfl ?_
            refine tl_nil (tp_normal ?_)
            refine tc_ret (tp_then_ret (tp_block_ret (tp_then_ret (tp_then_ret (tp_block_ret (tp_then_ret (tp_endC (i := 2) rfl rfl ag_101 rfl rfl ?_)))))))
            intro w' hm
            rw [hI.2.1, settleB_bad he29 (by omega)]
            exact ⟨(none, 0), rfl, hm.below, Nat.le_refl 0, .inl SlAt.nothing⟩
          ·
            refine tl_nil (tp_normal ?_)
            refine tc_false rfl ?_
            refine tc_skip (tp_normal ?_)
            refine tc_region ?_
            refine s0 (qv_ldBW (i := 0) ag_80 rfl rfl rfl) ?_
            refine tl_storeO (i := 3) sz_80 rfl rfl rfl rfl rfl rfl rfl ?_
            refine tl_nil (tp_block_normal (tp_normal ?_))
            refine tc_region ?_
            refine s0 (qv_move rfl) ?_
            refine s0 (qv_succ rfl rfl (by omega)) ?_
            refine s0 (qv_assign rfl) ?_
            exact tl_nil (tp_roundG (q.1 + 1, ⟨Wk, lok, hik, ra32, rc32⟩) ⟨by simp only; omega, by rw [hI.2.1]; exact settleB_ok he29 (by omega), .inl hlok, hsk, hck_, by simp only; omega⟩ (by simp only; omega) ⟨rfl, trivial⟩ rfl rfl rfl (by repeat (first | exact List.Sublist.refl _ | refine List.Sublist.cons_cons _ ?_ | refine List.Sublist.cons _ ?_)) (by first | exact List.Sublist.refl _ | exact List.nil_sublist _))
      ·
        refine tg_alloc ze_80 (fun b7_19 => ?_) (fun _ _ h => hD_rows rfl rfl rfl _ h)
        refine tu_2 2 10 (by kernel_rfl) (by kernel_rfl) (by kernel_rfl) ?_ ?_
        ·
          refine tg_buildRow0 (enc := encPost) 0 Try.underlying40 sz_54 (fun br23 hrw23 => ?_) (fun o_ w h => hD_rows rfl rfl rfl w h)
          refine tu_2 5 10 (by kernel_rfl) (by kernel_rfl) (by kernel_rfl) ?_ ?_
          ·
            refine tg_appendS 0 apt_40 hrw23 hI.2.2.2.1 (Mem.has_kept (by repeat (first | exact .head _ | refine .tail _ ?_))) (fun h => hI.2.2.2.1.nil_of_none (by rw [h]; rfl)) (fun v26 ob26 hr26 => ?_) (one_flat one_54 _) (by simp only [List.length_nil]; omega) rfl (fun _ _ => rfl) (fun o_ w h => hD_rows rfl rfl rfl w h)
            rw [List.nil_append] at hr26
            obtain ⟨ra26, rc26, hv26, hc26⟩ := RowOf.slice hr26
            subst hv26
            refine tu_one 10 ?_ (by kernel_rfl) (by kernel_rfl) (by kernel_rfl)
            refine tg_buildSlice (cells := #[.int .i64 e29.debit, .int .i64 e29.credit, .int .i64 e29.amount, .int .i64 e29.tick, .int .i64 e29.why, .int .i64 e29.ref]) (hc := by kernel_rfl) bsl_40_1 (fun b31_20 => ?_) (fun _ _ h => hD_rows rfl rfl rfl _ h)
            refine tu_one 11 ?_ (by kernel_rfl) (by kernel_rfl) (by kernel_rfl)
            refine tg_appendS 0 apt_40 hr26 (SlAt.ofBox (enc := encPost) (sz := 6) (b := b31_20) (E := 54) (l := [e29]) (Nat.le_of_ble_eq_true rfl) (fun _ _ => rfl)) (Mem.has_box (by repeat (first | exact List.Mem.head _ | refine List.Mem.tail _ ?_))) (fun h => by simp at h) (fun v32 ob32 hr32 => ?_) (one_flat one_54 _) (by first | omega | (simp only [List.length_append, List.length_cons, List.length_nil]; omega)) rfl (fun _ _ => rfl) (fun o_ w h => hD_rows rfl rfl rfl w h)
            obtain ⟨ra32, rc32, hv32, hc32⟩ := RowOf.slice hr32
            subst hv32
            refine tu_take (i := 12) (ho := rfl) (qv_build bt_80 rfl rfl) ?_ (by kernel_rfl) (by kernel_rfl)
            refine tu_tail rfl rfl rfl (by kernel_rfl) ?_
            refine tl_storeO (i := 1) sz_80 rfl rfl rfl rfl rfl rfl rfl ?_
            refine tl_nil (tp_normal ?_)
            refine tc_seq ?_
            have hst := addPosts_step (b := b) he29
            refine tc_rowKeepL 0 hr32 (fun _ => rfl) (fun Wk lok hik ak ck hvk hck_ hlok hsk => ?_)
            obtain ⟨g1, _, g2⟩ := Value.slice.inj hvk
            subst g1 g2
            rw [show (addPosts b l q.1).posts ++ [e29] = (addPosts b l (q.1 + 1)).posts by rw [hst]; rfl] at hsk hck_ ⊢
            refine tc_region ?_
            refine s0 (qv_ldBW (i := 1) ag_80 rfl rfl rfl) ?_
            refine s0 (qv_call fn_47 rfl (fun w hm => rbcheck_calls w (addPosts b l (q.1 + 1)) ra32 rc32 (hsk.into (Mem.has_kept (by repeat (first | exact .head _ | refine .tail _ ?_))) hm))) ?_
            refine s0 (qv_assign rfl) ?_
            refine tl_nil (tp_normal ?_)
            refine tc_seq ?_
            refine tc_seq ?_
            refine tc_region ?_
            refine s0 (qv_move rfl) ?_
            refine sd (qv_neq rfl rfl) (fun c37 => ?_) (fun c37 => ?_)
            ·
              refine tl_nil (tp_normal ?_)
              refine tc_true rfl ?_
              refine tc_seq ?_
              refine tc_region ?_
              refine s0 (qv_move rfl) ?_
              refine s0 (qv_build bt_101 rfl rfl) ?_
              refine tl_storeO (i := 2) sz_101 rfl rfl rfl rfl rfl rfl rfl ?_
              refine tl_nil (tp_normal ?_)
              refine tc_ret (tp_then_ret (tp_block_ret (tp_then_ret (tp_then_ret (tp_block_ret (tp_then_ret (tp_endC (i := 2) rfl rfl ag_101 rfl rfl ?_)))))))
              intro w' hm
              rw [hI.2.1, settleB_bad he29 (by omega)]
              exact ⟨(none, 0), rfl, hm.below, Nat.le_refl 0, .inl SlAt.nothing⟩
            ·
              refine tl_nil (tp_normal ?_)
              refine tc_false rfl ?_
              refine tc_skip (tp_normal ?_)
              refine tc_region ?_
              refine s0 (qv_ldBW (i := 1) ag_80 rfl rfl rfl) ?_
              refine tl_storeO (i := 3) sz_80 rfl rfl rfl rfl rfl rfl rfl ?_
              refine tl_nil (tp_block_normal (tp_normal ?_))
              refine tc_region ?_
              refine s0 (qv_move rfl) ?_
              refine s0 (qv_succ rfl rfl (by omega)) ?_
              refine s0 (qv_assign rfl) ?_
              exact tl_nil (tp_roundG (q.1 + 1, ⟨Wk, lok, hik, ra32, rc32⟩) ⟨by simp only; omega, by rw [hI.2.1]; exact settleB_ok he29 (by omega), .inl hlok, hsk, hck_, by simp only; omega⟩ (by simp only; omega) ⟨rfl, trivial⟩ rfl rfl rfl (by repeat (first | exact List.Sublist.refl _ | refine List.Sublist.cons_cons _ ?_ | refine List.Sublist.cons _ ?_)) (by first | exact List.Sublist.refl _ | exact List.nil_sublist _))
          ·
            refine tg_buildSlice (cells := #[.int .i64 e29.debit, .int .i64 e29.credit, .int .i64 e29.amount, .int .i64 e29.tick, .int .i64 e29.why, .int .i64 e29.ref]) (hc := by kernel_rfl) bsl_40_1 (fun b31_21 => ?_) (fun _ _ h => hD_rows rfl rfl rfl _ h)
            refine tu_one 5 ?_ (by kernel_rfl) (by kernel_rfl) (by kernel_rfl)
            refine tg_appendS 0 apt_40 hrw23 hI.2.2.2.1 (Mem.has_kept (by repeat (first | exact .head _ | refine .tail _ ?_))) (fun h => hI.2.2.2.1.nil_of_none (by rw [h]; rfl)) (fun v26 ob26 hr26 => ?_) (one_flat one_54 _) (by simp only [List.length_nil]; omega) rfl (fun _ _ => rfl) (fun o_ w h => hD_rows rfl rfl rfl w h)
            rw [List.nil_append] at hr26
            obtain ⟨ra26, rc26, hv26, hc26⟩ := RowOf.slice hr26
            subst hv26
            refine tu_one 11 ?_ (by kernel_rfl) (by kernel_rfl) (by kernel_rfl)
            refine tg_appendS 0 apt_40 hr26 (SlAt.ofBox (enc := encPost) (sz := 6) (b := b31_21) (E := 54) (l := [e29]) (Nat.le_of_ble_eq_true rfl) (fun _ _ => rfl)) (Mem.has_box (by repeat (first | exact List.Mem.head _ | refine List.Mem.tail _ ?_))) (fun h => by simp at h) (fun v32 ob32 hr32 => ?_) (one_flat one_54 _) (by first | omega | (simp only [List.length_append, List.length_cons, List.length_nil]; omega)) rfl (fun _ _ => rfl) (fun o_ w h => hD_rows rfl rfl rfl w h)
            obtain ⟨ra32, rc32, hv32, hc32⟩ := RowOf.slice hr32
            subst hv32
            refine tu_take (i := 12) (ho := rfl) (qv_build bt_80 rfl rfl) ?_ (by kernel_rfl) (by kernel_rfl)
            refine tu_tail rfl rfl rfl (by kernel_rfl) ?_
            refine tl_storeO (i := 1) sz_80 rfl rfl rfl rfl rfl rfl rfl ?_
            refine tl_nil (tp_normal ?_)
            refine tc_seq ?_
            have hst := addPosts_step (b := b) he29
            refine tc_rowKeepL 0 hr32 (fun _ => rfl) (fun Wk lok hik ak ck hvk hck_ hlok hsk => ?_)
            obtain ⟨g1, _, g2⟩ := Value.slice.inj hvk
            subst g1 g2
            rw [show (addPosts b l q.1).posts ++ [e29] = (addPosts b l (q.1 + 1)).posts by rw [hst]; rfl] at hsk hck_ ⊢
            refine tc_region ?_
            refine s0 (qv_ldBW (i := 1) ag_80 rfl rfl rfl) ?_
            refine s0 (qv_call fn_47 rfl (fun w hm => rbcheck_calls w (addPosts b l (q.1 + 1)) ra32 rc32 (hsk.into (Mem.has_kept (by repeat (first | exact .head _ | refine .tail _ ?_))) hm))) ?_
            refine s0 (qv_assign rfl) ?_
            refine tl_nil (tp_normal ?_)
            refine tc_seq ?_
            refine tc_seq ?_
            refine tc_region ?_
            refine s0 (qv_move rfl) ?_
            refine sd (qv_neq rfl rfl) (fun c37 => ?_) (fun c37 => ?_)
            ·
              refine tl_nil (tp_normal ?_)
              refine tc_true rfl ?_
              refine tc_seq ?_
              refine tc_region ?_
              refine s0 (qv_move rfl) ?_
              refine s0 (qv_build bt_101 rfl rfl) ?_
              refine tl_storeO (i := 2) sz_101 rfl rfl rfl rfl rfl rfl rfl ?_
              refine tl_nil (tp_normal ?_)
              refine tc_ret (tp_then_ret (tp_block_ret (tp_then_ret (tp_then_ret (tp_block_ret (tp_then_ret (tp_endC (i := 2) rfl rfl ag_101 rfl rfl ?_)))))))
              intro w' hm
              rw [hI.2.1, settleB_bad he29 (by omega)]
              exact ⟨(none, 0), rfl, hm.below, Nat.le_refl 0, .inl SlAt.nothing⟩
            ·
              refine tl_nil (tp_normal ?_)
              refine tc_false rfl ?_
              refine tc_skip (tp_normal ?_)
              refine tc_region ?_
              refine s0 (qv_ldBW (i := 1) ag_80 rfl rfl rfl) ?_
              refine tl_storeO (i := 3) sz_80 rfl rfl rfl rfl rfl rfl rfl ?_
              refine tl_nil (tp_block_normal (tp_normal ?_))
              refine tc_region ?_
              refine s0 (qv_move rfl) ?_
              refine s0 (qv_succ rfl rfl (by omega)) ?_
              refine s0 (qv_assign rfl) ?_
              exact tl_nil (tp_roundG (q.1 + 1, ⟨Wk, lok, hik, ra32, rc32⟩) ⟨by simp only; omega, by rw [hI.2.1]; exact settleB_ok he29 (by omega), .inl hlok, hsk, hck_, by simp only; omega⟩ (by simp only; omega) ⟨rfl, trivial⟩ rfl rfl rfl (by repeat (first | exact List.Sublist.refl _ | refine List.Sublist.cons_cons _ ?_ | refine List.Sublist.cons _ ?_)) (by first | exact List.Sublist.refl _ | exact List.nil_sublist _))
        ·
          refine tg_buildSlice (cells := #[.int .i64 e29.debit, .int .i64 e29.credit, .int .i64 e29.amount, .int .i64 e29.tick, .int .i64 e29.why, .int .i64 e29.ref]) (hc := by kernel_rfl) bsl_40_1 (fun b31_22 => ?_) (fun _ _ h => hD_rows rfl rfl rfl _ h)
          refine tu_one 2 ?_ (by kernel_rfl) (by kernel_rfl) (by kernel_rfl)
          refine tg_buildRow0 (enc := encPost) 0 Try.underlying40 sz_54 (fun br23 hrw23 => ?_) (fun o_ w h => hD_rows rfl rfl rfl w h)
          refine tu_one 5 ?_ (by kernel_rfl) (by kernel_rfl) (by kernel_rfl)
          refine tg_appendS 0 apt_40 hrw23 hI.2.2.2.1 (Mem.has_kept (by repeat (first | exact .head _ | refine .tail _ ?_))) (fun h => hI.2.2.2.1.nil_of_none (by rw [h]; rfl)) (fun v26 ob26 hr26 => ?_) (one_flat one_54 _) (by simp only [List.length_nil]; omega) rfl (fun _ _ => rfl) (fun o_ w h => hD_rows rfl rfl rfl w h)
          rw [List.nil_append] at hr26
          obtain ⟨ra26, rc26, hv26, hc26⟩ := RowOf.slice hr26
          subst hv26
          refine tu_one 11 ?_ (by kernel_rfl) (by kernel_rfl) (by kernel_rfl)
          refine tg_appendS 0 apt_40 hr26 (SlAt.ofBox (enc := encPost) (sz := 6) (b := b31_22) (E := 54) (l := [e29]) (Nat.le_of_ble_eq_true rfl) (fun _ _ => rfl)) (Mem.has_box (by repeat (first | exact List.Mem.head _ | refine List.Mem.tail _ ?_))) (fun h => by simp at h) (fun v32 ob32 hr32 => ?_) (one_flat one_54 _) (by first | omega | (simp only [List.length_append, List.length_cons, List.length_nil]; omega)) rfl (fun _ _ => rfl) (fun o_ w h => hD_rows rfl rfl rfl w h)
          obtain ⟨ra32, rc32, hv32, hc32⟩ := RowOf.slice hr32
          subst hv32
          refine tu_take (i := 12) (ho := rfl) (qv_build bt_80 rfl rfl) ?_ (by kernel_rfl) (by kernel_rfl)
          refine tu_tail rfl rfl rfl (by kernel_rfl) ?_
          refine tl_storeO (i := 1) sz_80 rfl rfl rfl rfl rfl rfl rfl ?_
          refine tl_nil (tp_normal ?_)
          refine tc_seq ?_
          have hst := addPosts_step (b := b) he29
          refine tc_rowKeepL 0 hr32 (fun _ => rfl) (fun Wk lok hik ak ck hvk hck_ hlok hsk => ?_)
          obtain ⟨g1, _, g2⟩ := Value.slice.inj hvk
          subst g1 g2
          rw [show (addPosts b l q.1).posts ++ [e29] = (addPosts b l (q.1 + 1)).posts by rw [hst]; rfl] at hsk hck_ ⊢
          refine tc_region ?_
          refine s0 (qv_ldBW (i := 1) ag_80 rfl rfl rfl) ?_
          refine s0 (qv_call fn_47 rfl (fun w hm => rbcheck_calls w (addPosts b l (q.1 + 1)) ra32 rc32 (hsk.into (Mem.has_kept (by repeat (first | exact .head _ | refine .tail _ ?_))) hm))) ?_
          refine s0 (qv_assign rfl) ?_
          refine tl_nil (tp_normal ?_)
          refine tc_seq ?_
          refine tc_seq ?_
          refine tc_region ?_
          refine s0 (qv_move rfl) ?_
          refine sd (qv_neq rfl rfl) (fun c37 => ?_) (fun c37 => ?_)
          ·
            refine tl_nil (tp_normal ?_)
            refine tc_true rfl ?_
            refine tc_seq ?_
            refine tc_region ?_
            refine s0 (qv_move rfl) ?_
            refine s0 (qv_build bt_101 rfl rfl) ?_
            refine tl_storeO (i := 2) sz_101 rfl rfl rfl rfl rfl rfl rfl ?_
            refine tl_nil (tp_normal ?_)
            refine tc_ret (tp_then_ret (tp_block_ret (tp_then_ret (tp_then_ret (tp_block_ret (tp_then_ret (tp_endC (i := 2) rfl rfl ag_101 rfl rfl ?_)))))))
            intro w' hm
            rw [hI.2.1, settleB_bad he29 (by omega)]
            exact ⟨(none, 0), rfl, hm.below, Nat.le_refl 0, .inl SlAt.nothing⟩
          ·
            refine tl_nil (tp_normal ?_)
            refine tc_false rfl ?_
            refine tc_skip (tp_normal ?_)
            refine tc_region ?_
            refine s0 (qv_ldBW (i := 1) ag_80 rfl rfl rfl) ?_
            refine tl_storeO (i := 3) sz_80 rfl rfl rfl rfl rfl rfl rfl ?_
            refine tl_nil (tp_block_normal (tp_normal ?_))
            refine tc_region ?_
            refine s0 (qv_move rfl) ?_
            refine s0 (qv_succ rfl rfl (by omega)) ?_
            refine s0 (qv_assign rfl) ?_
            exact tl_nil (tp_roundG (q.1 + 1, ⟨Wk, lok, hik, ra32, rc32⟩) ⟨by simp only; omega, by rw [hI.2.1]; exact settleB_ok he29 (by omega), .inl hlok, hsk, hck_, by simp only; omega⟩ (by simp only; omega) ⟨rfl, trivial⟩ rfl rfl rfl (by repeat (first | exact List.Sublist.refl _ | refine List.Sublist.cons_cons _ ?_ | refine List.Sublist.cons _ ?_)) (by first | exact List.Sublist.refl _ | exact List.nil_sublist _))
    ·
      refine tl_nil (tp_normal ?_)
      refine tc_false rfl ?_
      refine tc_exit (tp_then_exit (tp_then_exit (tp_block_exit (tp_normal ?_))))
      refine tc_seq ?_
      refine tc_region ?_
      refine s0 (qv_ldBW (i := 1) ag_80 rfl rfl rfl) ?_
      refine s0 (qv_build bt_101 rfl rfl) ?_
      refine tl_storeO (i := 0) sz_101 rfl rfl rfl rfl rfl rfl rfl ?_
      refine tl_nil (tp_normal ?_)
      refine tc_ret (tp_endC (i := 0) rfl rfl ag_101 rfl rfl ?_)
      intro w' hm
      rw [hI.2.1, settleB_end (by omega)]
      have h_ := (Mem.has_kept (W := q.2.W) (lo := q.2.lo) (hi := q.2.hi) (by repeat (first | exact .head _ | refine .tail _ ?_))) _ hm
      refine ⟨(q.2.a, q.2.c), rfl, hm.below, hI.2.2.2.2.1, ?_⟩
      rcases hI.2.2.1 with hf | ⟨hz, hz2⟩
      · exact .inl (hI.2.2.2.1.move h_.2 hf h_.1)
      · exact .inr ⟨hz2, by rw [hz]; exact addPosts_zero b l⟩
end Go.Q
namespace Go.Q
open Go Go.Proofs Go.RowKit
theorem fn_43 : IsFn Try.prog 43 := isFn_of Try.func43 (by kernel_rfl) rfl
theorem fn_44 : IsFn Try.prog 44 := isFn_of Try.func44 (by kernel_rfl) rfl
theorem fo_101_1 : FOff Try.prog 101 1 2 := fun b o w => by kernel_rfl
theorem fo_101_0 : FOff Try.prog 101 0 0 := fun b o w => by kernel_rfl
theorem fn_40 : IsFn Try.prog 40 := isFn_of Try.func40 (by kernel_rfl) rfl
theorem fn_45 : IsFn Try.prog 45 := isFn_of Try.func45 (by kernel_rfl) rfl
theorem fn_46 : IsFn Try.prog 46 := isFn_of Try.func46 (by kernel_rfl) rfl
theorem sameB_self (w : World) (b : Book) (ba : Option Addr) (bc : Nat) (ba2 : Option Addr) (bc2 : Nat) (hb : SlIn w 6 encPost ba b.posts) (hb2 : SlIn w 6 encPost ba2 b.posts) : Calls Try.prog 40 #[.agg (bookA b ba bc), .agg (bookA b ba2 bc2)] w (fun e w' => e = .returned (.bool true) ∧ Below w.heap.size w w') := by
  have h := sameB_calls w b ba bc b ba2 bc2 hb hb2
  rwa [decide_eq_true rfl] at h
set_option maxRecDepth 100000 in
set_option maxHeartbeats 16000000 in
theorem law_settles (w : World) (b : Book) (ba : Option Addr) (bc : Nat) (t : List Tariff) (ta : Option Addr) (tc : Nat) (n : Net) (na : Option Addr) (nc : Nat) (l : List Use) (la : Option Addr) (lc : Nat) (x : Int) (hb : SlIn w 6 encPost ba b.posts) (hbc : b.posts.length ≤ bc) (ht : SlIn w 3 encTar ta t) (hn : SlIn w 50 encLink na n.links) (hk : NetOk n) (hl : SlIn w 8 encUse la l) (hins : ∀ u ∈ l, SlIn w 3 encSend u.sends.a u.sends.l ∧ u.sends.l.length ≤ u.sends.c) (hx : 0 ≤ x ∧ x ≤ 65535) :
    Calls Try.prog 11 #[.agg (bookA b ba bc), .slice ta t.length tc, .agg (netA n na nc), .slice la l.length lc, .int .u16 x] w (fun e w' => e = .returned (.bool true) ∧ Below w.heap.size w w') := by
  have hlenb := hb.len
  simp only [maxLen] at hlenb
  have hlent := ht.len
  simp only [maxLen] at hlent
  have hlenn := hn.len
  simp only [maxLen] at hlenn
  have hlenu := hl.len
  simp only [maxLen] at hlenu
  refine calls_of_tc (N := 223) (vs := [.agg (bookA b ba bc), .slice ta t.length tc, .agg (netA n na nc), .slice la l.length lc, .int .u16 x]) Try.func11 rfl rfl (Nat.le_of_ble_eq_true rfl) ?_
  refine tc_seq ?_
  refine tc_region ?_
  refine tl_box rfl (by decide) (fun b5_0 => ?_)
  refine tl_box rfl (by decide) (fun b7_1 => ?_)
  refine s0 (qv_assign rfl) ?_
  refine tl_nil (tp_normal ?_)
  refine tc_seq ?_
  refine tc_region ?_
  refine s0 (qv_fa fo_80_0 rfl) ?_
  refine tl_store1 (i := 1) sz_3 rfl rfl rfl rfl rfl (Nat.le_of_ble_eq_true rfl) ?_
  refine tl_nil (tp_normal ?_)
  refine tc_seq ?_
  refine tc_seq ?_
  refine tc_region ?_
  refine s0 (qv_ldBW (i := 0) ag_26 rfl rfl rfl) ?_
  refine s0 (qv_move rfl) ?_
  refine sd (qv_call fn_14 rfl (fun w hm => few9_calls w n na nc l la lc (hn.into Mem.has_base hm) hk (hl.into Mem.has_base hm))) (fun c34 => ?_) (fun c34 => ?_)
  ·
    refine s0 (qv_not rfl) ?_
    refine s0 (qv_move rfl) ?_
    refine s0g (qv_move rfl) ?_
    refine s0g (qv_len st_27 rfl) ?_
    refine sdg (qv_gtr rfl rfl) (fun c39 => ?_) (fun c39 => ?_)
    ·
      refine s0 (qv_pickF rfl rfl) ?_
      refine s0 (qv_move rfl) ?_
      refine sk ?_
      refine sk ?_
      refine sk ?_
      refine sk ?_
      refine s0 (qv_pickT rfl rfl) ?_
      refine s0 (qv_move rfl) ?_
      refine sk ?_
      refine sk ?_
      refine sk ?_
      refine s0 (qv_pickT rfl rfl) ?_
      refine tl_nil (tp_normal ?_)
      refine tc_true rfl ?_
      refine tc_seq ?_
      refine tc_region ?_
      refine s0 (qv_call fn_15 rfl (fun w hm => sanity9_calls w)) ?_
      refine s0 (qv_assign rfl) ?_
      refine tl_nil (tp_normal ?_)
      refine tc_ret (tp_then_ret (tp_end1 rfl rfl ?_))
      intro w' hm
      exact ⟨rfl, hm.below⟩
    ·
      refine s0 (qv_pickF rfl rfl) ?_
      refine s0 (qv_move rfl) ?_
      refine s0g (qv_fa fo_80_1 rfl) ?_
      refine s0g (qv_ldB (i := 1) sc_40 rfl rfl rfl) ?_
      refine s0g (qv_len st_40 rfl) ?_
      refine sdg (qv_gtr rfl rfl) (fun c45 => ?_) (fun c45 => ?_)
      ·
        refine s0 (qv_pickF rfl rfl) ?_
        refine s0 (qv_move rfl) ?_
        refine sk ?_
        refine sk ?_
        refine sk ?_
        refine s0 (qv_pickT rfl rfl) ?_
        refine tl_nil (tp_normal ?_)
        refine tc_true rfl ?_
        refine tc_seq ?_
        refine tc_region ?_
        refine s0 (qv_call fn_15 rfl (fun w hm => sanity9_calls w)) ?_
        refine s0 (qv_assign rfl) ?_
        refine tl_nil (tp_normal ?_)
        refine tc_ret (tp_then_ret (tp_end1 rfl rfl ?_))
        intro w' hm
        exact ⟨rfl, hm.below⟩
      ·
        refine s0 (qv_pickF rfl rfl) ?_
        refine s0 (qv_move rfl) ?_
        refine s0g (qv_ldBW (i := 1) ag_80 rfl rfl rfl) ?_
        refine s0g (qv_call fn_42 rfl (fun w hm => bcheck_calls w (acc40 b) ba bc (hb.into Mem.has_base hm))) ?_
        refine sdg (qv_neq rfl rfl) (fun c50 => ?_) (fun c50 => ?_)
        ·
          refine s0 (qv_pickF rfl rfl) ?_
          refine tl_nil (tp_normal ?_)
          refine tc_true rfl ?_
          refine tc_seq ?_
          refine tc_region ?_
          refine s0 (qv_call fn_15 rfl (fun w hm => sanity9_calls w)) ?_
          refine s0 (qv_assign rfl) ?_
          refine tl_nil (tp_normal ?_)
          refine tc_ret (tp_then_ret (tp_end1 rfl rfl ?_))
          intro w' hm
          exact ⟨rfl, hm.below⟩
        ·
          refine s0 (qv_pickF rfl rfl) ?_
          refine tl_nil (tp_normal ?_)
          refine tc_false rfl ?_
          refine tc_skip (tp_normal ?_)
          refine tc_seq ?_
          refine tc_region ?_
          refine s0 (qv_move rfl) ?_
          refine s0 (qv_convI Try.underlying98 Try.underlying3 rfl (by omega)) ?_
          refine s0 (qv_assign rfl) ?_
          refine tl_nil (tp_normal ?_)
          refine tc_cut (fun (_u : Unit) => [(11, .int .i64 (tickOf b.posts x))]) (fun (_u : Unit) => True) ?_ ?_
          ·
            refine tc_seq ?_
            refine tc_region ?_
            refine s0 (qv_fa fo_80_1 rfl) ?_
            refine s0 (qv_ldB (i := 1) sc_40 rfl rfl rfl) ?_
            refine s0 (qv_len st_40 rfl) ?_
            refine sd (qv_gtr rfl rfl) (fun c58 => ?_) (fun c58 => ?_)
            ·
              refine tl_nil (tp_normal ?_)
              refine tc_true rfl ?_
              have hokb := bookErr_zero (b := (acc40 b)) (by omega)
              refine tc_region ?_
              refine s0 (qv_move rfl) ?_
              refine s0 (qv_fa fo_80_1 rfl) ?_
              refine s0 (qv_ldB (i := 1) sc_40 rfl rfl rfl) ?_
              refine s0 (qv_fa fo_80_1 rfl) ?_
              refine s0 (qv_ldB (i := 1) sc_40 rfl rfl rfl) ?_
              refine s0 (qv_len st_40 rfl) ?_
              refine s0 (qv_subI rfl rfl (by omega)) ?_
              refine si st_40 hb rfl rfl (by omega) (fun e66 he66 => ?_)
              refine s0 (qv_fa fo_54_3 rfl) ?_
              obtain ⟨_, _, _, _, _, _, _, ht0_, ht1_, _, _, _, _⟩ := hokb.posts _ (List.mem_of_getElem? he66)
              refine s0 (qv_ldE (j := 3) sc_3 hb Mem.has_base rfl rfl he66 rfl) ?_
              refine s0 (qv_addI rfl rfl (by omega)) ?_
              refine s0 (qv_assign rfl) ?_
              exact tl_nil (tp_cut (()) trivial ⟨lk rfl (by first | (rw [tickOf_last (by omega) he66]) | (rw [tickOf_nil (by omega)])), trivial⟩ rfl rfl rfl rfl)
            ·
              refine tl_nil (tp_normal ?_)
              refine tc_false rfl ?_
              exact tc_skip (tp_cut (()) trivial ⟨lk rfl (by first | (rw [tickOf_last (by omega) he66]) | (rw [tickOf_nil (by omega)])), trivial⟩ rfl rfl rfl rfl)
          ·
            rintro _u hJ
            refine tc_seq ?_
            refine tc_region ?_
            refine s0 (qv_move rfl) ?_
            refine s0 (qv_ldBW (i := 0) ag_26 rfl rfl rfl) ?_
            refine s0 (qv_move rfl) ?_
            refine s0 (qv_move rfl) ?_
            refine tl_callR fn_20 rfl (by decide) (fun w hm => period_calls w [] none 0 t ta tc n na nc l la lc (tickOf b.posts x) SlAt.nothing (ht.into Mem.has_base hm) (hn.into Mem.has_base hm) hk (hl.into Mem.has_base hm) (fun u hu => ⟨(hins u hu).1.into Mem.has_base hm, (hins u hu).2⟩)) (fun r75 wa75 wb75 hm75 hb75 hr75 => ?_)
            refine s0 (qv_move rfl) ?_
            refine s0 (qv_extract rfl rfl) ?_
            refine s0 (qv_extract rfl rfl) ?_
            refine s0 (qv_extract rfl rfl) ?_
            refine s0 (qv_assign rfl) ?_
            refine s0 (qv_assign rfl) ?_
            refine s0 (qv_assign rfl) ?_
            refine tl_nil (tp_normal ?_)
            refine tc_seq ?_
            refine tc_seq ?_
            refine tc_region ?_
            refine s0 (qv_move rfl) ?_
            refine sd (qv_neq rfl rfl) (fun c80 => ?_) (fun c80 => ?_)
            ·
              refine tl_nil (tp_normal ?_)
              refine tc_true rfl ?_
              refine tc_seq ?_
              refine tc_region ?_
              refine s0 (qv_call fn_15 rfl (fun w hm => sanity9_calls w)) ?_
              refine s0 (qv_assign rfl) ?_
              refine tl_nil (tp_normal ?_)
              refine tc_ret (tp_then_ret (tp_end1 rfl rfl ?_))
              intro w' hm
              exact ⟨rfl, hm.below⟩
            ·
              refine tl_nil (tp_normal ?_)
              refine tc_false rfl ?_
              refine tc_skip (tp_normal ?_)
              refine tc_seq ?_
              refine tc_region ?_
              refine s0 (qv_ldBW (i := 1) ag_80 rfl rfl rfl) ?_
              refine s0 (qv_move rfl) ?_
              refine tl_callR fn_43 rfl (by decide) (fun w hm => settle_calls w (acc40 b) ba bc (period [] t n l (tickOf b.posts x)).1 r75.1.1 r75.1.2 (hb.into Mem.has_base hm) (hr75.1.2.into (Mem.has_kept (by repeat (first | exact .head _ | refine .tail _ ?_))) hm)) (fun r85 wa85 wb85 hm85 hb85 hr85 => ?_)
              refine s0 (qv_move rfl) ?_
              refine s0 (qv_extract rfl rfl) ?_
              refine s0 (qv_extract rfl rfl) ?_
              refine tl_alloc ze_80 (by decide) (fun b15_2 => ?_)
              refine tl_storeO (i := 0) sz_80 rfl rfl rfl rfl rfl rfl rfl ?_
              refine s0 (qv_assign rfl) ?_
              refine tl_nil (tp_normal ?_)
              refine tc_seq ?_
              refine tc_region ?_
              refine s0 (qv_ldBW (i := 2) ag_80 rfl rfl rfl) ?_
              refine s0 (qv_move rfl) ?_
              refine tl_callR fn_44 rfl (by decide) (fun w hm => rsettle_calls w (acc40 b) ba bc (period [] t n l (tickOf b.posts x)).1 r75.1.1 r75.1.2 hbc (hb.into Mem.has_base hm) (hr75.1.2.into (Mem.has_kept (by repeat (first | exact .head _ | refine .tail _ ?_))) hm)) (fun r90 wa90 wb90 hm90 hb90 hr90 => ?_)
              refine tl_alloc ze_101 (by decide) (fun b17_3 => ?_)
              refine tl_storeO (i := 0) sz_101 rfl rfl rfl rfl rfl rfl rfl ?_
              refine tl_nil (tp_normal ?_)
              refine tc_seq ?_
              refine tc_seq ?_
              refine tc_keepOr (a := r90.1) (l := (settle (acc40 b) (period [] t n l (tickOf b.posts x)).1).1.posts) (enc := encPost) (sz := 6) (.head _) (hr90.2.imp id (fun h => by rw [h.1, h.2]; exact hb)) (fun Wk lok hik hsw => ?_)
              refine tc_region ?_
              refine s0 (qv_move rfl) ?_
              refine s0 (qv_fa fo_101_1 rfl) ?_
              refine s0 (qv_ldB (i := 0) sc_30 rfl rfl rfl) ?_
              refine s0 (qv_neSelf rfl rfl) ?_
              refine s0 (qv_move rfl) ?_
              refine s0g (qv_ldBW (i := 1) ag_80 rfl rfl rfl) ?_
              refine s0g (qv_fa fo_101_0 rfl) ?_
              refine s0g (qv_ldBA (i := 0) (vs := [.int .i64 (settle (acc40 b) (period [] t n l (tickOf b.posts x)).1).1.accounts, .slice r90.1 (settle (acc40 b) (period [] t n l (tickOf b.posts x)).1).1.posts.length r90.2]) ag_80 rfl rfl rfl (fun j hj => by rcases j with _ | _ | j <;> first | rfl | (exfalso; omega))) ?_
              refine s0g (qv_call fn_40 rfl (fun w hm => sameB_self w (settle (acc40 b) (period [] t n l (tickOf b.posts x)).1).1 r85.1 r85.2 r90.1 r90.2 (hr85.2.into (Mem.has_kept (by repeat (first | exact .head _ | refine .tail _ ?_))) hm) (hsw.into (Mem.has_kept (by repeat (first | exact .head _ | refine .tail _ ?_))) hm))) ?_
              refine s0g (qv_not rfl) ?_
              refine s0 (qv_pickF rfl rfl) ?_
              refine s0 (qv_move rfl) ?_
              refine s0g (qv_move rfl) ?_
              refine sdg (qv_neq rfl rfl) (fun c104 => ?_) (fun c104 => ?_)
              ·
                refine s0 (qv_pickF rfl rfl) ?_
                refine tl_nil (tp_normal ?_)
                refine tc_true rfl ?_
                refine tc_seq ?_
                refine tc_region ?_
                refine s0 (qv_call fn_15 rfl (fun w hm => sanity9_calls w)) ?_
                refine s0 (qv_move rfl) ?_
                refine s0g (qv_move rfl) ?_
                refine s0g (qv_fa fo_101_1 rfl) ?_
                refine s0g (qv_ldB (i := 0) sc_30 rfl rfl rfl) ?_
                refine s0g (qv_eqSelf rfl rfl) ?_
                refine s0 (qv_pickT rfl rfl) ?_
                refine s0 (qv_move rfl) ?_
                refine s0g (qv_move rfl) ?_
                refine s0g (qv_neq rfl rfl) ?_
                refine s0 (qv_pickT rfl rfl) ?_
                refine s0 (qv_assign rfl) ?_
                refine tl_nil (tp_normal ?_)
                refine tc_ret (tp_then_ret (tp_end1 rfl rfl ?_))
                intro w' hm
                exact ⟨by rw [decide_eq_true (by omega)], hm.below⟩
              ·
                refine s0 (qv_pickF rfl rfl) ?_
                refine tl_nil (tp_normal ?_)
                refine tc_false rfl ?_
                refine tc_skip (tp_normal ?_)
                refine tc_seq ?_
                obtain ⟨hso, hsn⟩ := settleOk_of (b := b) (t := t) (n := n) (l := l) (tick := (tickOf b.posts x)) (by omega) (by omega)
                obtain ⟨hT0, hT1, _, _⟩ := period_ticks (t := t) (n := n) (l := l) (r := []) (tick := (tickOf b.posts x)) (by omega)
                have hNX : (settle (acc40 b) (period [] t n l (tickOf b.posts x)).1).1 = ⟨40, b.posts ++ (period [] t n l (tickOf b.posts x)).1⟩ := hsn
                have hokn : BookOk (settle (acc40 b) (period [] t n l (tickOf b.posts x)).1).1 := hNX ▸ hso.new
                have ha40 : (settle (acc40 b) (period [] t n l (tickOf b.posts x)).1).1.accounts = 40 := by rw [hNX]
                have hpp : ∀ p ∈ (period [] t n l (tickOf b.posts x)).1, 1 ≤ p.amount ∧ p.amount ≤ 1099511627776 := fun p hp => ⟨(hso.post hp).a0, (hso.post hp).a1⟩
                have hplen := hso.len
                refine tc_region ?_
                refine s0 (qv_assign rfl) ?_
                refine tl_nil (tp_normal ?_)
                refine tc_seq ?_
                refine tc_seq ?_
                refine tc_region ?_
                refine s0 (qv_move rfl) ?_
                refine tl_nil (tp_normal ?_)
                refine tc_block (tc_loopS (fun (k : Nat) => [(117, .int .i64 (k : Int)), (18, .int .i64 (sumBal (settle (acc40 b) (period [] t n l (tickOf b.posts x)).1).1 k))]) (fun (k : Nat) => k ≤ 40) (fun (k : Nat) => 40 - k) (0) (Nat.zero_le _) ⟨rfl, rfl, trivial⟩ ?_)
                rintro k hK
                refine tc_seq ?_
                refine tc_region ?_
                refine sd (qv_lss rfl rfl) (fun c118 => ?_) (fun c118 => ?_)
                ·
                  refine tl_nil (tp_normal ?_)
                  refine tc_seq ?_
                  refine tc_true rfl ?_
                  refine tc_skip (tp_normal ?_)
                  refine tc_seq ?_
                  refine tc_block ?_
                  refine tc_seq ?_
                  refine tc_region ?_
                  refine s0 (qv_move rfl) ?_
                  refine s0 (qv_assign rfl) ?_
                  refine tl_nil (tp_normal ?_)
                  refine tc_seq ?_
                  refine tc_region ?_
                  refine s0 (qv_ldBW (i := 3) ag_80 rfl rfl rfl) ?_
                  refine s0 (qv_move rfl) ?_
                  refine s0 (qv_call fn_45 rfl (fun w hm => balance_calls w (acc40 b) ba bc (k : Int) (1000000) (by omega) (hb.into Mem.has_base hm))) ?_
                  refine s0 (qv_move rfl) ?_
                  refine s0 (qv_extract rfl rfl) ?_
                  refine s0 (qv_extract rfl rfl) ?_
                  refine s0 (qv_assign rfl) ?_
                  refine s0 (qv_assign rfl) ?_
                  refine tl_nil (tp_normal ?_)
                  refine tc_seq ?_
                  refine tc_region ?_
                  refine s0 (qv_ldBW (i := 1) ag_80 rfl rfl rfl) ?_
                  refine s0 (qv_move rfl) ?_
                  refine s0 (qv_call fn_45 rfl (fun w hm => balance_calls w (settle (acc40 b) (period [] t n l (tickOf b.posts x)).1).1 r85.1 r85.2 (k : Int) (1000000) (by omega) (hr85.2.into (Mem.has_kept (by repeat (first | exact .head _ | refine .tail _ ?_))) hm))) ?_
                  refine s0 (qv_move rfl) ?_
                  refine s0 (qv_extract rfl rfl) ?_
                  refine s0 (qv_extract rfl rfl) ?_
                  refine s0 (qv_assign rfl) ?_
                  refine s0 (qv_assign rfl) ?_
                  refine tl_nil (tp_normal ?_)
                  refine tc_seq ?_
                  have hb1 := balance_eq hso.old (k := (k : Int)) (tick := 1000000) ⟨by omega, by show (k : Int) < 40; omega⟩
                  have hb2 := balance_eq hokn (k := (k : Int)) (tick := 1000000) ⟨by omega, by rw [ha40]; omega⟩
                  rw [hb1, hb2]
                  refine tc_region ?_
                  refine tl_alloc ze_104 (by decide) (fun b24_4 => ?_)
                  refine tl_nil (tp_normal ?_)
                  refine tc_seq ?_
                  refine tc_region ?_
                  refine s0 (qv_assign rfl) ?_
                  refine tl_nil (tp_normal ?_)
                  refine tc_seq ?_
                  refine tc_seq ?_
                  have hz0 : LBox encZ 1 104 8 (gainL (period [] t n l (tickOf b.posts x)).1 (k : Int) 0) (.cells #[.int .i64 0, .int .i64 0, .int .i64 0, .int .i64 0, .int .i64 0, .int .i64 0, .int .i64 0, .int .i64 0] 104 (0, 0)) := LBox.ofInts (l := [0, 0, 0, 0, 0, 0, 0, 0]) (by decide)
                  have hbl1 := balT_bd hso.old (k : Int) 1000000
                  have hbl2 := balT_bd hokn (k : Int) 1000000
                  have hsb := sumBal_bd hokn k (by omega)
                  refine tc_region ?_
                  refine s0 (qv_move rfl) ?_
                  refine s0 (qv_len st_40 rfl) ?_
                  refine s0 (qv_move rfl) ?_
                  refine tl_nil (tp_normal ?_)
                  refine tc_block (tc_loopG (fun (z : Nat × List Int × Obj) => [(134, .int .i64 (z.1 : Int)), (25, .int .i64 (gotSum (period [] t n l (tickOf b.posts x)).1 (k : Int) z.1))]) (fun (z : Nat × List Int × Obj) => [(0, b24_4, z.2.2)]) (fun (z : Nat × List Int × Obj) => []) (fun (z : Nat × List Int × Obj) => []) (fun (z : Nat × List Int × Obj) => z.1 ≤ (period [] t n l (tickOf b.posts x)).1.length ∧ z.2.1 = gainL (period [] t n l (tickOf b.posts x)).1 (k : Int) z.1 ∧ LBox encZ 1 104 8 z.2.1 z.2.2) (fun (z : Nat × List Int × Obj) => (period [] t n l (tickOf b.posts x)).1.length - z.1) ((0, gainL (period [] t n l (tickOf b.posts x)).1 (k : Int) 0, (.cells #[.int .i64 0, .int .i64 0, .int .i64 0, .int .i64 0, .int .i64 0, .int .i64 0, .int .i64 0, .int .i64 0] 104 (0, 0)))) ⟨Nat.zero_le _, rfl, hz0⟩ ⟨rfl, rfl, trivial⟩ rfl (fun _ h => h) rfl ?_)
                  rintro z hZ
                  refine tc_seq ?_
                  refine tc_region ?_
                  refine sd (qv_lss rfl rfl) (fun c135 => ?_) (fun c135 => ?_)
                  ·
                    refine tl_nil (tp_normal ?_)
                    refine tc_seq ?_
                    refine tc_true rfl ?_
                    refine tc_skip (tp_normal ?_)
                    refine tc_seq ?_
                    refine tc_block ?_
                    refine tc_seq ?_
                    refine tc_region ?_
                    refine sn st_40 hr75.1.2 rfl rfl (by omega) (fun e136 he136 => ?_)
                    refine s0 (qv_ldEW ag_54 hr75.1.2 (Mem.has_kept (by repeat (first | exact .head _ | refine .tail _ ?_))) rfl he136) ?_
                    refine tl_alloc ze_54 (by decide) (fun b27_5 => ?_)
                    refine tl_storeL (i := 0) sz_54 (hr75.1.2.szs _ (List.mem_of_getElem? he136)) (one_54 _) rfl rfl rfl rfl ?_
                    refine tl_nil (tp_normal ?_)
                    refine tc_seq ?_
                    refine tc_seq ?_
                    obtain ⟨hd0, hd1, hc0, hc1, hne, ha0, ha1, _, _, hw0, hw1, _, _⟩ := hso.post (List.mem_of_getElem? he136)
                    obtain ⟨hgs, hgl⟩ := gain_bd hplen hpp (k : Int) z.1
                    rw [← hZ.2.1] at hgl
                    refine tc_region ?_
                    refine s0 (qv_fa fo_54_0 rfl) ?_
                    refine s0 (qv_ldB (i := 0) sc_3 rfl rfl rfl) ?_
                    refine s0 (qv_move rfl) ?_
                    refine sd (qv_eql rfl rfl) (fun c141 => ?_) (fun c141 => ?_)
                    ·
                      refine tl_nil (tp_normal ?_)
                      refine tc_true rfl ?_
                      refine tc_seq ?_
                      refine tc_drawU 8 8 mixed (by kernel_rfl) ?_
                      refine q0 (qv_fa fo_54_4 rfl) ?_
                      refine q0 (qv_ldB (i := 0) sc_3 rfl rfl rfl) ?_
                      obtain ⟨e144, he144⟩ := LBox.at hZ.2.2 (show (e136.why).toNat < 8 from (by omega))
                      refine q0 (qv_iA at_104 rfl rfl (by omega)) ?_
                      refine q0 (qv_ldLB (i := (e136.why).toNat) (j := 0) 1 sc_3 rfl hZ.2.2 rfl (by first | rfl | omega) he144 rfl) ?_
                      refine q0 (qv_fa fo_54_2 rfl) ?_
                      refine q0 (qv_ldB (i := 0) sc_3 rfl rfl rfl) ?_
                      have hge := hgl _ _ he144
                      refine q0 (qv_addI rfl rfl (by omega)) ?_
                      refine q0 (qv_iA at_104 rfl rfl (by omega)) ?_
                      refine tq_up ?_
                      refine tu_tail rfl rfl rfl (by kernel_rfl) ?_
                      refine tl_storeL1 (f := (Value.int .i64)) (i := (e136.why).toNat) (j := 1) ((e144 + e136.amount)) sz_3 hZ.2.2 he144 rfl rfl (by first | rfl | omega) rfl rfl rfl (fun ol2 hll2 => ?_)
                      refine tl_nil (tp_normal ?_)
                      refine tc_region ?_
                      refine s0 (qv_move rfl) ?_
                      refine s0 (qv_fa fo_54_2 rfl) ?_
                      refine s0 (qv_ldB (i := 0) sc_3 rfl rfl rfl) ?_
                      refine s0 (qv_addI rfl rfl (by omega)) ?_
                      refine s0 (qv_assign rfl) ?_
                      refine tl_nil (tp_normal ?_)
                      refine tc_seq ?_
                      refine tc_region ?_
                      refine s0 (qv_fa fo_54_1 rfl) ?_
                      refine s0 (qv_ldB (i := 0) sc_3 rfl rfl rfl) ?_
                      refine s0 (qv_move rfl) ?_
                      refine sd (qv_eql rfl rfl) (fun c157 => ?_) (fun c157 => ?_)
                      ·
                        refine tl_nil (tp_normal ?_)
                        refine tc_true rfl ?_
                        refine tc_seq ?_
                        refine tc_drawU 8 8 mixed (by kernel_rfl) ?_
                        refine q0 (qv_fa fo_54_4 rfl) ?_
                        refine q0 (qv_ldB (i := 0) sc_3 rfl rfl rfl) ?_
                        obtain ⟨e160, he160⟩ := LBox.at hll2 (show (e136.why).toNat < 8 from (by omega))
                        refine q0 (qv_iA at_104 rfl rfl (by omega)) ?_
                        refine q0 (qv_ldLB (i := (e136.why).toNat) (j := 0) 1 sc_3 rfl hll2 rfl (by first | rfl | omega) he160 rfl) ?_
                        refine q0 (qv_fa fo_54_2 rfl) ?_
                        refine q0 (qv_ldB (i := 0) sc_3 rfl rfl rfl) ?_
                        have hge : -1847179534663680 ≤ e160 ∧ e160 ≤ 1847179534663680 := by first | exact hgl _ _ he160 | (exfalso; omega)
                        refine q0 (qv_subI rfl rfl (by omega)) ?_
                        refine q0 (qv_iA at_104 rfl rfl (by omega)) ?_
                        refine tq_up ?_
                        refine tu_tail rfl rfl rfl (by kernel_rfl) ?_
                        refine tl_storeL1 (f := (Value.int .i64)) (i := (e136.why).toNat) (j := 1) ((e160 - e136.amount)) sz_3 hll2 he160 rfl rfl (by first | rfl | omega) rfl rfl rfl (fun ol3 hll3 => ?_)
                        refine tl_nil (tp_normal ?_)
                        refine tc_region ?_
                        refine s0 (qv_move rfl) ?_
                        refine s0 (qv_fa fo_54_2 rfl) ?_
                        refine s0 (qv_ldB (i := 0) sc_3 rfl rfl rfl) ?_
                        refine s0 (qv_subI rfl rfl (by omega)) ?_
                        refine s0 (qv_assign rfl) ?_
                        refine tl_nil (tp_block_normal (tp_normal ?_))
                        refine tc_region ?_
                        refine s0 (qv_succ rfl rfl (by omega)) ?_
                        refine s0 (qv_move rfl) ?_
                        exact tl_nil (tp_roundG (z.1 + 1, ((z.2.1.set (e136.why).toNat ((e144 + e136.amount))).set (e136.why).toNat ((e160 - e136.amount))), ol3) ⟨by simp only; omega, by first | (simp only; rw [gainL_set he136 (show e136.why = ((e136.why.toNat : Nat) : Int) by omega) (by omega) (hZ.2.1 ▸ he144) (got_d c141 c157), ← hZ.2.1]) | (simp only; rw [gainL_set he136 (show e136.why = ((e136.why.toNat : Nat) : Int) by omega) (by omega) (hZ.2.1 ▸ he160) (got_c c141 c157), ← hZ.2.1, show (0 : Int) - e136.amount = -e136.amount by omega]; rfl) | (simp only; rw [gainL_same he136 (got_0 c141 c157)]; exact hZ.2.1) | (exfalso; omega), hll3⟩ (by simp only; omega) ⟨rfl, lk rfl (by first | (rw [gotSum_step he136, got_d c141 c157]) | (rw [gotSum_step he136, got_c c141 c157]; omega) | (rw [gotSum_step he136, got_0 c141 c157]; omega) | (exfalso; omega)), trivial⟩ rfl rfl rfl (by repeat (first | exact List.Sublist.refl _ | refine List.Sublist.cons_cons _ ?_ | refine List.Sublist.cons _ ?_)) (by first | exact List.Sublist.refl _ | exact List.nil_sublist _))
                      ·
                        refine tl_nil (tp_normal ?_)
                        refine tc_false rfl ?_
                        refine tc_skip (tp_block_normal (tp_normal ?_))
                        refine tc_region ?_
                        refine s0 (qv_succ rfl rfl (by omega)) ?_
                        refine s0 (qv_move rfl) ?_
                        exact tl_nil (tp_roundG (z.1 + 1, (z.2.1.set (e136.why).toNat ((e144 + e136.amount))), ol2) ⟨by simp only; omega, by first | (simp only; rw [gainL_set he136 (show e136.why = ((e136.why.toNat : Nat) : Int) by omega) (by omega) (hZ.2.1 ▸ he144) (got_d c141 c157), ← hZ.2.1]) | (simp only; rw [gainL_set he136 (show e136.why = ((e136.why.toNat : Nat) : Int) by omega) (by omega) (hZ.2.1 ▸ he160) (got_c c141 c157), ← hZ.2.1, show (0 : Int) - e136.amount = -e136.amount by omega]; rfl) | (simp only; rw [gainL_same he136 (got_0 c141 c157)]; exact hZ.2.1) | (exfalso; omega), hll2⟩ (by simp only; omega) ⟨rfl, lk rfl (by first | (rw [gotSum_step he136, got_d c141 c157]) | (rw [gotSum_step he136, got_c c141 c157]; omega) | (rw [gotSum_step he136, got_0 c141 c157]; omega) | (exfalso; omega)), trivial⟩ rfl rfl rfl (by repeat (first | exact List.Sublist.refl _ | refine List.Sublist.cons_cons _ ?_ | refine List.Sublist.cons _ ?_)) (by first | exact List.Sublist.refl _ | exact List.nil_sublist _))
                    ·
                      refine tl_nil (tp_normal ?_)
                      refine tc_false rfl ?_
                      refine tc_skip (tp_normal ?_)
                      refine tc_seq ?_
                      refine tc_region ?_
                      refine s0 (qv_fa fo_54_1 rfl) ?_
                      refine s0 (qv_ldB (i := 0) sc_3 rfl rfl rfl) ?_
                      refine s0 (qv_move rfl) ?_
                      refine sd (qv_eql rfl rfl) (fun c157 => ?_) (fun c157 => ?_)
                      ·
                        refine tl_nil (tp_normal ?_)
                        refine tc_true rfl ?_
                        refine tc_seq ?_
                        refine tc_drawU 8 8 mixed (by kernel_rfl) ?_
                        refine q0 (qv_fa fo_54_4 rfl) ?_
                        refine q0 (qv_ldB (i := 0) sc_3 rfl rfl rfl) ?_
                        obtain ⟨e160, he160⟩ := LBox.at hZ.2.2 (show (e136.why).toNat < 8 from (by omega))
                        refine q0 (qv_iA at_104 rfl rfl (by omega)) ?_
                        refine q0 (qv_ldLB (i := (e136.why).toNat) (j := 0) 1 sc_3 rfl hZ.2.2 rfl (by first | rfl | omega) he160 rfl) ?_
                        refine q0 (qv_fa fo_54_2 rfl) ?_
                        refine q0 (qv_ldB (i := 0) sc_3 rfl rfl rfl) ?_
                        have hge : -1847179534663680 ≤ e160 ∧ e160 ≤ 1847179534663680 := by first | exact hgl _ _ he160 | (exfalso; omega)
                        refine q0 (qv_subI rfl rfl (by omega)) ?_
                        refine q0 (qv_iA at_104 rfl rfl (by omega)) ?_
                        refine tq_up ?_
                        refine tu_tail rfl rfl rfl (by kernel_rfl) ?_
                        refine tl_storeL1 (f := (Value.int .i64)) (i := (e136.why).toNat) (j := 1) ((e160 - e136.amount)) sz_3 hZ.2.2 he160 rfl rfl (by first | rfl | omega) rfl rfl rfl (fun ol4 hll4 => ?_)
                        refine tl_nil (tp_normal ?_)
                        refine tc_region ?_
                        refine s0 (qv_move rfl) ?_
                        refine s0 (qv_fa fo_54_2 rfl) ?_
                        refine s0 (qv_ldB (i := 0) sc_3 rfl rfl rfl) ?_
                        refine s0 (qv_subI rfl rfl (by omega)) ?_
                        refine s0 (qv_assign rfl) ?_
                        refine tl_nil (tp_block_normal (tp_normal ?_))
                        refine tc_region ?_
                        refine s0 (qv_succ rfl rfl (by omega)) ?_
                        refine s0 (qv_move rfl) ?_
                        exact tl_nil (tp_roundG (z.1 + 1, (z.2.1.set (e136.why).toNat ((e160 - e136.amount))), ol4) ⟨by simp only; omega, by first | (simp only; rw [gainL_set he136 (show e136.why = ((e136.why.toNat : Nat) : Int) by omega) (by omega) (hZ.2.1 ▸ he144) (got_d c141 c157), ← hZ.2.1]) | (simp only; rw [gainL_set he136 (show e136.why = ((e136.why.toNat : Nat) : Int) by omega) (by omega) (hZ.2.1 ▸ he160) (got_c c141 c157), ← hZ.2.1, show (0 : Int) - e136.amount = -e136.amount by omega]; rfl) | (simp only; rw [gainL_same he136 (got_0 c141 c157)]; exact hZ.2.1) | (exfalso; omega), hll4⟩ (by simp only; omega) ⟨rfl, lk rfl (by first | (rw [gotSum_step he136, got_d c141 c157]) | (rw [gotSum_step he136, got_c c141 c157]; omega) | (rw [gotSum_step he136, got_0 c141 c157]; omega) | (exfalso; omega)), trivial⟩ rfl rfl rfl (by repeat (first | exact List.Sublist.refl _ | refine List.Sublist.cons_cons _ ?_ | refine List.Sublist.cons _ ?_)) (by first | exact List.Sublist.refl _ | exact List.nil_sublist _))
                      ·
                        refine tl_nil (tp_normal ?_)
                        refine tc_false rfl ?_
                        refine tc_skip (tp_block_normal (tp_normal ?_))
                        refine tc_region ?_
                        refine s0 (qv_succ rfl rfl (by omega)) ?_
                        refine s0 (qv_move rfl) ?_
                        exact tl_nil (tp_roundG (z.1 + 1, z.2.1, z.2.2) ⟨by simp only; omega, by first | (simp only; rw [gainL_set he136 (show e136.why = ((e136.why.toNat : Nat) : Int) by omega) (by omega) (hZ.2.1 ▸ he144) (got_d c141 c157), ← hZ.2.1]) | (simp only; rw [gainL_set he136 (show e136.why = ((e136.why.toNat : Nat) : Int) by omega) (by omega) (hZ.2.1 ▸ he160) (got_c c141 c157), ← hZ.2.1, show (0 : Int) - e136.amount = -e136.amount by omega]; rfl) | (simp only; rw [gainL_same he136 (got_0 c141 c157)]; exact hZ.2.1) | (exfalso; omega), hZ.2.2⟩ (by simp only; omega) ⟨rfl, lk rfl (by first | (rw [gotSum_step he136, got_d c141 c157]) | (rw [gotSum_step he136, got_c c141 c157]; omega) | (rw [gotSum_step he136, got_0 c141 c157]; omega) | (exfalso; omega)), trivial⟩ rfl rfl rfl (by repeat (first | exact List.Sublist.refl _ | refine List.Sublist.cons_cons _ ?_ | refine List.Sublist.cons _ ?_)) (by first | exact List.Sublist.refl _ | exact List.nil_sublist _))
                  ·
                    refine tl_nil (tp_normal ?_)
                    refine tc_seq ?_
                    refine tc_false rfl ?_
                    refine tc_exit (tp_then_exit (tp_then_exit (tp_block_exit (tp_normal ?_))))
                    refine tc_seq ?_
                    refine tc_seq ?_
                    refine tc_region ?_
                    refine s0 (qv_move rfl) ?_
                    refine s0 (qv_neq rfl rfl) ?_
                    refine s0 (qv_move rfl) ?_
                    refine s0g (qv_move rfl) ?_
                    refine s0g (qv_neq rfl rfl) ?_
                    refine s0 (qv_pickF rfl rfl) ?_
                    refine s0 (qv_move rfl) ?_
                    refine s0g (qv_move rfl) ?_
                    refine s0g (qv_move rfl) ?_
                    refine s0g (qv_subI rfl rfl (by omega)) ?_
                    refine s0g (qv_move rfl) ?_
                    refine sdg (qv_neq rfl rfl) (fun c182 => ?_) (fun c182 => ?_)
                    ·
                      refine s0 (qv_pickF rfl rfl) ?_
                      refine tl_nil (tp_normal ?_)
                      refine tc_true rfl ?_
                      refine tc_seq ?_
                      refine tc_region ?_
                      refine s0 (qv_assign rfl) ?_
                      refine tl_nil (tp_normal ?_)
                      refine tc_ret (tp_then_ret (tp_block_ret (tp_then_ret (tp_then_ret (tp_block_ret (tp_then_ret (tp_end1 rfl rfl ?_)))))))
                      intro w' hm
                      exfalso
                      have h_ := hso.bal (k : Int)
                      rw [← hNX] at h_
                      have e_ : z.1 = (period [] t n l (tickOf b.posts x)).1.length := by omega
                      rw [e_] at c182
                      omega
                    ·
                      refine s0 (qv_pickF rfl rfl) ?_
                      refine tl_nil (tp_normal ?_)
                      refine tc_false rfl ?_
                      refine tc_skip (tp_normal ?_)
                      refine tc_seq ?_
                      refine tc_region ?_
                      refine s0 (qv_move rfl) ?_
                      refine s0 (qv_move rfl) ?_
                      refine s0 (qv_addI rfl rfl (by omega)) ?_
                      refine s0 (qv_assign rfl) ?_
                      refine tl_nil (tp_normal ?_)
                      refine tc_seq ?_
                      refine tc_seq ?_
                      refine tc_region ?_
                      refine s0 (qv_move rfl) ?_
                      refine sd (qv_eql rfl rfl) (fun c188 => ?_) (fun c188 => ?_)
                      ·
                        refine tl_nil (tp_normal ?_)
                        refine tc_true rfl ?_
                        refine tc_exit (tp_then_exit (tp_block_exit (tp_normal ?_)))
                        refine tc_region ?_
                        refine s0 (qv_succ rfl rfl (by omega)) ?_
                        refine s0 (qv_move rfl) ?_
                        exact tl_nil (tp_roundS (k + 1) (by omega) (by omega) ⟨rfl, lk rfl (sumBal_step _ _).symm, trivial⟩ rfl rfl rfl rfl)
                      ·
                        refine tl_nil (tp_normal ?_)
                        refine tc_false rfl ?_
                        refine tc_skip (tp_normal ?_)
                        refine tc_seq ?_
                        refine tc_region ?_
                        refine s0 (qv_ldBW (i := 2) ag_80 rfl rfl rfl) ?_
                        refine s0 (qv_move rfl) ?_
                        refine s0 (qv_move rfl) ?_
                        refine s0 (qv_move rfl) ?_
                        refine s0 (qv_addI rfl rfl (by omega)) ?_
                        refine tl_callR fn_46 rfl (by decide) (fun w hm => totals_calls w (settle (acc40 b) (period [] t n l (tickOf b.posts x)).1).1 r85.1 r85.2 (k : Int) ((tickOf b.posts x)) (((tickOf b.posts x)) + (1)) (hr85.2.into (Mem.has_kept (by repeat (first | exact .head _ | refine .tail _ ?_))) hm)) (fun r195 wa195 wb195 hm195 hb195 hr195 => ?_)
                        refine s0 (qv_move rfl) ?_
                        refine s0 (qv_extract rfl rfl) ?_
                        refine s0 (qv_extract rfl rfl) ?_
                        refine s0 (qv_assign rfl) ?_
                        refine s0 (qv_assign rfl) ?_
                        refine tl_nil (tp_normal ?_)
                        refine tc_seq ?_
                        refine tc_seq ?_
                        have htg := totals_good hokn (k := (k : Int)) (f := (tickOf b.posts x)) (t := (tickOf b.posts x) + (1)) ⟨by omega, by rw [ha40]; omega⟩ (by omega) (by omega) (by omega)
                        rw [htg] at hr195 ⊢
                        simp only at hr195
                        have ht8 := totalsL_len (settle (acc40 b) (period [] t n l (tickOf b.posts x)).1).1 (k : Int) (tickOf b.posts x) ((tickOf b.posts x) + (1))
                        refine tc_region ?_
                        refine s0 (qv_move rfl) ?_
                        refine s0 (qv_neq rfl rfl) ?_
                        refine s0 (qv_move rfl) ?_
                        refine s0g (qv_move rfl) ?_
                        refine s0g (qv_len st_71 rfl) ?_
                        refine sdg (qv_neq rfl rfl) (fun c203 => ?_) (fun c203 => ?_)
                        ·
                          refine s0 (qv_pickF rfl rfl) ?_
                          refine tl_nil (tp_normal ?_)
                          refine tc_true rfl ?_
                          refine tc_seq ?_
                          refine tc_region ?_
                          refine s0 (qv_assign rfl) ?_
                          refine tl_nil (tp_normal ?_)
                          refine tc_ret (tp_then_ret (tp_block_ret (tp_then_ret (tp_then_ret (tp_block_ret (tp_then_ret (tp_end1 rfl rfl ?_)))))))
                          intro w' hm
                          exfalso
                          exact c203 (show (((totalsL (settle (acc40 b) (period [] t n l (tickOf b.posts x)).1).1 (k : Int) (tickOf b.posts x) ((tickOf b.posts x) + (1)))).length : Int) = 8 by omega)
                        ·
                          refine s0 (qv_pickF rfl rfl) ?_
                          refine tl_nil (tp_normal ?_)
                          refine tc_false rfl ?_
                          refine tc_skip (tp_normal ?_)
                          refine tc_seq ?_
                          refine tc_region ?_
                          refine s0 (qv_move rfl) ?_
                          refine tl_nil (tp_normal ?_)
                          refine tc_block (tc_loopS (fun (j : Nat) => [(205, .int .i64 (j : Int))]) (fun (j : Nat) => j ≤ 8) (fun (j : Nat) => 8 - j) (0) (Nat.zero_le _) ⟨rfl, trivial⟩ ?_)
                          rintro j hJ
                          refine tc_seq ?_
                          refine tc_region ?_
                          refine sd (qv_lss rfl rfl) (fun c206 => ?_) (fun c206 => ?_)
                          ·
                            refine tl_nil (tp_normal ?_)
                            refine tc_seq ?_
                            refine tc_true rfl ?_
                            refine tc_skip (tp_normal ?_)
                            refine tc_seq ?_
                            refine tc_block ?_
                            refine tc_seq ?_
                            refine tc_region ?_
                            refine s0 (qv_move rfl) ?_
                            refine s0 (qv_assign rfl) ?_
                            refine tl_nil (tp_normal ?_)
                            refine tc_seq ?_
                            refine tc_draws mixed (by kernel_rfl) ?_
                            refine q0 (qv_move rfl) ?_
                            refine q0 (qv_move rfl) ?_
                            refine qn st_71 hr195.2 rfl rfl (by omega) (fun e210 he210 => ?_)
                            refine q0 (qv_ldE (j := 0) sc_3 hr195.2 (Mem.has_kept (by repeat (first | exact .head _ | refine .tail _ ?_))) rfl rfl he210 rfl) ?_
                            refine q0 (qv_move rfl) ?_
                            obtain ⟨e213, he213⟩ := LBox.at hZ.2.2 (show j < 8 from (by omega))
                            refine q0 (qv_iA at_104 rfl rfl (by omega)) ?_
                            refine q0 (qv_ldLB (i := j) (j := 0) 0 sc_3 rfl hZ.2.2 rfl (by first | rfl | omega) he213 rfl) ?_
                            refine qd (qv_neq rfl rfl) (fun c215 => ?_) (fun c215 => ?_)
                            ·
                              refine tq_nil (tp_normal ?_)
                              refine tc_true rfl ?_
                              refine tc_seq ?_
                              refine tc_region ?_
                              refine s0 (qv_assign rfl) ?_
                              refine tl_nil (tp_normal ?_)
                              refine tc_ret (tp_block_ret (tp_then_ret (tp_then_ret (tp_block_ret (tp_block_ret (tp_then_ret (tp_then_ret (tp_block_ret (tp_then_ret (tp_end1 rfl rfl ?_))))))))))
                              intro w' hm
                              exfalso
                              have h_ := hso.kinds (x := x) (by omega) rfl (k : Int) (y := j) (by omega)
                              rw [← hNX] at h_
                              have e_ : z.1 = (period [] t n l (tickOf b.posts x)).1.length := by omega
                              rw [hZ.2.1, e_, ← h_] at he213
                              exact c215 (Option.some.inj (he210.symm.trans he213))
                            ·
                              refine tq_nil (tp_normal ?_)
                              refine tc_false rfl ?_
                              refine tc_skip (tp_block_normal (tp_normal ?_))
                              refine tc_region ?_
                              refine s0 (qv_succ rfl rfl (by omega)) ?_
                              refine s0 (qv_move rfl) ?_
                              exact tl_nil (tp_roundS (j + 1) (by omega) (by omega) ⟨rfl, trivial⟩ rfl rfl rfl rfl)
                          ·
                            refine tl_nil (tp_normal ?_)
                            refine tc_seq ?_
                            refine tc_false rfl ?_
                            refine tc_exit (tp_then_exit (tp_then_exit (tp_block_exit (tp_block_normal (tp_normal ?_)))))
                            refine tc_region ?_
                            refine s0 (qv_succ rfl rfl (by omega)) ?_
                            refine s0 (qv_move rfl) ?_
                            exact tl_nil (tp_roundS (k + 1) (by omega) (by omega) ⟨rfl, lk rfl (sumBal_step _ _).symm, trivial⟩ rfl rfl rfl rfl)
                ·
                  refine tl_nil (tp_normal ?_)
                  refine tc_seq ?_
                  refine tc_false rfl ?_
                  refine tc_exit (tp_then_exit (tp_then_exit (tp_block_exit (tp_normal ?_))))
                  refine tc_seq ?_
                  refine tc_region ?_
                  refine s0 (qv_call fn_15 rfl (fun w hm => sanity9_calls w)) ?_
                  refine s0 (qv_move rfl) ?_
                  refine s0g (qv_move rfl) ?_
                  refine s0g (qv_eql rfl rfl) ?_
                  refine s0 (qv_pickT rfl rfl) ?_
                  refine s0 (qv_assign rfl) ?_
                  refine tl_nil (tp_normal ?_)
                  refine tc_ret (tp_end1 rfl rfl ?_)
                  intro w' hm
                  obtain rfl : k = 40 := by omega
                  exact ⟨by rw [decide_eq_true (sumBal_zero hokn ha40)], hm.below⟩
  ·
    refine s0 (qv_not rfl) ?_
    refine s0 (qv_move rfl) ?_
    refine sk ?_
    refine sk ?_
    refine sk ?_
    refine s0 (qv_pickT rfl rfl) ?_
    refine s0 (qv_move rfl) ?_
    refine sk ?_
    refine sk ?_
    refine sk ?_
    refine sk ?_
    refine s0 (qv_pickT rfl rfl) ?_
    refine s0 (qv_move rfl) ?_
    refine sk ?_
    refine sk ?_
    refine sk ?_
    refine s0 (qv_pickT rfl rfl) ?_
    refine tl_nil (tp_normal ?_)
    refine tc_true rfl ?_
    refine tc_seq ?_
    refine tc_region ?_
    refine s0 (qv_call fn_15 rfl (fun w hm => sanity9_calls w)) ?_
    refine s0 (qv_assign rfl) ?_
    refine tl_nil (tp_normal ?_)
    refine tc_ret (tp_then_ret (tp_end1 rfl rfl ?_))
    intro w' hm
    exact ⟨rfl, hm.below⟩
end Go.Q
