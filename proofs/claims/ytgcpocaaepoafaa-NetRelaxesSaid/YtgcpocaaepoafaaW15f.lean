/- A part of the proof: see the last text. -/
import Derived.Test.YtgcpocaaepoafaaQ14
import Derived.Test.YtgcpocaaepoafaaS15c
import Derived.Test.YtgcpocaaepoafaaW15s
import Derived.Test.YtgcpocaaepoafaaQ12
import Derived.Test.YtgcpocaaepoafaaS15
import Derived.Test.YtgcpocaaepoafaaW15e
import Derived.Test.YtgcpocaaepoafaaProg
set_option linter.unusedVariables false
set_option linter.unusedSimpArgs false
set_option linter.unusedSectionVars false
namespace Go.Q
open Go Go.Proofs Go.RowKit
theorem bt_49 : BuildTy Try.prog 49 #[(0, 1), (1, 1), (2, 24), (26, 24)] #[.int .i64 0, .int .i64 0, .int .i64 0, .int .i64 0, .int .i64 0, .int .i64 0, .int .i64 0, .int .i64 0, .int .i64 0, .int .i64 0, .int .i64 0, .int .i64 0, .int .i64 0, .int .i64 0, .int .i64 0, .int .i64 0, .int .i64 0, .int .i64 0, .int .i64 0, .int .i64 0, .int .i64 0, .int .i64 0, .int .i64 0, .int .i64 0, .int .i64 0, .int .i64 0, .int .i64 0, .int .i64 0, .int .i64 0, .int .i64 0, .int .i64 0, .int .i64 0, .int .i64 0, .int .i64 0, .int .i64 0, .int .i64 0, .int .i64 0, .int .i64 0, .int .i64 0, .int .i64 0, .int .i64 0, .int .i64 0, .int .i64 0, .int .i64 0, .int .i64 0, .int .i64 0, .int .i64 0, .int .i64 0, .int .i64 0, .int .i64 0] := ⟨_, Try.underlying49, fun w => by kernel_rfl, ze_49⟩
theorem fn_59 : IsFn Try.prog 59 := isFn_of Try.func59 (by kernel_rfl) rfl
theorem bsl_22_3 : BuildSl Try.prog 22 3 49 50 #[.int .i64 0, .int .i64 0, .int .i64 0, .int .i64 0, .int .i64 0, .int .i64 0, .int .i64 0, .int .i64 0, .int .i64 0, .int .i64 0, .int .i64 0, .int .i64 0, .int .i64 0, .int .i64 0, .int .i64 0, .int .i64 0, .int .i64 0, .int .i64 0, .int .i64 0, .int .i64 0, .int .i64 0, .int .i64 0, .int .i64 0, .int .i64 0, .int .i64 0, .int .i64 0, .int .i64 0, .int .i64 0, .int .i64 0, .int .i64 0, .int .i64 0, .int .i64 0, .int .i64 0, .int .i64 0, .int .i64 0, .int .i64 0, .int .i64 0, .int .i64 0, .int .i64 0, .int .i64 0, .int .i64 0, .int .i64 0, .int .i64 0, .int .i64 0, .int .i64 0, .int .i64 0, .int .i64 0, .int .i64 0, .int .i64 0, .int .i64 0, .int .i64 0, .int .i64 0, .int .i64 0, .int .i64 0, .int .i64 0, .int .i64 0, .int .i64 0, .int .i64 0, .int .i64 0, .int .i64 0, .int .i64 0, .int .i64 0, .int .i64 0, .int .i64 0, .int .i64 0, .int .i64 0, .int .i64 0, .int .i64 0, .int .i64 0, .int .i64 0, .int .i64 0, .int .i64 0, .int .i64 0, .int .i64 0, .int .i64 0, .int .i64 0, .int .i64 0, .int .i64 0, .int .i64 0, .int .i64 0, .int .i64 0, .int .i64 0, .int .i64 0, .int .i64 0, .int .i64 0, .int .i64 0, .int .i64 0, .int .i64 0, .int .i64 0, .int .i64 0, .int .i64 0, .int .i64 0, .int .i64 0, .int .i64 0, .int .i64 0, .int .i64 0, .int .i64 0, .int .i64 0, .int .i64 0, .int .i64 0, .int .i64 0, .int .i64 0, .int .i64 0, .int .i64 0, .int .i64 0, .int .i64 0, .int .i64 0, .int .i64 0, .int .i64 0, .int .i64 0, .int .i64 0, .int .i64 0, .int .i64 0, .int .i64 0, .int .i64 0, .int .i64 0, .int .i64 0, .int .i64 0, .int .i64 0, .int .i64 0, .int .i64 0, .int .i64 0, .int .i64 0, .int .i64 0, .int .i64 0, .int .i64 0, .int .i64 0, .int .i64 0, .int .i64 0, .int .i64 0, .int .i64 0, .int .i64 0, .int .i64 0, .int .i64 0, .int .i64 0, .int .i64 0, .int .i64 0, .int .i64 0, .int .i64 0, .int .i64 0, .int .i64 0, .int .i64 0, .int .i64 0, .int .i64 0, .int .i64 0, .int .i64 0, .int .i64 0, .int .i64 0, .int .i64 0, .int .i64 0] := ⟨Try.underlying22, sz_49, by decide, by decide, _, ze_49, by kernel_rfl⟩
theorem ze_24 : Zero Try.prog 24 #[.int .i64 0, .slice none 0 0] := fun w => ⟨.agg #[.int .i64 0, .slice none 0 0], by kernel_rfl, rfl⟩
theorem bt_24 : BuildTy Try.prog 24 #[(0, 1), (1, 1)] #[.int .i64 0, .slice none 0 0] := ⟨_, Try.underlying24, fun w => by kernel_rfl, ze_24⟩
theorem sz_24 : Size Try.prog 24 2 := fun w => by kernel_rfl
theorem ze_27 : Zero Try.prog 27 #[.int .i64 0, .int .i64 0, .int .i64 0, .int .i64 0, .int .i64 0] := fun w => ⟨.agg #[.int .i64 0, .int .i64 0, .int .i64 0, .int .i64 0, .int .i64 0], by kernel_rfl, rfl⟩
theorem bt_27 : BuildTy Try.prog 27 #[(0, 1), (1, 1), (2, 1), (3, 1), (4, 1)] #[.int .i64 0, .int .i64 0, .int .i64 0, .int .i64 0, .int .i64 0] := ⟨_, Try.underlying27, fun w => by kernel_rfl, ze_27⟩
theorem sz_27 : Size Try.prog 27 5 := fun w => by kernel_rfl
theorem bsl_25_4 : BuildSl Try.prog 25 4 70 3 #[.int .i64 0, .int .i64 0, .int .i64 0, .int .i64 0, .int .i64 0, .int .i64 0, .int .i64 0, .int .i64 0, .int .i64 0, .int .i64 0, .int .i64 0, .int .i64 0] := ⟨Try.underlying25, sz_70, by decide, by decide, _, ze_70, by kernel_rfl⟩
theorem fn_23 : IsFn Try.prog 23 := isFn_of Try.func23 (by kernel_rfl) rfl
theorem fn_28 : IsFn Try.prog 28 := isFn_of Try.func28 (by kernel_rfl) rfl
theorem fn_42 : IsFn Try.prog 42 := isFn_of Try.func42 (by kernel_rfl) rfl
theorem fn_26 : IsFn Try.prog 26 := isFn_of Try.func26 (by kernel_rfl) rfl
theorem ze_25 : Zero Try.prog 25 #[.slice none 0 0] := fun w => ⟨.slice none 0 0, by kernel_rfl, rfl⟩
theorem sz_25 : Size Try.prog 25 1 := fun w => by kernel_rfl
theorem bsl_54_2 : BuildSl Try.prog 54 2 25 1 #[.slice none 0 0, .slice none 0 0] := ⟨Try.underlying54, sz_25, by decide, by decide, _, ze_25, by kernel_rfl⟩
theorem fn_37 : IsFn Try.prog 37 := isFn_of Try.func37 (by kernel_rfl) rfl
set_option maxRecDepth 100000 in
theorem flat_calls (w : World) (a b c p : Int)  :
    Calls Try.prog 59 #[.int .i64 a, .int .i64 b, .int .i64 c, .int .i64 p] w (fun e w' => e = .returned (.agg (encLink (flatP a b c p 24)).toArray) ∧ Below w.heap.size w w') := by
  refine calls_of_tc (N := 27) (vs := [.int .i64 a, .int .i64 b, .int .i64 c, .int .i64 p]) Try.func59 rfl rfl (Nat.le_of_ble_eq_true rfl) ?_
  refine tc_seq ?_
  refine tc_region ?_
  refine tl_alloc ze_49 (by decide) (fun b8_0 => ?_)
  refine tl_nil (tp_normal ?_)
  refine tc_seq ?_
  refine tc_region ?_
  refine s0 (qv_move rfl) ?_
  refine s0 (qv_move rfl) ?_
  refine s0 (qv_build bt_49 rfl rfl) ?_
  refine tl_alloc ze_49 (by decide) (fun b9_1 => ?_)
  refine tl_storeO (i := 0) sz_49 rfl rfl rfl rfl rfl rfl rfl ?_
  refine tl_nil (tp_normal ?_)
  refine tc_seq ?_
  refine tc_seq ?_
  refine tc_region ?_
  refine s0 (qv_assign rfl) ?_
  refine tl_nil (tp_normal ?_)
  refine tc_block (tc_loopB (fun (k : Nat) => [(10, .int .i64 (k : Int))]) (fun (k : Nat) => [(0, b9_1, .cells (encLink (flatP a b c p k)).toArray 49 (0, 0))]) (fun (k : Nat) => k ≤ 24) (fun (k : Nat) => 24 - k) (0) (Nat.zero_le _) ⟨rfl, trivial⟩ rfl ?_)
  rintro k hI
  refine tc_seq ?_
  refine tc_seq ?_
  refine tc_region ?_
  refine s0 (qv_move rfl) ?_
  refine sd (qv_lss rfl rfl) (fun c15 => ?_) (fun c15 => ?_)
  ·
    refine tl_nil (tp_normal ?_)
    refine tc_true rfl ?_
    refine tc_skip (tp_normal ?_)
    refine tc_seq ?_
    refine tc_block ?_
    refine tc_seq ?_
    refine tc_region ?_
    refine s0 (qv_move rfl) ?_
    refine s0 (qv_move rfl) ?_
    refine s0 (qv_fa fo_49_2 rfl) ?_
    refine s0 (qv_iA at_47 rfl rfl (by omega)) ?_
    refine tl_store1 (i := 0) sz_3 rfl rfl rfl rfl rfl (by (try simp only [Array.size_setIfInBounds]); rw [flat_size _ _ _ _ (by omega)]; omega) ?_
    refine tl_nil (tp_normal ?_)
    refine tc_region ?_
    refine s0 (qv_move rfl) ?_
    refine s0 (qv_move rfl) ?_
    refine s0 (qv_fa fo_49_3 rfl) ?_
    refine s0 (qv_iA at_47 rfl rfl (by omega)) ?_
    refine tl_store1 (i := 0) sz_3 rfl rfl rfl rfl rfl (by (try simp only [Array.size_setIfInBounds]); rw [flat_size _ _ _ _ (by omega)]; omega) ?_
    refine tl_nil (tp_block_normal (tp_normal ?_))
    refine tc_region ?_
    refine s0 (qv_move rfl) ?_
    refine s0 (qv_succ rfl rfl (by omega)) ?_
    refine s0 (qv_assign rfl) ?_
    exact tl_nil (tp_roundB (k + 1) (by omega) (by omega) ⟨rfl, trivial⟩ rfl rfl (by simp only [flat_step (show k < 24 by omega)]; rfl) rfl)
  ·
    refine tl_nil (tp_normal ?_)
    refine tc_false rfl ?_
    refine tc_exit (tp_then_exit (tp_then_exit (tp_block_exit (tp_normal ?_))))
    refine tc_seq ?_
    obtain rfl : k = 24 := by omega
    refine tc_region ?_
    refine s0 (qv_ldBW (i := 0) ag_49 rfl rfl rfl) ?_
    refine tl_storeO (i := 1) sz_49 rfl rfl rfl rfl rfl rfl rfl ?_
    refine tl_nil (tp_normal ?_)
    refine tc_ret (tp_endC (i := 1) rfl rfl ag_49 rfl rfl ?_)
    intro w' hm
    exact ⟨rfl, hm.below⟩

theorem san1 (w : World) (na : Option Addr) (nc : Nat) (hn : SlIn w 50 encLink na sanN.links) (la : Option Addr) (hl : SlIn w 3 encSend la sanL) :
    Calls Try.prog 23 #[.agg (netA sanN na nc), .slice la (sanL).length 4] w (fun e w' => e = .returned (.tuple #[.int .i64 420, .int .i64 0]) ∧ Below w.heap.size w w') := by
  have h := (by (have h_ := cost_calls w sanN na nc sanL la 4  hn sanOk hl; simp only [san_cost] at h_; exact h_))
  exact h
theorem san2 (w : World) (na : Option Addr) (nc : Nat) (hn : SlIn w 50 encLink na sanN.links) (la : Option Addr) (hl : SlIn w 3 encSend la sanL) :
    Calls Try.prog 28 #[.agg (netA sanN na nc), .slice la (sanL).length 4, .agg (demA sanD)] w (fun e w' => e = .returned (.tuple #[.int .i64 7, .int .i64 0]) ∧ Below w.heap.size w w') := by
  have h := (by (have h_ := arrives_calls w sanN na nc sanL la 4 sanD (by decide) hn sanOk hl; simp only [san_arr] at h_; exact h_))
  exact h
theorem san30 (w : World) (na : Option Addr) (nc : Nat) (hn : SlIn w 50 encLink na sanN.links) (la : Option Addr) (hl : SlIn w 3 encSend la sanL) :
    Calls Try.prog 42 #[.agg (netA sanN na nc), .slice la (sanL).length 4, .agg (demA sanD), .int .i64 0, .int .i64 6] w (fun e w' => e = .returned (.tuple #[.int .i64 10, .int .i64 0]) ∧ Below w.heap.size w w') := by
  have h := (by (have h_ := Stock_calls w sanN na nc sanL la 4 sanD 0 6 hn sanOk hl; simp only [san_st0] at h_; exact h_))
  exact h
theorem san31 (w : World) (na : Option Addr) (nc : Nat) (hn : SlIn w 50 encLink na sanN.links) (la : Option Addr) (hl : SlIn w 3 encSend la sanL) :
    Calls Try.prog 42 #[.agg (netA sanN na nc), .slice la (sanL).length 4, .agg (demA sanD), .int .i64 1, .int .i64 6] w (fun e w' => e = .returned (.tuple #[.int .i64 100, .int .i64 0]) ∧ Below w.heap.size w w') := by
  have h := (by (have h_ := Stock_calls w sanN na nc sanL la 4 sanD 1 6 hn sanOk hl; simp only [san_st1] at h_; exact h_))
  exact h
theorem san32 (w : World) (na : Option Addr) (nc : Nat) (hn : SlIn w 50 encLink na sanN.links) (la : Option Addr) (hl : SlIn w 3 encSend la sanL) :
    Calls Try.prog 42 #[.agg (netA sanN na nc), .slice la (sanL).length 4, .agg (demA sanD), .int .i64 2, .int .i64 6] w (fun e w' => e = .returned (.tuple #[.int .i64 10, .int .i64 0]) ∧ Below w.heap.size w w') := by
  have h := (by (have h_ := Stock_calls w sanN na nc sanL la 4 sanD 2 6 hn sanOk hl; simp only [san_st2] at h_; exact h_))
  exact h
theorem san33 (w : World) (na : Option Addr) (nc : Nat) (hn : SlIn w 50 encLink na sanN.links) (la : Option Addr) (hl : SlIn w 3 encSend la sanL) :
    Calls Try.prog 42 #[.agg (netA sanN na nc), .slice la (sanL).length 4, .agg (demA sanD), .int .i64 2, .int .i64 7] w (fun e w' => e = .returned (.tuple #[.int .i64 120, .int .i64 0]) ∧ Below w.heap.size w w') := by
  have h := (by (have h_ := Stock_calls w sanN na nc sanL la 4 sanD 2 7 hn sanOk hl; simp only [san_st3] at h_; exact h_))
  exact h
theorem san40 (w : World) (na : Option Addr) (nc : Nat) (hn : SlIn w 50 encLink na sanN.links) (la : Option Addr) (hl : SlIn w 3 encSend la sanL) :
    Calls Try.prog 26 #[.agg (netA sanN na nc), .slice la (sanL).length 4, .int .i64 0, .int .i64 5] w (fun e w' => e = .returned (.tuple #[.int .i64 0, .int .i64 0]) ∧ Below w.heap.size w w') := by
  have h := (by (have h_ := left_calls w sanN na nc sanL la 4 0 5 hn sanOk hl; simp only [san_left0] at h_; exact h_))
  exact h
theorem san41 (w : World) (na : Option Addr) (nc : Nat) (hn : SlIn w 50 encLink na sanN.links) (la : Option Addr) (hl : SlIn w 3 encSend la sanL) :
    Calls Try.prog 26 #[.agg (netA sanN na nc), .slice la (sanL).length 4, .int .i64 0, .int .i64 29] w (fun e w' => e = .returned (.tuple #[.int .i64 100, .int .i64 0]) ∧ Below w.heap.size w w') := by
  have h := (by (have h_ := left_calls w sanN na nc sanL la 4 0 29 hn sanOk hl; simp only [san_left1] at h_; exact h_))
  exact h
theorem san50 (w : World) (na : Option Addr) (nc : Nat) (hn : SlIn w 50 encLink na sanN.links) (la : Option Addr) (hl : SlIn w 3 encSend la sanL) :
    Calls Try.prog 24 #[.agg (netA sanN na nc), .slice la (sanL).length 4, .agg (demA sanD)] w (fun e w' => e = .returned (.int .i64 0) ∧ Below w.heap.size w w') := by
  have h := (by (have h_ := serves_calls w sanN na nc sanL la 4 sanD (by decide) hn sanOk hl; simp only [san_sv] at h_; exact h_))
  exact h
theorem san51 (w : World) (na : Option Addr) (nc : Nat) (hn : SlIn w 50 encLink na sanN.links) (la : Option Addr) (hl : SlIn w 3 encSend la sanE) :
    Calls Try.prog 24 #[.agg (netA sanN na nc), .slice la (sanE).length 4, .agg (demA sanD)] w (fun e w' => e = .returned (.int .i64 4) ∧ Below w.heap.size w w') := by
  have h := (by (have h_ := serves_calls w sanN na nc sanE la 4 sanD (by decide) hn sanOk hl; simp only [san_svE] at h_; exact h_))
  exact h
theorem san52 (w : World) (na : Option Addr) (nc : Nat) (hn : SlIn w 50 encLink na sanN.links) (la : Option Addr) (hl : SlIn w 3 encSend la (sanL.take 3)) :
    Calls Try.prog 24 #[.agg (netA sanN na nc), .slice la ((sanL.take 3)).length 4, .agg (demA sanD)] w (fun e w' => e = .returned (.int .i64 21) ∧ Below w.heap.size w w') := by
  have h := (by (have h_ := serves_calls w sanN na nc (sanL.take 3) la 4 sanD (by decide) hn sanOk hl; simp only [san_svT] at h_; exact h_))
  exact h
theorem san53 (w : World) (na : Option Addr) (nc : Nat) (hn : SlIn w 50 encLink na sanN.links) (la : Option Addr) (hl : SlIn w 3 encSend la sanF) :
    Calls Try.prog 24 #[.agg (netA sanN na nc), .slice la (sanF).length 4, .agg (demA sanD)] w (fun e w' => e = .returned (.int .i64 13) ∧ Below w.heap.size w w') := by
  have h := (by (have h_ := serves_calls w sanN na nc sanF la 4 sanD (by decide) hn sanOk hl; simp only [san_svF] at h_; exact h_))
  exact h
theorem san6 (w : World) (na : Option Addr) (nc : Nat) (lc : Nat) (hn : SlIn w 50 encLink na sanN.links) (la : Option Addr) (hl : SlIn w 3 encSend la sanJ) :
    Calls Try.prog 35 #[.agg (netA sanN na nc), .slice la sanJ.length lc] w (fun e w' => e = .returned (.int .i64 13) ∧ Below w.heap.size w w') := by
  have h := (by (have h_ := fits_calls w sanN na nc sanJ la lc hn sanOk hl; simp only [san_fits] at h_; exact h_))
  exact h
theorem san7 (w : World) : Calls Try.prog 39 #[.agg (netA ⟨0, []⟩ none 0)] w (fun e w' => e = .returned (.int .i64 2) ∧ Below w.heap.size w w') := by
  have h_ := netCheck_calls w ⟨0, []⟩ none 0 SlAt.nothing (fun x hx => by simp at hx)
  simp only [san_nil] at h_
  exact h_
theorem san8 (w : World) (na : Option Addr) (nc : Nat) (la ha : Option Addr) (hn : SlIn w 50 encLink na sanN.links) (hl : SlIn w 3 encSend la sanL) (hh : SlIn w 1 encHd ha [⟨sanL, la, 4⟩, ⟨sanL, la, 4⟩]) :
    Calls Try.prog 37 #[.agg (netA sanN na nc), .slice ha 2 2] w (fun e w' => ∃ r : Option Addr × Nat, e = .returned (.tuple #[.slice r.1 4 r.2, .int .i64 0]) ∧ Below w.heap.size w w' ∧ (4 ≤ r.2 ∧ SlAt w' w.heap.size w'.heap.size 3 encSend r.1 sanJ)) := by
  have h_ := join_calls w sanN na nc [⟨sanL, la, 4⟩, ⟨sanL, la, 4⟩] ha 2 hn sanOk hh (fun h hh_ => by simp only [List.mem_cons, List.not_mem_nil, or_false] at hh_; rcases hh_ with rfl | rfl <;> exact ⟨hl, Nat.le_of_ble_eq_true rfl⟩) (Nat.le_of_ble_eq_true rfl)
  simp only [JoinIs, san_join] at h_
  exact h_
set_option maxRecDepth 100000 in
set_option maxHeartbeats 4000000 in
theorem sanity_calls (w : World)   :
    Calls Try.prog 30 #[] w (fun e w' => e = .returned (.bool true) ∧ Below w.heap.size w w') := by
  refine calls_of_tc (N := 205) (vs := []) Try.func30 rfl rfl (Nat.le_of_ble_eq_true rfl) ?_
  refine tc_seq ?_
  refine tc_region ?_
  refine s0 (qv_assign rfl) ?_
  refine tl_nil (tp_normal ?_)
  refine tc_seq ?_
  refine tc_region ?_
  refine s0 (qv_call fn_59 rfl (fun w hm => flat_calls w (0) (1) (100) (2))) ?_
  refine s0 (qv_call fn_59 rfl (fun w hm => flat_calls w (1) (2) (100) (2))) ?_
  refine s0 (qv_call fn_59 rfl (fun w hm => flat_calls w (0) (2) (10) (1))) ?_
  refine tl_buildSliceL (enc := encLink) sanN.links bsl_22_3 (fun b27_0 => ?_) rfl (by kernel_rfl)
  have hsb27_0 := SlAt.ofBox (enc := encLink) (sz := 50) (b := b27_0) (E := 49) (l := sanN.links) (Nat.le_of_ble_eq_true rfl) (fun x hx => by (have h_ := sanOk x hx; simp [encLink, h_.1, h_.2]))
  refine s0 (qv_build bt_24 rfl rfl) ?_
  refine tl_alloc ze_24 (by decide) (fun b1_1 => ?_)
  refine tl_storeO (i := 0) sz_24 rfl rfl rfl rfl rfl rfl rfl ?_
  refine tl_nil (tp_normal ?_)
  refine tc_seq ?_
  refine tc_region ?_
  refine s0 (qv_build bt_27 rfl rfl) ?_
  refine tl_alloc ze_27 (by decide) (fun b2_2 => ?_)
  refine tl_storeO (i := 0) sz_27 rfl rfl rfl rfl rfl rfl rfl ?_
  refine tl_nil (tp_normal ?_)
  refine tc_seq ?_
  refine tc_region ?_
  refine s0 (qv_build bt_70 rfl rfl) ?_
  refine s0 (qv_build bt_70 rfl rfl) ?_
  refine s0 (qv_build bt_70 rfl rfl) ?_
  refine s0 (qv_build bt_70 rfl rfl) ?_
  refine tl_buildSliceL (enc := encSend) sanL bsl_25_4 (fun b34_3 => ?_) rfl (by kernel_rfl)
  have hsb34_3 := SlAt.ofBox (enc := encSend) (sz := 3) (b := b34_3) (E := 70) (l := sanL) (Nat.le_of_ble_eq_true rfl) (fun _ _ => rfl)
  refine s0 (qv_assign rfl) ?_
  refine tl_nil (tp_normal ?_)
  refine tc_seq ?_
  refine tc_region ?_
  refine s0 (qv_build bt_70 rfl rfl) ?_
  refine s0 (qv_build bt_70 rfl rfl) ?_
  refine s0 (qv_build bt_70 rfl rfl) ?_
  refine s0 (qv_build bt_70 rfl rfl) ?_
  refine tl_buildSliceL (enc := encSend) sanE bsl_25_4 (fun b39_4 => ?_) rfl (by kernel_rfl)
  have hsb39_4 := SlAt.ofBox (enc := encSend) (sz := 3) (b := b39_4) (E := 70) (l := sanE) (Nat.le_of_ble_eq_true rfl) (fun _ _ => rfl)
  refine s0 (qv_assign rfl) ?_
  refine tl_nil (tp_normal ?_)
  refine tc_seq ?_
  refine tc_region ?_
  refine s0 (qv_build bt_70 rfl rfl) ?_
  refine s0 (qv_build bt_70 rfl rfl) ?_
  refine s0 (qv_build bt_70 rfl rfl) ?_
  refine s0 (qv_build bt_70 rfl rfl) ?_
  refine tl_buildSliceL (enc := encSend) sanF bsl_25_4 (fun b44_5 => ?_) rfl (by kernel_rfl)
  have hsb44_5 := SlAt.ofBox (enc := encSend) (sz := 3) (b := b44_5) (E := 70) (l := sanF) (Nat.le_of_ble_eq_true rfl) (fun _ _ => rfl)
  refine s0 (qv_assign rfl) ?_
  refine tl_nil (tp_normal ?_)
  refine tc_seq ?_
  refine tc_region ?_
  refine s0 (qv_ldBW (i := 4) ag_24 rfl rfl rfl) ?_
  refine s0 (qv_move rfl) ?_
  refine s0 (qv_call fn_23 rfl (fun w hm => san1 w (some ⟨b27_0, 0, none⟩) 3 (hsb27_0.into (Mem.has_box (by repeat (first | exact List.Mem.head _ | refine List.Mem.tail _ ?_))) hm) (some ⟨b34_3, 0, none⟩) (hsb34_3.into (Mem.has_box (by repeat (first | exact List.Mem.head _ | refine List.Mem.tail _ ?_))) hm))) ?_
  refine s0 (qv_move rfl) ?_
  refine s0 (qv_extract rfl rfl) ?_
  refine s0 (qv_extract rfl rfl) ?_
  refine s0 (qv_assign rfl) ?_
  refine s0 (qv_assign rfl) ?_
  refine tl_nil (tp_normal ?_)
  refine tc_seq ?_
  refine tc_region ?_
  refine s0 (qv_ldBW (i := 4) ag_24 rfl rfl rfl) ?_
  refine s0 (qv_move rfl) ?_
  refine s0 (qv_ldBW (i := 3) ag_27 rfl rfl rfl) ?_
  refine s0 (qv_call fn_28 rfl (fun w hm => san2 w (some ⟨b27_0, 0, none⟩) 3 (hsb27_0.into (Mem.has_box (by repeat (first | exact List.Mem.head _ | refine List.Mem.tail _ ?_))) hm) (some ⟨b34_3, 0, none⟩) (hsb34_3.into (Mem.has_box (by repeat (first | exact List.Mem.head _ | refine List.Mem.tail _ ?_))) hm))) ?_
  refine s0 (qv_move rfl) ?_
  refine s0 (qv_extract rfl rfl) ?_
  refine s0 (qv_extract rfl rfl) ?_
  refine s0 (qv_assign rfl) ?_
  refine s0 (qv_assign rfl) ?_
  refine tl_nil (tp_normal ?_)
  refine tc_seq ?_
  refine tc_region ?_
  refine s0 (qv_ldBW (i := 4) ag_24 rfl rfl rfl) ?_
  refine s0 (qv_move rfl) ?_
  refine s0 (qv_ldBW (i := 3) ag_27 rfl rfl rfl) ?_
  refine s0 (qv_call fn_42 rfl (fun w hm => san30 w (some ⟨b27_0, 0, none⟩) 3 (hsb27_0.into (Mem.has_box (by repeat (first | exact List.Mem.head _ | refine List.Mem.tail _ ?_))) hm) (some ⟨b34_3, 0, none⟩) (hsb34_3.into (Mem.has_box (by repeat (first | exact List.Mem.head _ | refine List.Mem.tail _ ?_))) hm))) ?_
  refine s0 (qv_move rfl) ?_
  refine s0 (qv_extract rfl rfl) ?_
  refine s0 (qv_extract rfl rfl) ?_
  refine s0 (qv_assign rfl) ?_
  refine s0 (qv_assign rfl) ?_
  refine tl_nil (tp_normal ?_)
  refine tc_seq ?_
  refine tc_region ?_
  refine s0 (qv_ldBW (i := 4) ag_24 rfl rfl rfl) ?_
  refine s0 (qv_move rfl) ?_
  refine s0 (qv_ldBW (i := 3) ag_27 rfl rfl rfl) ?_
  refine s0 (qv_call fn_42 rfl (fun w hm => san31 w (some ⟨b27_0, 0, none⟩) 3 (hsb27_0.into (Mem.has_box (by repeat (first | exact List.Mem.head _ | refine List.Mem.tail _ ?_))) hm) (some ⟨b34_3, 0, none⟩) (hsb34_3.into (Mem.has_box (by repeat (first | exact List.Mem.head _ | refine List.Mem.tail _ ?_))) hm))) ?_
  refine s0 (qv_move rfl) ?_
  refine s0 (qv_extract rfl rfl) ?_
  refine s0 (qv_extract rfl rfl) ?_
  refine s0 (qv_assign rfl) ?_
  refine s0 (qv_assign rfl) ?_
  refine tl_nil (tp_normal ?_)
  refine tc_seq ?_
  refine tc_region ?_
  refine s0 (qv_ldBW (i := 4) ag_24 rfl rfl rfl) ?_
  refine s0 (qv_move rfl) ?_
  refine s0 (qv_ldBW (i := 3) ag_27 rfl rfl rfl) ?_
  refine s0 (qv_call fn_42 rfl (fun w hm => san32 w (some ⟨b27_0, 0, none⟩) 3 (hsb27_0.into (Mem.has_box (by repeat (first | exact List.Mem.head _ | refine List.Mem.tail _ ?_))) hm) (some ⟨b34_3, 0, none⟩) (hsb34_3.into (Mem.has_box (by repeat (first | exact List.Mem.head _ | refine List.Mem.tail _ ?_))) hm))) ?_
  refine s0 (qv_move rfl) ?_
  refine s0 (qv_extract rfl rfl) ?_
  refine s0 (qv_extract rfl rfl) ?_
  refine s0 (qv_assign rfl) ?_
  refine s0 (qv_assign rfl) ?_
  refine tl_nil (tp_normal ?_)
  refine tc_seq ?_
  refine tc_region ?_
  refine s0 (qv_ldBW (i := 4) ag_24 rfl rfl rfl) ?_
  refine s0 (qv_move rfl) ?_
  refine s0 (qv_ldBW (i := 3) ag_27 rfl rfl rfl) ?_
  refine s0 (qv_call fn_42 rfl (fun w hm => san33 w (some ⟨b27_0, 0, none⟩) 3 (hsb27_0.into (Mem.has_box (by repeat (first | exact List.Mem.head _ | refine List.Mem.tail _ ?_))) hm) (some ⟨b34_3, 0, none⟩) (hsb34_3.into (Mem.has_box (by repeat (first | exact List.Mem.head _ | refine List.Mem.tail _ ?_))) hm))) ?_
  refine s0 (qv_move rfl) ?_
  refine s0 (qv_extract rfl rfl) ?_
  refine s0 (qv_extract rfl rfl) ?_
  refine s0 (qv_assign rfl) ?_
  refine s0 (qv_assign rfl) ?_
  refine tl_nil (tp_normal ?_)
  refine tc_seq ?_
  refine tc_region ?_
  refine s0 (qv_ldBW (i := 4) ag_24 rfl rfl rfl) ?_
  refine s0 (qv_move rfl) ?_
  refine s0 (qv_call fn_26 rfl (fun w hm => san40 w (some ⟨b27_0, 0, none⟩) 3 (hsb27_0.into (Mem.has_box (by repeat (first | exact List.Mem.head _ | refine List.Mem.tail _ ?_))) hm) (some ⟨b34_3, 0, none⟩) (hsb34_3.into (Mem.has_box (by repeat (first | exact List.Mem.head _ | refine List.Mem.tail _ ?_))) hm))) ?_
  refine s0 (qv_move rfl) ?_
  refine s0 (qv_extract rfl rfl) ?_
  refine s0 (qv_extract rfl rfl) ?_
  refine s0 (qv_assign rfl) ?_
  refine s0 (qv_assign rfl) ?_
  refine tl_nil (tp_normal ?_)
  refine tc_seq ?_
  refine tc_region ?_
  refine s0 (qv_ldBW (i := 4) ag_24 rfl rfl rfl) ?_
  refine s0 (qv_move rfl) ?_
  refine s0 (qv_call fn_26 rfl (fun w hm => san41 w (some ⟨b27_0, 0, none⟩) 3 (hsb27_0.into (Mem.has_box (by repeat (first | exact List.Mem.head _ | refine List.Mem.tail _ ?_))) hm) (some ⟨b34_3, 0, none⟩) (hsb34_3.into (Mem.has_box (by repeat (first | exact List.Mem.head _ | refine List.Mem.tail _ ?_))) hm))) ?_
  refine s0 (qv_move rfl) ?_
  refine s0 (qv_extract rfl rfl) ?_
  refine s0 (qv_extract rfl rfl) ?_
  refine s0 (qv_assign rfl) ?_
  refine s0 (qv_assign rfl) ?_
  refine tl_nil (tp_normal ?_)
  refine tc_seq ?_
  refine tc_region ?_
  refine s0 (qv_ldBW (i := 4) ag_24 rfl rfl rfl) ?_
  refine s0 (qv_move rfl) ?_
  refine s0 (qv_move rfl) ?_
  refine tl_buildSliceL (enc := encHd) [⟨sanL, some ⟨b34_3, 0, none⟩, 4⟩, ⟨sanL, some ⟨b34_3, 0, none⟩, 4⟩] bsl_54_2 (fun b102_6 => ?_) rfl (by kernel_rfl)
  have hsb102_6 := SlAt.ofBox (enc := encHd) (sz := 1) (b := b102_6) (E := 25) (l := [⟨sanL, some ⟨b34_3, 0, none⟩, 4⟩, ⟨sanL, some ⟨b34_3, 0, none⟩, 4⟩]) (Nat.le_of_ble_eq_true rfl) (fun _ _ => rfl)
  refine tl_callR fn_37 rfl (by decide) (fun w hm => san8 w (some ⟨b27_0, 0, none⟩) 3 (some ⟨b34_3, 0, none⟩) (some ⟨b102_6, 0, none⟩) (hsb27_0.into (Mem.has_box (by repeat (first | exact List.Mem.head _ | refine List.Mem.tail _ ?_))) hm) (hsb34_3.into (Mem.has_box (by repeat (first | exact List.Mem.head _ | refine List.Mem.tail _ ?_))) hm) (hsb102_6.into (Mem.has_box (by repeat (first | exact List.Mem.head _ | refine List.Mem.tail _ ?_))) hm)) (fun r103 wa103 wb103 hm103 hb103 hr103 => ?_)
  refine s0 (qv_move rfl) ?_
  refine s0 (qv_extract rfl rfl) ?_
  refine s0 (qv_extract rfl rfl) ?_
  refine s0 (qv_assign rfl) ?_
  refine s0 (qv_assign rfl) ?_
  refine tl_nil (tp_normal ?_)
  refine tc_seq ?_
  refine tc_seq ?_
  refine tc_region ?_
  refine s0 (qv_move rfl) ?_
  refine s0 (qv_neq rfl rfl) ?_
  refine s0 (qv_move rfl) ?_
  refine s0g (qv_move rfl) ?_
  refine s0g (qv_neq rfl rfl) ?_
  refine s0 (qv_pickF rfl rfl) ?_
  refine s0 (qv_move rfl) ?_
  refine s0g (qv_move rfl) ?_
  refine s0g (qv_neq rfl rfl) ?_
  refine s0 (qv_pickF rfl rfl) ?_
  refine s0 (qv_move rfl) ?_
  refine s0g (qv_move rfl) ?_
  refine s0g (qv_neq rfl rfl) ?_
  refine s0 (qv_pickF rfl rfl) ?_
  refine s0 (qv_move rfl) ?_
  refine s0g (qv_move rfl) ?_
  refine s0g (qv_neq rfl rfl) ?_
  refine s0 (qv_pickF rfl rfl) ?_
  refine s0 (qv_move rfl) ?_
  refine s0g (qv_move rfl) ?_
  refine s0g (qv_neq rfl rfl) ?_
  refine s0 (qv_pickF rfl rfl) ?_
  refine s0 (qv_move rfl) ?_
  refine s0g (qv_move rfl) ?_
  refine s0g (qv_neq rfl rfl) ?_
  refine s0 (qv_pickF rfl rfl) ?_
  refine s0 (qv_move rfl) ?_
  refine s0g (qv_move rfl) ?_
  refine s0g (qv_neq rfl rfl) ?_
  refine s0 (qv_pickF rfl rfl) ?_
  refine s0 (qv_move rfl) ?_
  refine s0g (qv_move rfl) ?_
  refine s0g (qv_neq rfl rfl) ?_
  refine s0 (qv_pickF rfl rfl) ?_
  refine s0 (qv_move rfl) ?_
  refine s0g (qv_move rfl) ?_
  refine s0g (qv_neq rfl rfl) ?_
  refine s0 (qv_pickF rfl rfl) ?_
  refine s0 (qv_move rfl) ?_
  refine s0g (qv_move rfl) ?_
  refine s0g (qv_neq rfl rfl) ?_
  refine s0 (qv_pickF rfl rfl) ?_
  refine s0 (qv_move rfl) ?_
  refine s0g (qv_move rfl) ?_
  refine s0g (qv_len st_25 rfl) ?_
  refine s0g (qv_neq rfl rfl) ?_
  refine s0 (qv_pickF rfl rfl) ?_
  refine tl_nil (tp_normal ?_)
  refine tc_false rfl ?_
  refine tc_skip (tp_normal ?_)
  refine tc_seq ?_
  refine tc_draws mixed (by kernel_rfl) ?_
  refine q0 (qv_ldBW (i := 5) ag_24 rfl rfl rfl) ?_
  refine q0 (qv_move rfl) ?_
  refine q0 (qv_ldBW (i := 4) ag_27 rfl rfl rfl) ?_
  refine q0 (qv_call fn_24 rfl (fun w hm => san50 w (some ⟨b27_0, 0, none⟩) 3 (hsb27_0.into (Mem.has_box (by repeat (first | exact List.Mem.head _ | refine List.Mem.tail _ ?_))) hm) (some ⟨b34_3, 0, none⟩) (hsb34_3.into (Mem.has_box (by repeat (first | exact List.Mem.head _ | refine List.Mem.tail _ ?_))) hm))) ?_
  refine q0 (qv_eql rfl rfl) ?_
  refine q0 (qv_move rfl) ?_
  refine q0g (qv_ldBW (i := 5) ag_24 rfl rfl rfl) ?_
  refine q0g (qv_move rfl) ?_
  refine q0g (qv_ldBW (i := 4) ag_27 rfl rfl rfl) ?_
  refine q0g (qv_call fn_24 rfl (fun w hm => san51 w (some ⟨b27_0, 0, none⟩) 3 (hsb27_0.into (Mem.has_box (by repeat (first | exact List.Mem.head _ | refine List.Mem.tail _ ?_))) hm) (some ⟨b39_4, 0, none⟩) (hsb39_4.into (Mem.has_box (by repeat (first | exact List.Mem.head _ | refine List.Mem.tail _ ?_))) hm))) ?_
  refine q0g (qv_eql rfl rfl) ?_
  refine q0 (qv_pickT rfl rfl) ?_
  refine q0 (qv_move rfl) ?_
  refine q0g (qv_ldBW (i := 5) ag_24 rfl rfl rfl) ?_
  refine q0g (qv_move rfl) ?_
  refine q0g (qv_sliceHi st_25 hsb34_3 rfl rfl ⟨by decide, by decide⟩ (by decide)) ?_
  refine q0g (qv_ldBW (i := 4) ag_27 rfl rfl rfl) ?_
  refine q0g (qv_call fn_24 rfl (fun w hm => san52 w (some ⟨b27_0, 0, none⟩) 3 (hsb27_0.into (Mem.has_box (by repeat (first | exact List.Mem.head _ | refine List.Mem.tail _ ?_))) hm) (some ⟨b34_3, 0, none⟩) ((hsb34_3.take 3).into (Mem.has_box (by repeat (first | exact List.Mem.head _ | refine List.Mem.tail _ ?_))) hm))) ?_
  refine q0g (qv_eql rfl rfl) ?_
  refine q0 (qv_pickT rfl rfl) ?_
  refine q0 (qv_move rfl) ?_
  refine q0g (qv_ldBW (i := 5) ag_24 rfl rfl rfl) ?_
  refine q0g (qv_move rfl) ?_
  refine q0g (qv_ldBW (i := 4) ag_27 rfl rfl rfl) ?_
  refine q0g (qv_call fn_24 rfl (fun w hm => san53 w (some ⟨b27_0, 0, none⟩) 3 (hsb27_0.into (Mem.has_box (by repeat (first | exact List.Mem.head _ | refine List.Mem.tail _ ?_))) hm) (some ⟨b44_5, 0, none⟩) (hsb44_5.into (Mem.has_box (by repeat (first | exact List.Mem.head _ | refine List.Mem.tail _ ?_))) hm))) ?_
  refine q0g (qv_eql rfl rfl) ?_
  refine q0 (qv_pickT rfl rfl) ?_
  refine q0 (qv_move rfl) ?_
  refine q0g (qv_ldBW (i := 5) ag_24 rfl rfl rfl) ?_
  refine q0g (qv_move rfl) ?_
  refine q0g (qv_call fn_35 rfl (fun w hm => san6 w (some ⟨b27_0, 0, none⟩) 3 r103.2 (hsb27_0.into (Mem.has_box (by repeat (first | exact List.Mem.head _ | refine List.Mem.tail _ ?_))) hm) r103.1 (hr103.2.into (Mem.has_kept (by first | exact .head _ | exact .tail _ (.head _) | exact .tail _ (.tail _ (.head _)) | exact .tail _ (.tail _ (.tail _ (.head _))))) hm))) ?_
  refine q0g (qv_eql rfl rfl) ?_
  refine q0 (qv_pickT rfl rfl) ?_
  refine q0 (qv_move rfl) ?_
  refine q0g (qv_move rfl) ?_
  refine qig st_25 hr103.2 rfl rfl ⟨by decide, by decide⟩ (fun e188 he188 => ?_)
  obtain rfl := (Option.some.inj he188).symm
  refine q0g (qv_fa fo_70_2 rfl) ?_
  refine q0g (qv_ldE (j := 2) sc_3 hr103.2 (Mem.has_kept (by first | exact .head _ | exact .tail _ (.head _) | exact .tail _ (.tail _ (.head _)) | exact .tail _ (.tail _ (.tail _ (.head _))))) rfl rfl he188 rfl) ?_
  refine q0g (qv_eql rfl rfl) ?_
  refine q0 (qv_pickT rfl rfl) ?_
  refine q0 (qv_move rfl) ?_
  refine q0g (qv_move rfl) ?_
  refine qig st_25 hr103.2 rfl rfl ⟨by decide, by decide⟩ (fun e195 he195 => ?_)
  obtain rfl := (Option.some.inj he195).symm
  refine q0g (qv_fa fo_70_2 rfl) ?_
  refine q0g (qv_ldE (j := 2) sc_3 hr103.2 (Mem.has_kept (by first | exact .head _ | exact .tail _ (.head _) | exact .tail _ (.tail _ (.head _)) | exact .tail _ (.tail _ (.tail _ (.head _))))) rfl rfl he195 rfl) ?_
  refine q0g (qv_eql rfl rfl) ?_
  refine q0 (qv_pickT rfl rfl) ?_
  refine q0 (qv_move rfl) ?_
  refine q0g (qv_build bt_24 rfl rfl) ?_
  refine q0g (qv_call fn_39 rfl (fun w hm => san7 w)) ?_
  refine q0g (qv_eql rfl rfl) ?_
  refine q0 (qv_pickT rfl rfl) ?_
  refine q0 (qv_assign rfl) ?_
  refine tq_nil (tp_normal ?_)
  refine tc_ret (tp_end1 rfl rfl ?_)
  intro w' hm
  exact ⟨rfl, hm.below⟩

end Go.Q
