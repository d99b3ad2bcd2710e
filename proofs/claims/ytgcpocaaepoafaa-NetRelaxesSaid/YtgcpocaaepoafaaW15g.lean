/- A part of the proof: see the last text. -/
import Derived.Test.YtgcpocaaepoafaaQ15
import Derived.Test.YtgcpocaaepoafaaS15c
import Derived.Test.YtgcpocaaepoafaaW15s
import Derived.Test.YtgcpocaaepoafaaQ12
import Derived.Test.YtgcpocaaepoafaaS15
import Derived.Test.YtgcpocaaepoafaaW15f
import Derived.Test.YtgcpocaaepoafaaProg
set_option linter.unusedVariables false
set_option linter.unusedSimpArgs false
set_option linter.unusedSectionVars false
namespace Go.Q
open Go Go.Proofs Go.RowKit
theorem fn_29 : IsFn Try.prog 29 := isFn_of Try.func29 (by kernel_rfl) rfl
theorem fn_31 : IsFn Try.prog 31 := isFn_of Try.func31 (by kernel_rfl) rfl
theorem fn_32 : IsFn Try.prog 32 := isFn_of Try.func32 (by kernel_rfl) rfl
theorem fo_57_0 : FOff Try.prog 57 0 0 := fun b o w => by kernel_rfl
theorem fo_57_1 : FOff Try.prog 57 1 1 := fun b o w => by kernel_rfl
theorem sc_29 : Scalar Try.prog 29 := fun w => by kernel_rfl
theorem fn_38 : IsFn Try.prog 38 := isFn_of Try.func38 (by kernel_rfl) rfl
theorem fn_30 : IsFn Try.prog 30 := isFn_of Try.func30 (by kernel_rfl) rfl
theorem fo_63_1 : FOff Try.prog 63 1 1 := fun b o w => by kernel_rfl
theorem fo_63_0 : FOff Try.prog 63 0 0 := fun b o w => by kernel_rfl
theorem fn_41 : IsFn Try.prog 41 := isFn_of Try.func41 (by kernel_rfl) rfl
theorem join_callsR (w : World) (n : Net) (na : Option Addr) (nc : Nat) (ls : List Hd) (lsa : Option Addr) (lsc : Nat) (hn : SlIn w 50 encLink na n.links) (hk : NetOk n) (hls : SlIn w 1 encHd lsa ls) (hins : ∀ h ∈ ls, SlIn w 3 encSend h.a h.l ∧ h.l.length ≤ h.c) (hl4 : ls.length ≤ 4) :
    Calls Try.prog 37 #[.agg (netA n na nc), .slice lsa ls.length lsc] w (fun e w' => ∃ r : Option Addr × Nat, e = .returned (.tuple #[.slice r.1 (join n ls).1.length r.2, .int .i64 (join n ls).2]) ∧ Below w.heap.size w w' ∧ ((join n ls).1.length ≤ r.2 ∧ SlAt w' w.heap.size w'.heap.size 3 encSend r.1 (join n ls).1)) := by
  have h := join_calls w n na nc ls lsa lsc hn hk hls hins hl4
  simp only [JoinIs] at h
  exact h
theorem rjoin_callsR (w : World) (n : Net) (na : Option Addr) (nc : Nat) (ls : List Hd) (lsa : Option Addr) (lsc : Nat) (hn : SlIn w 50 encLink na n.links) (hk : NetOk n) (hls : SlIn w 1 encHd lsa ls) (hins : ∀ h ∈ ls, SlIn w 3 encSend h.a h.l ∧ h.l.length ≤ h.c) (hl4 : ls.length ≤ 4) :
    Calls Try.prog 38 #[.agg (netA n na nc), .slice lsa ls.length lsc] w (fun e w' => ∃ r : Option Addr × Nat, e = .returned (.agg #[.slice r.1 (join n ls).1.length r.2, .int .i64 (join n ls).2]) ∧ Below w.heap.size w w' ∧ ((join n ls).1.length ≤ r.2 ∧ SlAt w' w.heap.size w'.heap.size 3 encSend r.1 (join n ls).1)) := by
  have h := rjoin_calls w n na nc ls lsa lsc hn hk hls hins hl4
  simp only [JoinIs] at h
  exact h
theorem same_self (w : World) (a : List Send) (aa : Option Addr) (ac : Nat) (ba : Option Addr) (bc : Nat) (ha : SlIn w 3 encSend aa a) (hb : SlIn w 3 encSend ba a) : Calls Try.prog 41 #[.slice aa a.length ac, .slice ba a.length bc] w (fun e w' => e = .returned (.bool true) ∧ Below w.heap.size w w') := by
  have h := same_calls w a aa ac a ba bc ha hb
  simpa using h
set_option maxRecDepth 100000 in
set_option maxHeartbeats 4000000 in
theorem law_checks (w : World) (n : Net) (na : Option Addr) (nc : Nat) (ls : List Hd) (lsa : Option Addr) (lsc : Nat) (x0 x1 : Int) (hn : SlIn w 50 encLink na n.links) (hk : NetOk n) (hls : SlIn w 1 encHd lsa ls) (hins : ∀ h ∈ ls, SlIn w 3 encSend h.a h.l ∧ h.l.length ≤ h.c) :
    Calls Try.prog 8 #[.agg (netA n na nc), .slice lsa ls.length lsc, .agg #[.int .i64 x0, .int .i64 x1]] w (fun e w' => e = .returned (.bool true) ∧ Below w.heap.size w w') := by
  have hlenn := hn.len
  simp only [maxLen] at hlenn
  have hlens := hls.len
  simp only [maxLen] at hlens
  refine calls_of_tc (N := 130) (vs := [.agg (netA n na nc), .slice lsa ls.length lsc, .agg #[.int .i64 x0, .int .i64 x1]]) Try.func8 rfl rfl (Nat.le_of_ble_eq_true rfl) ?_
  refine tc_seq ?_
  refine tc_region ?_
  refine tl_box rfl (by decide) (fun b3_0 => ?_)
  refine tl_box rfl (by decide) (fun b5_1 => ?_)
  refine s0 (qv_assign rfl) ?_
  refine tl_nil (tp_normal ?_)
  refine tc_seq ?_
  refine tc_region ?_
  refine s0 (qv_ldBW (i := 1) ag_24 rfl rfl rfl) ?_
  refine s0 (qv_move rfl) ?_
  refine sd (qv_call fn_29 rfl (fun w hm => few_calls w n na nc ls lsa lsc (60) (hn.into Mem.has_base hm) hk (hls.into Mem.has_base hm))) (fun c21 => ?_) (fun c21 => ?_)
  ·
    refine s0 (qv_assign rfl) ?_
    refine tl_nil (tp_normal ?_)
    refine tc_seq ?_
    refine tc_seq ?_
    refine tc_region ?_
    refine s0 (qv_move rfl) ?_
    refine s0 (qv_not rfl) ?_
    refine tl_nil (tp_normal ?_)
    refine tc_false rfl ?_
    refine tc_skip (tp_normal ?_)
    refine tc_seq ?_
    refine tc_seq ?_
    have hl4 := c21.2.1
    refine tc_region ?_
    refine s0 (qv_assign rfl) ?_
    refine tl_nil (tp_normal ?_)
    refine tc_block (tc_loopS (fun (k : Nat) => [(8, .int .i64 (k : Int))]) (fun (k : Nat) => k ≤ ls.length) (fun (k : Nat) => ls.length - k) (0) (Nat.zero_le _) ⟨rfl, trivial⟩ ?_)
    rintro k hI
    refine tc_seq ?_
    refine tc_seq ?_
    refine tc_region ?_
    refine s0 (qv_move rfl) ?_
    refine s0 (qv_move rfl) ?_
    refine s0 (qv_len st_54 rfl) ?_
    refine sd (qv_lss rfl rfl) (fun c28 => ?_) (fun c28 => ?_)
    ·
      refine tl_nil (tp_normal ?_)
      refine tc_true rfl ?_
      refine tc_skip (tp_normal ?_)
      refine tc_seq ?_
      refine tc_block ?_
      refine tc_seq ?_
      refine tc_region ?_
      refine s0 (qv_move rfl) ?_
      refine s0 (qv_move rfl) ?_
      refine sn st_54 hls rfl rfl (by omega) (fun e33 he33 => ?_)
      refine s0 (qv_ldE (j := 0) sc_25 hls Mem.has_base rfl rfl he33 rfl) ?_
      refine s0 (qv_assign rfl) ?_
      refine tl_nil (tp_normal ?_)
      refine tc_seq ?_
      refine tc_region ?_
      refine s0 (qv_ldBW (i := 1) ag_24 rfl rfl rfl) ?_
      refine s0 (qv_move rfl) ?_
      refine s0 (qv_call fn_23 rfl (fun w hm => cost_calls w n na nc e33.l e33.a e33.c (hn.into Mem.has_base hm) hk ((hins e33 (List.mem_of_getElem? he33)).1.into Mem.has_base hm))) ?_
      refine s0 (qv_move rfl) ?_
      refine s0 (qv_extract rfl rfl) ?_
      refine s0 (qv_extract rfl rfl) ?_
      refine s0 (qv_assign rfl) ?_
      refine s0 (qv_assign rfl) ?_
      refine tl_nil (tp_normal ?_)
      refine tc_seq ?_
      refine tc_region ?_
      refine s0 (qv_ldBW (i := 1) ag_24 rfl rfl rfl) ?_
      refine s0 (qv_move rfl) ?_
      refine s0 (qv_call fn_31 rfl (fun w hm => rcost_calls w n na nc e33.l e33.a e33.c (hn.into Mem.has_base hm) hk ((hins e33 (List.mem_of_getElem? he33)).1.into Mem.has_base hm))) ?_
      refine tl_alloc ze_57 (by decide) (fun b12_2 => ?_)
      refine tl_storeO (i := 0) sz_57 rfl rfl rfl rfl rfl rfl rfl ?_
      refine tl_nil (tp_normal ?_)
      refine tc_seq ?_
      refine tc_region ?_
      refine s0 (qv_ldBW (i := 2) ag_24 rfl rfl rfl) ?_
      refine s0 (qv_move rfl) ?_
      refine s0 (qv_iA at_55 rfl rfl (by omega)) ?_
      refine s0 (qv_ldB (i := 1) sc_3 rfl rfl rfl) ?_
      refine s0 (qv_iA at_55 rfl rfl (by omega)) ?_
      refine s0 (qv_ldB (i := 1) sc_3 rfl rfl rfl) ?_
      refine s0 (qv_call fn_26 rfl (fun w hm => left_calls w n na nc e33.l e33.a e33.c x0 x1 (hn.into Mem.has_base hm) hk ((hins e33 (List.mem_of_getElem? he33)).1.into Mem.has_base hm))) ?_
      refine s0 (qv_move rfl) ?_
      refine s0 (qv_extract rfl rfl) ?_
      refine s0 (qv_extract rfl rfl) ?_
      refine s0 (qv_assign rfl) ?_
      refine s0 (qv_assign rfl) ?_
      refine tl_nil (tp_normal ?_)
      refine tc_seq ?_
      refine tc_region ?_
      refine s0 (qv_ldBW (i := 2) ag_24 rfl rfl rfl) ?_
      refine s0 (qv_move rfl) ?_
      refine s0 (qv_iA at_55 rfl rfl (by omega)) ?_
      refine s0 (qv_ldB (i := 1) sc_3 rfl rfl rfl) ?_
      refine s0 (qv_iA at_55 rfl rfl (by omega)) ?_
      refine s0 (qv_ldB (i := 1) sc_3 rfl rfl rfl) ?_
      refine s0 (qv_call fn_32 rfl (fun w hm => rleft_calls w n na nc e33.l e33.a e33.c x0 x1 (hn.into Mem.has_base hm) hk ((hins e33 (List.mem_of_getElem? he33)).1.into Mem.has_base hm))) ?_
      refine tl_alloc ze_57 (by decide) (fun b15_3 => ?_)
      refine tl_storeO (i := 0) sz_57 rfl rfl rfl rfl rfl rfl rfl ?_
      refine tl_nil (tp_normal ?_)
      refine tc_seq ?_
      refine tc_draws mixed (by kernel_rfl) ?_
      refine q0 (qv_ldBW (i := 3) ag_24 rfl rfl rfl) ?_
      refine q0 (qv_move rfl) ?_
      refine q0 (qv_call fn_33 rfl (fun w hm => right_calls w n na nc e33.l e33.a e33.c (hn.into Mem.has_base hm) hk ((hins e33 (List.mem_of_getElem? he33)).1.into Mem.has_base hm))) ?_
      refine q0 (qv_ldBW (i := 3) ag_24 rfl rfl rfl) ?_
      refine q0 (qv_move rfl) ?_
      refine q0 (qv_call fn_34 rfl (fun w hm => rright_calls w n na nc e33.l e33.a e33.c (hn.into Mem.has_base hm) hk ((hins e33 (List.mem_of_getElem? he33)).1.into Mem.has_base hm))) ?_
      refine q0 (qv_neSelf rfl rfl) ?_
      refine q0 (qv_move rfl) ?_
      refine q0g (qv_ldBW (i := 3) ag_24 rfl rfl rfl) ?_
      refine q0g (qv_move rfl) ?_
      refine q0g (qv_call fn_35 rfl (fun w hm => fits_calls w n na nc e33.l e33.a e33.c (hn.into Mem.has_base hm) hk ((hins e33 (List.mem_of_getElem? he33)).1.into Mem.has_base hm))) ?_
      refine q0g (qv_ldBW (i := 3) ag_24 rfl rfl rfl) ?_
      refine q0g (qv_move rfl) ?_
      refine q0g (qv_call fn_36 rfl (fun w hm => rfits_calls w n na nc e33.l e33.a e33.c (hn.into Mem.has_base hm) hk ((hins e33 (List.mem_of_getElem? he33)).1.into Mem.has_base hm))) ?_
      refine q0g (qv_neSelf rfl rfl) ?_
      refine q0 (qv_pickF rfl rfl) ?_
      refine q0 (qv_move rfl) ?_
      refine q0g (qv_move rfl) ?_
      refine q0g (qv_fa fo_57_0 rfl) ?_
      refine q0g (qv_ldB (i := 1) sc_3 rfl rfl rfl) ?_
      refine q0g (qv_neSelf rfl rfl) ?_
      refine q0 (qv_pickF rfl rfl) ?_
      refine q0 (qv_move rfl) ?_
      refine q0g (qv_move rfl) ?_
      refine q0g (qv_fa fo_57_1 rfl) ?_
      refine q0g (qv_ldB (i := 1) sc_29 rfl rfl rfl) ?_
      refine q0g (qv_neSelf rfl rfl) ?_
      refine q0 (qv_pickF rfl rfl) ?_
      refine q0 (qv_move rfl) ?_
      refine q0g (qv_move rfl) ?_
      refine q0g (qv_fa fo_57_0 rfl) ?_
      refine q0g (qv_ldB (i := 0) sc_3 rfl rfl rfl) ?_
      refine q0g (qv_neSelf rfl rfl) ?_
      refine q0 (qv_pickF rfl rfl) ?_
      refine q0 (qv_move rfl) ?_
      refine q0g (qv_move rfl) ?_
      refine q0g (qv_fa fo_57_1 rfl) ?_
      refine q0g (qv_ldB (i := 0) sc_29 rfl rfl rfl) ?_
      refine q0g (qv_neSelf rfl rfl) ?_
      refine q0 (qv_pickF rfl rfl) ?_
      refine tq_nil (tp_normal ?_)
      refine tc_false rfl ?_
      refine tc_skip (tp_block_normal (tp_normal ?_))
      refine tc_region ?_
      refine s0 (qv_move rfl) ?_
      refine s0 (qv_succ rfl rfl (by omega)) ?_
      refine s0 (qv_assign rfl) ?_
      exact tl_nil (tp_roundS (k + 1) (by omega) (by omega) ⟨rfl, trivial⟩ rfl rfl rfl rfl)
    ·
      refine tl_nil (tp_normal ?_)
      refine tc_false rfl ?_
      refine tc_exit (tp_then_exit (tp_then_exit (tp_block_exit (tp_normal ?_))))
      refine tc_seq ?_
      refine tc_region ?_
      refine s0 (qv_ldBW (i := 1) ag_24 rfl rfl rfl) ?_
      refine s0 (qv_move rfl) ?_
      refine tl_callR fn_37 rfl (by decide) (fun w hm => join_callsR w n na nc ls lsa lsc (hn.into Mem.has_base hm) hk (hls.into Mem.has_base hm) (fun h hh => ⟨(hins h hh).1.into Mem.has_base hm, (hins h hh).2⟩) hl4) (fun r104 wa104 wb104 hm104 hb104 hr104 => ?_)
      refine s0 (qv_move rfl) ?_
      refine s0 (qv_extract rfl rfl) ?_
      refine s0 (qv_extract rfl rfl) ?_
      refine s0 (qv_assign rfl) ?_
      refine s0 (qv_assign rfl) ?_
      refine tl_nil (tp_normal ?_)
      refine tc_seq ?_
      refine tc_region ?_
      refine s0 (qv_ldBW (i := 1) ag_24 rfl rfl rfl) ?_
      refine s0 (qv_move rfl) ?_
      refine tl_callR fn_38 rfl (by decide) (fun w hm => rjoin_callsR w n na nc ls lsa lsc (hn.into Mem.has_base hm) hk (hls.into Mem.has_base hm) (fun h hh => ⟨(hins h hh).1.into Mem.has_base hm, (hins h hh).2⟩) hl4) (fun r109 wa109 wb109 hm109 hb109 hr109 => ?_)
      refine tl_alloc ze_63 (by decide) (fun b18_4 => ?_)
      refine tl_storeO (i := 0) sz_63 rfl rfl rfl rfl rfl rfl rfl ?_
      refine tl_nil (tp_normal ?_)
      refine tc_seq ?_
      refine tc_draws mixed (by kernel_rfl) ?_
      refine q0 (qv_call fn_30 rfl (fun w hm => sanity_calls w)) ?_
      refine q0 (qv_move rfl) ?_
      refine q0g (qv_ldBW (i := 2) ag_24 rfl rfl rfl) ?_
      refine q0g (qv_call fn_39 rfl (fun w hm => netCheck_calls w n na nc (hn.into Mem.has_base hm) hk)) ?_
      refine q0g (qv_ldBW (i := 2) ag_24 rfl rfl rfl) ?_
      refine q0g (qv_call fn_40 rfl (fun w hm => rcheck_calls w n na nc (hn.into Mem.has_base hm) hk)) ?_
      refine q0g (qv_eqSelf rfl rfl) ?_
      refine q0 (qv_pickT rfl rfl) ?_
      refine q0 (qv_move rfl) ?_
      refine q0g (qv_move rfl) ?_
      refine q0g (qv_fa fo_63_1 rfl) ?_
      refine q0g (qv_ldB (i := 0) sc_29 rfl rfl rfl) ?_
      refine q0g (qv_eqSelf rfl rfl) ?_
      refine q0 (qv_pickT rfl rfl) ?_
      refine q0 (qv_move rfl) ?_
      refine q0g (qv_move rfl) ?_
      refine q0g (qv_fa fo_63_0 rfl) ?_
      refine q0g (qv_ldB (i := 0) sc_25 rfl rfl rfl) ?_
      refine q0g (qv_call fn_41 rfl (fun w hm => same_self w (join n ls).1 r104.1 r104.2 r109.1 r109.2 (hr104.2.into (Mem.has_kept (by first | exact .head _ | exact .tail _ (.head _) | exact .tail _ (.tail _ (.head _)) | exact .tail _ (.tail _ (.tail _ (.head _))))) hm) (hr109.2.into (Mem.has_kept (by first | exact .head _ | exact .tail _ (.head _) | exact .tail _ (.tail _ (.head _)) | exact .tail _ (.tail _ (.tail _ (.head _))))) hm))) ?_
      refine q0 (qv_pickT rfl rfl) ?_
      refine q0 (qv_assign rfl) ?_
      refine tq_nil (tp_normal ?_)
      refine tc_ret (tp_end1 rfl rfl ?_)
      intro w' hm
      exact ⟨rfl, hm.below⟩
  ·
    refine s0 (qv_assign rfl) ?_
    refine tl_nil (tp_normal ?_)
    refine tc_seq ?_
    refine tc_seq ?_
    refine tc_region ?_
    refine s0 (qv_move rfl) ?_
    refine s0 (qv_not rfl) ?_
    refine tl_nil (tp_normal ?_)
    refine tc_true rfl ?_
    refine tc_seq ?_
    refine tc_region ?_
    refine s0 (qv_call fn_30 rfl (fun w hm => sanity_calls w)) ?_
    refine s0 (qv_assign rfl) ?_
    refine tl_nil (tp_normal ?_)
    refine tc_ret (tp_then_ret (tp_end1 rfl rfl ?_))
    intro w' hm
    exact ⟨rfl, hm.below⟩

end Go.Q
