/- A part of the proof: see the last text. -/
import Derived.Test.YtgcpocaaepoafaaS15f
import Derived.Test.YtgcpocaaepoafaaW15s
import Derived.Test.YtgcpocaaepoafaaQ12
import Derived.Test.YtgcpocaaepoafaaS15
import Derived.Test.YtgcpocaaepoafaaW15i
import Derived.Test.YtgcpocaaepoafaaProg
set_option linter.unusedVariables false
set_option linter.unusedSimpArgs false
set_option linter.unusedSectionVars false
namespace Go.Q
open Go Go.Proofs Go.RowKit
theorem st_78 : SliceTy Try.prog 78 5 := ⟨27, by kernel_rfl, fun w => by kernel_rfl⟩
theorem fn_44 : IsFn Try.prog 44 := isFn_of Try.func44 (by kernel_rfl) rfl
theorem fn_45 : IsFn Try.prog 45 := isFn_of Try.func45 (by kernel_rfl) rfl
theorem fn_47 : IsFn Try.prog 47 := isFn_of Try.func47 (by kernel_rfl) rfl
theorem fn_48 : IsFn Try.prog 48 := isFn_of Try.func48 (by kernel_rfl) rfl
set_option maxRecDepth 100000 in
set_option maxHeartbeats 4000000 in
theorem shared_calls (w : World) (n : Net) (na : Option Addr) (nc : Nat) (ls : List Hd) (lsa : Option Addr) (lsc : Nat) (ds : List Demand) (da : Option Addr) (dc : Nat) (hn : SlIn w 50 encLink na n.links) (hk : NetOk n) (hls : SlIn w 1 encHd lsa ls) (hins : ∀ h ∈ ls, SlIn w 3 encSend h.a h.l ∧ h.l.length ≤ h.c) (hl4 : ls.length ≤ 4) (hds : SlIn w 5 encDem da ds) :
    Calls Try.prog 47 #[.agg (netA n na nc), .slice lsa ls.length lsc, .slice da ds.length dc] w (fun e w' => e = .returned (.int .i64 (shared n ls ds)) ∧ Below w.heap.size w w') := by
  have hlenn := hn.len
  simp only [maxLen] at hlenn
  have hlens := hls.len
  simp only [maxLen] at hlens
  have hlend := hds.len
  simp only [maxLen] at hlend
  refine calls_of_tc (N := 69) (vs := [.agg (netA n na nc), .slice lsa ls.length lsc, .slice da ds.length dc]) Try.func47 rfl rfl (Nat.le_of_ble_eq_true rfl) ?_
  refine tc_seq ?_
  refine tc_region ?_
  refine tl_box rfl (by decide) (fun b3_0 => ?_)
  refine s0 (qv_assign rfl) ?_
  refine tl_nil (tp_normal ?_)
  refine tc_seq ?_
  refine tc_seq ?_
  refine tc_region ?_
  refine s0 (qv_move rfl) ?_
  refine s0 (qv_len st_54 rfl) ?_
  refine s0 (qv_move rfl) ?_
  refine tl_nil (tp_normal ?_)
  refine tc_block (tc_loopS (fun (k : Nat) => [(16, .int .i64 (k : Int))]) (fun (k : Nat) => k ≤ ls.length ∧ rights n (ls.take k) = 0) (fun (k : Nat) => ls.length - k) (0) ⟨Nat.zero_le _, rfl⟩ ⟨rfl, trivial⟩ ?_)
  rintro k hI
  refine tc_seq ?_
  refine tc_region ?_
  refine sd (qv_lss rfl rfl) (fun c17 => ?_) (fun c17 => ?_)
  ·
    refine tl_nil (tp_normal ?_)
    refine tc_seq ?_
    refine tc_true rfl ?_
    refine tc_skip (tp_normal ?_)
    refine tc_seq ?_
    refine tc_block ?_
    refine tc_seq ?_
    refine tc_region ?_
    refine sn st_54 hls rfl rfl (by omega) (fun e18 he18 => ?_)
    refine s0 (qv_ldE (j := 0) sc_25 hls Mem.has_base rfl rfl he18 rfl) ?_
    refine s0 (qv_assign rfl) ?_
    refine tl_nil (tp_normal ?_)
    refine tc_seq ?_
    refine tc_region ?_
    refine s0 (qv_ldBW (i := 0) ag_24 rfl rfl rfl) ?_
    refine s0 (qv_move rfl) ?_
    refine s0 (qv_call fn_33 rfl (fun w hm => right_calls w n na nc e18.l e18.a e18.c (hn.into Mem.has_base hm) hk ((hins e18 (List.mem_of_getElem? he18)).1.into Mem.has_base hm))) ?_
    refine s0 (qv_assign rfl) ?_
    refine tl_nil (tp_normal ?_)
    refine tc_seq ?_
    refine tc_region ?_
    refine s0 (qv_move rfl) ?_
    refine sd (qv_neq rfl rfl) (fun c24 => ?_) (fun c24 => ?_)
    ·
      refine tl_nil (tp_normal ?_)
      refine tc_true rfl ?_
      refine tc_seq ?_
      refine tc_region ?_
      refine s0 (qv_move rfl) ?_
      refine s0 (qv_assign rfl) ?_
      refine tl_nil (tp_normal ?_)
      refine tc_ret (tp_block_ret (tp_then_ret (tp_then_ret (tp_block_ret (tp_then_ret (tp_end1 rfl rfl ?_))))))
      intro w' hm
      exact ⟨by rw [shared_rights (by rw [rights_stop he18 hI.2 c24]; exact c24), rights_stop he18 hI.2 c24], hm.below⟩
    ·
      refine tl_nil (tp_normal ?_)
      refine tc_false rfl ?_
      refine tc_skip (tp_block_normal (tp_normal ?_))
      refine tc_region ?_
      refine s0 (qv_succ rfl rfl (by omega)) ?_
      refine s0 (qv_move rfl) ?_
      exact tl_nil (tp_roundS (k + 1) ⟨by omega, rights_step he18 hI.2 (by omega)⟩ (by omega) ⟨rfl, trivial⟩ rfl rfl rfl rfl)
  ·
    refine tl_nil (tp_normal ?_)
    refine tc_seq ?_
    refine tc_false rfl ?_
    refine tc_exit (tp_then_exit (tp_then_exit (tp_block_exit (tp_normal ?_))))
    refine tc_seq ?_
    refine tc_seq ?_
    have hrs : rights n ls = 0 := by (have h_ := hI.2; rwa [take_all (by omega)] at h_)
    refine tc_region ?_
    refine s0 (qv_ldBW (i := 0) ag_24 rfl rfl rfl) ?_
    refine s0 (qv_call fn_39 rfl (fun w hm => netCheck_calls w n na nc (hn.into Mem.has_base hm) hk)) ?_
    refine s0 (qv_assign rfl) ?_
    refine tl_nil (tp_normal ?_)
    refine tc_seq ?_
    refine tc_region ?_
    refine s0 (qv_move rfl) ?_
    refine sd (qv_neq rfl rfl) (fun c30 => ?_) (fun c30 => ?_)
    ·
      refine tl_nil (tp_normal ?_)
      refine tc_true rfl ?_
      refine tc_seq ?_
      refine tc_region ?_
      refine s0 (qv_move rfl) ?_
      refine s0 (qv_assign rfl) ?_
      refine tl_nil (tp_normal ?_)
      refine tc_ret (tp_then_ret (tp_end1 rfl rfl ?_))
      intro w' hm
      exact ⟨by rw [shared_check hrs c30], hm.below⟩
    ·
      refine tl_nil (tp_normal ?_)
      refine tc_false rfl ?_
      refine tc_skip (tp_normal ?_)
      refine tc_seq ?_
      refine tc_seq ?_
      refine tc_region ?_
      refine s0 (qv_move rfl) ?_
      refine s0 (qv_len st_54 rfl) ?_
      refine s0 (qv_move rfl) ?_
      refine s0 (qv_len st_78 rfl) ?_
      refine sd (qv_neq rfl rfl) (fun c36 => ?_) (fun c36 => ?_)
      ·
        refine tl_nil (tp_normal ?_)
        refine tc_true rfl ?_
        refine tc_seq ?_
        refine tc_region ?_
        refine s0 (qv_assign rfl) ?_
        refine tl_nil (tp_normal ?_)
        refine tc_ret (tp_then_ret (tp_end1 rfl rfl ?_))
        intro w' hm
        exact ⟨by rw [shared_len hrs c30 c36], hm.below⟩
      ·
        refine tl_nil (tp_normal ?_)
        refine tc_false rfl ?_
        refine tc_skip (tp_normal ?_)
        refine tc_seq ?_
        refine tc_region ?_
        refine s0 (qv_ldBW (i := 0) ag_24 rfl rfl rfl) ?_
        refine s0 (qv_move rfl) ?_
        refine tl_callR fn_37 rfl (by decide) (fun w hm => join_callsR w n na nc ls lsa lsc (hn.into Mem.has_base hm) hk (hls.into Mem.has_base hm) (fun h hh => ⟨(hins h hh).1.into Mem.has_base hm, (hins h hh).2⟩) hl4) (fun r40 wa40 wb40 hm40 hb40 hr40 => ?_)
        refine s0 (qv_move rfl) ?_
        refine s0 (qv_extract rfl rfl) ?_
        refine s0 (qv_extract rfl rfl) ?_
        refine s0 (qv_assign rfl) ?_
        refine s0 (qv_assign rfl) ?_
        refine tl_nil (tp_normal ?_)
        refine tc_seq ?_
        refine tc_seq ?_
        refine tc_region ?_
        refine s0 (qv_move rfl) ?_
        refine sd (qv_eql rfl rfl) (fun c44 => ?_) (fun c44 => ?_)
        ·
          refine tl_nil (tp_normal ?_)
          refine tc_true rfl ?_
          refine tc_region ?_
          refine s0 (qv_ldBW (i := 0) ag_24 rfl rfl rfl) ?_
          refine s0 (qv_move rfl) ?_
          refine s0 (qv_call fn_35 rfl (fun w hm => fits_calls w n na nc (join n ls).1 r40.1 r40.2 (hn.into Mem.has_base hm) hk (hr40.2.into (Mem.has_kept (by first | exact .head _ | exact .tail _ (.head _) | exact .tail _ (.tail _ (.head _)) | exact .tail _ (.tail _ (.tail _ (.head _))))) hm))) ?_
          refine s0 (qv_assign rfl) ?_
          refine tl_nil (tp_normal ?_)
          refine tc_seq ?_
          refine tc_seq ?_
          refine tc_region ?_
          refine s0 (qv_assign rfl) ?_
          refine tl_nil (tp_normal ?_)
          refine tc_block (tc_loopB (fun (q : Nat × Int) => [(13, .int .i64 (q.1 : Int)), (12, .int .i64 q.2)]) (fun (q : Nat × Int) => []) (fun (q : Nat × Int) => q.1 ≤ ls.length ∧ SharedAt n ls ds q.1 q.2) (fun (q : Nat × Int) => ls.length - q.1) ((0, (fits n (join n ls).1))) ⟨Nat.zero_le _, by first | exact sharedAt_fits hrs c30 c36 (by omega) | exact sharedAt_join hrs c30 c36 c44⟩ ⟨rfl, rfl, trivial⟩ rfl ?_)
          rintro q hJ
          refine tc_seq ?_
          refine tc_seq ?_
          refine tc_region ?_
          refine s0 (qv_move rfl) ?_
          refine s0 (qv_move rfl) ?_
          refine s0 (qv_len st_54 rfl) ?_
          refine sd (qv_lss rfl rfl) (fun c51 => ?_) (fun c51 => ?_)
          ·
            refine s0 (qv_move rfl) ?_
            refine s0g (qv_move rfl) ?_
            refine sdg (qv_eql rfl rfl) (fun c54 => ?_) (fun c54 => ?_)
            ·
              refine s0 (qv_pickT rfl rfl) ?_
              refine tl_nil (tp_normal ?_)
              refine tc_true rfl ?_
              refine tc_skip (tp_normal ?_)
              refine tc_seq ?_
              refine tc_block ?_
              refine tc_draws mixed (by kernel_rfl) ?_
              refine q0 (qv_ldBW (i := 0) ag_24 rfl rfl rfl) ?_
              refine q0 (qv_move rfl) ?_
              refine q0 (qv_move rfl) ?_
              refine qn st_54 hls rfl rfl (by omega) (fun e61 he61 => ?_)
              refine q0 (qv_ldE (j := 0) sc_25 hls Mem.has_base rfl rfl he61 rfl) ?_
              refine q0 (qv_move rfl) ?_
              refine q0 (qv_move rfl) ?_
              refine qn st_78 hds rfl rfl (by omega) (fun e65 he65 => ?_)
              refine q0 (qv_ldEW ag_27 hds Mem.has_base rfl he65) ?_
              refine q0 (qv_call fn_24 rfl (fun w hm => serves_calls w n na nc e61.l e61.a e61.c e65 (hins e61 (List.mem_of_getElem? he61)).2 (hn.into Mem.has_base hm) hk ((hins e61 (List.mem_of_getElem? he61)).1.into Mem.has_base hm))) ?_
              refine q0 (qv_assign rfl) ?_
              refine tq_nil (tp_block_normal (tp_normal ?_))
              refine tc_region ?_
              refine s0 (qv_move rfl) ?_
              refine s0 (qv_succ rfl rfl (by omega)) ?_
              refine s0 (qv_assign rfl) ?_
              exact tl_nil (tp_roundB (q.1 + 1, (serves n e61.l e65)) ⟨by simp only; omega, sharedAt_step hJ.2 c54 he61 he65⟩ (by simp only; omega) ⟨rfl, rfl, trivial⟩ rfl rfl rfl rfl)
            ·
              refine s0 (qv_pickT rfl rfl) ?_
              refine tl_nil (tp_normal ?_)
              refine tc_false rfl ?_
              refine tc_exit (tp_then_exit (tp_then_exit (tp_block_exit (tp_normal ?_))))
              refine tc_seq ?_
              refine tc_region ?_
              refine s0 (qv_move rfl) ?_
              refine s0 (qv_assign rfl) ?_
              refine tl_nil (tp_normal ?_)
              refine tc_ret (tp_end1 rfl rfl ?_)
              intro w' hm
              exact ⟨by rw [sharedAt_end hJ.2 (by first | exact .inl c51 | exact .inr c54)], hm.below⟩
          ·
            refine s0 (qv_move rfl) ?_
            refine sk ?_
            refine sk ?_
            refine s0 (qv_pickF rfl rfl) ?_
            refine tl_nil (tp_normal ?_)
            refine tc_false rfl ?_
            refine tc_exit (tp_then_exit (tp_then_exit (tp_block_exit (tp_normal ?_))))
            refine tc_seq ?_
            refine tc_region ?_
            refine s0 (qv_move rfl) ?_
            refine s0 (qv_assign rfl) ?_
            refine tl_nil (tp_normal ?_)
            refine tc_ret (tp_end1 rfl rfl ?_)
            intro w' hm
            exact ⟨by rw [sharedAt_end hJ.2 (by first | exact .inl c51 | exact .inr c54)], hm.below⟩
        ·
          refine tl_nil (tp_normal ?_)
          refine tc_false rfl ?_
          refine tc_skip (tp_normal ?_)
          refine tc_seq ?_
          refine tc_seq ?_
          refine tc_region ?_
          refine s0 (qv_assign rfl) ?_
          refine tl_nil (tp_normal ?_)
          refine tc_block (tc_loopB (fun (q : Nat × Int) => [(13, .int .i64 (q.1 : Int)), (12, .int .i64 q.2)]) (fun (q : Nat × Int) => []) (fun (q : Nat × Int) => q.1 ≤ ls.length ∧ SharedAt n ls ds q.1 q.2) (fun (q : Nat × Int) => ls.length - q.1) ((0, ((join n ls).2))) ⟨Nat.zero_le _, by first | exact sharedAt_fits hrs c30 c36 (by omega) | exact sharedAt_join hrs c30 c36 c44⟩ ⟨rfl, rfl, trivial⟩ rfl ?_)
          rintro q hJ
          refine tc_seq ?_
          refine tc_seq ?_
          refine tc_region ?_
          refine s0 (qv_move rfl) ?_
          refine s0 (qv_move rfl) ?_
          refine s0 (qv_len st_54 rfl) ?_
          refine sd (qv_lss rfl rfl) (fun c51 => ?_) (fun c51 => ?_)
          ·
            refine s0 (qv_move rfl) ?_
            refine s0g (qv_move rfl) ?_
            refine sdg (qv_eql rfl rfl) (fun c54 => ?_) (fun c54 => ?_)
            ·
              refine s0 (qv_pickT rfl rfl) ?_
              refine tl_nil (tp_normal ?_)
              refine tc_true rfl ?_
              refine tc_skip (tp_normal ?_)
              refine tc_seq ?_
              refine tc_block ?_
              refine tc_draws mixed (by kernel_rfl) ?_
              refine q0 (qv_ldBW (i := 0) ag_24 rfl rfl rfl) ?_
              refine q0 (qv_move rfl) ?_
              refine q0 (qv_move rfl) ?_
              refine qn st_54 hls rfl rfl (by omega) (fun e61 he61 => ?_)
              refine q0 (qv_ldE (j := 0) sc_25 hls Mem.has_base rfl rfl he61 rfl) ?_
              refine q0 (qv_move rfl) ?_
              refine q0 (qv_move rfl) ?_
              refine qn st_78 hds rfl rfl (by omega) (fun e65 he65 => ?_)
              refine q0 (qv_ldEW ag_27 hds Mem.has_base rfl he65) ?_
              refine q0 (qv_call fn_24 rfl (fun w hm => serves_calls w n na nc e61.l e61.a e61.c e65 (hins e61 (List.mem_of_getElem? he61)).2 (hn.into Mem.has_base hm) hk ((hins e61 (List.mem_of_getElem? he61)).1.into Mem.has_base hm))) ?_
              refine q0 (qv_assign rfl) ?_
              refine tq_nil (tp_block_normal (tp_normal ?_))
              refine tc_region ?_
              refine s0 (qv_move rfl) ?_
              refine s0 (qv_succ rfl rfl (by omega)) ?_
              refine s0 (qv_assign rfl) ?_
              exact tl_nil (tp_roundB (q.1 + 1, (serves n e61.l e65)) ⟨by simp only; omega, sharedAt_step hJ.2 c54 he61 he65⟩ (by simp only; omega) ⟨rfl, rfl, trivial⟩ rfl rfl rfl rfl)
            ·
              refine s0 (qv_pickT rfl rfl) ?_
              refine tl_nil (tp_normal ?_)
              refine tc_false rfl ?_
              refine tc_exit (tp_then_exit (tp_then_exit (tp_block_exit (tp_normal ?_))))
              refine tc_seq ?_
              refine tc_region ?_
              refine s0 (qv_move rfl) ?_
              refine s0 (qv_assign rfl) ?_
              refine tl_nil (tp_normal ?_)
              refine tc_ret (tp_end1 rfl rfl ?_)
              intro w' hm
              exact ⟨by rw [sharedAt_end hJ.2 (by first | exact .inl c51 | exact .inr c54)], hm.below⟩
          ·
            refine s0 (qv_move rfl) ?_
            refine sk ?_
            refine sk ?_
            refine s0 (qv_pickF rfl rfl) ?_
            refine tl_nil (tp_normal ?_)
            refine tc_false rfl ?_
            refine tc_exit (tp_then_exit (tp_then_exit (tp_block_exit (tp_normal ?_))))
            refine tc_seq ?_
            refine tc_region ?_
            refine s0 (qv_move rfl) ?_
            refine s0 (qv_assign rfl) ?_
            refine tl_nil (tp_normal ?_)
            refine tc_ret (tp_end1 rfl rfl ?_)
            intro w' hm
            exact ⟨by rw [sharedAt_end hJ.2 (by first | exact .inl c51 | exact .inr c54)], hm.below⟩

set_option maxRecDepth 100000 in
set_option maxHeartbeats 4000000 in
theorem rshared_calls (w : World) (n : Net) (na : Option Addr) (nc : Nat) (ls : List Hd) (lsa : Option Addr) (lsc : Nat) (ds : List Demand) (da : Option Addr) (dc : Nat) (hn : SlIn w 50 encLink na n.links) (hk : NetOk n) (hls : SlIn w 1 encHd lsa ls) (hins : ∀ h ∈ ls, SlIn w 3 encSend h.a h.l ∧ h.l.length ≤ h.c) (hl4 : ls.length ≤ 4) (hds : SlIn w 5 encDem da ds) :
    Calls Try.prog 48 #[.agg (netA n na nc), .slice lsa ls.length lsc, .slice da ds.length dc] w (fun e w' => e = .returned (.int .i64 (shared n ls ds)) ∧ Below w.heap.size w w') := by
  have hlenn := hn.len
  simp only [maxLen] at hlenn
  have hlens := hls.len
  simp only [maxLen] at hlens
  have hlend := hds.len
  simp only [maxLen] at hlend
  refine calls_of_tc (N := 70) (vs := [.agg (netA n na nc), .slice lsa ls.length lsc, .slice da ds.length dc]) Try.func48 rfl rfl (Nat.le_of_ble_eq_true rfl) ?_
  refine tc_seq ?_
  refine tc_region ?_
  refine tl_box rfl (by decide) (fun b3_0 => ?_)
  refine s0 (qv_assign rfl) ?_
  refine tl_nil (tp_normal ?_)
  refine tc_seq ?_
  refine tc_seq ?_
  refine tc_region ?_
  refine s0 (qv_assign rfl) ?_
  refine tl_nil (tp_normal ?_)
  refine tc_block (tc_loopS (fun (k : Nat) => [(7, .int .i64 (k : Int))]) (fun (k : Nat) => k ≤ ls.length ∧ rights n (ls.take k) = 0) (fun (k : Nat) => ls.length - k) (0) ⟨Nat.zero_le _, rfl⟩ ⟨rfl, trivial⟩ ?_)
  rintro k hI
  refine tc_seq ?_
  refine tc_seq ?_
  refine tc_region ?_
  refine s0 (qv_move rfl) ?_
  refine s0 (qv_move rfl) ?_
  refine s0 (qv_len st_54 rfl) ?_
  refine sd (qv_lss rfl rfl) (fun c15 => ?_) (fun c15 => ?_)
  ·
    refine tl_nil (tp_normal ?_)
    refine tc_true rfl ?_
    refine tc_skip (tp_normal ?_)
    refine tc_seq ?_
    refine tc_block ?_
    refine tc_seq ?_
    refine tc_draws mixed (by kernel_rfl) ?_
    refine q0 (qv_ldBW (i := 0) ag_24 rfl rfl rfl) ?_
    refine q0 (qv_move rfl) ?_
    refine q0 (qv_move rfl) ?_
    refine qn st_54 hls rfl rfl (by omega) (fun e21 he21 => ?_)
    refine q0 (qv_ldE (j := 0) sc_25 hls Mem.has_base rfl rfl he21 rfl) ?_
    refine q0 (qv_call fn_34 rfl (fun w hm => rright_calls w n na nc e21.l e21.a e21.c (hn.into Mem.has_base hm) hk ((hins e21 (List.mem_of_getElem? he21)).1.into Mem.has_base hm))) ?_
    refine q0 (qv_assign rfl) ?_
    refine tq_nil (tp_normal ?_)
    refine tc_seq ?_
    refine tc_region ?_
    refine s0 (qv_move rfl) ?_
    refine sd (qv_neq rfl rfl) (fun c25 => ?_) (fun c25 => ?_)
    ·
      refine tl_nil (tp_normal ?_)
      refine tc_true rfl ?_
      refine tc_seq ?_
      refine tc_region ?_
      refine s0 (qv_move rfl) ?_
      refine s0 (qv_assign rfl) ?_
      refine tl_nil (tp_normal ?_)
      refine tc_ret (tp_block_ret (tp_then_ret (tp_then_ret (tp_block_ret (tp_then_ret (tp_end1 rfl rfl ?_))))))
      intro w' hm
      exact ⟨by rw [shared_rights (by rw [rights_stop he21 hI.2 c25]; exact c25), rights_stop he21 hI.2 c25], hm.below⟩
    ·
      refine tl_nil (tp_normal ?_)
      refine tc_false rfl ?_
      refine tc_skip (tp_block_normal (tp_normal ?_))
      refine tc_region ?_
      refine s0 (qv_move rfl) ?_
      refine s0 (qv_succ rfl rfl (by omega)) ?_
      refine s0 (qv_assign rfl) ?_
      exact tl_nil (tp_roundS (k + 1) ⟨by omega, rights_step he21 hI.2 (by omega)⟩ (by omega) ⟨rfl, trivial⟩ rfl rfl rfl rfl)
  ·
    refine tl_nil (tp_normal ?_)
    refine tc_false rfl ?_
    refine tc_exit (tp_then_exit (tp_then_exit (tp_block_exit (tp_normal ?_))))
    refine tc_seq ?_
    have hrs : rights n ls = 0 := by (have h_ := hI.2; rwa [take_all (by omega)] at h_)
    refine tc_region ?_
    refine s0 (qv_ldBW (i := 0) ag_24 rfl rfl rfl) ?_
    refine s0 (qv_call fn_40 rfl (fun w hm => rcheck_calls w n na nc (hn.into Mem.has_base hm) hk)) ?_
    refine s0 (qv_assign rfl) ?_
    refine tl_nil (tp_normal ?_)
    refine tc_seq ?_
    refine tc_seq ?_
    refine tc_region ?_
    refine s0 (qv_move rfl) ?_
    refine sd (qv_neq rfl rfl) (fun c30 => ?_) (fun c30 => ?_)
    ·
      refine tl_nil (tp_normal ?_)
      refine tc_true rfl ?_
      refine tc_seq ?_
      refine tc_region ?_
      refine s0 (qv_move rfl) ?_
      refine s0 (qv_assign rfl) ?_
      refine tl_nil (tp_normal ?_)
      refine tc_ret (tp_then_ret (tp_end1 rfl rfl ?_))
      intro w' hm
      exact ⟨by rw [shared_check hrs c30], hm.below⟩
    ·
      refine tl_nil (tp_normal ?_)
      refine tc_false rfl ?_
      refine tc_skip (tp_normal ?_)
      refine tc_seq ?_
      refine tc_seq ?_
      refine tc_region ?_
      refine s0 (qv_move rfl) ?_
      refine s0 (qv_len st_54 rfl) ?_
      refine s0 (qv_move rfl) ?_
      refine s0 (qv_len st_78 rfl) ?_
      refine sd (qv_neq rfl rfl) (fun c36 => ?_) (fun c36 => ?_)
      ·
        refine tl_nil (tp_normal ?_)
        refine tc_true rfl ?_
        refine tc_seq ?_
        refine tc_region ?_
        refine s0 (qv_assign rfl) ?_
        refine tl_nil (tp_normal ?_)
        refine tc_ret (tp_then_ret (tp_end1 rfl rfl ?_))
        intro w' hm
        exact ⟨by rw [shared_len hrs c30 c36], hm.below⟩
      ·
        refine tl_nil (tp_normal ?_)
        refine tc_false rfl ?_
        refine tc_skip (tp_normal ?_)
        refine tc_seq ?_
        refine tc_region ?_
        refine s0 (qv_ldBW (i := 0) ag_24 rfl rfl rfl) ?_
        refine s0 (qv_move rfl) ?_
        refine tl_callR fn_38 rfl (by decide) (fun w hm => rjoin_callsR w n na nc ls lsa lsc (hn.into Mem.has_base hm) hk (hls.into Mem.has_base hm) (fun h hh => ⟨(hins h hh).1.into Mem.has_base hm, (hins h hh).2⟩) hl4) (fun r39 wa39 wb39 hm39 hb39 hr39 => ?_)
        refine tl_alloc ze_63 (by decide) (fun b10_1 => ?_)
        refine tl_storeO (i := 0) sz_63 rfl rfl rfl rfl rfl rfl rfl ?_
        refine tl_nil (tp_normal ?_)
        refine tc_seq ?_
        refine tc_seq ?_
        refine tc_region ?_
        refine s0 (qv_fa fo_63_1 rfl) ?_
        refine s0 (qv_ldB (i := 0) sc_29 rfl rfl rfl) ?_
        refine sd (qv_neq rfl rfl) (fun c42 => ?_) (fun c42 => ?_)
        ·
          refine tl_nil (tp_normal ?_)
          refine tc_true rfl ?_
          refine tc_seq ?_
          refine tc_region ?_
          refine s0 (qv_fa fo_63_1 rfl) ?_
          refine s0 (qv_ldB (i := 0) sc_29 rfl rfl rfl) ?_
          refine s0 (qv_assign rfl) ?_
          refine tl_nil (tp_normal ?_)
          refine tc_ret (tp_then_ret (tp_end1 rfl rfl ?_))
          intro w' hm
          exact ⟨by rw [shared_join hrs c30 c36 c42]; rfl, hm.below⟩
        ·
          refine tl_nil (tp_normal ?_)
          refine tc_false rfl ?_
          refine tc_skip (tp_normal ?_)
          refine tc_seq ?_
          refine tc_region ?_
          refine s0 (qv_ldBW (i := 1) ag_24 rfl rfl rfl) ?_
          refine s0 (qv_fa fo_63_0 rfl) ?_
          refine s0 (qv_ldB (i := 0) sc_25 rfl rfl rfl) ?_
          refine s0 (qv_call fn_36 rfl (fun w hm => rfits_calls w n na nc (join n ls).1 r39.1 r39.2 (hn.into Mem.has_base hm) hk (hr39.2.into (Mem.has_kept (by first | exact .head _ | exact .tail _ (.head _) | exact .tail _ (.tail _ (.head _)) | exact .tail _ (.tail _ (.tail _ (.head _))))) hm))) ?_
          refine s0 (qv_assign rfl) ?_
          refine tl_nil (tp_normal ?_)
          refine tc_seq ?_
          refine tc_seq ?_
          refine tc_region ?_
          refine s0 (qv_assign rfl) ?_
          refine tl_nil (tp_normal ?_)
          refine tc_block (tc_loopB (fun (q : Nat × Int) => [(11, .int .i64 (q.1 : Int)), (9, .int .i64 q.2)]) (fun (q : Nat × Int) => []) (fun (q : Nat × Int) => q.1 ≤ ls.length ∧ SharedAt n ls ds q.1 q.2) (fun (q : Nat × Int) => ls.length - q.1) ((0, (fits n (join n ls).1))) ⟨Nat.zero_le _, by first | exact sharedAt_fits hrs c30 c36 (by omega) | exact sharedAt_join hrs c30 c36 c42⟩ ⟨rfl, rfl, trivial⟩ rfl ?_)
          rintro q hJ
          refine tc_seq ?_
          refine tc_seq ?_
          refine tc_region ?_
          refine s0 (qv_move rfl) ?_
          refine s0 (qv_move rfl) ?_
          refine s0 (qv_len st_54 rfl) ?_
          refine sd (qv_lss rfl rfl) (fun c52 => ?_) (fun c52 => ?_)
          ·
            refine s0 (qv_move rfl) ?_
            refine s0g (qv_move rfl) ?_
            refine sdg (qv_eql rfl rfl) (fun c55 => ?_) (fun c55 => ?_)
            ·
              refine s0 (qv_pickT rfl rfl) ?_
              refine tl_nil (tp_normal ?_)
              refine tc_true rfl ?_
              refine tc_skip (tp_normal ?_)
              refine tc_seq ?_
              refine tc_block ?_
              refine tc_draws mixed (by kernel_rfl) ?_
              refine q0 (qv_ldBW (i := 1) ag_24 rfl rfl rfl) ?_
              refine q0 (qv_move rfl) ?_
              refine q0 (qv_move rfl) ?_
              refine qn st_54 hls rfl rfl (by omega) (fun e62 he62 => ?_)
              refine q0 (qv_ldE (j := 0) sc_25 hls Mem.has_base rfl rfl he62 rfl) ?_
              refine q0 (qv_move rfl) ?_
              refine q0 (qv_move rfl) ?_
              refine qn st_78 hds rfl rfl (by omega) (fun e66 he66 => ?_)
              refine q0 (qv_ldEW ag_27 hds Mem.has_base rfl he66) ?_
              refine q0 (qv_call fn_46 rfl (fun w hm => rserves_calls w n na nc e62.l e62.a e62.c e66 (hn.into Mem.has_base hm) hk ((hins e62 (List.mem_of_getElem? he62)).1.into Mem.has_base hm))) ?_
              refine q0 (qv_assign rfl) ?_
              refine tq_nil (tp_block_normal (tp_normal ?_))
              refine tc_region ?_
              refine s0 (qv_move rfl) ?_
              refine s0 (qv_succ rfl rfl (by omega)) ?_
              refine s0 (qv_assign rfl) ?_
              exact tl_nil (tp_roundB (q.1 + 1, (serves n e62.l e66)) ⟨by simp only; omega, sharedAt_step hJ.2 c55 he62 he66⟩ (by simp only; omega) ⟨rfl, rfl, trivial⟩ rfl rfl rfl rfl)
            ·
              refine s0 (qv_pickT rfl rfl) ?_
              refine tl_nil (tp_normal ?_)
              refine tc_false rfl ?_
              refine tc_exit (tp_then_exit (tp_then_exit (tp_block_exit (tp_normal ?_))))
              refine tc_seq ?_
              refine tc_region ?_
              refine s0 (qv_move rfl) ?_
              refine s0 (qv_assign rfl) ?_
              refine tl_nil (tp_normal ?_)
              refine tc_ret (tp_end1 rfl rfl ?_)
              intro w' hm
              exact ⟨by rw [sharedAt_end hJ.2 (by first | exact .inl c52 | exact .inr c55)], hm.below⟩
          ·
            refine s0 (qv_move rfl) ?_
            refine sk ?_
            refine sk ?_
            refine s0 (qv_pickF rfl rfl) ?_
            refine tl_nil (tp_normal ?_)
            refine tc_false rfl ?_
            refine tc_exit (tp_then_exit (tp_then_exit (tp_block_exit (tp_normal ?_))))
            refine tc_seq ?_
            refine tc_region ?_
            refine s0 (qv_move rfl) ?_
            refine s0 (qv_assign rfl) ?_
            refine tl_nil (tp_normal ?_)
            refine tc_ret (tp_end1 rfl rfl ?_)
            intro w' hm
            exact ⟨by rw [sharedAt_end hJ.2 (by first | exact .inl c52 | exact .inr c55)], hm.below⟩

set_option maxRecDepth 100000 in
set_option maxHeartbeats 4000000 in
theorem law_serves (w : World) (n : Net) (na : Option Addr) (nc : Nat) (ls : List Hd) (lsa : Option Addr) (lsc : Nat) (ds : List Demand) (da : Option Addr) (dc : Nat) (x0 x1 : Int) (hn : SlIn w 50 encLink na n.links) (hk : NetOk n) (hls : SlIn w 1 encHd lsa ls) (hins : ∀ h ∈ ls, SlIn w 3 encSend h.a h.l ∧ h.l.length ≤ h.c) (hds : SlIn w 5 encDem da ds) :
    Calls Try.prog 13 #[.agg (netA n na nc), .slice lsa ls.length lsc, .slice da ds.length dc, .agg #[.int .i64 x0, .int .i64 x1]] w (fun e w' => e = .returned (.bool true) ∧ Below w.heap.size w w') := by
  have hlenn := hn.len
  simp only [maxLen] at hlenn
  have hlens := hls.len
  simp only [maxLen] at hlens
  have hlend := hds.len
  simp only [maxLen] at hlend
  refine calls_of_tc (N := 151) (vs := [.agg (netA n na nc), .slice lsa ls.length lsc, .slice da ds.length dc, .agg #[.int .i64 x0, .int .i64 x1]]) Try.func13 rfl rfl (Nat.le_of_ble_eq_true rfl) ?_
  refine tc_seq ?_
  refine tc_region ?_
  refine tl_box rfl (by decide) (fun b4_0 => ?_)
  refine tl_box rfl (by decide) (fun b7_1 => ?_)
  refine s0 (qv_assign rfl) ?_
  refine tl_nil (tp_normal ?_)
  refine tc_seq ?_
  refine tc_region ?_
  refine s0 (qv_ldBW (i := 1) ag_24 rfl rfl rfl) ?_
  refine s0 (qv_move rfl) ?_
  refine sd (qv_call fn_29 rfl (fun w hm => few_calls w n na nc ls lsa lsc (60) (hn.into Mem.has_base hm) hk (hls.into Mem.has_base hm))) (fun c19 => ?_) (fun c19 => ?_)
  ·
    refine s0 (qv_assign rfl) ?_
    refine tl_nil (tp_normal ?_)
    refine tc_seq ?_
    refine tc_seq ?_
    refine tc_region ?_
    refine s0 (qv_move rfl) ?_
    refine s0 (qv_not rfl) ?_
    refine s0 (qv_move rfl) ?_
    refine s0g (qv_move rfl) ?_
    refine s0g (qv_len st_78 rfl) ?_
    refine sdg (qv_gtr rfl rfl) (fun c25 => ?_) (fun c25 => ?_)
    ·
      refine s0 (qv_pickF rfl rfl) ?_
      refine tl_nil (tp_normal ?_)
      refine tc_true rfl ?_
      refine tc_seq ?_
      refine tc_region ?_
      refine s0 (qv_call fn_30 rfl (fun w hm => sanity_calls w)) ?_
      refine s0 (qv_assign rfl) ?_
      refine tl_nil (tp_normal ?_)
      refine tc_ret (tp_then_ret (tp_end1 rfl rfl ?_))
      intro w' hm
      exact ⟨rfl, hm.below⟩
    ·
      refine s0 (qv_pickF rfl rfl) ?_
      refine tl_nil (tp_normal ?_)
      refine tc_false rfl ?_
      refine tc_skip (tp_normal ?_)
      refine tc_seq ?_
      refine tc_seq ?_
      have hl4 := c19.2.1
      refine tc_region ?_
      refine s0 (qv_assign rfl) ?_
      refine tl_nil (tp_normal ?_)
      refine tc_block (tc_loopS (fun (k : Nat) => [(10, .int .i64 (k : Int))]) (fun (k : Nat) => k ≤ ls.length) (fun (k : Nat) => ls.length - k) (0) (Nat.zero_le _) ⟨rfl, trivial⟩ ?_)
      rintro k hI
      refine tc_seq ?_
      refine tc_seq ?_
      refine tc_region ?_
      refine s0 (qv_move rfl) ?_
      refine s0 (qv_move rfl) ?_
      refine s0 (qv_len st_54 rfl) ?_
      refine sd (qv_lss rfl rfl) (fun c31 => ?_) (fun c31 => ?_)
      ·
        refine s0 (qv_move rfl) ?_
        refine s0g (qv_move rfl) ?_
        refine s0g (qv_move rfl) ?_
        refine s0g (qv_len st_78 rfl) ?_
        refine sdg (qv_lss rfl rfl) (fun c36 => ?_) (fun c36 => ?_)
        ·
          refine s0 (qv_pickT rfl rfl) ?_
          refine tl_nil (tp_normal ?_)
          refine tc_true rfl ?_
          refine tc_skip (tp_normal ?_)
          refine tc_seq ?_
          refine tc_block ?_
          refine tc_seq ?_
          refine tc_draws mixed (by kernel_rfl) ?_
          refine q0 (qv_ldBW (i := 1) ag_24 rfl rfl rfl) ?_
          refine q0 (qv_move rfl) ?_
          refine q0 (qv_move rfl) ?_
          refine qn st_54 hls rfl rfl (by omega) (fun e44 he44 => ?_)
          refine q0 (qv_ldE (j := 0) sc_25 hls Mem.has_base rfl rfl he44 rfl) ?_
          refine q0 (qv_move rfl) ?_
          refine q0 (qv_move rfl) ?_
          refine qn st_78 hds rfl rfl (by omega) (fun e48 he48 => ?_)
          refine q0 (qv_ldEW ag_27 hds Mem.has_base rfl he48) ?_
          refine q0 (qv_iA at_55 rfl rfl (by omega)) ?_
          refine q0 (qv_ldB (i := 0) sc_3 rfl rfl rfl) ?_
          refine q0 (qv_iA at_55 rfl rfl (by omega)) ?_
          refine q0 (qv_ldB (i := 0) sc_3 rfl rfl rfl) ?_
          refine q0 (qv_call fn_42 rfl (fun w hm => Stock_calls w n na nc e44.l e44.a e44.c e48 x0 x1 (hn.into Mem.has_base hm) hk ((hins e44 (List.mem_of_getElem? he44)).1.into Mem.has_base hm))) ?_
          refine q0 (qv_move rfl) ?_
          refine q0 (qv_extract rfl rfl) ?_
          refine q0 (qv_extract rfl rfl) ?_
          refine q0 (qv_assign rfl) ?_
          refine q0 (qv_assign rfl) ?_
          refine tq_nil (tp_normal ?_)
          refine tc_seq ?_
          refine tc_drawU 15 14 mixed (by kernel_rfl) ?_
          refine q0 (qv_ldBW (i := 1) ag_24 rfl rfl rfl) ?_
          refine q0 (qv_move rfl) ?_
          refine q0 (qv_move rfl) ?_
          refine qn st_54 hls rfl rfl (by omega) (fun e60 he60 => ?_)
          obtain rfl : e44 = e60 := Option.some.inj (he44.symm.trans he60)
          refine q0 (qv_ldE (j := 0) sc_25 hls Mem.has_base rfl rfl he44 rfl) ?_
          refine q0 (qv_move rfl) ?_
          refine q0 (qv_move rfl) ?_
          refine qn st_78 hds rfl rfl (by omega) (fun e64 he64 => ?_)
          obtain rfl : e48 = e64 := Option.some.inj (he48.symm.trans he64)
          refine q0 (qv_ldEW ag_27 hds Mem.has_base rfl he48) ?_
          refine q0 (qv_iA at_55 rfl rfl (by omega)) ?_
          refine q0 (qv_ldB (i := 0) sc_3 rfl rfl rfl) ?_
          refine q0 (qv_iA at_55 rfl rfl (by omega)) ?_
          refine q0 (qv_ldB (i := 0) sc_3 rfl rfl rfl) ?_
          refine q0 (qv_call fn_44 rfl (fun w hm => rStock_calls w n na nc e44.l e44.a e44.c e48 x0 x1 (hn.into Mem.has_base hm) hk ((hins e44 (List.mem_of_getElem? he44)).1.into Mem.has_base hm))) ?_
          refine tq_up ?_
          refine tu_one 14 ?_ (by kernel_rfl) (by kernel_rfl) (by kernel_rfl)
          refine tg_alloc ze_57 (fun b13_2 => ?_) (fun _ _ h => hD_drop rfl rfl _ h)
          refine tu_tail rfl rfl rfl (by kernel_rfl) ?_
          refine tl_storeO (i := 0) sz_57 rfl rfl rfl rfl rfl rfl rfl ?_
          refine tl_nil (tp_normal ?_)
          refine tc_seq ?_
          refine tc_draws mixed (by kernel_rfl) ?_
          refine q0 (qv_ldBW (i := 2) ag_24 rfl rfl rfl) ?_
          refine q0 (qv_move rfl) ?_
          refine q0 (qv_move rfl) ?_
          refine qn st_54 hls rfl rfl (by omega) (fun e75 he75 => ?_)
          obtain rfl : e44 = e75 := Option.some.inj (he44.symm.trans he75)
          refine q0 (qv_ldE (j := 0) sc_25 hls Mem.has_base rfl rfl he44 rfl) ?_
          refine q0 (qv_move rfl) ?_
          refine q0 (qv_move rfl) ?_
          refine qn st_78 hds rfl rfl (by omega) (fun e79 he79 => ?_)
          obtain rfl : e48 = e79 := Option.some.inj (he48.symm.trans he79)
          refine q0 (qv_ldEW ag_27 hds Mem.has_base rfl he48) ?_
          refine q0 (qv_call fn_28 rfl (fun w hm => arrives_calls w n na nc e44.l e44.a e44.c e48 (hins e44 (List.mem_of_getElem? he44)).2 (hn.into Mem.has_base hm) hk ((hins e44 (List.mem_of_getElem? he44)).1.into Mem.has_base hm))) ?_
          refine q0 (qv_move rfl) ?_
          refine q0 (qv_extract rfl rfl) ?_
          refine q0 (qv_extract rfl rfl) ?_
          refine q0 (qv_assign rfl) ?_
          refine q0 (qv_assign rfl) ?_
          refine tq_nil (tp_normal ?_)
          refine tc_seq ?_
          refine tc_drawU 11 10 mixed (by kernel_rfl) ?_
          refine q0 (qv_ldBW (i := 2) ag_24 rfl rfl rfl) ?_
          refine q0 (qv_move rfl) ?_
          refine q0 (qv_move rfl) ?_
          refine qn st_54 hls rfl rfl (by omega) (fun e87 he87 => ?_)
          obtain rfl : e44 = e87 := Option.some.inj (he44.symm.trans he87)
          refine q0 (qv_ldE (j := 0) sc_25 hls Mem.has_base rfl rfl he44 rfl) ?_
          refine q0 (qv_move rfl) ?_
          refine q0 (qv_move rfl) ?_
          refine qn st_78 hds rfl rfl (by omega) (fun e91 he91 => ?_)
          obtain rfl : e48 = e91 := Option.some.inj (he48.symm.trans he91)
          refine q0 (qv_ldEW ag_27 hds Mem.has_base rfl he48) ?_
          refine q0 (qv_call fn_45 rfl (fun w hm => rarrives_calls w n na nc e44.l e44.a e44.c e48 (hn.into Mem.has_base hm) hk ((hins e44 (List.mem_of_getElem? he44)).1.into Mem.has_base hm))) ?_
          refine tq_up ?_
          refine tu_one 10 ?_ (by kernel_rfl) (by kernel_rfl) (by kernel_rfl)
          refine tg_alloc ze_57 (fun b16_3 => ?_) (fun _ _ h => hD_drop rfl rfl _ h)
          refine tu_tail rfl rfl rfl (by kernel_rfl) ?_
          refine tl_storeO (i := 0) sz_57 rfl rfl rfl rfl rfl rfl rfl ?_
          refine tl_nil (tp_normal ?_)
          refine tc_seq ?_
          refine tc_draws mixed (by kernel_rfl) ?_
          refine q0 (qv_move rfl) ?_
          refine q0 (qv_fa fo_57_0 rfl) ?_
          refine q0 (qv_ldB (i := 1) sc_3 rfl rfl rfl) ?_
          refine q0 (qv_neSelf rfl rfl) ?_
          refine q0 (qv_move rfl) ?_
          refine q0g (qv_move rfl) ?_
          refine q0g (qv_fa fo_57_1 rfl) ?_
          refine q0g (qv_ldB (i := 1) sc_29 rfl rfl rfl) ?_
          refine q0g (qv_neSelf rfl rfl) ?_
          refine q0 (qv_pickF rfl rfl) ?_
          refine q0 (qv_move rfl) ?_
          refine q0g (qv_move rfl) ?_
          refine q0g (qv_fa fo_57_0 rfl) ?_
          refine q0g (qv_ldB (i := 0) sc_3 rfl rfl rfl) ?_
          refine q0g (qv_neSelf rfl rfl) ?_
          refine q0 (qv_pickF rfl rfl) ?_
          refine q0 (qv_move rfl) ?_
          refine q0g (qv_move rfl) ?_
          refine q0g (qv_fa fo_57_1 rfl) ?_
          refine q0g (qv_ldB (i := 0) sc_29 rfl rfl rfl) ?_
          refine q0g (qv_neSelf rfl rfl) ?_
          refine q0 (qv_pickF rfl rfl) ?_
          refine q0 (qv_move rfl) ?_
          refine q0g (qv_ldBW (i := 3) ag_24 rfl rfl rfl) ?_
          refine q0g (qv_move rfl) ?_
          refine q0g (qv_move rfl) ?_
          refine qng st_54 hls rfl rfl (by omega) (fun e120 he120 => ?_)
          obtain rfl : e44 = e120 := Option.some.inj (he44.symm.trans he120)
          refine q0g (qv_ldE (j := 0) sc_25 hls Mem.has_base rfl rfl he44 rfl) ?_
          refine q0g (qv_move rfl) ?_
          refine q0g (qv_move rfl) ?_
          refine qng st_78 hds rfl rfl (by omega) (fun e124 he124 => ?_)
          obtain rfl : e48 = e124 := Option.some.inj (he48.symm.trans he124)
          refine q0g (qv_ldEW ag_27 hds Mem.has_base rfl he48) ?_
          refine q0g (qv_call fn_24 rfl (fun w hm => serves_calls w n na nc e44.l e44.a e44.c e48 (hins e44 (List.mem_of_getElem? he44)).2 (hn.into Mem.has_base hm) hk ((hins e44 (List.mem_of_getElem? he44)).1.into Mem.has_base hm))) ?_
          refine q0g (qv_ldBW (i := 3) ag_24 rfl rfl rfl) ?_
          refine q0g (qv_move rfl) ?_
          refine q0g (qv_move rfl) ?_
          refine qng st_54 hls rfl rfl (by omega) (fun e130 he130 => ?_)
          obtain rfl : e44 = e130 := Option.some.inj (he44.symm.trans he130)
          refine q0g (qv_ldE (j := 0) sc_25 hls Mem.has_base rfl rfl he44 rfl) ?_
          refine q0g (qv_move rfl) ?_
          refine q0g (qv_move rfl) ?_
          refine qng st_78 hds rfl rfl (by omega) (fun e134 he134 => ?_)
          obtain rfl : e48 = e134 := Option.some.inj (he48.symm.trans he134)
          refine q0g (qv_ldEW ag_27 hds Mem.has_base rfl he48) ?_
          refine q0g (qv_call fn_46 rfl (fun w hm => rserves_calls w n na nc e44.l e44.a e44.c e48 (hn.into Mem.has_base hm) hk ((hins e44 (List.mem_of_getElem? he44)).1.into Mem.has_base hm))) ?_
          refine q0g (qv_neSelf rfl rfl) ?_
          refine q0 (qv_pickF rfl rfl) ?_
          refine tq_nil (tp_normal ?_)
          refine tc_false rfl ?_
          refine tc_skip (tp_block_normal (tp_normal ?_))
          refine tc_region ?_
          refine s0 (qv_move rfl) ?_
          refine s0 (qv_succ rfl rfl (by omega)) ?_
          refine s0 (qv_assign rfl) ?_
          exact tl_nil (tp_roundS (k + 1) (by omega) (by omega) ⟨rfl, trivial⟩ rfl rfl rfl rfl)
        ·
          refine s0 (qv_pickT rfl rfl) ?_
          refine tl_nil (tp_normal ?_)
          refine tc_false rfl ?_
          refine tc_exit (tp_then_exit (tp_then_exit (tp_block_exit (tp_normal ?_))))
          refine tc_seq ?_
          refine tc_draws mixed (by kernel_rfl) ?_
          refine q0 (qv_call fn_30 rfl (fun w hm => sanity_calls w)) ?_
          refine q0 (qv_move rfl) ?_
          refine q0g (qv_ldBW (i := 1) ag_24 rfl rfl rfl) ?_
          refine q0g (qv_move rfl) ?_
          refine q0g (qv_move rfl) ?_
          refine q0g (qv_call fn_47 rfl (fun w hm => shared_calls w n na nc ls lsa lsc ds da dc (hn.into Mem.has_base hm) hk (hls.into Mem.has_base hm) (fun h hh => ⟨(hins h hh).1.into Mem.has_base hm, (hins h hh).2⟩) hl4 (hds.into Mem.has_base hm))) ?_
          refine q0g (qv_ldBW (i := 1) ag_24 rfl rfl rfl) ?_
          refine q0g (qv_move rfl) ?_
          refine q0g (qv_move rfl) ?_
          refine q0g (qv_call fn_48 rfl (fun w hm => rshared_calls w n na nc ls lsa lsc ds da dc (hn.into Mem.has_base hm) hk (hls.into Mem.has_base hm) (fun h hh => ⟨(hins h hh).1.into Mem.has_base hm, (hins h hh).2⟩) hl4 (hds.into Mem.has_base hm))) ?_
          refine q0g (qv_eqSelf rfl rfl) ?_
          refine q0 (qv_pickT rfl rfl) ?_
          refine q0 (qv_assign rfl) ?_
          refine tq_nil (tp_normal ?_)
          refine tc_ret (tp_end1 rfl rfl ?_)
          intro w' hm
          exact ⟨rfl, hm.below⟩
      ·
        refine s0 (qv_move rfl) ?_
        refine sk ?_
        refine sk ?_
        refine sk ?_
        refine sk ?_
        refine s0 (qv_pickF rfl rfl) ?_
        refine tl_nil (tp_normal ?_)
        refine tc_false rfl ?_
        refine tc_exit (tp_then_exit (tp_then_exit (tp_block_exit (tp_normal ?_))))
        refine tc_seq ?_
        refine tc_draws mixed (by kernel_rfl) ?_
        refine q0 (qv_call fn_30 rfl (fun w hm => sanity_calls w)) ?_
        refine q0 (qv_move rfl) ?_
        refine q0g (qv_ldBW (i := 1) ag_24 rfl rfl rfl) ?_
        refine q0g (qv_move rfl) ?_
        refine q0g (qv_move rfl) ?_
        refine q0g (qv_call fn_47 rfl (fun w hm => shared_calls w n na nc ls lsa lsc ds da dc (hn.into Mem.has_base hm) hk (hls.into Mem.has_base hm) (fun h hh => ⟨(hins h hh).1.into Mem.has_base hm, (hins h hh).2⟩) hl4 (hds.into Mem.has_base hm))) ?_
        refine q0g (qv_ldBW (i := 1) ag_24 rfl rfl rfl) ?_
        refine q0g (qv_move rfl) ?_
        refine q0g (qv_move rfl) ?_
        refine q0g (qv_call fn_48 rfl (fun w hm => rshared_calls w n na nc ls lsa lsc ds da dc (hn.into Mem.has_base hm) hk (hls.into Mem.has_base hm) (fun h hh => ⟨(hins h hh).1.into Mem.has_base hm, (hins h hh).2⟩) hl4 (hds.into Mem.has_base hm))) ?_
        refine q0g (qv_eqSelf rfl rfl) ?_
        refine q0 (qv_pickT rfl rfl) ?_
        refine q0 (qv_assign rfl) ?_
        refine tq_nil (tp_normal ?_)
        refine tc_ret (tp_end1 rfl rfl ?_)
        intro w' hm
        exact ⟨rfl, hm.below⟩
  ·
    refine s0 (qv_assign rfl) ?_
    refine tl_nil (tp_normal ?_)
    refine tc_seq ?_
    refine tc_seq ?_
    refine tc_region ?_
    refine s0 (qv_move rfl) ?_
    refine s0 (qv_not rfl) ?_
    refine s0 (qv_move rfl) ?_
    refine sk ?_
    refine sk ?_
    refine sk ?_
    refine s0 (qv_pickT rfl rfl) ?_
    refine tl_nil (tp_normal ?_)
    refine tc_true rfl ?_
    refine tc_seq ?_
    refine tc_region ?_
    refine s0 (qv_call fn_30 rfl (fun w hm => sanity_calls w)) ?_
    refine s0 (qv_assign rfl) ?_
    refine tl_nil (tp_normal ?_)
    refine tc_ret (tp_then_ret (tp_end1 rfl rfl ?_))
    intro w' hm
    exact ⟨rfl, hm.below⟩

end Go.Q
