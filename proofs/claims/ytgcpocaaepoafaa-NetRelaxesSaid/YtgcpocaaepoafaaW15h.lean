/- A part of the proof: see the last text. -/
import Derived.Test.YtgcpocaaepoafaaQ15
import Derived.Test.YtgcpocaaepoafaaS15c
import Derived.Test.YtgcpocaaepoafaaS15d
import Derived.Test.YtgcpocaaepoafaaW15s
import Derived.Test.YtgcpocaaepoafaaQ12
import Derived.Test.YtgcpocaaepoafaaS15
import Derived.Test.YtgcpocaaepoafaaW15g
import Derived.Test.YtgcpocaaepoafaaProg
set_option linter.unusedVariables false
set_option linter.unusedSimpArgs false
set_option linter.unusedSectionVars false
namespace Go.Q
open Go Go.Proofs Go.RowKit
theorem bsl_54_1 : BuildSl Try.prog 54 1 25 1 #[.slice none 0 0] := ⟨Try.underlying54, sz_25, by decide, by decide, _, ze_25, by kernel_rfl⟩
set_option maxRecDepth 100000 in
set_option maxHeartbeats 4000000 in
theorem law_conserves (w : World) (n : Net) (na : Option Addr) (nc : Nat) (l : List Send) (la : Option Addr) (lc : Nat) (d : Demand) (tick : Int) (hn : SlIn w 50 encLink na n.links) (hk : NetOk n) (hl : SlIn w 3 encSend la l) (hlc : l.length ≤ lc) :
    Calls Try.prog 9 #[.agg (netA n na nc), .slice la l.length lc, .agg (demA d), .int .i64 tick] w (fun e w' => e = .returned (.bool true) ∧ Below w.heap.size w w') := by
  have hlen := hl.len
  simp only [maxLen] at hlen
  have hlenn := hn.len
  simp only [maxLen] at hlenn
  refine calls_of_tc (N := 98) (vs := [.agg (netA n na nc), .slice la l.length lc, .agg (demA d), .int .i64 tick]) Try.func9 rfl rfl (Nat.le_of_ble_eq_true rfl) ?_
  refine tc_seq ?_
  refine tc_region ?_
  refine tl_box rfl (by decide) (fun b4_0 => ?_)
  refine tl_box rfl (by decide) (fun b6_1 => ?_)
  refine s0 (qv_assign rfl) ?_
  refine tl_nil (tp_normal ?_)
  refine tc_seq ?_
  refine tc_region ?_
  refine s0 (qv_ldBW (i := 1) ag_24 rfl rfl rfl) ?_
  refine s0 (qv_move rfl) ?_
  refine tl_buildSliceL (enc := encHd) [⟨l, la, lc⟩] bsl_54_1 (fun b17_2 => ?_) rfl (by kernel_rfl)
  have hsb17_2 := SlAt.ofBox (enc := encHd) (sz := 1) (b := b17_2) (E := 25) (l := [⟨l, la, lc⟩]) (Nat.le_of_ble_eq_true rfl) (fun _ _ => rfl)
  refine sd (qv_call fn_29 rfl (fun w hm => few_calls w n na nc [⟨l, la, lc⟩] (some ⟨b17_2, 0, none⟩) 1 (60) (hn.into Mem.has_base hm) hk (hsb17_2.into (Mem.has_box (by repeat (first | exact List.Mem.head _ | refine List.Mem.tail _ ?_))) hm))) (fun c18 => ?_) (fun c18 => ?_)
  ·
    refine s0 (qv_assign rfl) ?_
    refine tl_nil (tp_normal ?_)
    refine tc_seq ?_
    refine tc_seq ?_
    refine tc_region ?_
    refine s0 (qv_move rfl) ?_
    refine s0 (qv_not rfl) ?_
    refine s0 (qv_move rfl) ?_
    refine s0g (qv_ldBW (i := 2) ag_24 rfl rfl rfl) ?_
    refine s0g (qv_move rfl) ?_
    refine s0g (qv_ldBW (i := 1) ag_27 rfl rfl rfl) ?_
    refine s0g (qv_call fn_24 rfl (fun w hm => serves_calls w n na nc l la lc d hlc (hn.into Mem.has_base hm) hk (hl.into Mem.has_base hm))) ?_
    refine sdg (qv_neq rfl rfl) (fun c26 => ?_) (fun c26 => ?_)
    ·
      refine s0 (qv_pickF rfl rfl) ?_
      refine s0 (qv_move rfl) ?_
      refine sk ?_
      refine sk ?_
      refine s0 (qv_pickT rfl rfl) ?_
      refine s0 (qv_move rfl) ?_
      refine sk ?_
      refine sk ?_
      refine s0 (qv_pickT rfl rfl) ?_
      refine tl_nil (tp_normal ?_)
      refine tc_true rfl ?_
      refine tc_seq ?_
      refine tc_region ?_
      refine s0 (qv_call fn_30 rfl (fun w hm => sanity_calls w)) ?_
      refine s0 (qv_assign rfl) ?_
      refine tl_nil (tp_normal ?_)
      refine tc_ret (tp_then_ret (tp_end1 rfl rfl ?_))
      intro w' hm
      exact ⟨rfl, hm.below⟩
    ·
      refine s0 (qv_pickF rfl rfl) ?_
      refine s0 (qv_move rfl) ?_
      refine s0g (qv_move rfl) ?_
      refine sdg (qv_lss rfl rfl) (fun c30 => ?_) (fun c30 => ?_)
      ·
        refine s0 (qv_pickF rfl rfl) ?_
        refine s0 (qv_move rfl) ?_
        refine sk ?_
        refine sk ?_
        refine s0 (qv_pickT rfl rfl) ?_
        refine tl_nil (tp_normal ?_)
        refine tc_true rfl ?_
        refine tc_seq ?_
        refine tc_region ?_
        refine s0 (qv_call fn_30 rfl (fun w hm => sanity_calls w)) ?_
        refine s0 (qv_assign rfl) ?_
        refine tl_nil (tp_normal ?_)
        refine tc_ret (tp_then_ret (tp_end1 rfl rfl ?_))
        intro w' hm
        exact ⟨rfl, hm.below⟩
      ·
        refine s0 (qv_pickF rfl rfl) ?_
        refine s0 (qv_move rfl) ?_
        refine s0g (qv_move rfl) ?_
        refine sdg (qv_gtr rfl rfl) (fun c34 => ?_) (fun c34 => ?_)
        ·
          refine s0 (qv_pickF rfl rfl) ?_
          refine tl_nil (tp_normal ?_)
          refine tc_true rfl ?_
          refine tc_seq ?_
          refine tc_region ?_
          refine s0 (qv_call fn_30 rfl (fun w hm => sanity_calls w)) ?_
          refine s0 (qv_assign rfl) ?_
          refine tl_nil (tp_normal ?_)
          refine tc_ret (tp_then_ret (tp_end1 rfl rfl ?_))
          intro w' hm
          exact ⟨rfl, hm.below⟩
        ·
          refine s0 (qv_pickF rfl rfl) ?_
          refine tl_nil (tp_normal ?_)
          refine tc_false rfl ?_
          refine tc_skip (tp_normal ?_)
          refine tc_seq ?_
          have hfw := c18.2.2 _ (List.mem_singleton.2 rfl)
          simp only at hfw
          have hsv : serves n l d = 0 := by omega
          obtain ⟨g1, g2, g3, g4, g5⟩ := serves_zero hsv
          have hgood := right_zero g1
          have hg2 := g2
          unfold demanded isHouse at hg2
          have hh0 := hgood.net.h0
          have hh1 := hgood.net.h1
          refine tc_region ?_
          refine s0 (qv_assign rfl) ?_
          refine tl_nil (tp_normal ?_)
          refine tc_seq ?_
          refine tc_seq ?_
          refine tc_region ?_
          refine s0 (qv_assign rfl) ?_
          refine tl_nil (tp_normal ?_)
          refine tc_block (tc_loopS (fun (h : Nat) => [(11, .int .i64 (h : Int)), (10, .int .i64 (sumTo n l d tick h))]) (fun (h : Nat) => (h : Int) ≤ n.houses) (fun (h : Nat) => n.houses.toNat - h) (0) (by omega) ⟨rfl, rfl, trivial⟩ ?_)
          rintro h hI
          refine tc_seq ?_
          refine tc_seq ?_
          refine tc_region ?_
          refine s0 (qv_move rfl) ?_
          refine s0 (qv_fa fo_24_0 rfl) ?_
          refine s0 (qv_ldB (i := 2) sc_3 rfl rfl rfl) ?_
          refine sd (qv_lss rfl rfl) (fun c40 => ?_) (fun c40 => ?_)
          ·
            refine tl_nil (tp_normal ?_)
            refine tc_true rfl ?_
            refine tc_skip (tp_normal ?_)
            refine tc_seq ?_
            refine tc_block ?_
            refine tc_seq ?_
            refine tc_region ?_
            refine s0 (qv_ldBW (i := 2) ag_24 rfl rfl rfl) ?_
            refine s0 (qv_move rfl) ?_
            refine s0 (qv_ldBW (i := 1) ag_27 rfl rfl rfl) ?_
            refine s0 (qv_move rfl) ?_
            refine s0 (qv_move rfl) ?_
            refine s0 (qv_call fn_42 rfl (fun w hm => Stock_calls w n na nc l la lc d (h : Int) tick (hn.into Mem.has_base hm) hk (hl.into Mem.has_base hm))) ?_
            refine s0 (qv_move rfl) ?_
            refine s0 (qv_extract rfl rfl) ?_
            refine s0 (qv_extract rfl rfl) ?_
            refine s0 (qv_assign rfl) ?_
            refine s0 (qv_assign rfl) ?_
            refine tl_nil (tp_normal ?_)
            refine tc_seq ?_
            refine tc_seq ?_
            have hst : stock n l d (h : Int) tick = (have' n l d h tick, 0) := stock_ok (by omega) g2 (by unfold isHouse; omega) (by omega) (by omega)
            have hnn := have_nonneg hsv (h : Int) tick
            have hsb := sumTo_bound hsv tick (K := h) (by omega)
            have hsb2 := sumTo_bound hsv tick (K := h + 1) (by omega)
            rw [sumTo_succ] at hsb2
            refine tc_region ?_
            refine s0 (qv_move rfl) ?_
            refine sd (qv_neq rfl rfl) (fun c53 => ?_) (fun c53 => ?_)
            ·
              refine s0 (qv_move rfl) ?_
              refine sk ?_
              refine sk ?_
              refine s0 (qv_pickT rfl rfl) ?_
              refine tl_nil (tp_normal ?_)
              refine tc_true rfl ?_
              refine tc_seq ?_
              refine tc_region ?_
              refine s0 (qv_assign rfl) ?_
              refine tl_nil (tp_normal ?_)
              refine tc_ret (tp_then_ret (tp_block_ret (tp_then_ret (tp_then_ret (tp_block_ret (tp_then_ret (tp_end1 rfl rfl ?_)))))))
              intro w' hm
              exfalso
              rw [hst] at *
              simp only at *
              omega
            ·
              refine s0 (qv_move rfl) ?_
              refine s0g (qv_move rfl) ?_
              refine sdg (qv_lss rfl rfl) (fun c56 => ?_) (fun c56 => ?_)
              ·
                refine s0 (qv_pickF rfl rfl) ?_
                refine tl_nil (tp_normal ?_)
                refine tc_true rfl ?_
                refine tc_seq ?_
                refine tc_region ?_
                refine s0 (qv_assign rfl) ?_
                refine tl_nil (tp_normal ?_)
                refine tc_ret (tp_then_ret (tp_block_ret (tp_then_ret (tp_then_ret (tp_block_ret (tp_then_ret (tp_end1 rfl rfl ?_)))))))
                intro w' hm
                exfalso
                rw [hst] at *
                simp only at *
                omega
              ·
                refine s0 (qv_pickF rfl rfl) ?_
                refine tl_nil (tp_normal ?_)
                refine tc_false rfl ?_
                refine tc_skip (tp_normal ?_)
                refine tc_region ?_
                refine s0 (qv_move rfl) ?_
                refine s0 (qv_move rfl) ?_
                refine s0 (qv_addI rfl rfl (by rw [hst]; simp only; omega)) ?_
                refine s0 (qv_assign rfl) ?_
                refine tl_nil (tp_block_normal (tp_normal ?_))
                refine tc_region ?_
                refine s0 (qv_move rfl) ?_
                refine s0 (qv_succ rfl rfl (by omega)) ?_
                refine s0 (qv_assign rfl) ?_
                exact tl_nil (tp_roundS (h + 1) (by omega) (by omega) ⟨rfl, lk rfl (by rw [sumTo_succ, hst]), trivial⟩ rfl rfl rfl rfl)
          ·
            refine tl_nil (tp_normal ?_)
            refine tc_false rfl ?_
            refine tc_exit (tp_then_exit (tp_then_exit (tp_block_exit (tp_normal ?_))))
            refine tc_seq ?_
            refine tc_seq ?_
            refine tc_region ?_
            refine s0 (qv_assign rfl) ?_
            refine tl_nil (tp_normal ?_)
            refine tc_block (tc_loopS (fun (k : Nat) => [(14, .int .i64 (k : Int))]) (fun (k : Nat) => k ≤ l.length) (fun (k : Nat) => l.length - k) (0) (Nat.zero_le _) ⟨rfl, trivial⟩ ?_)
            rintro k hK
            refine tc_seq ?_
            refine tc_seq ?_
            refine tc_region ?_
            refine s0 (qv_move rfl) ?_
            refine s0 (qv_move rfl) ?_
            refine s0 (qv_len st_25 rfl) ?_
            refine sd (qv_lss rfl rfl) (fun c64 => ?_) (fun c64 => ?_)
            ·
              refine tl_nil (tp_normal ?_)
              refine tc_true rfl ?_
              refine tc_skip (tp_normal ?_)
              refine tc_seq ?_
              refine tc_block ?_
              refine tc_seq ?_
              refine tc_draws mixed (by kernel_rfl) ?_
              refine q0 (qv_move rfl) ?_
              refine q0 (qv_move rfl) ?_
              refine qn st_25 hl rfl rfl (by omega) (fun e69 he69 => ?_)
              refine q0 (qv_fa fo_70_1 rfl) ?_
              refine q0 (qv_ldE (j := 1) sc_3 hl Mem.has_base rfl rfl he69 rfl) ?_
              refine q0 (qv_fa fo_27_3 rfl) ?_
              refine q0 (qv_ldB (i := 1) sc_3 rfl rfl rfl) ?_
              refine qd (qv_lss rfl rfl) (fun c74 => ?_) (fun c74 => ?_)
              ·
                refine tq_nil (tp_normal ?_)
                refine tc_true rfl ?_
                refine tc_seq ?_
                refine tc_region ?_
                refine s0 (qv_assign rfl) ?_
                refine tl_nil (tp_normal ?_)
                refine tc_ret (tp_block_ret (tp_then_ret (tp_then_ret (tp_block_ret (tp_then_ret (tp_end1 rfl rfl ?_))))))
                intro w' hm
                exfalso
                have h_ := none_early hsv (List.mem_of_getElem? he69)
                omega
              ·
                refine tq_nil (tp_normal ?_)
                refine tc_false rfl ?_
                refine tc_skip (tp_block_normal (tp_normal ?_))
                refine tc_region ?_
                refine s0 (qv_move rfl) ?_
                refine s0 (qv_succ rfl rfl (by omega)) ?_
                refine s0 (qv_assign rfl) ?_
                exact tl_nil (tp_roundS (k + 1) (by omega) (by omega) ⟨rfl, trivial⟩ rfl rfl rfl rfl)
            ·
              refine tl_nil (tp_normal ?_)
              refine tc_false rfl ?_
              refine tc_exit (tp_then_exit (tp_then_exit (tp_block_exit (tp_normal ?_))))
              refine tc_seq ?_
              have hkh : h = n.houses.toNat := by omega
              have htot := conserve hsv tick
              rw [← hkh] at htot
              refine tc_region ?_
              refine s0 (qv_call fn_30 rfl (fun w hm => sanity_calls w)) ?_
              refine s0 (qv_move rfl) ?_
              refine s0g (qv_move rfl) ?_
              refine s0g (qv_fa fo_27_3 rfl) ?_
              refine s0g (qv_ldB (i := 1) sc_3 rfl rfl rfl) ?_
              refine sdg (qv_lss rfl rfl) (fun c80 => ?_) (fun c80 => ?_)
              ·
                refine s0g (qv_move rfl) ?_
                refine s0g (qv_move rfl) ?_
                refine sdg (qv_eql rfl rfl) (fun c83 => ?_) (fun c83 => ?_)
                ·
                  refine s0g (qv_pickT rfl rfl) ?_
                  refine s0g (qv_move rfl) ?_
                  refine sk ?_
                  refine sk ?_
                  refine sk ?_
                  refine sk ?_
                  refine sk ?_
                  refine sk ?_
                  refine sk ?_
                  refine sk ?_
                  refine sk ?_
                  refine sk ?_
                  refine s0g (qv_pickT rfl rfl) ?_
                  refine s0 (qv_pickT rfl rfl) ?_
                  refine s0 (qv_assign rfl) ?_
                  refine tl_nil (tp_normal ?_)
                  refine tc_ret (tp_end1 rfl rfl ?_)
                  intro w' hm
                  first | exact ⟨rfl, hm.below⟩ | exact ⟨by rw [decide_eq_true (by (split at htot <;> omega))], hm.below⟩ | (exfalso; split at htot <;> omega)
                ·
                  refine s0g (qv_pickT rfl rfl) ?_
                  refine s0g (qv_move rfl) ?_
                  refine s0g (qv_move rfl) ?_
                  refine s0g (qv_fa fo_27_3 rfl) ?_
                  refine s0g (qv_ldB (i := 1) sc_3 rfl rfl rfl) ?_
                  refine sdg (qv_geq rfl rfl) (fun c89 => ?_) (fun c89 => ?_)
                  ·
                    refine s0g (qv_move rfl) ?_
                    refine s0g (qv_move rfl) ?_
                    refine s0g (qv_fa fo_27_2 rfl) ?_
                    refine s0g (qv_ldB (i := 1) sc_3 rfl rfl rfl) ?_
                    refine s0g (qv_eql rfl rfl) ?_
                    refine s0g (qv_pickT rfl rfl) ?_
                    refine s0g (qv_pickF rfl rfl) ?_
                    refine s0 (qv_pickT rfl rfl) ?_
                    refine s0 (qv_assign rfl) ?_
                    refine tl_nil (tp_normal ?_)
                    refine tc_ret (tp_end1 rfl rfl ?_)
                    intro w' hm
                    first | exact ⟨rfl, hm.below⟩ | exact ⟨by rw [decide_eq_true (by (split at htot <;> omega))], hm.below⟩ | (exfalso; split at htot <;> omega)
                  ·
                    refine s0g (qv_move rfl) ?_
                    refine sk ?_
                    refine sk ?_
                    refine sk ?_
                    refine sk ?_
                    refine s0g (qv_pickF rfl rfl) ?_
                    refine s0g (qv_pickF rfl rfl) ?_
                    refine s0 (qv_pickT rfl rfl) ?_
                    refine s0 (qv_assign rfl) ?_
                    refine tl_nil (tp_normal ?_)
                    refine tc_ret (tp_end1 rfl rfl ?_)
                    intro w' hm
                    first | exact ⟨rfl, hm.below⟩ | exact ⟨by rw [decide_eq_true (by (split at htot <;> omega))], hm.below⟩ | (exfalso; split at htot <;> omega)
              ·
                refine s0g (qv_move rfl) ?_
                refine sk ?_
                refine sk ?_
                refine s0g (qv_pickF rfl rfl) ?_
                refine s0g (qv_move rfl) ?_
                refine s0g (qv_move rfl) ?_
                refine s0g (qv_fa fo_27_3 rfl) ?_
                refine s0g (qv_ldB (i := 1) sc_3 rfl rfl rfl) ?_
                refine sdg (qv_geq rfl rfl) (fun c89 => ?_) (fun c89 => ?_)
                ·
                  refine s0g (qv_move rfl) ?_
                  refine s0g (qv_move rfl) ?_
                  refine s0g (qv_fa fo_27_2 rfl) ?_
                  refine s0g (qv_ldB (i := 1) sc_3 rfl rfl rfl) ?_
                  refine s0g (qv_eql rfl rfl) ?_
                  refine s0g (qv_pickT rfl rfl) ?_
                  refine s0g (qv_pickF rfl rfl) ?_
                  refine s0 (qv_pickT rfl rfl) ?_
                  refine s0 (qv_assign rfl) ?_
                  refine tl_nil (tp_normal ?_)
                  refine tc_ret (tp_end1 rfl rfl ?_)
                  intro w' hm
                  first | exact ⟨rfl, hm.below⟩ | exact ⟨by rw [decide_eq_true (by (split at htot <;> omega))], hm.below⟩ | (exfalso; split at htot <;> omega)
                ·
                  refine s0g (qv_move rfl) ?_
                  refine sk ?_
                  refine sk ?_
                  refine sk ?_
                  refine sk ?_
                  refine s0g (qv_pickF rfl rfl) ?_
                  refine s0g (qv_pickF rfl rfl) ?_
                  refine s0 (qv_pickT rfl rfl) ?_
                  refine s0 (qv_assign rfl) ?_
                  refine tl_nil (tp_normal ?_)
                  refine tc_ret (tp_end1 rfl rfl ?_)
                  intro w' hm
                  first | exact ⟨rfl, hm.below⟩ | exact ⟨by rw [decide_eq_true (by (split at htot <;> omega))], hm.below⟩ | (exfalso; split at htot <;> omega)
  ·
    refine s0 (qv_assign rfl) ?_
    refine tl_nil (tp_normal ?_)
    refine tc_seq ?_
    refine tc_seq ?_
    refine tc_region ?_
    refine s0 (qv_move rfl) ?_
    refine s0 (qv_not rfl) ?_
    refine s0 (qv_move rfl) ?_
    refine sk ?_
    refine sk ?_
    refine sk ?_
    refine sk ?_
    refine sk ?_
    refine s0 (qv_pickT rfl rfl) ?_
    refine s0 (qv_move rfl) ?_
    refine sk ?_
    refine sk ?_
    refine s0 (qv_pickT rfl rfl) ?_
    refine s0 (qv_move rfl) ?_
    refine sk ?_
    refine sk ?_
    refine s0 (qv_pickT rfl rfl) ?_
    refine tl_nil (tp_normal ?_)
    refine tc_true rfl ?_
    refine tc_seq ?_
    refine tc_region ?_
    refine s0 (qv_call fn_30 rfl (fun w hm => sanity_calls w)) ?_
    refine s0 (qv_assign rfl) ?_
    refine tl_nil (tp_normal ?_)
    refine tc_ret (tp_then_ret (tp_end1 rfl rfl ?_))
    intro w' hm
    exact ⟨rfl, hm.below⟩

end Go.Q
