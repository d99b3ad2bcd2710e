/- A part of the proof: see the last text. -/
import Derived.Test.YtgcpocaaepoafaaQ16
import Derived.Test.YtgcpocaaepoafaaS15e
import Derived.Test.YtgcpocaaepoafaaW15s
import Derived.Test.YtgcpocaaepoafaaQ12
import Derived.Test.YtgcpocaaepoafaaS15
import Derived.Test.YtgcpocaaepoafaaW15h
import Derived.Test.YtgcpocaaepoafaaProg
set_option linter.unusedVariables false
set_option linter.unusedSimpArgs false
set_option linter.unusedSectionVars false
namespace Go.Q
open Go Go.Proofs Go.RowKit
theorem qv_shrU {P : Program} {Z : Env} {N : Nat} {L : List (Nat × Value)} {M : Mem} {d : Option Tmp} {x y : Operand} {T T' ty : TypeId} {pos : String} {af : Array Edge} {g : Option (Nat × Bool)} {k' : IntKind} {i j : Int} (hx : ev L x = some (.int .u16 i)) (hy : ev L y = some (.int k' j)) (h : 0 ≤ j) : Qv P Z N L M ⟨d, .binOp .shr T x y T', ty, pos, af, g⟩ (.int .u16 (shrU i j)) := qv_shrN hx hy h
set_option maxRecDepth 100000 in
set_option maxHeartbeats 4000000 in
theorem law_cuts (w : World) (n : Net) (na : Option Addr) (nc : Nat) (l : List Send) (la : Option Addr) (lc : Nat) (d : Demand) (s : Int) (hn : SlIn w 50 encLink na n.links) (hk : NetOk n) (hl : SlIn w 3 encSend la l) (hlc : l.length ≤ lc) :
    Calls Try.prog 10 #[.agg (netA n na nc), .slice la l.length lc, .agg (demA d), .int .u16 s] w (fun e w' => e = .returned (.bool true) ∧ Below w.heap.size w w') := by
  have hlen := hl.len
  simp only [maxLen] at hlen
  have hlenn := hn.len
  simp only [maxLen] at hlenn
  refine calls_of_tc (N := 115) (vs := [.agg (netA n na nc), .slice la l.length lc, .agg (demA d), .int .u16 s]) Try.func10 rfl rfl (Nat.le_of_ble_eq_true rfl) ?_
  refine tc_seq ?_
  refine tc_region ?_
  refine tl_box rfl (by decide) (fun b4_0 => ?_)
  refine tl_box rfl (by decide) (fun b6_1 => ?_)
  refine s0 (qv_assign rfl) ?_
  refine tl_nil (tp_normal ?_)
  refine tc_seq ?_
  refine tc_region ?_
  refine s0 (qv_ldBW (i := 1) ag_24 rfl rfl rfl) ?_
  refine s0 (qv_move rfl) ?_
  refine tl_buildSliceL (enc := encHd) [⟨l, la, lc⟩] bsl_54_1 (fun b15_2 => ?_) rfl (by kernel_rfl)
  have hsb15_2 := SlAt.ofBox (enc := encHd) (sz := 1) (b := b15_2) (E := 25) (l := [⟨l, la, lc⟩]) (Nat.le_of_ble_eq_true rfl) (fun _ _ => rfl)
  refine sd (qv_call fn_29 rfl (fun w hm => few_calls w n na nc [⟨l, la, lc⟩] (some ⟨b15_2, 0, none⟩) 1 (60) (hn.into Mem.has_base hm) hk (hsb15_2.into (Mem.has_box (by repeat (first | exact List.Mem.head _ | refine List.Mem.tail _ ?_))) hm))) (fun c16 => ?_) (fun c16 => ?_)
  ·
    refine s0 (qv_assign rfl) ?_
    refine tl_nil (tp_normal ?_)
    refine tc_seq ?_
    refine tc_seq ?_
    refine tc_region ?_
    refine s0 (qv_move rfl) ?_
    refine s0 (qv_not rfl) ?_
    refine s0 (qv_move rfl) ?_
    refine s0g (qv_ldBW (i := 2) ag_24 rfl rfl rfl) ?_
    refine s0g (qv_move rfl) ?_
    refine s0g (qv_ldBW (i := 1) ag_27 rfl rfl rfl) ?_
    refine s0g (qv_call fn_24 rfl (fun w hm => serves_calls w n na nc l la lc d hlc (hn.into Mem.has_base hm) hk (hl.into Mem.has_base hm))) ?_
    refine sdg (qv_neq rfl rfl) (fun c24 => ?_) (fun c24 => ?_)
    ·
      refine s0 (qv_pickF rfl rfl) ?_
      refine s0 (qv_move rfl) ?_
      refine sk ?_
      refine sk ?_
      refine sk ?_
      refine sk ?_
      refine sk ?_
      refine sk ?_
      refine s0 (qv_pickT rfl rfl) ?_
      refine s0 (qv_move rfl) ?_
      refine sk ?_
      refine sk ?_
      refine sk ?_
      refine sk ?_
      refine sk ?_
      refine sk ?_
      refine s0 (qv_pickT rfl rfl) ?_
      refine tl_nil (tp_normal ?_)
      refine tc_true rfl ?_
      refine tc_seq ?_
      refine tc_region ?_
      refine s0 (qv_call fn_30 rfl (fun w hm => sanity_calls w)) ?_
      refine s0 (qv_assign rfl) ?_
      refine tl_nil (tp_normal ?_)
      refine tc_ret (tp_then_ret (tp_end1 rfl rfl ?_))
      intro w' hm
      exact ⟨rfl, hm.below⟩
    ·
      refine s0 (qv_pickF rfl rfl) ?_
      refine s0 (qv_move rfl) ?_
      have hsv : serves n l d = 0 := by omega
      obtain ⟨g1, g2, g3, g4, g5⟩ := serves_zero hsv
      have hgood := right_zero g1
      have hg2 := g2
      unfold demanded isHouse at hg2
      have hh0 := hgood.net.h0
      have hh1 := hgood.net.h1
      refine s0g (qv_move rfl) ?_
      refine s0g (qv_fa fo_27_0 rfl) ?_
      refine s0g (qv_ldB (i := 1) sc_3 rfl rfl rfl) ?_
      refine s0g (qv_shrU rfl rfl (by omega)) ?_
      refine s0g (qv_and1 rfl rfl) ?_
      refine sdg (qv_eql rfl rfl) (fun c32 => ?_) (fun c32 => ?_)
      ·
        refine s0 (qv_pickF rfl rfl) ?_
        refine s0 (qv_move rfl) ?_
        refine sk ?_
        refine sk ?_
        refine sk ?_
        refine sk ?_
        refine sk ?_
        refine sk ?_
        refine s0 (qv_pickT rfl rfl) ?_
        refine tl_nil (tp_normal ?_)
        refine tc_true rfl ?_
        refine tc_seq ?_
        refine tc_region ?_
        refine s0 (qv_call fn_30 rfl (fun w hm => sanity_calls w)) ?_
        refine s0 (qv_assign rfl) ?_
        refine tl_nil (tp_normal ?_)
        refine tc_ret (tp_then_ret (tp_end1 rfl rfl ?_))
        intro w' hm
        exact ⟨rfl, hm.below⟩
      ·
        refine s0 (qv_pickF rfl rfl) ?_
        refine s0 (qv_move rfl) ?_
        refine s0g (qv_move rfl) ?_
        refine s0g (qv_fa fo_27_1 rfl) ?_
        refine s0g (qv_ldB (i := 1) sc_3 rfl rfl rfl) ?_
        refine s0g (qv_shrU rfl rfl (by omega)) ?_
        refine s0g (qv_and1 rfl rfl) ?_
        refine sdg (qv_eql rfl rfl) (fun c40 => ?_) (fun c40 => ?_)
        ·
          refine s0 (qv_pickF rfl rfl) ?_
          refine tl_nil (tp_normal ?_)
          refine tc_true rfl ?_
          refine tc_seq ?_
          refine tc_region ?_
          refine s0 (qv_call fn_30 rfl (fun w hm => sanity_calls w)) ?_
          refine s0 (qv_assign rfl) ?_
          refine tl_nil (tp_normal ?_)
          refine tc_ret (tp_then_ret (tp_end1 rfl rfl ?_))
          intro w' hm
          exact ⟨rfl, hm.below⟩
        ·
          refine s0 (qv_pickF rfl rfl) ?_
          refine tl_nil (tp_normal ?_)
          refine tc_false rfl ?_
          refine tc_skip (tp_normal ?_)
          refine tc_seq ?_
          have hfw := c16.2.2 _ (List.mem_singleton.2 rfl)
          simp only at hfw
          refine tc_region ?_
          refine s0 (qv_assign rfl) ?_
          refine tl_nil (tp_normal ?_)
          refine tc_seq ?_
          refine tc_seq ?_
          refine tc_region ?_
          refine s0 (qv_assign rfl) ?_
          refine tl_nil (tp_normal ?_)
          refine tc_block (tc_loopS (fun (k : Nat) => [(11, .int .i64 (k : Int)), (10, .int .i64 (-isum (across n (inSet s) d.due) (l.take k)))]) (fun (k : Nat) => k ≤ l.length) (fun (k : Nat) => l.length - k) (0) (Nat.zero_le _) ⟨rfl, lk rfl (by simp [isum]), trivial⟩ ?_)
          rintro k hI
          refine tc_seq ?_
          refine tc_seq ?_
          refine tc_region ?_
          refine s0 (qv_move rfl) ?_
          refine s0 (qv_move rfl) ?_
          refine s0 (qv_len st_25 rfl) ?_
          refine sd (qv_lss rfl rfl) (fun c46 => ?_) (fun c46 => ?_)
          ·
            refine tl_nil (tp_normal ?_)
            refine tc_true rfl ?_
            refine tc_skip (tp_normal ?_)
            refine tc_seq ?_
            refine tc_block ?_
            refine tc_seq ?_
            refine tc_drawU 10 9 mixed (by kernel_rfl) ?_
            refine q0 (qv_fa fo_24_1 rfl) ?_
            refine q0 (qv_ldB (i := 2) sc_22 rfl rfl rfl) ?_
            refine q0 (qv_move rfl) ?_
            refine q0 (qv_move rfl) ?_
            refine qn st_25 hl rfl rfl (by omega) (fun e53 he53 => ?_)
            refine q0 (qv_fa fo_70_0 rfl) ?_
            refine q0 (qv_ldE (j := 0) sc_3 hl Mem.has_base rfl rfl he53 rfl) ?_
            obtain ⟨hs0, hs1, hs2, hs3, hs4, hs5⟩ := hgood.send e53 (List.mem_of_getElem? he53)
            refine qi st_22 hn rfl rfl (by omega) (fun e56 he56 => ?_)
            refine q0 (qv_ldEW ag_49 hn Mem.has_base rfl he56) ?_
            refine tq_up ?_
            refine tu_one 9 ?_ (by kernel_rfl) (by kernel_rfl) (by kernel_rfl)
            refine tg_alloc ze_49 (fun b12_3 => ?_) (fun _ _ h => hD_drop rfl rfl _ h)
            refine tu_tail rfl rfl rfl (by kernel_rfl) ?_
            refine tl_storeL (i := 0) sz_49 (hn.szs _ (List.mem_of_getElem? he56)) (one_49 _) rfl rfl rfl rfl ?_
            refine tl_nil (tp_normal ?_)
            refine tc_seq ?_
            refine tc_seq ?_
            have hlk := hgood.net.link e56 (List.mem_of_getElem? he56)
            have hl1 := hlk.src
            have hl2 := hlk.dst
            unfold isHouse at hl1 hl2
            have hab := across_bound hgood (inSet s) d.due k
            refine tc_draws mixed (by kernel_rfl) ?_
            refine q0 (qv_move rfl) ?_
            refine q0 (qv_move rfl) ?_
            refine qn st_25 hl rfl rfl (by omega) (fun e60 he60 => ?_)
            obtain rfl : e53 = e60 := Option.some.inj (he53.symm.trans he60)
            refine q0 (qv_fa fo_70_1 rfl) ?_
            refine q0 (qv_ldE (j := 1) sc_3 hl Mem.has_base rfl rfl he53 rfl) ?_
            refine q0 (qv_fa fo_27_4 rfl) ?_
            refine q0 (qv_ldB (i := 2) sc_3 rfl rfl rfl) ?_
            refine qd (qv_geq rfl rfl) (fun c65 => ?_) (fun c65 => ?_)
            ·
              refine tq_nil (tp_normal ?_)
              refine tc_true rfl ?_
              refine tc_exit (tp_then_exit (tp_block_exit (tp_normal ?_)))
              refine tc_region ?_
              refine s0 (qv_move rfl) ?_
              refine s0 (qv_succ rfl rfl (by omega)) ?_
              refine s0 (qv_assign rfl) ?_
              exact tl_nil (tp_roundS (k + 1) (by omega) (by omega) ⟨rfl, lk rfl (by rw [across_step he53 he56]; repeat' split; all_goals omega), trivial⟩ rfl rfl rfl rfl)
            ·
              refine tq_nil (tp_normal ?_)
              refine tc_false rfl ?_
              refine tc_skip (tp_normal ?_)
              refine tc_seq ?_
              refine tc_seq ?_
              refine tc_region ?_
              refine s0 (qv_move rfl) ?_
              refine s0 (qv_fa fo_49_0 rfl) ?_
              refine s0 (qv_ldB (i := 0) sc_3 rfl rfl rfl) ?_
              refine s0 (qv_shrU rfl rfl (by omega)) ?_
              refine s0 (qv_and1 rfl rfl) ?_
              refine sd (qv_eql rfl rfl) (fun c71 => ?_) (fun c71 => ?_)
              ·
                refine s0 (qv_move rfl) ?_
                refine s0g (qv_move rfl) ?_
                refine s0g (qv_fa fo_49_1 rfl) ?_
                refine s0g (qv_ldB (i := 0) sc_3 rfl rfl rfl) ?_
                refine s0g (qv_shrU rfl rfl (by omega)) ?_
                refine s0g (qv_and1 rfl rfl) ?_
                refine sdg (qv_eql rfl rfl) (fun c78 => ?_) (fun c78 => ?_)
                ·
                  refine s0 (qv_pickT rfl rfl) ?_
                  refine tl_nil (tp_normal ?_)
                  refine tc_true rfl ?_
                  refine tc_region ?_
                  refine s0 (qv_move rfl) ?_
                  refine s0 (qv_move rfl) ?_
                  refine s0 (qv_move rfl) ?_
                  refine sn st_25 hl rfl rfl (by omega) (fun e83 he83 => ?_)
                  obtain rfl : e53 = e83 := Option.some.inj (he53.symm.trans he83)
                  refine s0 (qv_fa fo_70_2 rfl) ?_
                  refine s0 (qv_ldE (j := 2) sc_3 hl Mem.has_base rfl rfl he53 rfl) ?_
                  refine s0 (qv_addI rfl rfl (by omega)) ?_
                  refine s0 (qv_assign rfl) ?_
                  refine tl_nil (tp_normal ?_)
                  refine tc_seq ?_
                  refine tc_region ?_
                  refine s0 (qv_move rfl) ?_
                  refine s0 (qv_fa fo_49_0 rfl) ?_
                  refine s0 (qv_ldB (i := 0) sc_3 rfl rfl rfl) ?_
                  refine s0 (qv_shrU rfl rfl (by omega)) ?_
                  refine s0 (qv_and1 rfl rfl) ?_
                  refine sd (qv_eql rfl rfl) (fun c92 => ?_) (fun c92 => ?_)
                  ·
                    refine s0 (qv_move rfl) ?_
                    refine s0g (qv_move rfl) ?_
                    refine s0g (qv_fa fo_49_1 rfl) ?_
                    refine s0g (qv_ldB (i := 0) sc_3 rfl rfl rfl) ?_
                    refine s0g (qv_shrU rfl rfl (by omega)) ?_
                    refine s0g (qv_and1 rfl rfl) ?_
                    refine sdg (qv_eql rfl rfl) (fun c99 => ?_) (fun c99 => ?_)
                    ·
                      refine s0 (qv_pickT rfl rfl) ?_
                      refine tl_nil (tp_normal ?_)
                      refine tc_true rfl ?_
                      refine tc_region ?_
                      refine s0 (qv_move rfl) ?_
                      refine s0 (qv_move rfl) ?_
                      refine s0 (qv_move rfl) ?_
                      refine sn st_25 hl rfl rfl (by omega) (fun e104 he104 => ?_)
                      obtain rfl : e53 = e104 := Option.some.inj (he53.symm.trans he104)
                      refine s0 (qv_fa fo_70_2 rfl) ?_
                      refine s0 (qv_ldE (j := 2) sc_3 hl Mem.has_base rfl rfl he53 rfl) ?_
                      refine s0 (qv_subI rfl rfl (by omega)) ?_
                      refine s0 (qv_assign rfl) ?_
                      refine tl_nil (tp_block_normal (tp_normal ?_))
                      refine tc_region ?_
                      refine s0 (qv_move rfl) ?_
                      refine s0 (qv_succ rfl rfl (by omega)) ?_
                      refine s0 (qv_assign rfl) ?_
                      exact tl_nil (tp_roundS (k + 1) (by omega) (by omega) ⟨rfl, lk rfl (by rw [across_step he53 he56]; repeat' split; all_goals omega), trivial⟩ rfl rfl rfl rfl)
                    ·
                      refine s0 (qv_pickT rfl rfl) ?_
                      refine tl_nil (tp_normal ?_)
                      refine tc_false rfl ?_
                      refine tc_skip (tp_block_normal (tp_normal ?_))
                      refine tc_region ?_
                      refine s0 (qv_move rfl) ?_
                      refine s0 (qv_succ rfl rfl (by omega)) ?_
                      refine s0 (qv_assign rfl) ?_
                      exact tl_nil (tp_roundS (k + 1) (by omega) (by omega) ⟨rfl, lk rfl (by rw [across_step he53 he56]; repeat' split; all_goals omega), trivial⟩ rfl rfl rfl rfl)
                  ·
                    refine s0 (qv_move rfl) ?_
                    refine sk ?_
                    refine sk ?_
                    refine sk ?_
                    refine sk ?_
                    refine sk ?_
                    refine sk ?_
                    refine s0 (qv_pickF rfl rfl) ?_
                    refine tl_nil (tp_normal ?_)
                    refine tc_false rfl ?_
                    refine tc_skip (tp_block_normal (tp_normal ?_))
                    refine tc_region ?_
                    refine s0 (qv_move rfl) ?_
                    refine s0 (qv_succ rfl rfl (by omega)) ?_
                    refine s0 (qv_assign rfl) ?_
                    exact tl_nil (tp_roundS (k + 1) (by omega) (by omega) ⟨rfl, lk rfl (by rw [across_step he53 he56]; repeat' split; all_goals omega), trivial⟩ rfl rfl rfl rfl)
                ·
                  refine s0 (qv_pickT rfl rfl) ?_
                  refine tl_nil (tp_normal ?_)
                  refine tc_false rfl ?_
                  refine tc_skip (tp_normal ?_)
                  refine tc_seq ?_
                  refine tc_region ?_
                  refine s0 (qv_move rfl) ?_
                  refine s0 (qv_fa fo_49_0 rfl) ?_
                  refine s0 (qv_ldB (i := 0) sc_3 rfl rfl rfl) ?_
                  refine s0 (qv_shrU rfl rfl (by omega)) ?_
                  refine s0 (qv_and1 rfl rfl) ?_
                  refine sd (qv_eql rfl rfl) (fun c92 => ?_) (fun c92 => ?_)
                  ·
                    refine s0 (qv_move rfl) ?_
                    refine s0g (qv_move rfl) ?_
                    refine s0g (qv_fa fo_49_1 rfl) ?_
                    refine s0g (qv_ldB (i := 0) sc_3 rfl rfl rfl) ?_
                    refine s0g (qv_shrU rfl rfl (by omega)) ?_
                    refine s0g (qv_and1 rfl rfl) ?_
                    refine sdg (qv_eql rfl rfl) (fun c99 => ?_) (fun c99 => ?_)
                    ·
                      refine s0 (qv_pickT rfl rfl) ?_
                      refine tl_nil (tp_normal ?_)
                      refine tc_true rfl ?_
                      refine tc_region ?_
                      refine s0 (qv_move rfl) ?_
                      refine s0 (qv_move rfl) ?_
                      refine s0 (qv_move rfl) ?_
                      refine sn st_25 hl rfl rfl (by omega) (fun e104 he104 => ?_)
                      obtain rfl : e53 = e104 := Option.some.inj (he53.symm.trans he104)
                      refine s0 (qv_fa fo_70_2 rfl) ?_
                      refine s0 (qv_ldE (j := 2) sc_3 hl Mem.has_base rfl rfl he53 rfl) ?_
                      refine s0 (qv_subI rfl rfl (by omega)) ?_
                      refine s0 (qv_assign rfl) ?_
                      refine tl_nil (tp_block_normal (tp_normal ?_))
                      refine tc_region ?_
                      refine s0 (qv_move rfl) ?_
                      refine s0 (qv_succ rfl rfl (by omega)) ?_
                      refine s0 (qv_assign rfl) ?_
                      exact tl_nil (tp_roundS (k + 1) (by omega) (by omega) ⟨rfl, lk rfl (by rw [across_step he53 he56]; repeat' split; all_goals omega), trivial⟩ rfl rfl rfl rfl)
                    ·
                      refine s0 (qv_pickT rfl rfl) ?_
                      refine tl_nil (tp_normal ?_)
                      refine tc_false rfl ?_
                      refine tc_skip (tp_block_normal (tp_normal ?_))
                      refine tc_region ?_
                      refine s0 (qv_move rfl) ?_
                      refine s0 (qv_succ rfl rfl (by omega)) ?_
                      refine s0 (qv_assign rfl) ?_
                      exact tl_nil (tp_roundS (k + 1) (by omega) (by omega) ⟨rfl, lk rfl (by rw [across_step he53 he56]; repeat' split; all_goals omega), trivial⟩ rfl rfl rfl rfl)
                  ·
                    refine s0 (qv_move rfl) ?_
                    refine sk ?_
                    refine sk ?_
                    refine sk ?_
                    refine sk ?_
                    refine sk ?_
                    refine sk ?_
                    refine s0 (qv_pickF rfl rfl) ?_
                    refine tl_nil (tp_normal ?_)
                    refine tc_false rfl ?_
                    refine tc_skip (tp_block_normal (tp_normal ?_))
                    refine tc_region ?_
                    refine s0 (qv_move rfl) ?_
                    refine s0 (qv_succ rfl rfl (by omega)) ?_
                    refine s0 (qv_assign rfl) ?_
                    exact tl_nil (tp_roundS (k + 1) (by omega) (by omega) ⟨rfl, lk rfl (by rw [across_step he53 he56]; repeat' split; all_goals omega), trivial⟩ rfl rfl rfl rfl)
              ·
                refine s0 (qv_move rfl) ?_
                refine sk ?_
                refine sk ?_
                refine sk ?_
                refine sk ?_
                refine sk ?_
                refine sk ?_
                refine s0 (qv_pickF rfl rfl) ?_
                refine tl_nil (tp_normal ?_)
                refine tc_false rfl ?_
                refine tc_skip (tp_normal ?_)
                refine tc_seq ?_
                refine tc_region ?_
                refine s0 (qv_move rfl) ?_
                refine s0 (qv_fa fo_49_0 rfl) ?_
                refine s0 (qv_ldB (i := 0) sc_3 rfl rfl rfl) ?_
                refine s0 (qv_shrU rfl rfl (by omega)) ?_
                refine s0 (qv_and1 rfl rfl) ?_
                refine sd (qv_eql rfl rfl) (fun c92 => ?_) (fun c92 => ?_)
                ·
                  refine s0 (qv_move rfl) ?_
                  refine s0g (qv_move rfl) ?_
                  refine s0g (qv_fa fo_49_1 rfl) ?_
                  refine s0g (qv_ldB (i := 0) sc_3 rfl rfl rfl) ?_
                  refine s0g (qv_shrU rfl rfl (by omega)) ?_
                  refine s0g (qv_and1 rfl rfl) ?_
                  refine sdg (qv_eql rfl rfl) (fun c99 => ?_) (fun c99 => ?_)
                  ·
                    refine s0 (qv_pickT rfl rfl) ?_
                    refine tl_nil (tp_normal ?_)
                    refine tc_true rfl ?_
                    refine tc_region ?_
                    refine s0 (qv_move rfl) ?_
                    refine s0 (qv_move rfl) ?_
                    refine s0 (qv_move rfl) ?_
                    refine sn st_25 hl rfl rfl (by omega) (fun e104 he104 => ?_)
                    obtain rfl : e53 = e104 := Option.some.inj (he53.symm.trans he104)
                    refine s0 (qv_fa fo_70_2 rfl) ?_
                    refine s0 (qv_ldE (j := 2) sc_3 hl Mem.has_base rfl rfl he53 rfl) ?_
                    refine s0 (qv_subI rfl rfl (by omega)) ?_
                    refine s0 (qv_assign rfl) ?_
                    refine tl_nil (tp_block_normal (tp_normal ?_))
                    refine tc_region ?_
                    refine s0 (qv_move rfl) ?_
                    refine s0 (qv_succ rfl rfl (by omega)) ?_
                    refine s0 (qv_assign rfl) ?_
                    exact tl_nil (tp_roundS (k + 1) (by omega) (by omega) ⟨rfl, lk rfl (by rw [across_step he53 he56]; repeat' split; all_goals omega), trivial⟩ rfl rfl rfl rfl)
                  ·
                    refine s0 (qv_pickT rfl rfl) ?_
                    refine tl_nil (tp_normal ?_)
                    refine tc_false rfl ?_
                    refine tc_skip (tp_block_normal (tp_normal ?_))
                    refine tc_region ?_
                    refine s0 (qv_move rfl) ?_
                    refine s0 (qv_succ rfl rfl (by omega)) ?_
                    refine s0 (qv_assign rfl) ?_
                    exact tl_nil (tp_roundS (k + 1) (by omega) (by omega) ⟨rfl, lk rfl (by rw [across_step he53 he56]; repeat' split; all_goals omega), trivial⟩ rfl rfl rfl rfl)
                ·
                  refine s0 (qv_move rfl) ?_
                  refine sk ?_
                  refine sk ?_
                  refine sk ?_
                  refine sk ?_
                  refine sk ?_
                  refine sk ?_
                  refine s0 (qv_pickF rfl rfl) ?_
                  refine tl_nil (tp_normal ?_)
                  refine tc_false rfl ?_
                  refine tc_skip (tp_block_normal (tp_normal ?_))
                  refine tc_region ?_
                  refine s0 (qv_move rfl) ?_
                  refine s0 (qv_succ rfl rfl (by omega)) ?_
                  refine s0 (qv_assign rfl) ?_
                  exact tl_nil (tp_roundS (k + 1) (by omega) (by omega) ⟨rfl, lk rfl (by rw [across_step he53 he56]; repeat' split; all_goals omega), trivial⟩ rfl rfl rfl rfl)
          ·
            refine tl_nil (tp_normal ?_)
            refine tc_false rfl ?_
            refine tc_exit (tp_then_exit (tp_then_exit (tp_block_exit (tp_normal ?_))))
            refine tc_seq ?_
            have hcut := cut hsv (inSet s) (by unfold inSet; exact decide_eq_true (by omega)) (by unfold inSet; exact decide_eq_false (by omega))
            refine tc_region ?_
            refine s0 (qv_call fn_30 rfl (fun w hm => sanity_calls w)) ?_
            refine s0 (qv_move rfl) ?_
            refine s0g (qv_move rfl) ?_
            refine s0g (qv_fa fo_27_2 rfl) ?_
            refine s0g (qv_ldB (i := 1) sc_3 rfl rfl rfl) ?_
            refine s0g (qv_eql rfl rfl) ?_
            refine s0 (qv_pickT rfl rfl) ?_
            refine s0 (qv_assign rfl) ?_
            refine tl_nil (tp_normal ?_)
            refine tc_ret (tp_end1 rfl rfl ?_)
            intro w' hm
            exact ⟨by rw [decide_eq_true (by rw [SlSend_len k c46, hcut]; omega)], hm.below⟩
  ·
    refine s0 (qv_assign rfl) ?_
    refine tl_nil (tp_normal ?_)
    refine tc_seq ?_
    refine tc_seq ?_
    refine tc_region ?_
    refine s0 (qv_move rfl) ?_
    refine s0 (qv_not rfl) ?_
    refine s0 (qv_move rfl) ?_
    refine sk ?_
    refine sk ?_
    refine sk ?_
    refine sk ?_
    refine sk ?_
    refine s0 (qv_pickT rfl rfl) ?_
    refine s0 (qv_move rfl) ?_
    refine sk ?_
    refine sk ?_
    refine sk ?_
    refine sk ?_
    refine sk ?_
    refine sk ?_
    refine s0 (qv_pickT rfl rfl) ?_
    refine s0 (qv_move rfl) ?_
    refine sk ?_
    refine sk ?_
    refine sk ?_
    refine sk ?_
    refine sk ?_
    refine sk ?_
    refine s0 (qv_pickT rfl rfl) ?_
    refine tl_nil (tp_normal ?_)
    refine tc_true rfl ?_
    refine tc_seq ?_
    refine tc_region ?_
    refine s0 (qv_call fn_30 rfl (fun w hm => sanity_calls w)) ?_
    refine s0 (qv_assign rfl) ?_
    refine tl_nil (tp_normal ?_)
    refine tc_ret (tp_then_ret (tp_end1 rfl rfl ?_))
    intro w' hm
    exact ⟨rfl, hm.below⟩

end Go.Q
