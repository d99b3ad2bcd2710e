/- A part of the proof: see the last text. -/
import Derived.Test.YtgcpocaaepoafaaQ17
import Derived.Test.YtgcpocaaepoafaaS15g
import Derived.Test.YtgcpocaaepoafaaW15s
import Derived.Test.YtgcpocaaepoafaaQ12
import Derived.Test.YtgcpocaaepoafaaS15
import Derived.Test.YtgcpocaaepoafaaW15j
import Derived.Test.YtgcpocaaepoafaaProg
set_option linter.unusedVariables false
set_option linter.unusedSimpArgs false
set_option linter.unusedSectionVars false
namespace Go.Q
open Go Go.Proofs Go.RowKit
theorem at_76 : ArrTy Try.prog 76 2 1 := ⟨40, by kernel_rfl, fun w => by kernel_rfl⟩
theorem sc_40 : Scalar Try.prog 40 := fun w => by kernel_rfl
theorem two_ins {w : World} {a b : List Send} {aa ba : Option Addr} {ac bc : Nat} (ha : SlIn w 3 encSend aa a) (hac : a.length ≤ ac) (hb : SlIn w 3 encSend ba b) (hbc : b.length ≤ bc) : ∀ h ∈ two a aa ac b ba bc, SlIn w 3 encSend h.a h.l ∧ h.l.length ≤ h.c := fun h hh => by
  simp only [two, List.mem_cons, List.not_mem_nil, or_false] at hh
  rcases hh with rfl | rfl
  · exact ⟨ha, hac⟩
  · exact ⟨hb, hbc⟩
theorem join_swapR (w : World) (n : Net) (na : Option Addr) (nc : Nat) (a : List Send) (aa : Option Addr) (ac : Nat) (b : List Send) (ba : Option Addr) (bc : Nat) (x : Option Addr) (hn : SlIn w 50 encLink na n.links) (hk : NetOk n) (hx : SlIn w 1 encHd x (two b ba bc a aa ac)) (ha : SlIn w 3 encSend aa a) (hac : a.length ≤ ac) (hb : SlIn w 3 encSend ba b) (hbc : b.length ≤ bc) (hra : right n a = 0) (hrb : right n b = 0) :
    Calls Try.prog 37 #[.agg (netA n na nc), .slice x 2 2] w (fun e w' => ∃ r : Option Addr × Nat, e = .returned (.tuple #[.slice r.1 (join n (two a aa ac b ba bc)).1.length r.2, .int .i64 (join n (two a aa ac b ba bc)).2]) ∧ Below w.heap.size w w' ∧ ((join n (two a aa ac b ba bc)).1.length ≤ r.2 ∧ SlAt w' w.heap.size w'.heap.size 3 encSend r.1 (join n (two a aa ac b ba bc)).1)) := by
  have h := join_callsR w n na nc (two b ba bc a aa ac) x 2 hn hk hx (two_ins hb hbc ha hac) (Nat.le_of_ble_eq_true rfl)
  rwa [join_swap hra hrb] at h
set_option maxRecDepth 100000 in
set_option maxHeartbeats 4000000 in
theorem law_joins (w : World) (n : Net) (na : Option Addr) (nc : Nat) (a : List Send) (aa : Option Addr) (ac : Nat) (b : List Send) (ba : Option Addr) (bc : Nat) (x0 x1 : Int) (hn : SlIn w 50 encLink na n.links) (hk : NetOk n) (ha : SlIn w 3 encSend aa a) (hb : SlIn w 3 encSend ba b) (hac : a.length ≤ ac) (hbc : b.length ≤ bc) (hx0 : 0 ≤ x0 ∧ x0 ≤ 65535) (hx1 : 0 ≤ x1 ∧ x1 ≤ 65535) :
    Calls Try.prog 12 #[.agg (netA n na nc), .slice aa a.length ac, .slice ba b.length bc, .agg #[.int .u16 x0, .int .u16 x1]] w (fun e w' => e = .returned (.bool true) ∧ Below w.heap.size w w') := by
  have hlen := ha.len
  have hlen2 := hb.len
  simp only [maxLen] at hlen hlen2
  have hlenn := hn.len
  simp only [maxLen] at hlenn
  refine calls_of_tc (N := 185) (vs := [.agg (netA n na nc), .slice aa a.length ac, .slice ba b.length bc, .agg #[.int .u16 x0, .int .u16 x1]]) Try.func12 rfl rfl (Nat.le_of_ble_eq_true rfl) ?_
  refine tc_seq ?_
  refine tc_region ?_
  refine tl_box rfl (by decide) (fun b4_0 => ?_)
  refine tl_box rfl (by decide) (fun b7_1 => ?_)
  refine s0 (qv_assign rfl) ?_
  refine tl_nil (tp_normal ?_)
  refine tc_seq ?_
  refine tc_region ?_
  refine s0 (qv_ldBW (i := 1) ag_24 rfl rfl rfl) ?_
  refine s0 (qv_move rfl) ?_
  refine s0 (qv_move rfl) ?_
  refine tl_buildSliceL (enc := encHd) (two a aa ac b ba bc) bsl_54_2 (fun b31_2 => ?_) rfl (by kernel_rfl)
  have hsb31_2 := SlAt.ofBox (enc := encHd) (sz := 1) (b := b31_2) (E := 25) (l := (two a aa ac b ba bc)) (Nat.le_of_ble_eq_true rfl) (fun _ _ => rfl)
  refine sd (qv_call fn_29 rfl (fun w hm => few_calls w n na nc (two a aa ac b ba bc) (some ⟨b31_2, 0, none⟩) 2 (60) (hn.into Mem.has_base hm) hk (hsb31_2.into (Mem.has_box (by repeat (first | exact List.Mem.head _ | refine List.Mem.tail _ ?_))) hm))) (fun c32 => ?_) (fun c32 => ?_)
  ·
    refine s0 (qv_assign rfl) ?_
    refine tl_nil (tp_normal ?_)
    refine tc_seq ?_
    refine tc_seq ?_
    refine tc_region ?_
    refine s0 (qv_move rfl) ?_
    refine s0 (qv_not rfl) ?_
    refine s0 (qv_move rfl) ?_
    refine s0g (qv_ldBW (i := 2) ag_24 rfl rfl rfl) ?_
    refine s0g (qv_move rfl) ?_
    refine s0g (qv_call fn_33 rfl (fun w hm => right_calls w n na nc a aa ac (hn.into Mem.has_base hm) hk (ha.into Mem.has_base hm))) ?_
    refine sdg (qv_neq rfl rfl) (fun c39 => ?_) (fun c39 => ?_)
    ·
      refine s0 (qv_pickF rfl rfl) ?_
      refine s0 (qv_move rfl) ?_
      refine sk ?_
      refine sk ?_
      refine sk ?_
      refine sk ?_
      refine s0 (qv_pickT rfl rfl) ?_
      refine tl_nil (tp_normal ?_)
      refine tc_true rfl ?_
      refine tc_seq ?_
      refine tc_region ?_
      refine s0 (qv_call fn_30 rfl (fun w hm => sanity_calls w)) ?_
      refine s0 (qv_assign rfl) ?_
      refine tl_nil (tp_normal ?_)
      refine tc_ret (tp_then_ret (tp_end1 rfl rfl ?_))
      intro w' hm
      exact ⟨rfl, hm.below⟩
    ·
      refine s0 (qv_pickF rfl rfl) ?_
      refine s0 (qv_move rfl) ?_
      refine s0g (qv_ldBW (i := 2) ag_24 rfl rfl rfl) ?_
      refine s0g (qv_move rfl) ?_
      refine s0g (qv_call fn_33 rfl (fun w hm => right_calls w n na nc b ba bc (hn.into Mem.has_base hm) hk (hb.into Mem.has_base hm))) ?_
      refine sdg (qv_neq rfl rfl) (fun c45 => ?_) (fun c45 => ?_)
      ·
        refine s0 (qv_pickF rfl rfl) ?_
        refine tl_nil (tp_normal ?_)
        refine tc_true rfl ?_
        refine tc_seq ?_
        refine tc_region ?_
        refine s0 (qv_call fn_30 rfl (fun w hm => sanity_calls w)) ?_
        refine s0 (qv_assign rfl) ?_
        refine tl_nil (tp_normal ?_)
        refine tc_ret (tp_then_ret (tp_end1 rfl rfl ?_))
        intro w' hm
        exact ⟨rfl, hm.below⟩
      ·
        refine s0 (qv_pickF rfl rfl) ?_
        refine tl_nil (tp_normal ?_)
        refine tc_false rfl ?_
        refine tc_skip (tp_normal ?_)
        refine tc_seq ?_
        have hfa := c32.2.2 ⟨a, aa, ac⟩ (by simp [two])
        have hfb := c32.2.2 ⟨b, ba, bc⟩ (by simp [two])
        simp only at hfa hfb
        have hra : right n a = 0 := by omega
        have hrb : right n b = 0 := by omega
        refine tc_region ?_
        refine s0 (qv_ldBW (i := 2) ag_24 rfl rfl rfl) ?_
        refine s0 (qv_move rfl) ?_
        refine s0 (qv_move rfl) ?_
        refine tl_buildSliceL (enc := encHd) (two a aa ac b ba bc) bsl_54_2 (fun b52_3 => ?_) rfl (by kernel_rfl)
        have hsb52_3 := SlAt.ofBox (enc := encHd) (sz := 1) (b := b52_3) (E := 25) (l := (two a aa ac b ba bc)) (Nat.le_of_ble_eq_true rfl) (fun _ _ => rfl)
        refine tl_callR fn_37 rfl (by decide) (fun w hm => join_callsR w n na nc (two a aa ac b ba bc) (some ⟨b52_3, 0, none⟩) 2 (hn.into Mem.has_base hm) hk (hsb52_3.into (Mem.has_box (by repeat (first | exact List.Mem.head _ | refine List.Mem.tail _ ?_))) hm) (two_ins (ha.into Mem.has_base hm) hac (hb.into Mem.has_base hm) hbc) (Nat.le_of_ble_eq_true rfl)) (fun r53 wa53 wb53 hm53 hb53 hr53 => ?_)
        refine s0 (qv_move rfl) ?_
        refine s0 (qv_extract rfl rfl) ?_
        refine s0 (qv_extract rfl rfl) ?_
        refine s0 (qv_assign rfl) ?_
        refine s0 (qv_assign rfl) ?_
        refine tl_nil (tp_normal ?_)
        refine tc_seq ?_
        refine tc_region ?_
        refine s0 (qv_ldBW (i := 3) ag_24 rfl rfl rfl) ?_
        refine s0 (qv_move rfl) ?_
        refine s0 (qv_move rfl) ?_
        refine tl_buildSliceL (enc := encHd) (two b ba bc a aa ac) bsl_54_2 (fun b60_4 => ?_) rfl (by kernel_rfl)
        have hsb60_4 := SlAt.ofBox (enc := encHd) (sz := 1) (b := b60_4) (E := 25) (l := (two b ba bc a aa ac)) (Nat.le_of_ble_eq_true rfl) (fun _ _ => rfl)
        refine tl_callR fn_37 rfl (by decide) (fun w hm => join_swapR w n na nc a aa ac b ba bc (some ⟨b60_4, 0, none⟩) (hn.into Mem.has_base hm) hk (hsb60_4.into (Mem.has_box (by repeat (first | exact List.Mem.head _ | refine List.Mem.tail _ ?_))) hm) (ha.into Mem.has_base hm) hac (hb.into Mem.has_base hm) hbc hra hrb) (fun r61 wa61 wb61 hm61 hb61 hr61 => ?_)
        refine s0 (qv_move rfl) ?_
        refine s0 (qv_extract rfl rfl) ?_
        refine s0 (qv_extract rfl rfl) ?_
        refine s0 (qv_assign rfl) ?_
        refine s0 (qv_assign rfl) ?_
        refine tl_nil (tp_normal ?_)
        refine tc_seq ?_
        refine tc_seq ?_
        refine tc_region ?_
        refine s0 (qv_move rfl) ?_
        refine s0 (qv_move rfl) ?_
        refine s0 (qv_neSelf rfl rfl) ?_
        refine s0 (qv_move rfl) ?_
        refine s0g (qv_move rfl) ?_
        refine s0g (qv_move rfl) ?_
        refine s0g (qv_call fn_41 rfl (fun w hm => same_self w (join n (two a aa ac b ba bc)).1 r53.1 r53.2 r61.1 r61.2 (hr53.2.into (Mem.has_kept (by first | exact .head _ | exact .tail _ (.head _) | exact .tail _ (.tail _ (.head _)) | exact .tail _ (.tail _ (.tail _ (.head _))))) hm) (hr61.2.into (Mem.has_kept (by first | exact .head _ | exact .tail _ (.head _) | exact .tail _ (.tail _ (.head _)) | exact .tail _ (.tail _ (.tail _ (.head _))))) hm))) ?_
        refine s0g (qv_not rfl) ?_
        refine s0 (qv_pickF rfl rfl) ?_
        refine tl_nil (tp_normal ?_)
        refine tc_false rfl ?_
        refine tc_skip (tp_normal ?_)
        refine tc_seq ?_
        refine tc_seq ?_
        refine tc_region ?_
        refine s0 (qv_move rfl) ?_
        refine sd (qv_neq rfl rfl) (fun c74 => ?_) (fun c74 => ?_)
        ·
          refine tl_nil (tp_normal ?_)
          refine tc_true rfl ?_
          refine tc_seq ?_
          refine tc_region ?_
          refine s0 (qv_call fn_30 rfl (fun w hm => sanity_calls w)) ?_
          refine s0 (qv_move rfl) ?_
          refine s0g (qv_move rfl) ?_
          refine s0g (qv_eql rfl rfl) ?_
          refine s0 (qv_pickT rfl rfl) ?_
          refine s0 (qv_assign rfl) ?_
          refine tl_nil (tp_normal ?_)
          refine tc_ret (tp_then_ret (tp_end1 rfl rfl ?_))
          intro w' hm
          exact ⟨by rw [decide_eq_true (join_errs hra hrb (by omega) c74)], hm.below⟩
        ·
          refine tl_nil (tp_normal ?_)
          refine tc_false rfl ?_
          refine tc_skip (tp_normal ?_)
          refine tc_seq ?_
          obtain ⟨hrj, hcj, hsj, hfj⟩ := join_good (aa := aa) (ac := ac) (ba := ba) (bc := bc) hra hrb (by omega) c74
          have eca := cost_of hra
          have ecb := cost_of hrb
          have ecj := cost_of hrj
          have hba := costSum_all hra
          have hbb := costSum_all hrb
          refine tc_region ?_
          refine s0 (qv_ldBW (i := 4) ag_24 rfl rfl rfl) ?_
          refine s0 (qv_move rfl) ?_
          refine s0 (qv_call fn_23 rfl (fun w hm => cost_calls w n na nc a aa ac (hn.into Mem.has_base hm) hk (ha.into Mem.has_base hm))) ?_
          refine s0 (qv_move rfl) ?_
          refine s0 (qv_extract rfl rfl) ?_
          refine s0 (qv_extract rfl rfl) ?_
          refine s0 (qv_assign rfl) ?_
          refine s0 (qv_assign rfl) ?_
          refine tl_nil (tp_normal ?_)
          refine tc_seq ?_
          refine tc_region ?_
          refine s0 (qv_ldBW (i := 4) ag_24 rfl rfl rfl) ?_
          refine s0 (qv_move rfl) ?_
          refine s0 (qv_call fn_23 rfl (fun w hm => cost_calls w n na nc b ba bc (hn.into Mem.has_base hm) hk (hb.into Mem.has_base hm))) ?_
          refine s0 (qv_move rfl) ?_
          refine s0 (qv_extract rfl rfl) ?_
          refine s0 (qv_extract rfl rfl) ?_
          refine s0 (qv_assign rfl) ?_
          refine s0 (qv_assign rfl) ?_
          refine tl_nil (tp_normal ?_)
          refine tc_seq ?_
          refine tc_region ?_
          refine s0 (qv_ldBW (i := 4) ag_24 rfl rfl rfl) ?_
          refine s0 (qv_move rfl) ?_
          refine s0 (qv_call fn_23 rfl (fun w hm => cost_calls w n na nc (join n (two a aa ac b ba bc)).1 r53.1 r53.2 (hn.into Mem.has_base hm) hk (hr53.2.into (Mem.has_kept (by first | exact .head _ | exact .tail _ (.head _) | exact .tail _ (.tail _ (.head _)) | exact .tail _ (.tail _ (.tail _ (.head _))))) hm))) ?_
          refine s0 (qv_move rfl) ?_
          refine s0 (qv_extract rfl rfl) ?_
          refine s0 (qv_extract rfl rfl) ?_
          refine s0 (qv_assign rfl) ?_
          refine s0 (qv_assign rfl) ?_
          refine tl_nil (tp_normal ?_)
          refine tc_seq ?_
          refine tc_seq ?_
          refine tc_region ?_
          refine s0 (qv_move rfl) ?_
          refine sd (qv_neq rfl rfl) (fun c99 => ?_) (fun c99 => ?_)
          ·
            refine s0 (qv_move rfl) ?_
            refine sk ?_
            refine sk ?_
            refine sk ?_
            refine sk ?_
            refine sk ?_
            refine s0 (qv_pickT rfl rfl) ?_
            refine s0 (qv_move rfl) ?_
            refine sk ?_
            refine sk ?_
            refine sk ?_
            refine sk ?_
            refine s0 (qv_pickT rfl rfl) ?_
            refine tl_nil (tp_normal ?_)
            refine tc_true rfl ?_
            refine tc_seq ?_
            refine tc_region ?_
            refine s0 (qv_assign rfl) ?_
            refine tl_nil (tp_normal ?_)
            refine tc_ret (tp_then_ret (tp_end1 rfl rfl ?_))
            intro w' hm
            exfalso
            first | (rw [ecj] at c99; exact c99 rfl) | (rw [ecj, eca, ecb] at c105; simp only at c105; omega) | omega
          ·
            refine s0 (qv_move rfl) ?_
            refine s0g (qv_move rfl) ?_
            refine s0g (qv_move rfl) ?_
            refine s0g (qv_move rfl) ?_
            refine s0g (qv_addI rfl rfl (by rw [eca, ecb]; simp only; omega)) ?_
            refine sdg (qv_neq rfl rfl) (fun c105 => ?_) (fun c105 => ?_)
            ·
              refine s0 (qv_pickF rfl rfl) ?_
              refine s0 (qv_move rfl) ?_
              refine sk ?_
              refine sk ?_
              refine sk ?_
              refine sk ?_
              refine s0 (qv_pickT rfl rfl) ?_
              refine tl_nil (tp_normal ?_)
              refine tc_true rfl ?_
              refine tc_seq ?_
              refine tc_region ?_
              refine s0 (qv_assign rfl) ?_
              refine tl_nil (tp_normal ?_)
              refine tc_ret (tp_then_ret (tp_end1 rfl rfl ?_))
              intro w' hm
              exfalso
              first | (rw [ecj] at c99; exact c99 rfl) | (rw [ecj, eca, ecb] at c105; simp only at c105; omega) | omega
            ·
              refine s0 (qv_pickF rfl rfl) ?_
              refine s0 (qv_move rfl) ?_
              refine s0g (qv_ldBW (i := 4) ag_24 rfl rfl rfl) ?_
              refine s0g (qv_move rfl) ?_
              refine s0g (qv_call fn_33 rfl (fun w hm => right_calls w n na nc (join n (two a aa ac b ba bc)).1 r53.1 r53.2 (hn.into Mem.has_base hm) hk (hr53.2.into (Mem.has_kept (by first | exact .head _ | exact .tail _ (.head _) | exact .tail _ (.tail _ (.head _)) | exact .tail _ (.tail _ (.tail _ (.head _))))) hm))) ?_
              refine sdg (qv_neq rfl rfl) (fun c111 => ?_) (fun c111 => ?_)
              ·
                refine s0 (qv_pickF rfl rfl) ?_
                refine tl_nil (tp_normal ?_)
                refine tc_true rfl ?_
                refine tc_seq ?_
                refine tc_region ?_
                refine s0 (qv_assign rfl) ?_
                refine tl_nil (tp_normal ?_)
                refine tc_ret (tp_then_ret (tp_end1 rfl rfl ?_))
                intro w' hm
                exfalso
                first | (rw [ecj] at c99; exact c99 rfl) | (rw [ecj, eca, ecb] at c105; simp only at c105; omega) | omega
              ·
                refine s0 (qv_pickF rfl rfl) ?_
                refine tl_nil (tp_normal ?_)
                refine tc_false rfl ?_
                refine tc_skip (tp_normal ?_)
                refine tc_seq ?_
                refine tc_seq ?_
                refine tc_region ?_
                refine s0 (qv_fa fo_24_1 rfl) ?_
                refine s0 (qv_ldB (i := 4) sc_22 rfl rfl rfl) ?_
                refine s0 (qv_len st_22 rfl) ?_
                refine sd (qv_gtr rfl rfl) (fun c116 => ?_) (fun c116 => ?_)
                ·
                  refine tl_nil (tp_normal ?_)
                  refine tc_true rfl ?_
                  refine tc_seq ?_
                  have hnl : 0 < (n.links.length : Int) := by omega
                  have hmod0 := Int.emod_nonneg x0 (show (n.links.length : Int) ≠ 0 by omega)
                  have hmod1 := Int.emod_lt_of_pos x0 hnl
                  refine tc_region ?_
                  refine s0 (qv_iA at_76 rfl rfl (by omega)) ?_
                  refine s0 (qv_ldB (i := 3) sc_40 rfl rfl rfl) ?_
                  refine s0 (qv_convI Try.underlying40 Try.underlying3 rfl (by omega)) ?_
                  refine s0 (qv_fa fo_24_1 rfl) ?_
                  refine s0 (qv_ldB (i := 4) sc_22 rfl rfl rfl) ?_
                  refine s0 (qv_len st_22 rfl) ?_
                  refine s0 (qv_remI rfl rfl (by omega) (by omega)) ?_
                  refine s0 (qv_assign rfl) ?_
                  refine tl_nil (tp_normal ?_)
                  refine tc_seq ?_
                  refine tc_region ?_
                  refine s0 (qv_iA at_76 rfl rfl (by omega)) ?_
                  refine s0 (qv_ldB (i := 3) sc_40 rfl rfl rfl) ?_
                  refine s0 (qv_convI Try.underlying40 Try.underlying3 rfl (by omega)) ?_
                  refine s0 (qv_assign rfl) ?_
                  refine tl_nil (tp_normal ?_)
                  refine tc_seq ?_
                  have ela := left_of hra (link := x0 % n.links.length) (tick := x1) ⟨hmod0, hmod1⟩ ⟨by omega, by omega⟩
                  have elb := left_of hrb (link := x0 % n.links.length) (tick := x1) ⟨hmod0, hmod1⟩ ⟨by omega, by omega⟩
                  have elj := left_of hrj (link := x0 % n.links.length) (tick := x1) ⟨hmod0, hmod1⟩ ⟨by omega, by omega⟩
                  have hsn := hsj (x0 % n.links.length) x1
                  have hsa := sent_all hra (x0 % n.links.length) x1
                  have hsb := sent_all hrb (x0 % n.links.length) x1
                  have hcap := (right_zero hra).net.cap (x0 % n.links.length) x1
                  refine tc_region ?_
                  refine s0 (qv_ldBW (i := 4) ag_24 rfl rfl rfl) ?_
                  refine s0 (qv_move rfl) ?_
                  refine s0 (qv_move rfl) ?_
                  refine s0 (qv_move rfl) ?_
                  refine s0 (qv_call fn_26 rfl (fun w hm => left_calls w n na nc a aa ac (x0 % (n.links.length : Int)) x1 (hn.into Mem.has_base hm) hk (ha.into Mem.has_base hm))) ?_
                  refine s0 (qv_move rfl) ?_
                  refine s0 (qv_extract rfl rfl) ?_
                  refine s0 (qv_extract rfl rfl) ?_
                  refine s0 (qv_assign rfl) ?_
                  refine s0 (qv_assign rfl) ?_
                  refine tl_nil (tp_normal ?_)
                  refine tc_seq ?_
                  refine tc_region ?_
                  refine s0 (qv_ldBW (i := 4) ag_24 rfl rfl rfl) ?_
                  refine s0 (qv_move rfl) ?_
                  refine s0 (qv_move rfl) ?_
                  refine s0 (qv_move rfl) ?_
                  refine s0 (qv_call fn_26 rfl (fun w hm => left_calls w n na nc b ba bc (x0 % (n.links.length : Int)) x1 (hn.into Mem.has_base hm) hk (hb.into Mem.has_base hm))) ?_
                  refine s0 (qv_move rfl) ?_
                  refine s0 (qv_extract rfl rfl) ?_
                  refine s0 (qv_extract rfl rfl) ?_
                  refine s0 (qv_assign rfl) ?_
                  refine s0 (qv_assign rfl) ?_
                  refine tl_nil (tp_normal ?_)
                  refine tc_seq ?_
                  refine tc_region ?_
                  refine s0 (qv_ldBW (i := 4) ag_24 rfl rfl rfl) ?_
                  refine s0 (qv_move rfl) ?_
                  refine s0 (qv_move rfl) ?_
                  refine s0 (qv_move rfl) ?_
                  refine s0 (qv_call fn_26 rfl (fun w hm => left_calls w n na nc (join n (two a aa ac b ba bc)).1 r53.1 r53.2 (x0 % (n.links.length : Int)) x1 (hn.into Mem.has_base hm) hk (hr53.2.into (Mem.has_kept (by first | exact .head _ | exact .tail _ (.head _) | exact .tail _ (.tail _ (.head _)) | exact .tail _ (.tail _ (.tail _ (.head _))))) hm))) ?_
                  refine s0 (qv_move rfl) ?_
                  refine s0 (qv_extract rfl rfl) ?_
                  refine s0 (qv_extract rfl rfl) ?_
                  refine s0 (qv_assign rfl) ?_
                  refine s0 (qv_assign rfl) ?_
                  refine tl_nil (tp_normal ?_)
                  refine tc_seq ?_
                  refine tc_region ?_
                  refine s0 (qv_move rfl) ?_
                  refine s0 (qv_move rfl) ?_
                  refine s0 (qv_addI rfl rfl (by rw [ela, elb]; simp only; omega)) ?_
                  refine s0 (qv_move rfl) ?_
                  refine s0 (qv_subI rfl rfl (by rw [ela, elb, elj]; simp only; omega)) ?_
                  refine s0 (qv_fa fo_24_1 rfl) ?_
                  refine s0 (qv_ldB (i := 4) sc_22 rfl rfl rfl) ?_
                  refine s0 (qv_move rfl) ?_
                  refine s0 (qv_move rfl) ?_
                  refine s0 (qv_remI rfl rfl (by decide) (by omega)) ?_
                  refine si st_22 hn rfl rfl (by omega) (fun e161 he161 => ?_)
                  refine s0 (qv_fa fo_49_2 rfl) ?_
                  refine s0 (qv_iA at_47 rfl rfl (by omega)) ?_
                  refine s0 (qv_ldE (i := (x0 % n.links.length).toNat) (j := 2 + (x1 % 24).toNat * 1) sc_3 hn Mem.has_base rfl (by omega) he161 (enc_cap (hk _ (List.mem_of_getElem? he161)) (by omega) (by omega))) ?_
                  refine sd (qv_neq rfl rfl) (fun c165 => ?_) (fun c165 => ?_)
                  ·
                    refine tl_nil (tp_normal ?_)
                    refine tc_true rfl ?_
                    refine tc_seq ?_
                    refine tc_region ?_
                    refine s0 (qv_assign rfl) ?_
                    refine tl_nil (tp_normal ?_)
                    refine tc_ret (tp_then_ret (tp_end1 rfl rfl ?_))
                    intro w' hm
                    exfalso
                    rw [ela, elb, elj, ← capOf_eq he161] at c165
                    simp only at c165
                    omega
                  ·
                    refine tl_nil (tp_normal ?_)
                    refine tc_false rfl ?_
                    refine tc_skip (tp_normal ?_)
                    refine tc_seq ?_
                    refine tc_region ?_
                    refine s0 (qv_call fn_30 rfl (fun w hm => sanity_calls w)) ?_
                    refine s0 (qv_move rfl) ?_
                    refine s0g (qv_ldBW (i := 4) ag_24 rfl rfl rfl) ?_
                    refine s0g (qv_move rfl) ?_
                    refine s0g (qv_call fn_35 rfl (fun w hm => fits_calls w n na nc (join n (two a aa ac b ba bc)).1 r53.1 r53.2 (hn.into Mem.has_base hm) hk (hr53.2.into (Mem.has_kept (by first | exact .head _ | exact .tail _ (.head _) | exact .tail _ (.tail _ (.head _)) | exact .tail _ (.tail _ (.tail _ (.head _))))) hm))) ?_
                    refine sdg (qv_neq rfl rfl) (fun c171 => ?_) (fun c171 => ?_)
                    ·
                      refine s0g (qv_move rfl) ?_
                      refine sk ?_
                      refine sk ?_
                      refine sk ?_
                      refine sk ?_
                      refine sk ?_
                      refine sk ?_
                      refine sk ?_
                      refine sk ?_
                      refine sk ?_
                      refine sk ?_
                      refine s0g (qv_pickT rfl rfl) ?_
                      refine s0 (qv_pickT rfl rfl) ?_
                      refine s0 (qv_assign rfl) ?_
                      refine tl_nil (tp_normal ?_)
                      refine tc_ret (tp_end1 rfl rfl ?_)
                      intro w' hm
                      first | exact ⟨rfl, hm.below⟩ | exact ⟨by rw [decide_eq_true (hfj (by omega)).2], hm.below⟩ | (exfalso; have h_ := hfj (by omega); omega)
                    ·
                      refine s0g (qv_move rfl) ?_
                      refine s0g (qv_ldBW (i := 4) ag_24 rfl rfl rfl) ?_
                      refine s0g (qv_move rfl) ?_
                      refine s0g (qv_call fn_35 rfl (fun w hm => fits_calls w n na nc a aa ac (hn.into Mem.has_base hm) hk (ha.into Mem.has_base hm))) ?_
                      refine sdg (qv_eql rfl rfl) (fun c176 => ?_) (fun c176 => ?_)
                      ·
                        refine s0g (qv_move rfl) ?_
                        refine s0g (qv_ldBW (i := 4) ag_24 rfl rfl rfl) ?_
                        refine s0g (qv_move rfl) ?_
                        refine s0g (qv_call fn_35 rfl (fun w hm => fits_calls w n na nc b ba bc (hn.into Mem.has_base hm) hk (hb.into Mem.has_base hm))) ?_
                        refine s0g (qv_eql rfl rfl) ?_
                        refine s0g (qv_pickT rfl rfl) ?_
                        refine s0g (qv_pickF rfl rfl) ?_
                        refine s0 (qv_pickT rfl rfl) ?_
                        refine s0 (qv_assign rfl) ?_
                        refine tl_nil (tp_normal ?_)
                        refine tc_ret (tp_end1 rfl rfl ?_)
                        intro w' hm
                        first | exact ⟨rfl, hm.below⟩ | exact ⟨by rw [decide_eq_true (hfj (by omega)).2], hm.below⟩ | (exfalso; have h_ := hfj (by omega); omega)
                      ·
                        refine s0g (qv_move rfl) ?_
                        refine sk ?_
                        refine sk ?_
                        refine sk ?_
                        refine sk ?_
                        refine s0g (qv_pickF rfl rfl) ?_
                        refine s0g (qv_pickF rfl rfl) ?_
                        refine s0 (qv_pickT rfl rfl) ?_
                        refine s0 (qv_assign rfl) ?_
                        refine tl_nil (tp_normal ?_)
                        refine tc_ret (tp_end1 rfl rfl ?_)
                        intro w' hm
                        first | exact ⟨rfl, hm.below⟩ | exact ⟨by rw [decide_eq_true (hfj (by omega)).2], hm.below⟩ | (exfalso; have h_ := hfj (by omega); omega)
                ·
                  refine tl_nil (tp_normal ?_)
                  refine tc_false rfl ?_
                  refine tc_skip (tp_normal ?_)
                  refine tc_seq ?_
                  refine tc_region ?_
                  refine s0 (qv_call fn_30 rfl (fun w hm => sanity_calls w)) ?_
                  refine s0 (qv_move rfl) ?_
                  refine s0g (qv_ldBW (i := 4) ag_24 rfl rfl rfl) ?_
                  refine s0g (qv_move rfl) ?_
                  refine s0g (qv_call fn_35 rfl (fun w hm => fits_calls w n na nc (join n (two a aa ac b ba bc)).1 r53.1 r53.2 (hn.into Mem.has_base hm) hk (hr53.2.into (Mem.has_kept (by first | exact .head _ | exact .tail _ (.head _) | exact .tail _ (.tail _ (.head _)) | exact .tail _ (.tail _ (.tail _ (.head _))))) hm))) ?_
                  refine sdg (qv_neq rfl rfl) (fun c171 => ?_) (fun c171 => ?_)
                  ·
                    refine s0g (qv_move rfl) ?_
                    refine sk ?_
                    refine sk ?_
                    refine sk ?_
                    refine sk ?_
                    refine sk ?_
                    refine sk ?_
                    refine sk ?_
                    refine sk ?_
                    refine sk ?_
                    refine sk ?_
                    refine s0g (qv_pickT rfl rfl) ?_
                    refine s0 (qv_pickT rfl rfl) ?_
                    refine s0 (qv_assign rfl) ?_
                    refine tl_nil (tp_normal ?_)
                    refine tc_ret (tp_end1 rfl rfl ?_)
                    intro w' hm
                    first | exact ⟨rfl, hm.below⟩ | exact ⟨by rw [decide_eq_true (hfj (by omega)).2], hm.below⟩ | (exfalso; have h_ := hfj (by omega); omega)
                  ·
                    refine s0g (qv_move rfl) ?_
                    refine s0g (qv_ldBW (i := 4) ag_24 rfl rfl rfl) ?_
                    refine s0g (qv_move rfl) ?_
                    refine s0g (qv_call fn_35 rfl (fun w hm => fits_calls w n na nc a aa ac (hn.into Mem.has_base hm) hk (ha.into Mem.has_base hm))) ?_
                    refine sdg (qv_eql rfl rfl) (fun c176 => ?_) (fun c176 => ?_)
                    ·
                      refine s0g (qv_move rfl) ?_
                      refine s0g (qv_ldBW (i := 4) ag_24 rfl rfl rfl) ?_
                      refine s0g (qv_move rfl) ?_
                      refine s0g (qv_call fn_35 rfl (fun w hm => fits_calls w n na nc b ba bc (hn.into Mem.has_base hm) hk (hb.into Mem.has_base hm))) ?_
                      refine s0g (qv_eql rfl rfl) ?_
                      refine s0g (qv_pickT rfl rfl) ?_
                      refine s0g (qv_pickF rfl rfl) ?_
                      refine s0 (qv_pickT rfl rfl) ?_
                      refine s0 (qv_assign rfl) ?_
                      refine tl_nil (tp_normal ?_)
                      refine tc_ret (tp_end1 rfl rfl ?_)
                      intro w' hm
                      first | exact ⟨rfl, hm.below⟩ | exact ⟨by rw [decide_eq_true (hfj (by omega)).2], hm.below⟩ | (exfalso; have h_ := hfj (by omega); omega)
                    ·
                      refine s0g (qv_move rfl) ?_
                      refine sk ?_
                      refine sk ?_
                      refine sk ?_
                      refine sk ?_
                      refine s0g (qv_pickF rfl rfl) ?_
                      refine s0g (qv_pickF rfl rfl) ?_
                      refine s0 (qv_pickT rfl rfl) ?_
                      refine s0 (qv_assign rfl) ?_
                      refine tl_nil (tp_normal ?_)
                      refine tc_ret (tp_end1 rfl rfl ?_)
                      intro w' hm
                      first | exact ⟨rfl, hm.below⟩ | exact ⟨by rw [decide_eq_true (hfj (by omega)).2], hm.below⟩ | (exfalso; have h_ := hfj (by omega); omega)
  ·
    refine s0 (qv_assign rfl) ?_
    refine tl_nil (tp_normal ?_)
    refine tc_seq ?_
    refine tc_seq ?_
    refine tc_region ?_
    refine s0 (qv_move rfl) ?_
    refine s0 (qv_not rfl) ?_
    refine s0 (qv_move rfl) ?_
    refine sk ?_
    refine sk ?_
    refine sk ?_
    refine sk ?_
    refine s0 (qv_pickT rfl rfl) ?_
    refine s0 (qv_move rfl) ?_
    refine sk ?_
    refine sk ?_
    refine sk ?_
    refine sk ?_
    refine s0 (qv_pickT rfl rfl) ?_
    refine tl_nil (tp_normal ?_)
    refine tc_true rfl ?_
    refine tc_seq ?_
    refine tc_region ?_
    refine s0 (qv_call fn_30 rfl (fun w hm => sanity_calls w)) ?_
    refine s0 (qv_assign rfl) ?_
    refine tl_nil (tp_normal ?_)
    refine tc_ret (tp_then_ret (tp_end1 rfl rfl ?_))
    intro w' hm
    exact ⟨rfl, hm.below⟩

end Go.Q
