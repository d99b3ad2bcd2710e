/- A part of the proof: see the last text. -/
import Derived.Test.YtgcpocaaepoafaaQ13
import Derived.Test.YtgcpocaaepoafaaW15s
import Derived.Test.YtgcpocaaepoafaaQ12
import Derived.Test.YtgcpocaaepoafaaS15
import Derived.Test.YtgcpocaaepoafaaW15d
import Derived.Test.YtgcpocaaepoafaaProg
set_option linter.unusedVariables false
set_option linter.unusedSimpArgs false
set_option linter.unusedSectionVars false
namespace Go.Q
open Go Go.Proofs Go.RowKit
theorem ze_63 : Zero Try.prog 63 #[.slice none 0 0, .int .i64 0] := fun w => ⟨.agg #[.slice none 0 0, .int .i64 0], by kernel_rfl, rfl⟩
theorem bt_63 : BuildTy Try.prog 63 #[(0, 1), (1, 1)] #[.slice none 0 0, .int .i64 0] := ⟨_, Try.underlying63, fun w => by kernel_rfl, ze_63⟩
theorem sz_63 : Size Try.prog 63 2 := fun w => by kernel_rfl
theorem ag_63 : Agg Try.prog 63 2 := fun w => ⟨by kernel_rfl, by kernel_rfl⟩
theorem fn_64 : IsFn Try.prog 64 := isFn_of Try.func64 (by kernel_rfl) rfl
set_option maxRecDepth 100000 in
theorem few_calls (w : World) (n : Net) (na : Option Addr) (nc : Nat) (ls : List Hd) (lsa : Option Addr) (lsc : Nat) (sends : Int) (hn : SlIn w 50 encLink na n.links) (hk : NetOk n) (hls : SlIn w 1 encHd lsa ls) :
    Calls Try.prog 29 #[.agg (netA n na nc), .slice lsa ls.length lsc, .int .i64 sends] w (fun e w' => e = .returned (.bool (decide (few n ls sends))) ∧ Below w.heap.size w w') := by
  have hlenn := hn.len
  simp only [maxLen] at hlenn
  have hlens := hls.len
  simp only [maxLen] at hlens
  refine calls_of_tc (N := 30) (vs := [.agg (netA n na nc), .slice lsa ls.length lsc, .int .i64 sends]) Try.func29 rfl rfl (Nat.le_of_ble_eq_true rfl) ?_
  refine tc_seq ?_
  refine tc_region ?_
  refine tl_box rfl (by decide) (fun b3_0 => ?_)
  refine s0 (qv_assign rfl) ?_
  refine tl_nil (tp_normal ?_)
  refine tc_seq ?_
  refine tc_seq ?_
  refine tc_region ?_
  refine s0 (qv_fa fo_24_1 rfl) ?_
  refine s0 (qv_ldB (i := 0) sc_22 rfl rfl rfl) ?_
  refine s0 (qv_len st_22 rfl) ?_
  refine sd (qv_gtr rfl rfl) (fun c11 => ?_) (fun c11 => ?_)
  ·
    refine s0 (qv_move rfl) ?_
    refine sk ?_
    refine sk ?_
    refine sk ?_
    refine s0 (qv_pickT rfl rfl) ?_
    refine tl_nil (tp_normal ?_)
    refine tc_true rfl ?_
    refine tc_seq ?_
    refine tc_region ?_
    refine s0 (qv_assign rfl) ?_
    refine tl_nil (tp_normal ?_)
    refine tc_ret (tp_then_ret (tp_end1 rfl rfl ?_))
    intro w' hm
    exact ⟨by rw [decide_eq_false (fun h => by unfold few at h; omega)], hm.below⟩
  ·
    refine s0 (qv_move rfl) ?_
    refine s0g (qv_move rfl) ?_
    refine s0g (qv_len st_54 rfl) ?_
    refine sdg (qv_gtr rfl rfl) (fun c15 => ?_) (fun c15 => ?_)
    ·
      refine s0 (qv_pickF rfl rfl) ?_
      refine tl_nil (tp_normal ?_)
      refine tc_true rfl ?_
      refine tc_seq ?_
      refine tc_region ?_
      refine s0 (qv_assign rfl) ?_
      refine tl_nil (tp_normal ?_)
      refine tc_ret (tp_then_ret (tp_end1 rfl rfl ?_))
      intro w' hm
      exact ⟨by rw [decide_eq_false (fun h => by unfold few at h; omega)], hm.below⟩
    ·
      refine s0 (qv_pickF rfl rfl) ?_
      refine tl_nil (tp_normal ?_)
      refine tc_false rfl ?_
      refine tc_skip (tp_normal ?_)
      refine tc_seq ?_
      refine tc_seq ?_
      refine tc_region ?_
      refine s0 (qv_assign rfl) ?_
      refine tl_nil (tp_normal ?_)
      refine tc_block (tc_loopS (fun (k : Nat) => [(7, .int .i64 (k : Int))]) (fun (k : Nat) => k ≤ ls.length ∧ ∀ (j : Nat) h, j < k → ls[j]? = some h → (h.l.length : Int) ≤ sends) (fun (k : Nat) => ls.length - k) (0) ⟨Nat.zero_le _, fun _ _ h => absurd h (Nat.not_lt_zero _)⟩ ⟨rfl, trivial⟩ ?_)
      rintro k hI
      refine tc_seq ?_
      refine tc_seq ?_
      refine tc_region ?_
      refine s0 (qv_move rfl) ?_
      refine s0 (qv_move rfl) ?_
      refine s0 (qv_len st_54 rfl) ?_
      refine sd (qv_lss rfl rfl) (fun c20 => ?_) (fun c20 => ?_)
      ·
        refine tl_nil (tp_normal ?_)
        refine tc_true rfl ?_
        refine tc_skip (tp_normal ?_)
        refine tc_seq ?_
        refine tc_block ?_
        refine tc_seq ?_
        refine tc_region ?_
        refine s0 (qv_move rfl) ?_
        refine s0 (qv_move rfl) ?_
        refine sn st_54 hls rfl rfl (by omega) (fun e25 he25 => ?_)
        refine s0 (qv_ldE (j := 0) sc_25 hls Mem.has_base rfl rfl he25 rfl) ?_
        refine s0 (qv_len st_25 rfl) ?_
        refine s0 (qv_move rfl) ?_
        refine sd (qv_gtr rfl rfl) (fun c29 => ?_) (fun c29 => ?_)
        ·
          refine tl_nil (tp_normal ?_)
          refine tc_true rfl ?_
          refine tc_seq ?_
          refine tc_region ?_
          refine s0 (qv_assign rfl) ?_
          refine tl_nil (tp_normal ?_)
          refine tc_ret (tp_block_ret (tp_then_ret (tp_then_ret (tp_block_ret (tp_then_ret (tp_end1 rfl rfl ?_))))))
          intro w' hm
          exact ⟨by rw [decide_eq_false (fun h => by have := h.2.2 _ (List.mem_of_getElem? he25); omega)], hm.below⟩
        ·
          refine tl_nil (tp_normal ?_)
          refine tc_false rfl ?_
          refine tc_skip (tp_block_normal (tp_normal ?_))
          refine tc_region ?_
          refine s0 (qv_move rfl) ?_
          refine s0 (qv_succ rfl rfl (by omega)) ?_
          refine s0 (qv_assign rfl) ?_
          exact tl_nil (tp_roundS (k + 1) ⟨by omega, none_stepG (P := fun _ (h : Hd) => (h.l.length : Int) ≤ sends) hI.2 he25 (by omega)⟩ (by omega) ⟨rfl, trivial⟩ rfl rfl rfl rfl)
      ·
        refine tl_nil (tp_normal ?_)
        refine tc_false rfl ?_
        refine tc_exit (tp_then_exit (tp_then_exit (tp_block_exit (tp_normal ?_))))
        refine tc_seq ?_
        refine tc_region ?_
        refine s0 (qv_assign rfl) ?_
        refine tl_nil (tp_normal ?_)
        refine tc_ret (tp_end1 rfl rfl ?_)
        intro w' hm
        exact ⟨by rw [decide_eq_true (few_all (by omega) (by omega) (fun j h hj => hI.2 j h (by have := (List.getElem?_eq_some_iff.1 hj).1; omega) hj))], hm.below⟩

set_option maxRecDepth 100000 in
theorem same_calls (w : World) (a : List Send) (aa : Option Addr) (ac : Nat) (b : List Send) (ba : Option Addr) (bc : Nat) (ha : SlIn w 3 encSend aa a) (hb : SlIn w 3 encSend ba b) :
    Calls Try.prog 41 #[.slice aa a.length ac, .slice ba b.length bc] w (fun e w' => e = .returned (.bool (decide (a = b))) ∧ Below w.heap.size w w') := by
  have hlen := ha.len
  have hlen2 := hb.len
  simp only [maxLen] at hlen hlen2
  refine calls_of_tc (N := 26) (vs := [.slice aa a.length ac, .slice ba b.length bc]) Try.func41 rfl rfl (Nat.le_of_ble_eq_true rfl) ?_
  refine tc_seq ?_
  refine tc_region ?_
  refine s0 (qv_assign rfl) ?_
  refine tl_nil (tp_normal ?_)
  refine tc_seq ?_
  refine tc_seq ?_
  refine tc_region ?_
  refine s0 (qv_move rfl) ?_
  refine s0 (qv_len st_25 rfl) ?_
  refine s0 (qv_move rfl) ?_
  refine s0 (qv_len st_25 rfl) ?_
  refine sd (qv_neq rfl rfl) (fun c10 => ?_) (fun c10 => ?_)
  ·
    refine tl_nil (tp_normal ?_)
    refine tc_true rfl ?_
    refine tc_seq ?_
    refine tc_region ?_
    refine s0 (qv_assign rfl) ?_
    refine tl_nil (tp_normal ?_)
    refine tc_ret (tp_then_ret (tp_end1 rfl rfl ?_))
    intro w' hm
    exact ⟨by rw [decide_eq_false (fun h => by subst h; omega)], hm.below⟩
  ·
    refine tl_nil (tp_normal ?_)
    refine tc_false rfl ?_
    refine tc_skip (tp_normal ?_)
    refine tc_seq ?_
    refine tc_seq ?_
    refine tc_region ?_
    refine s0 (qv_assign rfl) ?_
    refine tl_nil (tp_normal ?_)
    refine tc_block (tc_loopS (fun (k : Nat) => [(5, .int .i64 (k : Int))]) (fun (k : Nat) => k ≤ a.length ∧ a.take k = b.take k) (fun (k : Nat) => a.length - k) (0) ⟨Nat.zero_le _, rfl⟩ ⟨rfl, trivial⟩ ?_)
    rintro k hI
    refine tc_seq ?_
    refine tc_seq ?_
    refine tc_region ?_
    refine s0 (qv_move rfl) ?_
    refine s0 (qv_move rfl) ?_
    refine s0 (qv_len st_25 rfl) ?_
    refine sd (qv_lss rfl rfl) (fun c14 => ?_) (fun c14 => ?_)
    ·
      refine tl_nil (tp_normal ?_)
      refine tc_true rfl ?_
      refine tc_skip (tp_normal ?_)
      refine tc_seq ?_
      refine tc_block ?_
      refine tc_seq ?_
      refine tc_draws mixed (by kernel_rfl) ?_
      refine q0 (qv_move rfl) ?_
      refine q0 (qv_move rfl) ?_
      refine qn st_25 ha rfl rfl (by omega) (fun e19 he19 => ?_)
      refine q0 (qv_ldEW ag_70 ha Mem.has_base rfl he19) ?_
      refine q0 (qv_move rfl) ?_
      refine q0 (qv_move rfl) ?_
      refine qn st_25 hb rfl rfl (by omega) (fun e23 he23 => ?_)
      refine q0 (qv_ldEW ag_70 hb Mem.has_base rfl he23) ?_
      refine qd (qv_neSend e19 e23 rfl rfl) (fun c25 => ?_) (fun c25 => ?_)
      ·
        refine tq_nil (tp_normal ?_)
        refine tc_true rfl ?_
        refine tc_seq ?_
        refine tc_region ?_
        refine s0 (qv_assign rfl) ?_
        refine tl_nil (tp_normal ?_)
        refine tc_ret (tp_block_ret (tp_then_ret (tp_then_ret (tp_block_ret (tp_then_ret (tp_end1 rfl rfl ?_))))))
        intro w' hm
        exact ⟨by rw [decide_eq_false (take_diff he19 he23 c25)], hm.below⟩
      ·
        refine tq_nil (tp_normal ?_)
        refine tc_false rfl ?_
        refine tc_skip (tp_block_normal (tp_normal ?_))
        refine tc_region ?_
        refine s0 (qv_move rfl) ?_
        refine s0 (qv_succ rfl rfl (by omega)) ?_
        refine s0 (qv_assign rfl) ?_
        exact tl_nil (tp_roundS (k + 1) ⟨by omega, take_step hI.2 he19 he23 (Classical.not_not.1 c25)⟩ (by omega) ⟨rfl, trivial⟩ rfl rfl rfl rfl)
    ·
      refine tl_nil (tp_normal ?_)
      refine tc_false rfl ?_
      refine tc_exit (tp_then_exit (tp_then_exit (tp_block_exit (tp_normal ?_))))
      refine tc_seq ?_
      refine tc_region ?_
      refine s0 (qv_assign rfl) ?_
      refine tl_nil (tp_normal ?_)
      refine tc_ret (tp_end1 rfl rfl ?_)
      intro w' hm
      exact ⟨by rw [decide_eq_true (take_same hI.2 (by omega) (by omega))], hm.below⟩

set_option maxRecDepth 100000 in
set_option maxHeartbeats 4000000 in
theorem rjoin_calls (w : World) (n : Net) (na : Option Addr) (nc : Nat) (ls : List Hd) (lsa : Option Addr) (lsc : Nat) (hn : SlIn w 50 encLink na n.links) (hk : NetOk n) (hls : SlIn w 1 encHd lsa ls) (hins : ∀ h ∈ ls, SlIn w 3 encSend h.a h.l ∧ h.l.length ≤ h.c) (hl4 : ls.length ≤ 4) :
    Calls Try.prog 38 #[.agg (netA n na nc), .slice lsa ls.length lsc] w (fun e w' => JoinIs n ls (fun a b => .agg #[a, b]) e w w') := by
  have hlenn := hn.len
  simp only [maxLen] at hlenn
  have hlens := hls.len
  simp only [maxLen] at hlens
  refine calls_of_tc (N := 76) (vs := [.agg (netA n na nc), .slice lsa ls.length lsc]) Try.func38 rfl rfl (Nat.le_of_ble_eq_true rfl) ?_
  refine tc_seq ?_
  refine tc_region ?_
  refine tl_box rfl (by decide) (fun b2_0 => ?_)
  refine tl_alloc ze_63 (by decide) (fun b4_1 => ?_)
  refine tl_nil (tp_normal ?_)
  refine tc_seq ?_
  refine tc_region ?_
  refine s0 (qv_ldBW (i := 1) ag_24 rfl rfl rfl) ?_
  refine s0 (qv_call fn_40 rfl (fun w hm => rcheck_calls w n na nc (hn.into Mem.has_base hm) hk)) ?_
  refine s0 (qv_assign rfl) ?_
  refine tl_nil (tp_normal ?_)
  refine tc_seq ?_
  refine tc_seq ?_
  refine tc_region ?_
  refine s0 (qv_move rfl) ?_
  refine sd (qv_neq rfl rfl) (fun c14 => ?_) (fun c14 => ?_)
  ·
    refine tl_nil (tp_normal ?_)
    refine tc_true rfl ?_
    refine tc_seq ?_
    refine tc_region ?_
    refine s0 (qv_move rfl) ?_
    refine s0 (qv_build bt_63 rfl rfl) ?_
    refine tl_storeO (i := 0) sz_63 rfl rfl rfl rfl rfl rfl rfl ?_
    refine tl_nil (tp_normal ?_)
    refine tc_ret (tp_then_ret (tp_endC (i := 0) rfl rfl ag_63 rfl rfl ?_))
    intro w' hm
    exact joinIs_err (f := fun a b => .agg #[a, b]) (join_check c14) hm.below
  ·
    refine tl_nil (tp_normal ?_)
    refine tc_false rfl ?_
    refine tc_skip (tp_normal ?_)
    refine tc_seq ?_
    refine tc_region ?_
    refine s0 (qv_assign rfl) ?_
    refine tl_nil (tp_normal ?_)
    refine tc_seq ?_
    refine tc_seq ?_
    refine tc_region ?_
    refine s0 (qv_assign rfl) ?_
    refine tl_nil (tp_normal ?_)
    refine tc_block (tc_loopS (fun (k : Nat) => [(7, .int .i64 (k : Int)), (5, .int .i64 0)]) (fun (k : Nat) => k ≤ ls.length ∧ rights n (ls.take k) = 0) (fun (k : Nat) => ls.length - k) (0) ⟨Nat.zero_le _, rfl⟩ ⟨rfl, lk rfl (by omega), trivial⟩ ?_)
    rintro k hI
    refine tc_seq ?_
    refine tc_seq ?_
    refine tc_region ?_
    refine s0 (qv_move rfl) ?_
    refine s0 (qv_move rfl) ?_
    refine s0 (qv_len st_54 rfl) ?_
    refine sd (qv_lss rfl rfl) (fun c20 => ?_) (fun c20 => ?_)
    ·
      refine tl_nil (tp_normal ?_)
      refine tc_true rfl ?_
      refine tc_skip (tp_normal ?_)
      refine tc_seq ?_
      refine tc_block ?_
      refine tc_seq ?_
      refine tc_draws mixed (by kernel_rfl) ?_
      refine q0 (qv_ldBW (i := 1) ag_24 rfl rfl rfl) ?_
      refine q0 (qv_move rfl) ?_
      refine q0 (qv_move rfl) ?_
      refine qn st_54 hls rfl rfl (by omega) (fun e26 he26 => ?_)
      refine q0 (qv_ldE (j := 0) sc_25 hls Mem.has_base rfl rfl he26 rfl) ?_
      have hlen := (hins e26 (List.mem_of_getElem? he26)).1.len
      simp only [maxLen] at hlen
      refine q0 (qv_call fn_34 rfl (fun w hm => rright_calls w n na nc e26.l e26.a e26.c (hn.into Mem.has_base hm) hk ((hins e26 (List.mem_of_getElem? he26)).1.into Mem.has_base hm))) ?_
      refine q0 (qv_assign rfl) ?_
      refine tq_nil (tp_normal ?_)
      refine tc_seq ?_
      refine tc_region ?_
      refine s0 (qv_move rfl) ?_
      refine sd (qv_neq rfl rfl) (fun c30 => ?_) (fun c30 => ?_)
      ·
        refine tl_nil (tp_normal ?_)
        refine tc_true rfl ?_
        refine tc_seq ?_
        refine tc_region ?_
        refine s0 (qv_move rfl) ?_
        refine s0 (qv_build bt_63 rfl rfl) ?_
        refine tl_storeO (i := 0) sz_63 rfl rfl rfl rfl rfl rfl rfl ?_
        refine tl_nil (tp_normal ?_)
        refine tc_ret (tp_block_ret (tp_then_ret (tp_then_ret (tp_block_ret (tp_then_ret (tp_endC (i := 0) rfl rfl ag_63 rfl rfl ?_))))))
        intro w' hm
        exact joinIs_err (f := fun a b => .agg #[a, b]) (by rw [join_rights c14 (by rw [rights_stop he26 hI.2 c30]; exact c30), rights_stop he26 hI.2 c30]) hm.below
      ·
        refine tl_nil (tp_normal ?_)
        refine tc_false rfl ?_
        refine tc_skip (tp_block_normal (tp_normal ?_))
        refine tc_region ?_
        refine s0 (qv_move rfl) ?_
        refine s0 (qv_succ rfl rfl (by omega)) ?_
        refine s0 (qv_assign rfl) ?_
        exact tl_nil (tp_roundS (k + 1) ⟨by omega, rights_step he26 hI.2 (by omega)⟩ (by omega) ⟨rfl, lk rfl (by omega), trivial⟩ rfl rfl rfl rfl)
    ·
      refine tl_nil (tp_normal ?_)
      refine tc_false rfl ?_
      refine tc_exit (tp_then_exit (tp_then_exit (tp_block_exit (tp_normal ?_))))
      refine tc_seq ?_
      refine tc_seq ?_
      have hrs : rights n ls = 0 := by (have h_ := hI.2; rwa [take_all (by omega)] at h_)
      refine tc_region ?_
      refine s0 (qv_assign rfl) ?_
      refine tl_nil (tp_normal ?_)
      refine tc_block (tc_loopK 3 encSend (fun (k : Nat) (v : Value) => [(6, v), (8, .int .i64 (k : Int))]) (fun (k : Nat) => putAll (sends (ls.take k))) (fun (k : Nat) => k ≤ ls.length) (fun (k : Nat) => ls.length - k) (0) rfl (Nat.zero_le _) ⟨rfl, rfl, trivial⟩ ?_)
      rintro k Wk28 lk28 hk28 pk28 ck28 hlo28 hI2 hsk28 hck28
      refine tc_seq ?_
      refine tc_seq ?_
      refine tc_region ?_
      refine s0 (qv_move rfl) ?_
      refine s0 (qv_move rfl) ?_
      refine s0 (qv_len st_54 rfl) ?_
      refine sd (qv_lss rfl rfl) (fun c36 => ?_) (fun c36 => ?_)
      ·
        refine tl_nil (tp_normal ?_)
        refine tc_true rfl ?_
        refine tc_skip (tp_normal ?_)
        refine tc_seq ?_
        refine tc_block ?_
        refine tc_seq ?_
        refine tc_region ?_
        refine s0 (qv_assign rfl) ?_
        refine tl_nil (tp_normal ?_)
        refine tc_block (tc_loopK1 3 encSend (fun (j : Nat) (v : Value) => [(6, v), (9, .int .i64 (j : Int))]) (fun (j : Nat) => putAll (soFar ls k j)) (fun (j : Nat) => True) (fun (j : Nat) => (lsAt ls k).length - j) (0) (by rw [soFar_zero]; exact hsk28) (by rw [soFar_zero]; exact hck28) hlo28 trivial (.head _) (by simp only [soFar_zero]; exact ⟨rfl, rfl, trivial⟩) ?_)
        rintro j Wk29 lk29 hk29 pk29 ck29 hlo29 hJ hsk29 hck29
        refine tc_seq ?_
        refine tc_seq ?_
        refine tc_region ?_
        refine s0 (qv_move rfl) ?_
        refine s0 (qv_move rfl) ?_
        refine s0 (qv_move rfl) ?_
        refine sn st_54 hls rfl rfl (by omega) (fun e42 he42 => ?_)
        refine s0 (qv_ldE (j := 0) sc_25 hls Mem.has_base rfl rfl he42 rfl) ?_
        have hlen := (hins e42 (List.mem_of_getElem? he42)).1.len
        simp only [maxLen] at hlen
        refine s0 (qv_len st_25 rfl) ?_
        refine sd (qv_lss rfl rfl) (fun c45 => ?_) (fun c45 => ?_)
        ·
          refine tl_nil (tp_normal ?_)
          refine tc_true rfl ?_
          refine tc_skip (tp_normal ?_)
          refine tc_seq ?_
          refine tc_block ?_
          refine tc_region ?_
          refine s0 (qv_move rfl) ?_
          refine s0 (qv_move rfl) ?_
          refine s0 (qv_move rfl) ?_
          refine sn st_54 hls rfl rfl (by omega) (fun e51 he51 => ?_)
          obtain rfl : e42 = e51 := Option.some.inj (he42.symm.trans he51)
          refine s0 (qv_ldE (j := 0) sc_25 hls Mem.has_base rfl rfl he42 rfl) ?_
          refine s0 (qv_move rfl) ?_
          refine sn st_25 (hins e42 (List.mem_of_getElem? he42)).1 rfl rfl (by omega) (fun e54 he54 => ?_)
          refine s0 (qv_ldEW ag_70 (hins e42 (List.mem_of_getElem? he42)).1 Mem.has_base rfl he54) ?_
          have hpb := soFar_bound (n := n) hrs hl4 k j
          have hpb1 := hpb.1
          have hxs := (right_zero (rights_zero hrs e42 (List.mem_of_getElem? he42))).send e54 (List.mem_of_getElem? he54)
          obtain ⟨hs0, hs1, hs2, hs3, hs4, hs5⟩ := hxs
          refine tl_callR fn_64 rfl (by decide) (fun w hm => put_calls w (putAll (soFar ls k j)) pk29 ck29 e54 (by omega) (hpb.2) (by omega) (hsk29.into (Mem.has_kept (by first | exact .head _ | exact .tail _ (.head _) | exact .tail _ (.tail _ (.head _)) | exact .tail _ (.tail _ (.tail _ (.head _))))) hm)) (fun r56 wa56 wb56 hm56 hb56 hr56 => ?_)
          refine s0 (qv_assign rfl) ?_
          refine tl_nil (tp_block_normal (tp_normal ?_))
          refine tc_region ?_
          refine s0 (qv_move rfl) ?_
          refine s0 (qv_succ rfl rfl (by omega)) ?_
          refine s0 (qv_assign rfl) ?_
          exact tl_nil (tp_roundK (j + 1) (by rw [putAll_some ls k j he42 he54]; exact hr56.2) (by rw [putAll_some ls k j he42 he54]; exact hr56.1) hm56.below.size (by first | exact ⟨[], _, rfl, rfl⟩ | exact ⟨[_], _, rfl, rfl⟩ | exact ⟨[_, _], _, rfl, rfl⟩) trivial (by rw [lsAt_eq he42]; omega) (by simp only [putAll_some ls k j he42 he54]; exact ⟨rfl, rfl, trivial⟩) rfl rfl rfl)
        ·
          refine tl_nil (tp_normal ?_)
          refine tc_false rfl ?_
          refine tc_exit (tp_then_exit (tp_then_exit (tp_block_exit (tp_block_normal (tp_normal ?_)))))
          refine tc_region ?_
          refine s0 (qv_move rfl) ?_
          refine s0 (qv_succ rfl rfl (by omega)) ?_
          refine s0 (qv_assign rfl) ?_
          exact tl_nil (tp_roundK (k + 1) (by (have h_ := hsk29; rw [soFar_end he42 (by omega)] at h_; exact h_)) (by (have h_ := hck29; rw [soFar_end he42 (by omega)] at h_; exact h_)) hlo29 (by first | exact ⟨[], _, rfl, rfl⟩ | exact ⟨[_], _, rfl, rfl⟩ | exact ⟨[_, _], _, rfl, rfl⟩) (by omega) (by omega) (by simp only [← soFar_end he42 (show e42.l.length ≤ j by omega)]; exact ⟨rfl, rfl, trivial⟩) rfl rfl rfl)
      ·
        refine tl_nil (tp_normal ?_)
        refine tc_false rfl ?_
        refine tc_exit (tp_then_exit (tp_then_exit (tp_block_exit (tp_normal ?_))))
        refine tc_seq ?_
        refine tc_seq ?_
        have hsd : sends (ls.take k) = sends ls := by rw [take_all (by omega)]
        have hlp := putAll_len (sends ls)
        refine tc_region ?_
        refine s0 (qv_move rfl) ?_
        refine s0 (qv_len st_25 rfl) ?_
        refine sd (qv_gtr rfl rfl) (fun c59 => ?_) (fun c59 => ?_)
        ·
          refine tl_nil (tp_normal ?_)
          refine tc_true rfl ?_
          refine tc_seq ?_
          refine tc_region ?_
          refine s0 (qv_build bt_63 rfl rfl) ?_
          refine tl_storeO (i := 0) sz_63 rfl rfl rfl rfl rfl rfl rfl ?_
          refine tl_nil (tp_normal ?_)
          refine tc_ret (tp_then_ret (tp_endC (i := 0) rfl rfl ag_63 rfl rfl ?_))
          intro w' hm
          exact joinIs_err (f := fun a b => .agg #[a, b]) (join_limit c14 hrs (by rw [hsd] at c59; omega)) hm.below
        ·
          refine tl_nil (tp_normal ?_)
          refine tc_false rfl ?_
          refine tc_skip (tp_normal ?_)
          refine tc_seq ?_
          refine tc_seq ?_
          refine tc_region ?_
          refine s0 (qv_assign rfl) ?_
          refine tl_nil (tp_normal ?_)
          refine tc_block (tc_loopS (fun (m : Nat) => [(10, .int .i64 (m : Int))]) (fun (m : Nat) => m ≤ (putAll (sends (ls.take k))).length ∧ ∀ (j : Nat) x, j < m → (putAll (sends (ls.take k)))[j]? = some x → ¬ 1073741824 < x.bytes) (fun (m : Nat) => (putAll (sends (ls.take k))).length - m) (0) ⟨Nat.zero_le _, fun _ _ h => absurd h (Nat.not_lt_zero _)⟩ ⟨rfl, trivial⟩ ?_)
          rintro m hK
          refine tc_seq ?_
          refine tc_seq ?_
          refine tc_region ?_
          refine s0 (qv_move rfl) ?_
          refine s0 (qv_move rfl) ?_
          refine s0 (qv_len st_25 rfl) ?_
          refine sd (qv_lss rfl rfl) (fun c64 => ?_) (fun c64 => ?_)
          ·
            refine tl_nil (tp_normal ?_)
            refine tc_true rfl ?_
            refine tc_skip (tp_normal ?_)
            refine tc_seq ?_
            refine tc_block ?_
            refine tc_seq ?_
            refine tc_region ?_
            refine s0 (qv_move rfl) ?_
            refine s0 (qv_move rfl) ?_
            refine sn st_25 hsk28 rfl rfl (by omega) (fun e69 he69 => ?_)
            refine s0 (qv_fa fo_70_2 rfl) ?_
            refine s0 (qv_ldE (j := 2) sc_3 hsk28 (Mem.has_kept (by first | exact .head _ | exact .tail _ (.head _) | exact .tail _ (.tail _ (.head _)) | exact .tail _ (.tail _ (.tail _ (.head _))))) rfl rfl he69 rfl) ?_
            refine sd (qv_gtr rfl rfl) (fun c72 => ?_) (fun c72 => ?_)
            ·
              refine tl_nil (tp_normal ?_)
              refine tc_true rfl ?_
              refine tc_seq ?_
              refine tc_region ?_
              refine s0 (qv_build bt_63 rfl rfl) ?_
              refine tl_storeO (i := 0) sz_63 rfl rfl rfl rfl rfl rfl rfl ?_
              refine tl_nil (tp_normal ?_)
              refine tc_ret (tp_block_ret (tp_then_ret (tp_then_ret (tp_block_ret (tp_then_ret (tp_endC (i := 0) rfl rfl ag_63 rfl rfl ?_))))))
              intro w' hm
              exact joinIs_err (f := fun a b => .agg #[a, b]) (join_range c14 hrs (by rw [hsd] at c59; omega) (over_of (by rw [← hsd]; exact he69) (by omega))) hm.below
            ·
              refine tl_nil (tp_normal ?_)
              refine tc_false rfl ?_
              refine tc_skip (tp_block_normal (tp_normal ?_))
              refine tc_region ?_
              refine s0 (qv_move rfl) ?_
              refine s0 (qv_succ rfl rfl (by omega)) ?_
              refine s0 (qv_assign rfl) ?_
              exact tl_nil (tp_roundS (m + 1) ⟨by omega, none_stepG (P := fun _ (x : Send) => ¬ 1073741824 < x.bytes) hK.2 he69 (by omega)⟩ (by omega) ⟨rfl, trivial⟩ rfl rfl rfl rfl)
          ·
            refine tl_nil (tp_normal ?_)
            refine tc_false rfl ?_
            refine tc_exit (tp_then_exit (tp_then_exit (tp_block_exit (tp_normal ?_))))
            refine tc_seq ?_
            refine tc_region ?_
            refine s0 (qv_move rfl) ?_
            refine s0 (qv_build bt_63 rfl rfl) ?_
            refine tl_storeO (i := 0) sz_63 rfl rfl rfl rfl rfl rfl rfl ?_
            refine tl_nil (tp_normal ?_)
            refine tc_ret (tp_endC (i := 0) rfl rfl ag_63 rfl rfl ?_)
            intro w' hm
            have hj := join_ok c14 hrs (by rw [hsd] at c59; omega) (not_over (fun j x hx => hK.2 j x (by have := (List.getElem?_eq_some_iff.1 hx).1; rw [hsd] at c64; omega) (by rw [hsd]; exact hx)))
            have hh := (Mem.has_kept (W := Wk28) (lo := lk28) (hi := hk28) (by first | exact .head _ | exact .tail _ (.head _) | exact .tail _ (.tail _ (.head _)))) _ hm
            have hks := hsk28.move hh.2 hlo28 hh.1
            rw [hsd] at hks
            have hcs := hck28
            rw [hsd] at hcs
            refine ⟨(pk28, ck28), by rw [hj, hsd]; rfl, hm.below, by rw [hj]; exact hcs, by rw [hj]; exact hks⟩

end Go.Q
