/- A part of the proof: see the last text. -/
import Derived.Test.YtgcpocaaepoafaaQ12
import Derived.Test.YtgcpocaaepoafaaS15
import Derived.Test.YtgcpocaaepoafaaW15b
import Derived.Test.YtgcpocaaepoafaaProg
set_option linter.unusedVariables false
set_option linter.unusedSimpArgs false
set_option linter.unusedSectionVars false
namespace Go.Q
open Go Go.Proofs Go.RowKit
theorem bsl_25_1 : BuildSl Try.prog 25 1 70 3 #[.int .i64 0, .int .i64 0, .int .i64 0] := ⟨Try.underlying25, sz_70, by decide, by decide, _, ze_70, by kernel_rfl⟩
theorem apt_25 : AppTy Try.prog 25 70 3 24 := ⟨Try.underlying25, ⟨.agg #[.int .i64 0, .int .i64 0, .int .i64 0], by kernel_rfl, rfl⟩, by decide⟩
set_option maxRecDepth 100000 in
theorem put_calls (w : World) (l : List Send) (la : Option Addr) (lc : Nat) (x : Send) (hlen2 : l.length ≤ 100000) (hby : ∀ y ∈ l, 0 ≤ y.bytes ∧ y.bytes ≤ 1000000000000000) (hbx : 0 ≤ x.bytes ∧ x.bytes ≤ 1000000000000000) (hl : SlIn w 3 encSend la l) :
    Calls Try.prog 64 #[.slice la l.length lc, .agg (encSend x).toArray] w (fun e w' => ∃ r : Option Addr × Nat, e = .returned (.slice r.1 (putL l x).length r.2) ∧ Below w.heap.size w w' ∧ (putL l x).length ≤ r.2 ∧ SlAt w' w.heap.size w'.heap.size 3 encSend r.1 (putL l x)) := by
  have hlen := hl.len
  simp only [maxLen] at hlen
  have hfl := putFold_len x l
  refine calls_of_tc (N := 79) (vs := [.slice la l.length lc, .agg (encSend x).toArray]) Try.func64 rfl rfl (Nat.le_of_ble_eq_true rfl) ?_
  refine tc_rowRoom ?_
  refine tc_seq ?_
  refine tc_region ?_
  refine tl_box rfl (by decide) (fun b3_0 => ?_)
  refine s0 (qv_assign rfl) ?_
  refine tl_nil (tp_normal ?_)
  refine tc_seq ?_
  refine tc_region ?_
  refine s0 (qv_assign rfl) ?_
  refine tl_nil (tp_normal ?_)
  refine tc_seq ?_
  refine tc_region ?_
  refine s0 (qv_assign rfl) ?_
  refine tl_nil (tp_normal ?_)
  refine tc_seq ?_
  refine tc_seq ?_
  refine tc_region ?_
  refine s0 (qv_assign rfl) ?_
  refine tl_nil (tp_normal ?_)
  refine tc_block (tc_loopR 0 70 3 encSend (fun (k : Nat) (v : Value) => [(5, v), (7, .int .i64 (k : Int)), (6, .bool (putFold x (l.take k)).2)]) (fun (k : Nat) => []) (fun (k : Nat) => (putFold x (l.take k)).1) (fun (k : Nat) => k ≤ l.length) (fun (k : Nat) => l.length - k) (0) (RowOf.nil _ _ _) (Nat.zero_le _) ⟨rfl, rfl, rfl, trivial⟩ rfl rfl ?_)
  rintro k vr21 or21 hI hrow
  have hfk := putFold_len x (l.take k)
  have hlk := List.length_take_le' k l
  cases hd : (putFold x (l.take k)).2
  ·
    refine tc_seq ?_
    refine tc_seq ?_
    refine tc_region ?_
    refine s0 (qv_move rfl) ?_
    refine s0 (qv_move rfl) ?_
    refine s0 (qv_len st_25 rfl) ?_
    refine sd (qv_lss rfl rfl) (fun c12 => ?_) (fun c12 => ?_)
    ·
      refine tl_nil (tp_normal ?_)
      refine tc_true rfl ?_
      refine tc_skip (tp_normal ?_)
      refine tc_seq ?_
      refine tc_block ?_
      refine tc_seq ?_
      refine tc_region ?_
      refine s0 (qv_move rfl) ?_
      refine s0 (qv_move rfl) ?_
      refine sn st_25 hl rfl rfl (by omega) (fun e17 he17 => ?_)
      refine s0 (qv_ldEW ag_70 hl Mem.has_base rfl he17) ?_
      refine tl_alloc ze_70 (by decide) (fun b8_1 => ?_)
      refine tl_storeL (i := 0) sz_70 (hl.szs _ (List.mem_of_getElem? he17)) (one_70 _) rfl rfl rfl rfl ?_
      refine tl_nil (tp_normal ?_)
      refine tc_seq ?_
      refine tc_seq ?_
      have hbe := hby e17 (List.mem_of_getElem? he17)
      refine tc_region ?_
      refine s0 (qv_move rfl) ?_
      refine s0 (qv_not rfl) ?_
      refine s0 (qv_move rfl) ?_
      refine s0g (qv_fa fo_70_1 rfl) ?_
      refine s0g (qv_ldB (i := 0) sc_3 rfl rfl rfl) ?_
      refine s0g (qv_fa fo_70_1 rfl) ?_
      refine s0g (qv_ldB (i := 1) sc_3 rfl rfl rfl) ?_
      refine sdg (qv_eql rfl rfl) (fun c26 => ?_) (fun c26 => ?_)
      ·
        refine s0 (qv_pickT rfl rfl) ?_
        refine s0 (qv_move rfl) ?_
        refine s0g (qv_fa fo_70_0 rfl) ?_
        refine s0g (qv_ldB (i := 0) sc_3 rfl rfl rfl) ?_
        refine s0g (qv_fa fo_70_0 rfl) ?_
        refine s0g (qv_ldB (i := 1) sc_3 rfl rfl rfl) ?_
        refine sdg (qv_eql rfl rfl) (fun c33 => ?_) (fun c33 => ?_)
        ·
          refine s0 (qv_pickT rfl rfl) ?_
          refine tl_nil (tp_normal ?_)
          refine tc_true rfl ?_
          refine tc_seq ?_
          refine tc_region ?_
          refine s0 (qv_fa fo_70_2 rfl) ?_
          refine s0 (qv_ldB (i := 0) sc_3 rfl rfl rfl) ?_
          refine s0 (qv_fa fo_70_2 rfl) ?_
          refine s0 (qv_ldB (i := 1) sc_3 rfl rfl rfl) ?_
          refine s0 (qv_addI rfl rfl (by omega)) ?_
          refine s0 (qv_fa fo_70_2 rfl) ?_
          refine tl_store1 (i := 0) sz_3 rfl rfl rfl rfl rfl (Nat.le_of_ble_eq_true rfl) ?_
          refine tl_nil (tp_normal ?_)
          refine tc_region ?_
          refine s0 (qv_assign rfl) ?_
          refine tl_nil (tp_normal ?_)
          refine tc_seq ?_
          refine tc_seq ?_
          refine tc_region ?_
          refine s0 (qv_move rfl) ?_
          refine s0 (qv_not rfl) ?_
          refine s0 (qv_move rfl) ?_
          refine sk ?_
          refine sk ?_
          refine sk ?_
          refine sk ?_
          refine sk ?_
          refine sk ?_
          refine sk ?_
          refine sk ?_
          refine sk ?_
          refine sk ?_
          refine sk ?_
          refine sk ?_
          refine sk ?_
          refine sk ?_
          refine sk ?_
          refine sk ?_
          refine sk ?_
          refine sk ?_
          refine sk ?_
          refine s0 (qv_pickF rfl rfl) ?_
          refine tl_nil (tp_normal ?_)
          refine tc_false rfl ?_
          refine tc_skip (tp_normal ?_)
          refine tc_region ?_
          refine s0 (qv_move rfl) ?_
          refine s0 (qv_ldBW (i := 0) ag_70 rfl rfl rfl) ?_
          refine tl_buildSlice bsl_25_1 (fun b70_2 => ?_)
          refine tl_append1 0 0 apt_25 (⟨e17.link, e17.tick, (e17.bytes + x.bytes)⟩ : Send) hrow (fun v71 ob71 hr71 => ?_) rfl (one_70 _) (by first | omega | (simp only [List.length_append, List.length_cons, List.length_nil]; omega))
          refine s0 (qv_assign rfl) ?_
          refine tl_nil (tp_block_normal (tp_normal ?_))
          refine tc_region ?_
          refine s0 (qv_move rfl) ?_
          refine s0 (qv_succ rfl rfl (by omega)) ?_
          refine s0 (qv_assign rfl) ?_
          exact tl_nil (tp_roundR (k + 1) (by rw [show (putFold x (l.take (k + 1))).1 = (putFold x (l.take k)).1 ++ [(⟨e17.link, e17.tick, (e17.bytes + x.bytes)⟩ : Send)] from (by rw [putFold_take he17]; first | (exfalso; omega) | rw [putStep_same hd (by assumption) (by assumption)] | rw [putStep_ins hd (by omega)] | rw [putStep_keep hd (by omega) (by omega)] | rw [putStep_done hd])]; exact hr71) (by omega) (by omega) ⟨rfl, rfl, lkb rfl (by rw [putFold_take he17]; first | (exfalso; omega) | rw [putStep_same hd (by assumption) (by assumption)] | rw [putStep_ins hd (by omega)] | rw [putStep_keep hd (by omega) (by omega)] | rw [putStep_done hd]), trivial⟩ rfl rfl rfl rfl rfl)
        ·
          refine s0 (qv_pickT rfl rfl) ?_
          refine tl_nil (tp_normal ?_)
          refine tc_false rfl ?_
          refine tc_skip (tp_normal ?_)
          refine tc_seq ?_
          refine tc_seq ?_
          refine tc_region ?_
          refine s0 (qv_move rfl) ?_
          refine s0 (qv_not rfl) ?_
          refine s0 (qv_move rfl) ?_
          refine s0g (qv_fa fo_70_1 rfl) ?_
          refine s0g (qv_ldB (i := 0) sc_3 rfl rfl rfl) ?_
          refine s0g (qv_fa fo_70_1 rfl) ?_
          refine s0g (qv_ldB (i := 1) sc_3 rfl rfl rfl) ?_
          refine sdg (qv_gtr rfl rfl) (fun c48 => ?_) (fun c48 => ?_)
          ·
            refine s0g (qv_move rfl) ?_
            refine sk ?_
            refine sk ?_
            refine sk ?_
            refine sk ?_
            refine sk ?_
            refine sk ?_
            refine sk ?_
            refine sk ?_
            refine sk ?_
            refine sk ?_
            refine sk ?_
            refine sk ?_
            refine s0g (qv_pickT rfl rfl) ?_
            refine s0 (qv_pickT rfl rfl) ?_
            refine tl_nil (tp_normal ?_)
            refine tc_true rfl ?_
            refine tc_seq ?_
            refine tc_region ?_
            refine s0 (qv_move rfl) ?_
            refine s0 (qv_ldBW (i := 1) ag_70 rfl rfl rfl) ?_
            refine tl_buildSlice bsl_25_1 (fun b66_3 => ?_)
            refine tl_append1 0 0 apt_25 x hrow (fun v67 ob67 hr67 => ?_) rfl (one_70 _) (by first | omega | (simp only [List.length_append, List.length_cons, List.length_nil]; omega))
            refine s0 (qv_assign rfl) ?_
            refine tl_nil (tp_normal ?_)
            refine tc_region ?_
            refine s0 (qv_assign rfl) ?_
            refine tl_nil (tp_normal ?_)
            refine tc_region ?_
            refine s0 (qv_move rfl) ?_
            refine s0 (qv_ldBW (i := 1) ag_70 rfl rfl rfl) ?_
            refine tl_buildSlice bsl_25_1 (fun b70_4 => ?_)
            refine tl_append1 0 0 apt_25 (⟨e17.link, e17.tick, e17.bytes⟩ : Send) hr67 (fun v71 ob71 hr71 => ?_) rfl (one_70 _) (by first | omega | (simp only [List.length_append, List.length_cons, List.length_nil]; omega))
            refine s0 (qv_assign rfl) ?_
            refine tl_nil (tp_block_normal (tp_normal ?_))
            refine tc_region ?_
            refine s0 (qv_move rfl) ?_
            refine s0 (qv_succ rfl rfl (by omega)) ?_
            refine s0 (qv_assign rfl) ?_
            exact tl_nil (tp_roundR (k + 1) (by rw [show (putFold x (l.take (k + 1))).1 = (putFold x (l.take k)).1 ++ [x] ++ [(⟨e17.link, e17.tick, e17.bytes⟩ : Send)] from (by rw [putFold_take he17]; first | (exfalso; omega) | rw [putStep_same hd (by assumption) (by assumption)] | rw [putStep_ins hd (by omega)] | rw [putStep_keep hd (by omega) (by omega)] | rw [putStep_done hd])]; exact hr71) (by omega) (by omega) ⟨rfl, rfl, lkb rfl (by rw [putFold_take he17]; first | (exfalso; omega) | rw [putStep_same hd (by assumption) (by assumption)] | rw [putStep_ins hd (by omega)] | rw [putStep_keep hd (by omega) (by omega)] | rw [putStep_done hd]), trivial⟩ rfl rfl rfl rfl rfl)
          ·
            refine s0g (qv_move rfl) ?_
            refine s0g (qv_fa fo_70_1 rfl) ?_
            refine s0g (qv_ldB (i := 0) sc_3 rfl rfl rfl) ?_
            refine s0g (qv_fa fo_70_1 rfl) ?_
            refine s0g (qv_ldB (i := 1) sc_3 rfl rfl rfl) ?_
            refine sdg (qv_eql rfl rfl) (fun c54 => ?_) (fun c54 => ?_)
            ·
              refine s0g (qv_move rfl) ?_
              refine s0g (qv_fa fo_70_0 rfl) ?_
              refine s0g (qv_ldB (i := 0) sc_3 rfl rfl rfl) ?_
              refine s0g (qv_fa fo_70_0 rfl) ?_
              refine s0g (qv_ldB (i := 1) sc_3 rfl rfl rfl) ?_
              refine sdg (qv_gtr rfl rfl) (fun c60 => ?_) (fun c60 => ?_)
              ·
                refine s0g (qv_pickT rfl rfl) ?_
                refine s0g (qv_pickF rfl rfl) ?_
                refine s0 (qv_pickT rfl rfl) ?_
                refine tl_nil (tp_normal ?_)
                refine tc_true rfl ?_
                refine tc_seq ?_
                refine tc_region ?_
                refine s0 (qv_move rfl) ?_
                refine s0 (qv_ldBW (i := 1) ag_70 rfl rfl rfl) ?_
                refine tl_buildSlice bsl_25_1 (fun b66_5 => ?_)
                refine tl_append1 0 0 apt_25 x hrow (fun v67 ob67 hr67 => ?_) rfl (one_70 _) (by first | omega | (simp only [List.length_append, List.length_cons, List.length_nil]; omega))
                refine s0 (qv_assign rfl) ?_
                refine tl_nil (tp_normal ?_)
                refine tc_region ?_
                refine s0 (qv_assign rfl) ?_
                refine tl_nil (tp_normal ?_)
                refine tc_region ?_
                refine s0 (qv_move rfl) ?_
                refine s0 (qv_ldBW (i := 1) ag_70 rfl rfl rfl) ?_
                refine tl_buildSlice bsl_25_1 (fun b70_6 => ?_)
                refine tl_append1 0 0 apt_25 (⟨e17.link, e17.tick, e17.bytes⟩ : Send) hr67 (fun v71 ob71 hr71 => ?_) rfl (one_70 _) (by first | omega | (simp only [List.length_append, List.length_cons, List.length_nil]; omega))
                refine s0 (qv_assign rfl) ?_
                refine tl_nil (tp_block_normal (tp_normal ?_))
                refine tc_region ?_
                refine s0 (qv_move rfl) ?_
                refine s0 (qv_succ rfl rfl (by omega)) ?_
                refine s0 (qv_assign rfl) ?_
                exact tl_nil (tp_roundR (k + 1) (by rw [show (putFold x (l.take (k + 1))).1 = (putFold x (l.take k)).1 ++ [x] ++ [(⟨e17.link, e17.tick, e17.bytes⟩ : Send)] from (by rw [putFold_take he17]; first | (exfalso; omega) | rw [putStep_same hd (by assumption) (by assumption)] | rw [putStep_ins hd (by omega)] | rw [putStep_keep hd (by omega) (by omega)] | rw [putStep_done hd])]; exact hr71) (by omega) (by omega) ⟨rfl, rfl, lkb rfl (by rw [putFold_take he17]; first | (exfalso; omega) | rw [putStep_same hd (by assumption) (by assumption)] | rw [putStep_ins hd (by omega)] | rw [putStep_keep hd (by omega) (by omega)] | rw [putStep_done hd]), trivial⟩ rfl rfl rfl rfl rfl)
              ·
                refine s0g (qv_pickT rfl rfl) ?_
                refine s0g (qv_pickF rfl rfl) ?_
                refine s0 (qv_pickT rfl rfl) ?_
                refine tl_nil (tp_normal ?_)
                refine tc_false rfl ?_
                refine tc_skip (tp_normal ?_)
                refine tc_region ?_
                refine s0 (qv_move rfl) ?_
                refine s0 (qv_ldBW (i := 0) ag_70 rfl rfl rfl) ?_
                refine tl_buildSlice bsl_25_1 (fun b70_7 => ?_)
                refine tl_append1 0 0 apt_25 (⟨e17.link, e17.tick, e17.bytes⟩ : Send) hrow (fun v71 ob71 hr71 => ?_) rfl (one_70 _) (by first | omega | (simp only [List.length_append, List.length_cons, List.length_nil]; omega))
                refine s0 (qv_assign rfl) ?_
                refine tl_nil (tp_block_normal (tp_normal ?_))
                refine tc_region ?_
                refine s0 (qv_move rfl) ?_
                refine s0 (qv_succ rfl rfl (by omega)) ?_
                refine s0 (qv_assign rfl) ?_
                exact tl_nil (tp_roundR (k + 1) (by rw [show (putFold x (l.take (k + 1))).1 = (putFold x (l.take k)).1 ++ [(⟨e17.link, e17.tick, e17.bytes⟩ : Send)] from (by rw [putFold_take he17]; first | (exfalso; omega) | rw [putStep_same hd (by assumption) (by assumption)] | rw [putStep_ins hd (by omega)] | rw [putStep_keep hd (by omega) (by omega)] | rw [putStep_done hd])]; exact hr71) (by omega) (by omega) ⟨rfl, rfl, lkb rfl (by rw [putFold_take he17]; first | (exfalso; omega) | rw [putStep_same hd (by assumption) (by assumption)] | rw [putStep_ins hd (by omega)] | rw [putStep_keep hd (by omega) (by omega)] | rw [putStep_done hd]), trivial⟩ rfl rfl rfl rfl rfl)
            ·
              refine s0g (qv_move rfl) ?_
              refine sk ?_
              refine sk ?_
              refine sk ?_
              refine sk ?_
              refine sk ?_
              refine s0g (qv_pickF rfl rfl) ?_
              refine s0g (qv_pickF rfl rfl) ?_
              refine s0 (qv_pickT rfl rfl) ?_
              refine tl_nil (tp_normal ?_)
              refine tc_false rfl ?_
              refine tc_skip (tp_normal ?_)
              refine tc_region ?_
              refine s0 (qv_move rfl) ?_
              refine s0 (qv_ldBW (i := 0) ag_70 rfl rfl rfl) ?_
              refine tl_buildSlice bsl_25_1 (fun b70_8 => ?_)
              refine tl_append1 0 0 apt_25 (⟨e17.link, e17.tick, e17.bytes⟩ : Send) hrow (fun v71 ob71 hr71 => ?_) rfl (one_70 _) (by first | omega | (simp only [List.length_append, List.length_cons, List.length_nil]; omega))
              refine s0 (qv_assign rfl) ?_
              refine tl_nil (tp_block_normal (tp_normal ?_))
              refine tc_region ?_
              refine s0 (qv_move rfl) ?_
              refine s0 (qv_succ rfl rfl (by omega)) ?_
              refine s0 (qv_assign rfl) ?_
              exact tl_nil (tp_roundR (k + 1) (by rw [show (putFold x (l.take (k + 1))).1 = (putFold x (l.take k)).1 ++ [(⟨e17.link, e17.tick, e17.bytes⟩ : Send)] from (by rw [putFold_take he17]; first | (exfalso; omega) | rw [putStep_same hd (by assumption) (by assumption)] | rw [putStep_ins hd (by omega)] | rw [putStep_keep hd (by omega) (by omega)] | rw [putStep_done hd])]; exact hr71) (by omega) (by omega) ⟨rfl, rfl, lkb rfl (by rw [putFold_take he17]; first | (exfalso; omega) | rw [putStep_same hd (by assumption) (by assumption)] | rw [putStep_ins hd (by omega)] | rw [putStep_keep hd (by omega) (by omega)] | rw [putStep_done hd]), trivial⟩ rfl rfl rfl rfl rfl)
      ·
        refine s0 (qv_pickT rfl rfl) ?_
        refine s0 (qv_move rfl) ?_
        refine sk ?_
        refine sk ?_
        refine sk ?_
        refine sk ?_
        refine sk ?_
        refine s0 (qv_pickF rfl rfl) ?_
        refine tl_nil (tp_normal ?_)
        refine tc_false rfl ?_
        refine tc_skip (tp_normal ?_)
        refine tc_seq ?_
        refine tc_seq ?_
        refine tc_region ?_
        refine s0 (qv_move rfl) ?_
        refine s0 (qv_not rfl) ?_
        refine s0 (qv_move rfl) ?_
        refine s0g (qv_fa fo_70_1 rfl) ?_
        refine s0g (qv_ldB (i := 0) sc_3 rfl rfl rfl) ?_
        refine s0g (qv_fa fo_70_1 rfl) ?_
        refine s0g (qv_ldB (i := 1) sc_3 rfl rfl rfl) ?_
        refine sdg (qv_gtr rfl rfl) (fun c48 => ?_) (fun c48 => ?_)
        ·
          refine s0g (qv_move rfl) ?_
          refine sk ?_
          refine sk ?_
          refine sk ?_
          refine sk ?_
          refine sk ?_
          refine sk ?_
          refine sk ?_
          refine sk ?_
          refine sk ?_
          refine sk ?_
          refine sk ?_
          refine sk ?_
          refine s0g (qv_pickT rfl rfl) ?_
          refine s0 (qv_pickT rfl rfl) ?_
          refine tl_nil (tp_normal ?_)
          refine tc_true rfl ?_
          refine tc_seq ?_
          refine tc_region ?_
          refine s0 (qv_move rfl) ?_
          refine s0 (qv_ldBW (i := 1) ag_70 rfl rfl rfl) ?_
          refine tl_buildSlice bsl_25_1 (fun b66_9 => ?_)
          refine tl_append1 0 0 apt_25 x hrow (fun v67 ob67 hr67 => ?_) rfl (one_70 _) (by first | omega | (simp only [List.length_append, List.length_cons, List.length_nil]; omega))
          refine s0 (qv_assign rfl) ?_
          refine tl_nil (tp_normal ?_)
          refine tc_region ?_
          refine s0 (qv_assign rfl) ?_
          refine tl_nil (tp_normal ?_)
          refine tc_region ?_
          refine s0 (qv_move rfl) ?_
          refine s0 (qv_ldBW (i := 1) ag_70 rfl rfl rfl) ?_
          refine tl_buildSlice bsl_25_1 (fun b70_10 => ?_)
          refine tl_append1 0 0 apt_25 (⟨e17.link, e17.tick, e17.bytes⟩ : Send) hr67 (fun v71 ob71 hr71 => ?_) rfl (one_70 _) (by first | omega | (simp only [List.length_append, List.length_cons, List.length_nil]; omega))
          refine s0 (qv_assign rfl) ?_
          refine tl_nil (tp_block_normal (tp_normal ?_))
          refine tc_region ?_
          refine s0 (qv_move rfl) ?_
          refine s0 (qv_succ rfl rfl (by omega)) ?_
          refine s0 (qv_assign rfl) ?_
          exact tl_nil (tp_roundR (k + 1) (by rw [show (putFold x (l.take (k + 1))).1 = (putFold x (l.take k)).1 ++ [x] ++ [(⟨e17.link, e17.tick, e17.bytes⟩ : Send)] from (by rw [putFold_take he17]; first | (exfalso; omega) | rw [putStep_same hd (by assumption) (by assumption)] | rw [putStep_ins hd (by omega)] | rw [putStep_keep hd (by omega) (by omega)] | rw [putStep_done hd])]; exact hr71) (by omega) (by omega) ⟨rfl, rfl, lkb rfl (by rw [putFold_take he17]; first | (exfalso; omega) | rw [putStep_same hd (by assumption) (by assumption)] | rw [putStep_ins hd (by omega)] | rw [putStep_keep hd (by omega) (by omega)] | rw [putStep_done hd]), trivial⟩ rfl rfl rfl rfl rfl)
        ·
          refine s0g (qv_move rfl) ?_
          refine s0g (qv_fa fo_70_1 rfl) ?_
          refine s0g (qv_ldB (i := 0) sc_3 rfl rfl rfl) ?_
          refine s0g (qv_fa fo_70_1 rfl) ?_
          refine s0g (qv_ldB (i := 1) sc_3 rfl rfl rfl) ?_
          refine sdg (qv_eql rfl rfl) (fun c54 => ?_) (fun c54 => ?_)
          ·
            refine s0g (qv_move rfl) ?_
            refine s0g (qv_fa fo_70_0 rfl) ?_
            refine s0g (qv_ldB (i := 0) sc_3 rfl rfl rfl) ?_
            refine s0g (qv_fa fo_70_0 rfl) ?_
            refine s0g (qv_ldB (i := 1) sc_3 rfl rfl rfl) ?_
            refine sdg (qv_gtr rfl rfl) (fun c60 => ?_) (fun c60 => ?_)
            ·
              refine s0g (qv_pickT rfl rfl) ?_
              refine s0g (qv_pickF rfl rfl) ?_
              refine s0 (qv_pickT rfl rfl) ?_
              refine tl_nil (tp_normal ?_)
              refine tc_true rfl ?_
              refine tc_seq ?_
              refine tc_region ?_
              refine s0 (qv_move rfl) ?_
              refine s0 (qv_ldBW (i := 1) ag_70 rfl rfl rfl) ?_
              refine tl_buildSlice bsl_25_1 (fun b66_11 => ?_)
              refine tl_append1 0 0 apt_25 x hrow (fun v67 ob67 hr67 => ?_) rfl (one_70 _) (by first | omega | (simp only [List.length_append, List.length_cons, List.length_nil]; omega))
              refine s0 (qv_assign rfl) ?_
              refine tl_nil (tp_normal ?_)
              refine tc_region ?_
              refine s0 (qv_assign rfl) ?_
              refine tl_nil (tp_normal ?_)
              refine tc_region ?_
              refine s0 (qv_move rfl) ?_
              refine s0 (qv_ldBW (i := 1) ag_70 rfl rfl rfl) ?_
              refine tl_buildSlice bsl_25_1 (fun b70_12 => ?_)
              refine tl_append1 0 0 apt_25 (⟨e17.link, e17.tick, e17.bytes⟩ : Send) hr67 (fun v71 ob71 hr71 => ?_) rfl (one_70 _) (by first | omega | (simp only [List.length_append, List.length_cons, List.length_nil]; omega))
              refine s0 (qv_assign rfl) ?_
              refine tl_nil (tp_block_normal (tp_normal ?_))
              refine tc_region ?_
              refine s0 (qv_move rfl) ?_
              refine s0 (qv_succ rfl rfl (by omega)) ?_
              refine s0 (qv_assign rfl) ?_
              exact tl_nil (tp_roundR (k + 1) (by rw [show (putFold x (l.take (k + 1))).1 = (putFold x (l.take k)).1 ++ [x] ++ [(⟨e17.link, e17.tick, e17.bytes⟩ : Send)] from (by rw [putFold_take he17]; first | (exfalso; omega) | rw [putStep_same hd (by assumption) (by assumption)] | rw [putStep_ins hd (by omega)] | rw [putStep_keep hd (by omega) (by omega)] | rw [putStep_done hd])]; exact hr71) (by omega) (by omega) ⟨rfl, rfl, lkb rfl (by rw [putFold_take he17]; first | (exfalso; omega) | rw [putStep_same hd (by assumption) (by assumption)] | rw [putStep_ins hd (by omega)] | rw [putStep_keep hd (by omega) (by omega)] | rw [putStep_done hd]), trivial⟩ rfl rfl rfl rfl rfl)
            ·
              refine s0g (qv_pickT rfl rfl) ?_
              refine s0g (qv_pickF rfl rfl) ?_
              refine s0 (qv_pickT rfl rfl) ?_
              refine tl_nil (tp_normal ?_)
              refine tc_false rfl ?_
              refine tc_skip (tp_normal ?_)
              refine tc_region ?_
              refine s0 (qv_move rfl) ?_
              refine s0 (qv_ldBW (i := 0) ag_70 rfl rfl rfl) ?_
              refine tl_buildSlice bsl_25_1 (fun b70_13 => ?_)
              refine tl_append1 0 0 apt_25 (⟨e17.link, e17.tick, e17.bytes⟩ : Send) hrow (fun v71 ob71 hr71 => ?_) rfl (one_70 _) (by first | omega | (simp only [List.length_append, List.length_cons, List.length_nil]; omega))
              refine s0 (qv_assign rfl) ?_
              refine tl_nil (tp_block_normal (tp_normal ?_))
              refine tc_region ?_
              refine s0 (qv_move rfl) ?_
              refine s0 (qv_succ rfl rfl (by omega)) ?_
              refine s0 (qv_assign rfl) ?_
              exact tl_nil (tp_roundR (k + 1) (by rw [show (putFold x (l.take (k + 1))).1 = (putFold x (l.take k)).1 ++ [(⟨e17.link, e17.tick, e17.bytes⟩ : Send)] from (by rw [putFold_take he17]; first | (exfalso; omega) | rw [putStep_same hd (by assumption) (by assumption)] | rw [putStep_ins hd (by omega)] | rw [putStep_keep hd (by omega) (by omega)] | rw [putStep_done hd])]; exact hr71) (by omega) (by omega) ⟨rfl, rfl, lkb rfl (by rw [putFold_take he17]; first | (exfalso; omega) | rw [putStep_same hd (by assumption) (by assumption)] | rw [putStep_ins hd (by omega)] | rw [putStep_keep hd (by omega) (by omega)] | rw [putStep_done hd]), trivial⟩ rfl rfl rfl rfl rfl)
          ·
            refine s0g (qv_move rfl) ?_
            refine sk ?_
            refine sk ?_
            refine sk ?_
            refine sk ?_
            refine sk ?_
            refine s0g (qv_pickF rfl rfl) ?_
            refine s0g (qv_pickF rfl rfl) ?_
            refine s0 (qv_pickT rfl rfl) ?_
            refine tl_nil (tp_normal ?_)
            refine tc_false rfl ?_
            refine tc_skip (tp_normal ?_)
            refine tc_region ?_
            refine s0 (qv_move rfl) ?_
            refine s0 (qv_ldBW (i := 0) ag_70 rfl rfl rfl) ?_
            refine tl_buildSlice bsl_25_1 (fun b70_14 => ?_)
            refine tl_append1 0 0 apt_25 (⟨e17.link, e17.tick, e17.bytes⟩ : Send) hrow (fun v71 ob71 hr71 => ?_) rfl (one_70 _) (by first | omega | (simp only [List.length_append, List.length_cons, List.length_nil]; omega))
            refine s0 (qv_assign rfl) ?_
            refine tl_nil (tp_block_normal (tp_normal ?_))
            refine tc_region ?_
            refine s0 (qv_move rfl) ?_
            refine s0 (qv_succ rfl rfl (by omega)) ?_
            refine s0 (qv_assign rfl) ?_
            exact tl_nil (tp_roundR (k + 1) (by rw [show (putFold x (l.take (k + 1))).1 = (putFold x (l.take k)).1 ++ [(⟨e17.link, e17.tick, e17.bytes⟩ : Send)] from (by rw [putFold_take he17]; first | (exfalso; omega) | rw [putStep_same hd (by assumption) (by assumption)] | rw [putStep_ins hd (by omega)] | rw [putStep_keep hd (by omega) (by omega)] | rw [putStep_done hd])]; exact hr71) (by omega) (by omega) ⟨rfl, rfl, lkb rfl (by rw [putFold_take he17]; first | (exfalso; omega) | rw [putStep_same hd (by assumption) (by assumption)] | rw [putStep_ins hd (by omega)] | rw [putStep_keep hd (by omega) (by omega)] | rw [putStep_done hd]), trivial⟩ rfl rfl rfl rfl rfl)
    ·
      refine tl_nil (tp_normal ?_)
      refine tc_false rfl ?_
      refine tc_exit (tp_then_exit (tp_then_exit (tp_block_exit (tp_normal ?_))))
      refine tc_seq ?_
      refine tc_seq ?_
      refine tc_region ?_
      refine s0 (qv_move rfl) ?_
      refine s0 (qv_not rfl) ?_
      refine tl_nil (tp_normal ?_)
      refine tc_true rfl ?_
      refine tc_region ?_
      refine s0 (qv_move rfl) ?_
      refine s0 (qv_ldBW (i := 0) ag_70 rfl rfl rfl) ?_
      refine tl_buildSlice bsl_25_1 (fun b76_15 => ?_)
      refine tl_append1 0 0 apt_25 x hrow (fun v77 ob77 hr77 => ?_) rfl (one_70 _) (by first | omega | (simp only [List.length_append, List.length_cons, List.length_nil]; omega))
      refine s0 (qv_assign rfl) ?_
      refine tl_nil (tp_normal ?_)
      refine tc_seq ?_
      refine tc_region ?_
      refine s0 (qv_move rfl) ?_
      refine s0 (qv_assign rfl) ?_
      refine tl_nil (tp_normal ?_)
      refine tc_ret (tp_end1 rfl rfl ?_)
      intro w' hm
      have e0 := SlSend_len k c12
      rw [e0] at hd
      have e : (putFold x (l.take k)).1 ++ [x] = putL l x := by rw [e0, putL, hd]; rfl
      rw [e] at hr77
      have hall := hr77.sl hm (fun p hp => List.mem_append_right _ (List.mem_append_left _ (by subst hp; simp))) (fun _ => rfl)
      obtain ⟨ra, rc, h1, h2, h3⟩ := hall
      refine ⟨(ra, rc), by rw [h1], hm.below, h2, h3⟩
  ·
    refine tc_seq ?_
    refine tc_seq ?_
    refine tc_region ?_
    refine s0 (qv_move rfl) ?_
    refine s0 (qv_move rfl) ?_
    refine s0 (qv_len st_25 rfl) ?_
    refine sd (qv_lss rfl rfl) (fun c12 => ?_) (fun c12 => ?_)
    ·
      refine tl_nil (tp_normal ?_)
      refine tc_true rfl ?_
      refine tc_skip (tp_normal ?_)
      refine tc_seq ?_
      refine tc_block ?_
      refine tc_seq ?_
      refine tc_region ?_
      refine s0 (qv_move rfl) ?_
      refine s0 (qv_move rfl) ?_
      refine sn st_25 hl rfl rfl (by omega) (fun e17 he17 => ?_)
      refine s0 (qv_ldEW ag_70 hl Mem.has_base rfl he17) ?_
      refine tl_alloc ze_70 (by decide) (fun b8_16 => ?_)
      refine tl_storeL (i := 0) sz_70 (hl.szs _ (List.mem_of_getElem? he17)) (one_70 _) rfl rfl rfl rfl ?_
      refine tl_nil (tp_normal ?_)
      refine tc_seq ?_
      refine tc_seq ?_
      have hbe := hby e17 (List.mem_of_getElem? he17)
      refine tc_region ?_
      refine s0 (qv_move rfl) ?_
      refine s0 (qv_not rfl) ?_
      refine s0 (qv_move rfl) ?_
      refine sk ?_
      refine sk ?_
      refine sk ?_
      refine sk ?_
      refine sk ?_
      refine s0 (qv_pickF rfl rfl) ?_
      refine s0 (qv_move rfl) ?_
      refine sk ?_
      refine sk ?_
      refine sk ?_
      refine sk ?_
      refine sk ?_
      refine s0 (qv_pickF rfl rfl) ?_
      refine tl_nil (tp_normal ?_)
      refine tc_false rfl ?_
      refine tc_skip (tp_normal ?_)
      refine tc_seq ?_
      refine tc_seq ?_
      refine tc_region ?_
      refine s0 (qv_move rfl) ?_
      refine s0 (qv_not rfl) ?_
      refine s0 (qv_move rfl) ?_
      refine sk ?_
      refine sk ?_
      refine sk ?_
      refine sk ?_
      refine sk ?_
      refine sk ?_
      refine sk ?_
      refine sk ?_
      refine sk ?_
      refine sk ?_
      refine sk ?_
      refine sk ?_
      refine sk ?_
      refine sk ?_
      refine sk ?_
      refine sk ?_
      refine sk ?_
      refine sk ?_
      refine sk ?_
      refine s0 (qv_pickF rfl rfl) ?_
      refine tl_nil (tp_normal ?_)
      refine tc_false rfl ?_
      refine tc_skip (tp_normal ?_)
      refine tc_region ?_
      refine s0 (qv_move rfl) ?_
      refine s0 (qv_ldBW (i := 0) ag_70 rfl rfl rfl) ?_
      refine tl_buildSlice bsl_25_1 (fun b70_17 => ?_)
      refine tl_append1 0 0 apt_25 (⟨e17.link, e17.tick, e17.bytes⟩ : Send) hrow (fun v71 ob71 hr71 => ?_) rfl (one_70 _) (by first | omega | (simp only [List.length_append, List.length_cons, List.length_nil]; omega))
      refine s0 (qv_assign rfl) ?_
      refine tl_nil (tp_block_normal (tp_normal ?_))
      refine tc_region ?_
      refine s0 (qv_move rfl) ?_
      refine s0 (qv_succ rfl rfl (by omega)) ?_
      refine s0 (qv_assign rfl) ?_
      exact tl_nil (tp_roundR (k + 1) (by rw [show (putFold x (l.take (k + 1))).1 = (putFold x (l.take k)).1 ++ [(⟨e17.link, e17.tick, e17.bytes⟩ : Send)] from (by rw [putFold_take he17]; first | (exfalso; omega) | rw [putStep_same hd (by assumption) (by assumption)] | rw [putStep_ins hd (by omega)] | rw [putStep_keep hd (by omega) (by omega)] | rw [putStep_done hd])]; exact hr71) (by omega) (by omega) ⟨rfl, rfl, lkb rfl (by rw [putFold_take he17]; first | (exfalso; omega) | rw [putStep_same hd (by assumption) (by assumption)] | rw [putStep_ins hd (by omega)] | rw [putStep_keep hd (by omega) (by omega)] | rw [putStep_done hd]), trivial⟩ rfl rfl rfl rfl rfl)
    ·
      refine tl_nil (tp_normal ?_)
      refine tc_false rfl ?_
      refine tc_exit (tp_then_exit (tp_then_exit (tp_block_exit (tp_normal ?_))))
      refine tc_seq ?_
      refine tc_seq ?_
      refine tc_region ?_
      refine s0 (qv_move rfl) ?_
      refine s0 (qv_not rfl) ?_
      refine tl_nil (tp_normal ?_)
      refine tc_false rfl ?_
      refine tc_skip (tp_normal ?_)
      refine tc_seq ?_
      refine tc_region ?_
      refine s0 (qv_move rfl) ?_
      refine s0 (qv_assign rfl) ?_
      refine tl_nil (tp_normal ?_)
      refine tc_ret (tp_end1 rfl rfl ?_)
      intro w' hm
      have e0 := SlSend_len k c12
      rw [e0] at hd
      have e : (putFold x (l.take k)).1 = putL l x := by rw [e0, putL, hd]; rfl
      rw [e] at hrow
      have hall := hrow.sl hm (fun p hp => List.mem_append_right _ (List.mem_append_left _ (by subst hp; simp))) (fun _ => rfl)
      obtain ⟨ra, rc, h1, h2, h3⟩ := hall
      refine ⟨(ra, rc), by rw [h1], hm.below, h2, h3⟩

end Go.Q
