/- A part of the proof: see the last text. -/
import Derived.WalkKit
import Derived.Deep.Quiet
import Derived.KernelRfl
import Derived.RangeFuncNested
import Derived.RangeFuncCalls
import Derived.OrdersIn
import Derived.TacticsIn
import Derived.Maps.AppendAt
import Derived.OwnWalkIn
import Derived.Maps.RangeRun
import Derived.Laws.StructEq
import Derived.Shelf.SlSortCmp.InsertionK
import Derived.Sort.OwnSortedInts
import Derived.OpenShut
import Derived.WideShapes
import Derived.ChangeArms
import Derived.ChangeKeysEq
import GoSem.Core.Value
import Derived.Sort.Grow
import Derived.Deep.Draws
import Derived.Shelf.SlSortCmp.NoneTotal
import Derived.Shelf.Small.Bits
import Derived.Test.YtafpeblkodpkmaaShelf
import Derived.Test.YtafpeblkodpkmaaProg
import Derived.Test.YtafpeblkodpkmaaMeterIsAsSpecifiedC
set_option linter.unusedVariables false
set_option linter.unusedSimpArgs false
set_option linter.unusedSectionVars false
namespace Go.Q
open Go Go.Proofs Go.RowKit
theorem st_40 : SliceTy Try.prog 40 6 := ⟨54, by kernel_rfl, fun w => by kernel_rfl⟩
theorem ze_44 : Zero Try.prog 44 #[.slice none 0 0, .slice none 0 0, .int .i64 0] := fun w => ⟨.agg #[.slice none 0 0, .slice none 0 0, .int .i64 0], by kernel_rfl, rfl⟩
theorem bt_44 : BuildTy Try.prog 44 #[(0, 1), (1, 1), (2, 1)] #[.slice none 0 0, .slice none 0 0, .int .i64 0] := ⟨_, Try.underlying44, fun w => by kernel_rfl, ze_44⟩
theorem sz_44 : Size Try.prog 44 3 := fun w => by kernel_rfl
theorem ag_44 : Agg Try.prog 44 3 := fun w => ⟨by kernel_rfl, by kernel_rfl⟩
theorem fn_59 : IsFn Try.prog 59 := isFn_of Try.func59 (by kernel_rfl) rfl
theorem fn_19 : IsFn Try.prog 19 := isFn_of Try.func19 (by kernel_rfl) rfl
theorem fo_38_1 : FOff Try.prog 38 1 1 := fun b o w => by kernel_rfl
theorem sc_30 : Scalar Try.prog 30 := fun w => by kernel_rfl
theorem fo_38_0 : FOff Try.prog 38 0 0 := fun b o w => by kernel_rfl
theorem ze_3 : Zero Try.prog 3 #[.int .i64 0] := fun w => ⟨.int .i64 0, by kernel_rfl, rfl⟩
theorem bsl_71_1 : BuildSl Try.prog 71 1 3 1 #[.int .i64 0] := ⟨Try.underlying71, sz_3, by decide, by decide, _, ze_3, by kernel_rfl⟩
theorem apt_71 : AppTy Try.prog 71 3 1 8 := ⟨Try.underlying71, ⟨.int .i64 0, by kernel_rfl, rfl⟩, by decide⟩
theorem st_71 : SliceTy Try.prog 71 1 := ⟨3, by kernel_rfl, fun w => by kernel_rfl⟩
theorem fo_44_0 : FOff Try.prog 44 0 0 := fun b o w => by kernel_rfl
theorem sc_40 : Scalar Try.prog 40 := fun w => by kernel_rfl
theorem sz_40 : Size Try.prog 40 1 := fun w => by kernel_rfl
theorem fo_44_1 : FOff Try.prog 44 1 1 := fun b o w => by kernel_rfl
theorem sc_22 : Scalar Try.prog 22 := fun w => by kernel_rfl
theorem sz_22 : Size Try.prog 22 1 := fun w => by kernel_rfl
def encInt (i : Int) : List Value := [.int .i64 i]
theorem one_3 (x : Int) : ∀ u ∈ encInt x, u.oneCell' = true := by
  intro u hu
  simp [encInt] at hu
  subst hu
  rfl
theorem qv_nePosting {Z : Env} {N : Nat} {L : List (Nat × Value)} {M : Mem} {d : Option Tmp} {a b : Operand} {T ty : TypeId} {pos : String} {af : Array Edge} {g : Option (Nat × Bool)} (x y : Posting) (hx : ev L a = some (.agg (encPost x).toArray)) (hy : ev L b = some (.agg (encPost y).toArray)) : Qv Try.prog Z N L M ⟨d, .binOp .neq 54 a b T, ty, pos, af, g⟩ (.bool (decide (x ≠ y))) :=
  qv_neInts (xs := intsP x) (ys := intsP y) (n := 6) (by kernel_rfl) (by kernel_rfl) (by kernel_rfl) Try.underlying3 aggI (by kernel_rfl) rfl rfl (by rw [intsP_inj]) hx hy
theorem qv_neRest {Z : Env} {N : Nat} {L : List (Nat × Value)} {M : Mem} {d : Option Tmp} {a b : Operand} {T ty : TypeId} {pos : String} {af : Array Edge} {g : Option (Nat × Bool)} (x y : Rest) (hx : ev L a = some (.agg (encRest x).toArray)) (hy : ev L b = some (.agg (encRest y).toArray)) : Qv Try.prog Z N L M ⟨d, .binOp .neq 56 a b T, ty, pos, af, g⟩ (.bool (decide (x ≠ y))) :=
  qv_neInts (xs := intsR x) (ys := intsR y) (n := 4) (by kernel_rfl) (by kernel_rfl) (by kernel_rfl) Try.underlying3 aggI (by kernel_rfl) rfl rfl (by rw [intsR_inj]) hx hy
set_option maxRecDepth 100000 in
theorem samePosts_calls (w : World) (a : List Posting) (aa : Option Addr) (ac : Nat) (b : List Posting) (ba : Option Addr) (bc : Nat) (ha : SlIn w 6 encPost aa a) (hb : SlIn w 6 encPost ba b) :
    Calls Try.prog 22 #[.slice aa a.length ac, .slice ba b.length bc] w (fun e w' => e = .returned (.bool (decide (a = b))) ∧ Below w.heap.size w w') := by
  have hlen := ha.len
  have hlen2 := hb.len
  simp only [maxLen] at hlen hlen2
  refine calls_of_tc (N := 26) (vs := [.slice aa a.length ac, .slice ba b.length bc]) Try.func22 rfl rfl (Nat.le_of_ble_eq_true rfl) ?_
  refine tc_seq ?_
  refine tc_region ?_
  refine s0 (qv_assign rfl) ?_
  refine tl_nil (tp_normal ?_)
  refine tc_seq ?_
  refine tc_seq ?_
  refine tc_region ?_
  refine s0 (qv_move rfl) ?_
  refine s0 (qv_len st_40 rfl) ?_
  refine s0 (qv_move rfl) ?_
  refine s0 (qv_len st_40 rfl) ?_
  refine sd (qv_neq rfl rfl) (fun c10 => ?_) (fun c10 => ?_)
  ·
    refine tl_nil (tp_normal ?_)
    refine tc_true rfl ?_
    refine tc_seq ?_
    refine tc_region ?_
    refine s0 (qv_assign rfl) ?_
    refine tl_nil (tp_normal ?_)
    refine tc_ret (tp_then_ret (tp_end1 rfl rfl ?_))
    intro w' hm
    exact ⟨by rw [decide_eq_false (fun h => by subst h; omega)], hm.below⟩
  ·
    refine tl_nil (tp_normal ?_)
    refine tc_false rfl ?_
    refine tc_skip (tp_normal ?_)
    refine tc_seq ?_
    refine tc_seq ?_
    refine tc_region ?_
    refine s0 (qv_assign rfl) ?_
    refine tl_nil (tp_normal ?_)
    refine tc_block (tc_loopS (fun (k : Nat) => [(5, .int .i64 (k : Int))]) (fun (k : Nat) => k ≤ a.length ∧ a.take k = b.take k) (fun (k : Nat) => a.length - k) (0) ⟨Nat.zero_le _, rfl⟩ ⟨rfl, trivial⟩ ?_)
    rintro k hI
    refine tc_seq ?_
    refine tc_seq ?_
    refine tc_region ?_
    refine s0 (qv_move rfl) ?_
    refine s0 (qv_move rfl) ?_
    refine s0 (qv_len st_40 rfl) ?_
    refine sd (qv_lss rfl rfl) (fun c14 => ?_) (fun c14 => ?_)
    ·
      refine tl_nil (tp_normal ?_)
      refine tc_true rfl ?_
      refine tc_skip (tp_normal ?_)
      refine tc_seq ?_
      refine tc_block ?_
      refine tc_seq ?_
      refine tc_draws mixed (by kernel_rfl) ?_
      refine q0 (qv_move rfl) ?_
      refine q0 (qv_move rfl) ?_
      refine qn st_40 ha rfl rfl (by omega) (fun e19 he19 => ?_)
      refine q0 (qv_ldEW ag_54 ha Mem.has_base rfl he19) ?_
      refine q0 (qv_move rfl) ?_
      refine q0 (qv_move rfl) ?_
      refine qn st_40 hb rfl rfl (by omega) (fun e23 he23 => ?_)
      refine q0 (qv_ldEW ag_54 hb Mem.has_base rfl he23) ?_
      refine qd (qv_nePosting e19 e23 rfl rfl) (fun c25 => ?_) (fun c25 => ?_)
      ·
        refine tq_nil (tp_normal ?_)
        refine tc_true rfl ?_
        refine tc_seq ?_
        refine tc_region ?_
        refine s0 (qv_assign rfl) ?_
        refine tl_nil (tp_normal ?_)
        refine tc_ret (tp_block_ret (tp_then_ret (tp_then_ret (tp_block_ret (tp_then_ret (tp_end1 rfl rfl ?_))))))
        intro w' hm
        exact ⟨by rw [decide_eq_false (take_diff he19 he23 c25)], hm.below⟩
      ·
        refine tq_nil (tp_normal ?_)
        refine tc_false rfl ?_
        refine tc_skip (tp_block_normal (tp_normal ?_))
        refine tc_region ?_
        refine s0 (qv_move rfl) ?_
        refine s0 (qv_succ rfl rfl (by omega)) ?_
        refine s0 (qv_assign rfl) ?_
        exact tl_nil (tp_roundS (k + 1) ⟨by omega, take_step hI.2 he19 he23 (Classical.not_not.1 c25)⟩ (by omega) ⟨rfl, trivial⟩ rfl rfl rfl rfl)
    ·
      refine tl_nil (tp_normal ?_)
      refine tc_false rfl ?_
      refine tc_exit (tp_then_exit (tp_then_exit (tp_block_exit (tp_normal ?_))))
      refine tc_seq ?_
      refine tc_region ?_
      refine s0 (qv_assign rfl) ?_
      refine tl_nil (tp_normal ?_)
      refine tc_ret (tp_end1 rfl rfl ?_)
      intro w' hm
      exact ⟨by rw [decide_eq_true (take_same hI.2 (by omega) (by omega))], hm.below⟩
set_option maxRecDepth 100000 in
theorem sameRests_calls (w : World) (a : List Rest) (aa : Option Addr) (ac : Nat) (b : List Rest) (ba : Option Addr) (bc : Nat) (ha : SlIn w 4 encRest aa a) (hb : SlIn w 4 encRest ba b) :
    Calls Try.prog 23 #[.slice aa a.length ac, .slice ba b.length bc] w (fun e w' => e = .returned (.bool (decide (a = b))) ∧ Below w.heap.size w w') := by
  have hlen := ha.len
  have hlen2 := hb.len
  simp only [maxLen] at hlen hlen2
  refine calls_of_tc (N := 26) (vs := [.slice aa a.length ac, .slice ba b.length bc]) Try.func23 rfl rfl (Nat.le_of_ble_eq_true rfl) ?_
  refine tc_seq ?_
  refine tc_region ?_
  refine s0 (qv_assign rfl) ?_
  refine tl_nil (tp_normal ?_)
  refine tc_seq ?_
  refine tc_seq ?_
  refine tc_region ?_
  refine s0 (qv_move rfl) ?_
  refine s0 (qv_len st_22 rfl) ?_
  refine s0 (qv_move rfl) ?_
  refine s0 (qv_len st_22 rfl) ?_
  refine sd (qv_neq rfl rfl) (fun c10 => ?_) (fun c10 => ?_)
  ·
    refine tl_nil (tp_normal ?_)
    refine tc_true rfl ?_
    refine tc_seq ?_
    refine tc_region ?_
    refine s0 (qv_assign rfl) ?_
    refine tl_nil (tp_normal ?_)
    refine tc_ret (tp_then_ret (tp_end1 rfl rfl ?_))
    intro w' hm
    exact ⟨by rw [decide_eq_false (fun h => by subst h; omega)], hm.below⟩
  ·
    refine tl_nil (tp_normal ?_)
    refine tc_false rfl ?_
    refine tc_skip (tp_normal ?_)
    refine tc_seq ?_
    refine tc_seq ?_
    refine tc_region ?_
    refine s0 (qv_assign rfl) ?_
    refine tl_nil (tp_normal ?_)
    refine tc_block (tc_loopS (fun (k : Nat) => [(5, .int .i64 (k : Int))]) (fun (k : Nat) => k ≤ a.length ∧ a.take k = b.take k) (fun (k : Nat) => a.length - k) (0) ⟨Nat.zero_le _, rfl⟩ ⟨rfl, trivial⟩ ?_)
    rintro k hI
    refine tc_seq ?_
    refine tc_seq ?_
    refine tc_region ?_
    refine s0 (qv_move rfl) ?_
    refine s0 (qv_move rfl) ?_
    refine s0 (qv_len st_22 rfl) ?_
    refine sd (qv_lss rfl rfl) (fun c14 => ?_) (fun c14 => ?_)
    ·
      refine tl_nil (tp_normal ?_)
      refine tc_true rfl ?_
      refine tc_skip (tp_normal ?_)
      refine tc_seq ?_
      refine tc_block ?_
      refine tc_seq ?_
      refine tc_draws mixed (by kernel_rfl) ?_
      refine q0 (qv_move rfl) ?_
      refine q0 (qv_move rfl) ?_
      refine qn st_22 ha rfl rfl (by omega) (fun e19 he19 => ?_)
      refine q0 (qv_ldEW ag_56 ha Mem.has_base rfl he19) ?_
      refine q0 (qv_move rfl) ?_
      refine q0 (qv_move rfl) ?_
      refine qn st_22 hb rfl rfl (by omega) (fun e23 he23 => ?_)
      refine q0 (qv_ldEW ag_56 hb Mem.has_base rfl he23) ?_
      refine qd (qv_neRest e19 e23 rfl rfl) (fun c25 => ?_) (fun c25 => ?_)
      ·
        refine tq_nil (tp_normal ?_)
        refine tc_true rfl ?_
        refine tc_seq ?_
        refine tc_region ?_
        refine s0 (qv_assign rfl) ?_
        refine tl_nil (tp_normal ?_)
        refine tc_ret (tp_block_ret (tp_then_ret (tp_then_ret (tp_block_ret (tp_then_ret (tp_end1 rfl rfl ?_))))))
        intro w' hm
        exact ⟨by rw [decide_eq_false (take_diff he19 he23 c25)], hm.below⟩
      ·
        refine tq_nil (tp_normal ?_)
        refine tc_false rfl ?_
        refine tc_skip (tp_block_normal (tp_normal ?_))
        refine tc_region ?_
        refine s0 (qv_move rfl) ?_
        refine s0 (qv_succ rfl rfl (by omega)) ?_
        refine s0 (qv_assign rfl) ?_
        exact tl_nil (tp_roundS (k + 1) ⟨by omega, take_step hI.2 he19 he23 (Classical.not_not.1 c25)⟩ (by omega) ⟨rfl, trivial⟩ rfl rfl rfl rfl)
    ·
      refine tl_nil (tp_normal ?_)
      refine tc_false rfl ?_
      refine tc_exit (tp_then_exit (tp_then_exit (tp_block_exit (tp_normal ?_))))
      refine tc_seq ?_
      refine tc_region ?_
      refine s0 (qv_assign rfl) ?_
      refine tl_nil (tp_normal ?_)
      refine tc_ret (tp_end1 rfl rfl ?_)
      intro w' hm
      exact ⟨by rw [decide_eq_true (take_same hI.2 (by omega) (by omega))], hm.below⟩
set_option maxRecDepth 100000 in
set_option maxHeartbeats 8000000 in
theorem rperiod_calls (w : World) (r : List Rest) (ra : Option Addr) (rc : Nat) (t : List Tariff) (ta : Option Addr) (tc : Nat) (n : Net) (na : Option Addr) (nc : Nat) (l : List Use) (la : Option Addr) (lc : Nat) (tick : Int) (hr : SlIn w 4 encRest ra r) (ht : SlIn w 3 encTar ta t) (hn : SlIn w 50 encLink na n.links) (hk : NetOk n) (hl : SlIn w 8 encUse la l) (hins : ∀ u ∈ l, SlIn w 3 encSend u.sends.a u.sends.l ∧ u.sends.l.length ≤ u.sends.c) :
    Calls Try.prog 21 #[.slice ra r.length rc, .slice ta t.length tc, .agg (netA n na nc), .slice la l.length lc, .int .i64 tick] w (fun e w' => ∃ q : (Option Addr × Nat) × (Option Addr × Nat), e = .returned (.agg #[.slice q.1.1 (period r t n l tick).1.length q.1.2, .slice q.2.1 (period r t n l tick).2.1.length q.2.2, .int .i64 (period r t n l tick).2.2]) ∧ Below w.heap.size w w' ∧ (((period r t n l tick).1.length ≤ q.1.2 ∧ SlAt w' w.heap.size w'.heap.size 6 encPost q.1.1 (period r t n l tick).1) ∧ ((period r t n l tick).2.1.length ≤ q.2.2 ∧ SlAt w' w.heap.size w'.heap.size 4 encRest q.2.1 (period r t n l tick).2.1))) := by
  have hlent := ht.len
  simp only [maxLen] at hlent
  have hlenn := hn.len
  simp only [maxLen] at hlenn
  have hlenu := hl.len
  simp only [maxLen] at hlenu
  have hlenr := hr.len
  simp only [maxLen] at hlenr
  refine calls_of_tc (N := 200) (vs := [.slice ra r.length rc, .slice ta t.length tc, .agg (netA n na nc), .slice la l.length lc, .int .i64 tick]) Try.func21 rfl rfl (Nat.le_of_ble_eq_true rfl) ?_
  refine tc_rowRoom ?_
  refine tc_rowRoom ?_
  refine tc_rowRoom ?_
  refine tc_seq ?_
  refine tc_region ?_
  refine tl_box rfl (by decide) (fun b7_0 => ?_)
  refine tl_alloc ze_44 (by decide) (fun b10_1 => ?_)
  refine tl_nil (tp_normal ?_)
  refine tc_seq ?_
  refine tc_region ?_
  refine s0 (qv_move rfl) ?_
  refine s0 (qv_move rfl) ?_
  refine s0 (qv_call fn_17 rfl (fun w hm => rmcheck_calls w t ta tc l la lc (ht.into Mem.has_base hm) (hl.into Mem.has_base hm))) ?_
  refine s0 (qv_assign rfl) ?_
  refine tl_nil (tp_normal ?_)
  refine tc_seq ?_
  refine tc_seq ?_
  refine tc_region ?_
  refine s0 (qv_move rfl) ?_
  refine sd (qv_neq rfl rfl) (fun c28 => ?_) (fun c28 => ?_)
  ·
    refine tl_nil (tp_normal ?_)
    refine tc_true rfl ?_
    refine tc_seq ?_
    refine tc_region ?_
    refine s0 (qv_move rfl) ?_
    refine s0 (qv_build bt_44 rfl rfl) ?_
    refine tl_storeO (i := 0) sz_44 rfl rfl rfl rfl rfl rfl rfl ?_
    refine tl_nil (tp_normal ?_)
    refine tc_ret (tp_then_ret (tp_endC (i := 0) rfl rfl ag_44 rfl rfl ?_))
    intro w' hm
    rw [period_check (by omega)]
    exact ⟨((none, 0), (none, 0)), rfl, hm.below, ⟨Nat.le_refl 0, SlAt.nothing⟩, Nat.le_refl 0, SlAt.nothing⟩
  ·
    refine tl_nil (tp_normal ?_)
    refine tc_false rfl ?_
    refine tc_skip (tp_normal ?_)
    refine tc_seq ?_
    refine tc_seq ?_
    have hck : meterCheck t l = 0 := by omega
    have hmz := meterCheck_zero hck
    have htl := hmz.tl
    have hll := hmz.ll
    refine tc_region ?_
    refine s0 (qv_move rfl) ?_
    refine sd (qv_lss rfl rfl) (fun c32 => ?_) (fun c32 => ?_)
    ·
      refine s0 (qv_move rfl) ?_
      refine sk ?_
      refine sk ?_
      refine s0 (qv_pickT rfl rfl) ?_
      refine tl_nil (tp_normal ?_)
      refine tc_true rfl ?_
      refine tc_seq ?_
      refine tc_region ?_
      refine s0 (qv_build bt_44 rfl rfl) ?_
      refine tl_storeO (i := 0) sz_44 rfl rfl rfl rfl rfl rfl rfl ?_
      refine tl_nil (tp_normal ?_)
      refine tc_ret (tp_then_ret (tp_endC (i := 0) rfl rfl ag_44 rfl rfl ?_))
      intro w' hm
      rw [period_tick hck (fun h => by unfold inTo at h; omega)]
      exact ⟨((none, 0), (none, 0)), rfl, hm.below, ⟨Nat.le_refl 0, SlAt.nothing⟩, Nat.le_refl 0, SlAt.nothing⟩
    ·
      refine s0 (qv_move rfl) ?_
      refine s0g (qv_move rfl) ?_
      refine sdg (qv_gtr rfl rfl) (fun c35 => ?_) (fun c35 => ?_)
      ·
        refine s0 (qv_pickF rfl rfl) ?_
        refine tl_nil (tp_normal ?_)
        refine tc_true rfl ?_
        refine tc_seq ?_
        refine tc_region ?_
        refine s0 (qv_build bt_44 rfl rfl) ?_
        refine tl_storeO (i := 0) sz_44 rfl rfl rfl rfl rfl rfl rfl ?_
        refine tl_nil (tp_normal ?_)
        refine tc_ret (tp_then_ret (tp_endC (i := 0) rfl rfl ag_44 rfl rfl ?_))
        intro w' hm
        rw [period_tick hck (fun h => by unfold inTo at h; omega)]
        exact ⟨((none, 0), (none, 0)), rfl, hm.below, ⟨Nat.le_refl 0, SlAt.nothing⟩, Nat.le_refl 0, SlAt.nothing⟩
      ·
        refine s0 (qv_pickF rfl rfl) ?_
        refine tl_nil (tp_normal ?_)
        refine tc_false rfl ?_
        refine tc_skip (tp_normal ?_)
        refine tc_seq ?_
        have htk : inTo tick 1000000 := by unfold inTo; omega
        refine tc_region ?_
        refine s0 (qv_move rfl) ?_
        refine s0 (qv_move rfl) ?_
        refine sd (qv_call fn_59 rfl (fun w hm => rright9_calls w r ra rc t ta tc (hr.into Mem.has_base hm) (ht.into Mem.has_base hm))) (fun c40 => ?_) (fun c40 => ?_)
        ·
          refine s0 (qv_assign rfl) ?_
          refine tl_nil (tp_normal ?_)
          refine tc_seq ?_
          refine tc_seq ?_
          refine tc_region ?_
          refine s0 (qv_move rfl) ?_
          refine s0 (qv_not rfl) ?_
          refine tl_nil (tp_normal ?_)
          refine tc_false rfl ?_
          refine tc_skip (tp_normal ?_)
          refine tc_seq ?_
          have hrb : restsBad t none r = false := c40
          have hrf := rests_fine hrb
          refine tc_region ?_
          refine s0 (qv_assign rfl) ?_
          refine tl_nil (tp_normal ?_)
          refine tc_seq ?_
          refine tc_seq ?_
          refine tc_region ?_
          refine s0 (qv_assign rfl) ?_
          refine tl_nil (tp_normal ?_)
          refine tc_block (tc_loopR 0 3 1 encInt (fun (k0 : Nat) (v : Value) => [(13, v), (14, .int .i64 (k0 : Int))]) (fun (k0 : Nat) => []) (fun (k0 : Nat) => (chargesL t n (l.take k0))) (fun (k0 : Nat) => k0 ≤ l.length ∧ chargeErrs t n l = chargeErrs t n (l.drop k0)) (fun (k0 : Nat) => l.length - k0) (0) (RowOf.nil _ _ _) ⟨Nat.zero_le _, rfl⟩ ⟨rfl, rfl, trivial⟩ rfl rfl ?_)
          rintro k0 vr28 or28 hI hrow
          have hlk : (chargesL t n (l.take k0)).length ≤ l.length := by rw [chargesL_len]; exact List.length_take_le' k0 l
          refine tc_seq ?_
          refine tc_seq ?_
          refine tc_region ?_
          refine s0 (qv_move rfl) ?_
          refine s0 (qv_move rfl) ?_
          refine s0 (qv_len st_27 rfl) ?_
          refine sd (qv_lss rfl rfl) (fun c47 => ?_) (fun c47 => ?_)
          ·
            refine tl_nil (tp_normal ?_)
            refine tc_true rfl ?_
            refine tc_skip (tp_normal ?_)
            refine tc_seq ?_
            refine tc_block ?_
            refine tc_seq ?_
            refine tc_drawU 8 7 mixed (by kernel_rfl) ?_
            refine q0 (qv_move rfl) ?_
            refine q0 (qv_ldBW (i := 1) ag_26 rfl rfl rfl) ?_
            refine q0 (qv_move rfl) ?_
            refine q0 (qv_move rfl) ?_
            refine qn st_27 hl rfl rfl (by omega) (fun e54 he54 => ?_)
            refine q0 (qv_ldEW ag_34 hl Mem.has_base rfl he54) ?_
            refine q0 (qv_call fn_19 rfl (fun w hm => rcharge_calls w t ta tc n na nc e54 (ht.into Mem.has_base hm) (hn.into Mem.has_base hm) hk ((hins e54 (List.mem_of_getElem? he54)).1.into Mem.has_base hm))) ?_
            refine tq_up ?_
            refine tu_one 7 ?_ (by kernel_rfl) (by kernel_rfl) (by kernel_rfl)
            refine tg_alloc ze_38 (fun b15_2 => ?_) (fun _ _ h => hD_drop rfl rfl _ h)
            refine tu_tail rfl rfl rfl (by kernel_rfl) ?_
            refine tl_storeO (i := 0) sz_38 rfl rfl rfl rfl rfl rfl rfl ?_
            refine tl_nil (tp_normal ?_)
            refine tc_seq ?_
            refine tc_seq ?_
            refine tc_region ?_
            refine s0 (qv_fa fo_38_1 rfl) ?_
            refine s0 (qv_ldB (i := 0) sc_30 rfl rfl rfl) ?_
            refine sd (qv_neq rfl rfl) (fun c59 => ?_) (fun c59 => ?_)
            ·
              refine tl_nil (tp_normal ?_)
              refine tc_true rfl ?_
              refine tc_seq ?_
              refine tc_region ?_
              refine s0 (qv_fa fo_38_1 rfl) ?_
              refine s0 (qv_ldB (i := 0) sc_30 rfl rfl rfl) ?_
              refine s0 (qv_build bt_44 rfl rfl) ?_
              refine tl_storeO (i := 1) sz_44 rfl rfl rfl rfl rfl rfl rfl ?_
              refine tl_nil (tp_normal ?_)
              refine tc_ret (tp_then_ret (tp_block_ret (tp_then_ret (tp_then_ret (tp_block_ret (tp_then_ret (tp_endC (i := 1) rfl rfl ag_44 rfl rfl ?_)))))))
              intro w' hm
              rw [period_charge hck htk hrb (by rw [hI.2, chargeErrs_stop he54 c59]; exact c59), hI.2, chargeErrs_stop he54 c59]
              exact ⟨((none, 0), (none, 0)), rfl, hm.below, ⟨Nat.le_refl 0, SlAt.nothing⟩, Nat.le_refl 0, SlAt.nothing⟩
            ·
              refine tl_nil (tp_normal ?_)
              refine tc_false rfl ?_
              refine tc_skip (tp_normal ?_)
              refine tc_region ?_
              refine s0 (qv_move rfl) ?_
              refine s0 (qv_fa fo_38_0 rfl) ?_
              refine s0 (qv_ldB (i := 0) sc_3 rfl rfl rfl) ?_
              refine tl_buildSlice (cells := #[.int .i64 ((charge t n e54).1)]) (hc := by kernel_rfl) bsl_71_1 (fun b66_3 => ?_)
              refine tl_append1 0 0 apt_71 ((charge t n e54).1) hrow (fun v67 ob67 hr67 => ?_) rfl (one_3 _) (by first | omega | (simp only [List.length_append, List.length_cons, List.length_nil]; omega))
              refine s0 (qv_assign rfl) ?_
              refine tl_nil (tp_block_normal (tp_normal ?_))
              refine tc_region ?_
              refine s0 (qv_move rfl) ?_
              refine s0 (qv_succ rfl rfl (by omega)) ?_
              refine s0 (qv_assign rfl) ?_
              exact tl_nil (tp_roundR (k0 + 1) (by rw [chargesL_take he54]; exact hr67) ⟨by omega, by rw [hI.2]; exact chargeErrs_step he54 (by omega)⟩ (by omega) ⟨rfl, rfl, trivial⟩ rfl rfl rfl rfl rfl)
          ·
            refine tl_nil (tp_normal ?_)
            refine tc_false rfl ?_
            refine tc_exit (tp_then_exit (tp_then_exit (tp_block_exit (tp_normal ?_))))
            refine tc_seq ?_
            have hce : chargeErrs t n l = 0 := by rw [hI.2, chargeErrs_end (by omega)]
            have e0 : l.take k0 = l := List.take_of_length_le (by omega)
            rw [e0] at hrow
            have hcl := chargesL_len t n l
            refine tc_rowKeep 0 hrow (fun _ => rfl) (fun Wk lok hik ak ck hvk hck_ hsk => ?_)
            subst hvk
            refine tc_region ?_
            refine tl_alloc ze_44 (by decide) (fun b16_4 => ?_)
            refine tl_nil (tp_normal ?_)
            refine tc_seq ?_
            refine tc_seq ?_
            refine tc_region ?_
            refine s0 (qv_assign rfl) ?_
            refine tl_nil (tp_normal ?_)
            refine tc_block (tc_loopRX 1 54 6 encPost 2 56 4 encRest (fun (c : Nat) (v u : Value) => [(17, .int .i64 (c : Int))]) (fun (c : Nat) (v u : Value) => [(0, b16_4, .cells #[v, u, .int .i64 0] 44 (0, 0))]) (fun (c : Nat) => (postsOf tick (totalOf r t n l) (pre1 t c))) (fun (c : Nat) => (leftsOf (totalOf r t n l) (pre1 t c))) (fun (c : Nat) => c ≤ 28 ∧ Fine (totalOf r t n l) (pre1 t c)) (fun (c : Nat) => 28 - c) (0) (RowOf.nil _ _ _) (RowOf.nil _ _ _) ⟨Nat.zero_le _, fun x hx => by rw [pre1_zero] at hx; cases hx⟩ ⟨rfl, trivial⟩ rfl rfl ?_)
            rintro c vr29 or29 vr29b or29b hC hrc hrcb
            refine tc_seq ?_
            refine tc_seq ?_
            refine tc_region ?_
            refine s0 (qv_move rfl) ?_
            refine sd (qv_lss rfl rfl) (fun c69 => ?_) (fun c69 => ?_)
            ·
              refine tl_nil (tp_normal ?_)
              refine tc_true rfl ?_
              refine tc_skip (tp_normal ?_)
              refine tc_seq ?_
              refine tc_block ?_
              refine tc_seq ?_
              refine tc_region ?_
              refine s0 (qv_assign rfl) ?_
              refine tl_nil (tp_normal ?_)
              refine tc_block (tc_loopRX 1 54 6 encPost 2 56 4 encRest (fun (ho : Nat) (v u : Value) => [(18, .int .i64 (ho : Int))]) (fun (ho : Nat) (v u : Value) => [(0, b16_4, .cells #[v, u, .int .i64 0] 44 (0, 0))]) (fun (ho : Nat) => (postsOf tick (totalOf r t n l) (pre2 t c ho))) (fun (ho : Nat) => (leftsOf (totalOf r t n l) (pre2 t c ho))) (fun (ho : Nat) => ho ≤ t.length ∧ Fine (totalOf r t n l) (pre2 t c ho)) (fun (ho : Nat) => t.length - ho) (0) (by rw [pre2_zero]; exact hrc) (by rw [pre2_zero]; exact hrcb) ⟨Nat.zero_le _, by rw [pre2_zero]; exact hC.2⟩ ⟨rfl, trivial⟩ rfl rfl ?_)
              rintro ho vr30 or30 vr30b or30b hH hrh hrhb
              refine tc_seq ?_
              refine tc_seq ?_
              refine tc_region ?_
              refine s0 (qv_move rfl) ?_
              refine s0 (qv_move rfl) ?_
              refine s0 (qv_len st_23 rfl) ?_
              refine sd (qv_lss rfl rfl) (fun c75 => ?_) (fun c75 => ?_)
              ·
                refine tl_nil (tp_normal ?_)
                refine tc_true rfl ?_
                refine tc_skip (tp_normal ?_)
                refine tc_seq ?_
                refine tc_block ?_
                refine tc_seq ?_
                refine tc_region ?_
                refine s0 (qv_assign rfl) ?_
                refine tl_nil (tp_normal ?_)
                refine tc_block (tc_loopRX 1 54 6 encPost 2 56 4 encRest (fun (k : Nat) (v u : Value) => [(19, .int .i64 ((k : Int) + 1))]) (fun (k : Nat) (v u : Value) => [(0, b16_4, .cells #[v, u, .int .i64 0] 44 (0, 0))]) (fun (k : Nat) => (postsOf tick (totalOf r t n l) (pre3 t c ho k))) (fun (k : Nat) => (leftsOf (totalOf r t n l) (pre3 t c ho k))) (fun (k : Nat) => k ≤ 5 ∧ Fine (totalOf r t n l) (pre3 t c ho k)) (fun (k : Nat) => 5 - k) (0) (by rw [pre3_zero]; exact hrh) (by rw [pre3_zero]; exact hrhb) ⟨Nat.zero_le _, by rw [pre3_zero]; exact hH.2⟩ ⟨lk rfl (by omega), trivial⟩ rfl rfl ?_)
                rintro k vr31 or31 vr31b or31b hK hrk hrkb
                have hpl1 := postsOf_len tick (totalOf r t n l) (pre3 t c ho k)
                have hpl2 := leftsOf_len (totalOf r t n l) (pre3 t c ho k)
                have hpl3 := pre3_len t (c := c) (h := ho) (k := k) (by omega) (by omega) hK.1 (by omega)
                refine tc_seq ?_
                refine tc_seq ?_
                refine tc_region ?_
                refine s0 (qv_move rfl) ?_
                refine sd (qv_leq rfl rfl) (fun c79 => ?_) (fun c79 => ?_)
                ·
                  refine tl_nil (tp_normal ?_)
                  refine tc_true rfl ?_
                  refine tc_skip (tp_normal ?_)
                  refine tc_seq ?_
                  refine tc_block ?_
                  refine tc_seq ?_
                  refine tc_region ?_
                  refine s0 (qv_assign rfl) ?_
                  refine tl_nil (tp_normal ?_)
                  refine tc_seq ?_
                  refine tc_seq ?_
                  refine tc_region ?_
                  refine s0 (qv_assign rfl) ?_
                  refine tl_nil (tp_normal ?_)
                  refine tc_block (tc_loopS (fun (i : Nat) => [(21, .int .i64 (i : Int)), (20, .int .i64 (sumR r (kk c ho k) i))]) (fun (i : Nat) => i ≤ r.length) (fun (i : Nat) => r.length - i) (0) (Nat.zero_le _) ⟨rfl, lk rfl (by rw [sumR_zero]), trivial⟩ ?_)
                  rintro i hS
                  refine tc_seq ?_
                  refine tc_seq ?_
                  refine tc_region ?_
                  refine s0 (qv_move rfl) ?_
                  refine s0 (qv_move rfl) ?_
                  refine s0 (qv_len st_22 rfl) ?_
                  refine sd (qv_lss rfl rfl) (fun c85 => ?_) (fun c85 => ?_)
                  ·
                    refine tl_nil (tp_normal ?_)
                    refine tc_true rfl ?_
                    refine tc_skip (tp_normal ?_)
                    refine tc_seq ?_
                    refine tc_block ?_
                    refine tc_seq ?_
                    refine tc_region ?_
                    refine s0 (qv_move rfl) ?_
                    refine s0 (qv_move rfl) ?_
                    refine sn st_22 hr rfl rfl (by omega) (fun e90 he90 => ?_)
                    refine s0 (qv_fa fo_56_0 rfl) ?_
                    refine s0 (qv_ldE (j := 0) sc_3 hr Mem.has_base rfl rfl he90 rfl) ?_
                    refine s0 (qv_move rfl) ?_
                    refine sd (qv_eql rfl rfl) (fun c94 => ?_) (fun c94 => ?_)
                    ·
                      refine s0 (qv_move rfl) ?_
                      refine s0g (qv_move rfl) ?_
                      refine s0g (qv_move rfl) ?_
                      refine sng st_22 hr rfl rfl (by omega) (fun e98 he98 => ?_)
                      obtain rfl : e90 = e98 := Option.some.inj (he90.symm.trans he98)
                      refine s0g (qv_fa fo_56_1 rfl) ?_
                      refine s0g (qv_ldE (j := 1) sc_3 hr Mem.has_base rfl rfl he90 rfl) ?_
                      refine s0g (qv_move rfl) ?_
                      refine sdg (qv_eql rfl rfl) (fun c102 => ?_) (fun c102 => ?_)
                      ·
                        refine s0 (qv_pickT rfl rfl) ?_
                        refine s0 (qv_move rfl) ?_
                        refine s0g (qv_move rfl) ?_
                        refine s0g (qv_move rfl) ?_
                        refine sng st_22 hr rfl rfl (by omega) (fun e107 he107 => ?_)
                        obtain rfl : e90 = e107 := Option.some.inj (he90.symm.trans he107)
                        refine s0g (qv_fa fo_56_2 rfl) ?_
                        refine s0g (qv_ldE (j := 2) sc_3 hr Mem.has_base rfl rfl he90 rfl) ?_
                        refine s0g (qv_move rfl) ?_
                        refine sdg (qv_eql rfl rfl) (fun c111 => ?_) (fun c111 => ?_)
                        ·
                          refine s0 (qv_pickT rfl rfl) ?_
                          refine tl_nil (tp_normal ?_)
                          refine tc_true rfl ?_
                          have hsb := sumR_bd hrf.1 hrf.2 (kk c ho k) i
                          obtain ⟨_, hm1, hm2⟩ := hrf.2 e90 (List.mem_of_getElem? he90)
                          refine tc_region ?_
                          refine s0 (qv_move rfl) ?_
                          refine s0 (qv_move rfl) ?_
                          refine s0 (qv_move rfl) ?_
                          refine sn st_22 hr rfl rfl (by omega) (fun e116 he116 => ?_)
                          obtain rfl : e90 = e116 := Option.some.inj (he90.symm.trans he116)
                          refine s0 (qv_fa fo_56_3 rfl) ?_
                          refine s0 (qv_ldE (j := 3) sc_3 hr Mem.has_base rfl rfl he90 rfl) ?_
                          refine s0 (qv_addI rfl rfl (by omega)) ?_
                          refine s0 (qv_assign rfl) ?_
                          refine tl_nil (tp_block_normal (tp_normal ?_))
                          refine tc_region ?_
                          refine s0 (qv_move rfl) ?_
                          refine s0 (qv_succ rfl rfl (by omega)) ?_
                          refine s0 (qv_assign rfl) ?_
                          exact tl_nil (tp_roundS (i + 1) (by omega) (by omega) ⟨rfl, lk rfl (by first | rw [sumR_yes he90 c94 c102 c111] | rw [sumR_no he90 (by omega)]), trivial⟩ rfl rfl rfl rfl)
                        ·
                          refine s0 (qv_pickT rfl rfl) ?_
                          refine tl_nil (tp_normal ?_)
                          refine tc_false rfl ?_
                          refine tc_skip (tp_block_normal (tp_normal ?_))
                          refine tc_region ?_
                          refine s0 (qv_move rfl) ?_
                          refine s0 (qv_succ rfl rfl (by omega)) ?_
                          refine s0 (qv_assign rfl) ?_
                          exact tl_nil (tp_roundS (i + 1) (by omega) (by omega) ⟨rfl, lk rfl (by first | rw [sumR_yes he90 c94 c102 c111] | rw [sumR_no he90 (by omega)]), trivial⟩ rfl rfl rfl rfl)
                      ·
                        refine s0 (qv_pickT rfl rfl) ?_
                        refine s0 (qv_move rfl) ?_
                        refine sk ?_
                        refine sk ?_
                        refine sk ?_
                        refine sk ?_
                        refine sk ?_
                        refine sk ?_
                        refine sk ?_
                        refine s0 (qv_pickF rfl rfl) ?_
                        refine tl_nil (tp_normal ?_)
                        refine tc_false rfl ?_
                        refine tc_skip (tp_block_normal (tp_normal ?_))
                        refine tc_region ?_
                        refine s0 (qv_move rfl) ?_
                        refine s0 (qv_succ rfl rfl (by omega)) ?_
                        refine s0 (qv_assign rfl) ?_
                        exact tl_nil (tp_roundS (i + 1) (by omega) (by omega) ⟨rfl, lk rfl (by first | rw [sumR_yes he90 c94 c102 c111] | rw [sumR_no he90 (by omega)]), trivial⟩ rfl rfl rfl rfl)
                    ·
                      refine s0 (qv_move rfl) ?_
                      refine sk ?_
                      refine sk ?_
                      refine sk ?_
                      refine sk ?_
                      refine sk ?_
                      refine sk ?_
                      refine sk ?_
                      refine s0 (qv_pickF rfl rfl) ?_
                      refine s0 (qv_move rfl) ?_
                      refine sk ?_
                      refine sk ?_
                      refine sk ?_
                      refine sk ?_
                      refine sk ?_
                      refine sk ?_
                      refine sk ?_
                      refine s0 (qv_pickF rfl rfl) ?_
                      refine tl_nil (tp_normal ?_)
                      refine tc_false rfl ?_
                      refine tc_skip (tp_block_normal (tp_normal ?_))
                      refine tc_region ?_
                      refine s0 (qv_move rfl) ?_
                      refine s0 (qv_succ rfl rfl (by omega)) ?_
                      refine s0 (qv_assign rfl) ?_
                      exact tl_nil (tp_roundS (i + 1) (by omega) (by omega) ⟨rfl, lk rfl (by first | rw [sumR_yes he90 c94 c102 c111] | rw [sumR_no he90 (by omega)]), trivial⟩ rfl rfl rfl rfl)
                  ·
                    refine tl_nil (tp_normal ?_)
                    refine tc_false rfl ?_
                    refine tc_exit (tp_then_exit (tp_then_exit (tp_block_exit (tp_normal ?_))))
                    refine tc_seq ?_
                    refine tc_seq ?_
                    refine tc_region ?_
                    refine s0 (qv_assign rfl) ?_
                    refine tl_nil (tp_normal ?_)
                    refine tc_block (tc_loopS (fun (j : Nat) => [(22, .int .i64 (j : Int)), (20, .int .i64 (sumR r (kk c ho k) r.length + sumU t n l (kk c ho k) j))]) (fun (j : Nat) => j ≤ l.length) (fun (j : Nat) => l.length - j) (0) (Nat.zero_le _) ⟨rfl, lk rfl (sumR_all t n l (by omega)), trivial⟩ ?_)
                    rintro j hU
                    refine tc_seq ?_
                    refine tc_seq ?_
                    refine tc_region ?_
                    refine s0 (qv_move rfl) ?_
                    refine s0 (qv_move rfl) ?_
                    refine s0 (qv_len st_27 rfl) ?_
                    refine sd (qv_lss rfl rfl) (fun c123 => ?_) (fun c123 => ?_)
                    ·
                      refine tl_nil (tp_normal ?_)
                      refine tc_true rfl ?_
                      refine tc_skip (tp_normal ?_)
                      refine tc_seq ?_
                      refine tc_block ?_
                      refine tc_seq ?_
                      refine tc_region ?_
                      refine s0 (qv_move rfl) ?_
                      refine s0 (qv_move rfl) ?_
                      refine sn st_27 hl rfl rfl (by omega) (fun e128 he128 => ?_)
                      refine s0 (qv_fa fo_34_2 rfl) ?_
                      refine s0 (qv_ldE (j := 2) sc_3 hl Mem.has_base rfl rfl he128 rfl) ?_
                      refine s0 (qv_move rfl) ?_
                      refine sd (qv_eql rfl rfl) (fun c132 => ?_) (fun c132 => ?_)
                      ·
                        refine s0 (qv_move rfl) ?_
                        refine s0g (qv_move rfl) ?_
                        refine s0g (qv_move rfl) ?_
                        refine sng st_27 hl rfl rfl (by omega) (fun e136 he136 => ?_)
                        obtain rfl : e128 = e136 := Option.some.inj (he128.symm.trans he136)
                        refine s0g (qv_fa fo_34_1 rfl) ?_
                        refine s0g (qv_ldE (j := 1) sc_3 hl Mem.has_base rfl rfl he128 rfl) ?_
                        refine s0g (qv_move rfl) ?_
                        refine sdg (qv_eql rfl rfl) (fun c140 => ?_) (fun c140 => ?_)
                        ·
                          refine s0 (qv_pickT rfl rfl) ?_
                          refine s0 (qv_move rfl) ?_
                          refine s0g (qv_move rfl) ?_
                          refine s0g (qv_move rfl) ?_
                          refine sng st_27 hl rfl rfl (by omega) (fun e145 he145 => ?_)
                          obtain rfl : e128 = e145 := Option.some.inj (he128.symm.trans he145)
                          refine s0g (qv_fa fo_34_0 rfl) ?_
                          refine s0g (qv_ldE (j := 0) sc_3 hl Mem.has_base rfl rfl he128 rfl) ?_
                          refine s0g (qv_move rfl) ?_
                          refine sdg (qv_eql rfl rfl) (fun c149 => ?_) (fun c149 => ?_)
                          ·
                            refine s0 (qv_pickT rfl rfl) ?_
                            refine tl_nil (tp_normal ?_)
                            refine tc_true rfl ?_
                            have hsb := sumR_bd hrf.1 hrf.2 (kk c ho k) r.length
                            have hub := sumU_bd t n hll (kk c ho k) j
                            have hcb := charge_bound t n e128
                            refine tc_region ?_
                            refine s0 (qv_move rfl) ?_
                            refine s0 (qv_move rfl) ?_
                            refine s0 (qv_move rfl) ?_
                            refine sn st_71 hsk rfl rfl (by omega) (fun e154 he154 => ?_)
                            refine s0 (qv_ldE (j := 0) sc_3 hsk (Mem.has_kept (by first | exact .head _ | exact .tail _ (.head _) | exact .tail _ (.tail _ (.head _)) | exact .tail _ (.tail _ (.tail _ (.head _))))) rfl rfl he154 rfl) ?_
                            have hce_ := chargesL_at he128 he154
                            refine s0 (qv_addI rfl rfl (by omega)) ?_
                            refine s0 (qv_assign rfl) ?_
                            refine tl_nil (tp_block_normal (tp_normal ?_))
                            refine tc_region ?_
                            refine s0 (qv_move rfl) ?_
                            refine s0 (qv_succ rfl rfl (by omega)) ?_
                            refine s0 (qv_assign rfl) ?_
                            exact tl_nil (tp_roundS (j + 1) (by omega) (by omega) ⟨rfl, lk rfl (by first | (rw [sumU_yes he128 c132 c140 c149, ← hce_]; omega) | (rw [sumU_no he128 (by omega)])), trivial⟩ rfl rfl rfl rfl)
                          ·
                            refine s0 (qv_pickT rfl rfl) ?_
                            refine tl_nil (tp_normal ?_)
                            refine tc_false rfl ?_
                            refine tc_skip (tp_block_normal (tp_normal ?_))
                            refine tc_region ?_
                            refine s0 (qv_move rfl) ?_
                            refine s0 (qv_succ rfl rfl (by omega)) ?_
                            refine s0 (qv_assign rfl) ?_
                            exact tl_nil (tp_roundS (j + 1) (by omega) (by omega) ⟨rfl, lk rfl (by first | (rw [sumU_yes he128 c132 c140 c149, ← hce_]; omega) | (rw [sumU_no he128 (by omega)])), trivial⟩ rfl rfl rfl rfl)
                        ·
                          refine s0 (qv_pickT rfl rfl) ?_
                          refine s0 (qv_move rfl) ?_
                          refine sk ?_
                          refine sk ?_
                          refine sk ?_
                          refine sk ?_
                          refine sk ?_
                          refine sk ?_
                          refine sk ?_
                          refine s0 (qv_pickF rfl rfl) ?_
                          refine tl_nil (tp_normal ?_)
                          refine tc_false rfl ?_
                          refine tc_skip (tp_block_normal (tp_normal ?_))
                          refine tc_region ?_
                          refine s0 (qv_move rfl) ?_
                          refine s0 (qv_succ rfl rfl (by omega)) ?_
                          refine s0 (qv_assign rfl) ?_
                          exact tl_nil (tp_roundS (j + 1) (by omega) (by omega) ⟨rfl, lk rfl (by first | (rw [sumU_yes he128 c132 c140 c149, ← hce_]; omega) | (rw [sumU_no he128 (by omega)])), trivial⟩ rfl rfl rfl rfl)
                      ·
                        refine s0 (qv_move rfl) ?_
                        refine sk ?_
                        refine sk ?_
                        refine sk ?_
                        refine sk ?_
                        refine sk ?_
                        refine sk ?_
                        refine sk ?_
                        refine s0 (qv_pickF rfl rfl) ?_
                        refine s0 (qv_move rfl) ?_
                        refine sk ?_
                        refine sk ?_
                        refine sk ?_
                        refine sk ?_
                        refine sk ?_
                        refine sk ?_
                        refine sk ?_
                        refine s0 (qv_pickF rfl rfl) ?_
                        refine tl_nil (tp_normal ?_)
                        refine tc_false rfl ?_
                        refine tc_skip (tp_block_normal (tp_normal ?_))
                        refine tc_region ?_
                        refine s0 (qv_move rfl) ?_
                        refine s0 (qv_succ rfl rfl (by omega)) ?_
                        refine s0 (qv_assign rfl) ?_
                        exact tl_nil (tp_roundS (j + 1) (by omega) (by omega) ⟨rfl, lk rfl (by first | (rw [sumU_yes he128 c132 c140 c149, ← hce_]; omega) | (rw [sumU_no he128 (by omega)])), trivial⟩ rfl rfl rfl rfl)
                    ·
                      refine tl_nil (tp_normal ?_)
                      refine tc_false rfl ?_
                      refine tc_exit (tp_then_exit (tp_then_exit (tp_block_exit (tp_normal ?_))))
                      refine tc_seq ?_
                      refine tc_seq ?_
                      have hsb := sumR_bd hrf.1 hrf.2 (kk c ho k) r.length
                      have hub := sumU_bd t n hll (kk c ho k) j
                      have htot := sum_total (t := t) (n := n) (r := r) (l := l) (j := j) (key := (kk c ho k)) (by omega)
                      rw [htot]
                      have htb : 0 ≤ totalOf r t n l (kk c ho k) ∧ totalOf r t n l (kk c ho k) ≤ 4000000000000000000 := by rw [← htot]; omega
                      refine tc_region ?_
                      refine s0 (qv_move rfl) ?_
                      refine s0 (qv_quoI rfl rfl (by decide) (by omega) (by omega)) ?_
                      refine sd (qv_gtr rfl rfl) (fun c159 => ?_) (fun c159 => ?_)
                      ·
                        refine tl_nil (tp_normal ?_)
                        refine tc_true rfl ?_
                        refine tc_seq ?_
                        refine tc_region ?_
                        refine s0 (qv_build bt_44 rfl rfl) ?_
                        refine tl_storeO (i := 1) sz_44 rfl rfl rfl rfl rfl rfl rfl ?_
                        refine tl_nil (tp_normal ?_)
                        refine tc_ret (tp_then_ret (tp_block_ret (tp_then_ret (tp_then_ret (tp_block_ret (tp_block_ret (tp_then_ret (tp_then_ret (tp_block_ret (tp_block_ret (tp_then_ret (tp_then_ret (tp_block_ret (tp_then_ret (tp_endC (i := 1) rfl rfl ag_44 rfl rfl ?_)))))))))))))))
                        intro w' hm
                        rw [period_limR hck htk hrb hce (kk_grid (by omega) (by omega) (by omega)) c159]
                        exact ⟨((none, 0), (none, 0)), rfl, hm.below, ⟨Nat.le_refl 0, SlAt.nothing⟩, Nat.le_refl 0, SlAt.nothing⟩
                      ·
                        refine tl_nil (tp_normal ?_)
                        refine tc_false rfl ?_
                        refine tc_skip (tp_normal ?_)
                        refine tc_seq ?_
                        refine tc_region ?_
                        refine s0 (qv_move rfl) ?_
                        refine s0 (qv_move rfl) ?_
                        refine s0 (qv_addI rfl rfl (by omega)) ?_
                        refine s0 (qv_move rfl) ?_
                        refine s0 (qv_quoI rfl rfl (by decide) (by omega) (by omega)) ?_
                        refine s0 (qv_move rfl) ?_
                        refine s0 (qv_move rfl) ?_
                        refine s0 (qv_build (cells := #[.int .i64 (ho : Int), .int .i64 ((12) + (c : Int)), .int .i64 ((totalOf r t n l (kk c ho k)) / (1000)), .int .i64 tick, .int .i64 ((k : Int) + 1), .int .i64 (0)]) bt_54 rfl (by kernel_rfl)) ?_
                        refine tl_alloc ze_54 (by decide) (fun b23_5 => ?_)
                        refine tl_storeO (i := 0) sz_54 rfl rfl rfl rfl rfl rfl rfl ?_
                        refine tl_nil (tp_normal ?_)
                        refine tc_seq ?_
                        refine tc_seq ?_
                        refine tc_region ?_
                        refine s0 (qv_move rfl) ?_
                        refine sd (qv_eql rfl rfl) (fun c170 => ?_) (fun c170 => ?_)
                        ·
                          refine tl_nil (tp_normal ?_)
                          refine tc_true rfl ?_
                          refine tc_seq ?_
                          refine tc_region ?_
                          refine s0 (qv_move rfl) ?_
                          refine s0 (qv_addI rfl rfl (by omega)) ?_
                          refine s0 (qv_fa fo_54_0 rfl) ?_
                          refine tl_store1 (i := 0) sz_3 rfl rfl rfl rfl rfl (Nat.le_of_ble_eq_true rfl) ?_
                          refine tl_nil (tp_normal ?_)
                          refine tc_region ?_
                          refine s0 (qv_move rfl) ?_
                          refine s0 (qv_fa fo_54_1 rfl) ?_
                          refine tl_store1 (i := 0) sz_3 rfl rfl rfl rfl rfl (Nat.le_of_ble_eq_true rfl) ?_
                          refine tl_nil (tp_normal ?_)
                          refine tc_seq ?_
                          refine tc_seq ?_
                          refine tc_region ?_
                          refine s0 (qv_fa fo_54_2 rfl) ?_
                          refine s0 (qv_ldB (i := 0) sc_3 rfl rfl rfl) ?_
                          refine sd (qv_gtr rfl rfl) (fun c178 => ?_) (fun c178 => ?_)
                          ·
                            refine tl_nil (tp_normal ?_)
                            refine tc_true rfl ?_
                            refine tc_region ?_
                            refine s0 (qv_fa fo_44_0 rfl) ?_
                            refine s0 (qv_ldB (i := 1) sc_40 rfl rfl rfl) ?_
                            refine s0 (qv_ldBW (i := 0) ag_54 rfl rfl rfl) ?_
                            refine tl_buildSlice (cells := #[.int .i64 ((12) + (c : Int)), .int .i64 (ho : Int), .int .i64 ((totalOf r t n l (kk c ho k)) / (1000)), .int .i64 tick, .int .i64 ((k : Int) + 1), .int .i64 (0)]) (hc := by kernel_rfl) bsl_40_1 (fun b182_6 => ?_)
                            refine tl_append1 1 0 apt_40 (⟨((12) + (c : Int)), (ho : Int), ((totalOf r t n l (kk c ho k)) / (1000)), tick, ((k : Int) + 1), (0)⟩ : Posting) hrk (fun v183 ob183 hr183 => ?_) rfl (one_54 _) (by first | omega | (simp only [List.length_append, List.length_cons, List.length_nil]; omega))
                            obtain ⟨ra183, rc183, hv183, hc183⟩ := RowOf.slice hr183
                            subst hv183
                            refine s0 (qv_fa fo_44_0 rfl) ?_
                            refine tl_store1 (i := 2) sz_40 rfl rfl rfl rfl rfl (Nat.le_of_ble_eq_true rfl) ?_
                            refine tl_nil (tp_normal ?_)
                            refine tc_seq ?_
                            refine tc_region ?_
                            refine s0 (qv_move rfl) ?_
                            refine s0 (qv_remI rfl rfl (by decide) (by omega)) ?_
                            refine sd (qv_gtr rfl rfl) (fun c187 => ?_) (fun c187 => ?_)
                            ·
                              refine tl_nil (tp_normal ?_)
                              refine tc_true rfl ?_
                              refine tc_region ?_
                              refine s0 (qv_fa fo_44_1 rfl) ?_
                              refine s0 (qv_ldB (i := 2) sc_22 rfl rfl rfl) ?_
                              refine s0 (qv_move rfl) ?_
                              refine s0 (qv_move rfl) ?_
                              refine s0 (qv_move rfl) ?_
                              refine s0 (qv_move rfl) ?_
                              refine s0 (qv_remI rfl rfl (by decide) (by omega)) ?_
                              refine s0 (qv_build (cells := #[.int .i64 (c : Int), .int .i64 (ho : Int), .int .i64 ((k : Int) + 1), .int .i64 ((totalOf r t n l (kk c ho k)) % (1000))]) bt_56 rfl (by kernel_rfl)) ?_
                              refine tl_buildSlice (cells := #[.int .i64 (c : Int), .int .i64 (ho : Int), .int .i64 ((k : Int) + 1), .int .i64 ((totalOf r t n l (kk c ho k)) % (1000))]) (hc := by kernel_rfl) bsl_22_1 (fun b196_7 => ?_)
                              refine tl_append1 2 0 apt_22 (⟨(c : Int), (ho : Int), ((k : Int) + 1), ((totalOf r t n l (kk c ho k)) % (1000))⟩ : Rest) hrkb (fun v197 ob197 hr197 => ?_) rfl (one_56 _) (by first | omega | (simp only [List.length_append, List.length_cons, List.length_nil]; omega))
                              obtain ⟨ra197, rc197, hv197, hc197⟩ := RowOf.slice hr197
                              subst hv197
                              refine s0 (qv_fa fo_44_1 rfl) ?_
                              refine tl_store1 (i := 3) sz_22 rfl rfl rfl rfl rfl (Nat.le_of_ble_eq_true rfl) ?_
                              refine tl_nil (tp_block_normal (tp_normal ?_))
                              refine tc_region ?_
                              refine s0 (qv_move rfl) ?_
                              refine s0 (qv_addI rfl rfl (by omega)) ?_
                              refine s0 (qv_assign rfl) ?_
                              exact tl_nil (tp_roundRX (k + 1) (by first | (rw [posts3_no (by assumption)]; exact hr183) | (rw [posts3_fine (by assumption) (by assumption)]; exact hr183) | (rw [posts3_use (by assumption) (by assumption)]; exact hr183)) (by first | (rw [lefts3_no (by assumption)]; exact hr197) | (rw [lefts3_yes (by assumption)]; exact hr197)) ⟨by omega, by rw [pre3_succ]; exact hK.2.snoc c159⟩ (by omega) ⟨lk rfl (by omega), trivial⟩ rfl rfl rfl rfl rfl)
                            ·
                              refine tl_nil (tp_normal ?_)
                              refine tc_false rfl ?_
                              refine tc_skip (tp_block_normal (tp_normal ?_))
                              refine tc_region ?_
                              refine s0 (qv_move rfl) ?_
                              refine s0 (qv_addI rfl rfl (by omega)) ?_
                              refine s0 (qv_assign rfl) ?_
                              exact tl_nil (tp_roundRX (k + 1) (by first | (rw [posts3_no (by assumption)]; exact hr183) | (rw [posts3_fine (by assumption) (by assumption)]; exact hr183) | (rw [posts3_use (by assumption) (by assumption)]; exact hr183)) (by first | (rw [lefts3_no (by assumption)]; exact hrkb) | (rw [lefts3_yes (by assumption)]; exact hrkb)) ⟨by omega, by rw [pre3_succ]; exact hK.2.snoc c159⟩ (by omega) ⟨lk rfl (by omega), trivial⟩ rfl rfl rfl rfl rfl)
                          ·
                            refine tl_nil (tp_normal ?_)
                            refine tc_false rfl ?_
                            refine tc_skip (tp_normal ?_)
                            refine tc_seq ?_
                            refine tc_region ?_
                            refine s0 (qv_move rfl) ?_
                            refine s0 (qv_remI rfl rfl (by decide) (by omega)) ?_
                            refine sd (qv_gtr rfl rfl) (fun c187 => ?_) (fun c187 => ?_)
                            ·
                              refine tl_nil (tp_normal ?_)
                              refine tc_true rfl ?_
                              refine tc_region ?_
                              refine s0 (qv_fa fo_44_1 rfl) ?_
                              refine s0 (qv_ldB (i := 1) sc_22 rfl rfl rfl) ?_
                              refine s0 (qv_move rfl) ?_
                              refine s0 (qv_move rfl) ?_
                              refine s0 (qv_move rfl) ?_
                              refine s0 (qv_move rfl) ?_
                              refine s0 (qv_remI rfl rfl (by decide) (by omega)) ?_
                              refine s0 (qv_build (cells := #[.int .i64 (c : Int), .int .i64 (ho : Int), .int .i64 ((k : Int) + 1), .int .i64 ((totalOf r t n l (kk c ho k)) % (1000))]) bt_56 rfl (by kernel_rfl)) ?_
                              refine tl_buildSlice (cells := #[.int .i64 (c : Int), .int .i64 (ho : Int), .int .i64 ((k : Int) + 1), .int .i64 ((totalOf r t n l (kk c ho k)) % (1000))]) (hc := by kernel_rfl) bsl_22_1 (fun b196_8 => ?_)
                              refine tl_append1 2 0 apt_22 (⟨(c : Int), (ho : Int), ((k : Int) + 1), ((totalOf r t n l (kk c ho k)) % (1000))⟩ : Rest) hrkb (fun v197 ob197 hr197 => ?_) rfl (one_56 _) (by first | omega | (simp only [List.length_append, List.length_cons, List.length_nil]; omega))
                              obtain ⟨ra197, rc197, hv197, hc197⟩ := RowOf.slice hr197
                              subst hv197
                              refine s0 (qv_fa fo_44_1 rfl) ?_
                              refine tl_store1 (i := 2) sz_22 rfl rfl rfl rfl rfl (Nat.le_of_ble_eq_true rfl) ?_
                              refine tl_nil (tp_block_normal (tp_normal ?_))
                              refine tc_region ?_
                              refine s0 (qv_move rfl) ?_
                              refine s0 (qv_addI rfl rfl (by omega)) ?_
                              refine s0 (qv_assign rfl) ?_
                              exact tl_nil (tp_roundRX (k + 1) (by first | (rw [posts3_no (by assumption)]; exact hrk) | (rw [posts3_fine (by assumption) (by assumption)]; exact hrk) | (rw [posts3_use (by assumption) (by assumption)]; exact hrk)) (by first | (rw [lefts3_no (by assumption)]; exact hr197) | (rw [lefts3_yes (by assumption)]; exact hr197)) ⟨by omega, by rw [pre3_succ]; exact hK.2.snoc c159⟩ (by omega) ⟨lk rfl (by omega), trivial⟩ rfl rfl rfl rfl rfl)
                            ·
                              refine tl_nil (tp_normal ?_)
                              refine tc_false rfl ?_
                              refine tc_skip (tp_block_normal (tp_normal ?_))
                              refine tc_region ?_
                              refine s0 (qv_move rfl) ?_
                              refine s0 (qv_addI rfl rfl (by omega)) ?_
                              refine s0 (qv_assign rfl) ?_
                              exact tl_nil (tp_roundRX (k + 1) (by first | (rw [posts3_no (by assumption)]; exact hrk) | (rw [posts3_fine (by assumption) (by assumption)]; exact hrk) | (rw [posts3_use (by assumption) (by assumption)]; exact hrk)) (by first | (rw [lefts3_no (by assumption)]; exact hrkb) | (rw [lefts3_yes (by assumption)]; exact hrkb)) ⟨by omega, by rw [pre3_succ]; exact hK.2.snoc c159⟩ (by omega) ⟨lk rfl (by omega), trivial⟩ rfl rfl rfl rfl rfl)
                        ·
                          refine tl_nil (tp_normal ?_)
                          refine tc_false rfl ?_
                          refine tc_skip (tp_normal ?_)
                          refine tc_seq ?_
                          refine tc_seq ?_
                          refine tc_region ?_
                          refine s0 (qv_fa fo_54_2 rfl) ?_
                          refine s0 (qv_ldB (i := 0) sc_3 rfl rfl rfl) ?_
                          refine sd (qv_gtr rfl rfl) (fun c178 => ?_) (fun c178 => ?_)
                          ·
                            refine tl_nil (tp_normal ?_)
                            refine tc_true rfl ?_
                            refine tc_region ?_
                            refine s0 (qv_fa fo_44_0 rfl) ?_
                            refine s0 (qv_ldB (i := 1) sc_40 rfl rfl rfl) ?_
                            refine s0 (qv_ldBW (i := 0) ag_54 rfl rfl rfl) ?_
                            refine tl_buildSlice (cells := #[.int .i64 (ho : Int), .int .i64 ((12) + (c : Int)), .int .i64 ((totalOf r t n l (kk c ho k)) / (1000)), .int .i64 tick, .int .i64 ((k : Int) + 1), .int .i64 (0)]) (hc := by kernel_rfl) bsl_40_1 (fun b182_9 => ?_)
                            refine tl_append1 1 0 apt_40 (⟨(ho : Int), ((12) + (c : Int)), ((totalOf r t n l (kk c ho k)) / (1000)), tick, ((k : Int) + 1), (0)⟩ : Posting) hrk (fun v183 ob183 hr183 => ?_) rfl (one_54 _) (by first | omega | (simp only [List.length_append, List.length_cons, List.length_nil]; omega))
                            obtain ⟨ra183, rc183, hv183, hc183⟩ := RowOf.slice hr183
                            subst hv183
                            refine s0 (qv_fa fo_44_0 rfl) ?_
                            refine tl_store1 (i := 2) sz_40 rfl rfl rfl rfl rfl (Nat.le_of_ble_eq_true rfl) ?_
                            refine tl_nil (tp_normal ?_)
                            refine tc_seq ?_
                            refine tc_region ?_
                            refine s0 (qv_move rfl) ?_
                            refine s0 (qv_remI rfl rfl (by decide) (by omega)) ?_
                            refine sd (qv_gtr rfl rfl) (fun c187 => ?_) (fun c187 => ?_)
                            ·
                              refine tl_nil (tp_normal ?_)
                              refine tc_true rfl ?_
                              refine tc_region ?_
                              refine s0 (qv_fa fo_44_1 rfl) ?_
                              refine s0 (qv_ldB (i := 2) sc_22 rfl rfl rfl) ?_
                              refine s0 (qv_move rfl) ?_
                              refine s0 (qv_move rfl) ?_
                              refine s0 (qv_move rfl) ?_
                              refine s0 (qv_move rfl) ?_
                              refine s0 (qv_remI rfl rfl (by decide) (by omega)) ?_
                              refine s0 (qv_build (cells := #[.int .i64 (c : Int), .int .i64 (ho : Int), .int .i64 ((k : Int) + 1), .int .i64 ((totalOf r t n l (kk c ho k)) % (1000))]) bt_56 rfl (by kernel_rfl)) ?_
                              refine tl_buildSlice (cells := #[.int .i64 (c : Int), .int .i64 (ho : Int), .int .i64 ((k : Int) + 1), .int .i64 ((totalOf r t n l (kk c ho k)) % (1000))]) (hc := by kernel_rfl) bsl_22_1 (fun b196_10 => ?_)
                              refine tl_append1 2 0 apt_22 (⟨(c : Int), (ho : Int), ((k : Int) + 1), ((totalOf r t n l (kk c ho k)) % (1000))⟩ : Rest) hrkb (fun v197 ob197 hr197 => ?_) rfl (one_56 _) (by first | omega | (simp only [List.length_append, List.length_cons, List.length_nil]; omega))
                              obtain ⟨ra197, rc197, hv197, hc197⟩ := RowOf.slice hr197
                              subst hv197
                              refine s0 (qv_fa fo_44_1 rfl) ?_
                              refine tl_store1 (i := 3) sz_22 rfl rfl rfl rfl rfl (Nat.le_of_ble_eq_true rfl) ?_
                              refine tl_nil (tp_block_normal (tp_normal ?_))
                              refine tc_region ?_
                              refine s0 (qv_move rfl) ?_
                              refine s0 (qv_addI rfl rfl (by omega)) ?_
                              refine s0 (qv_assign rfl) ?_
                              exact tl_nil (tp_roundRX (k + 1) (by first | (rw [posts3_no (by assumption)]; exact hr183) | (rw [posts3_fine (by assumption) (by assumption)]; exact hr183) | (rw [posts3_use (by assumption) (by assumption)]; exact hr183)) (by first | (rw [lefts3_no (by assumption)]; exact hr197) | (rw [lefts3_yes (by assumption)]; exact hr197)) ⟨by omega, by rw [pre3_succ]; exact hK.2.snoc c159⟩ (by omega) ⟨lk rfl (by omega), trivial⟩ rfl rfl rfl rfl rfl)
                            ·
                              refine tl_nil (tp_normal ?_)
                              refine tc_false rfl ?_
                              refine tc_skip (tp_block_normal (tp_normal ?_))
                              refine tc_region ?_
                              refine s0 (qv_move rfl) ?_
                              refine s0 (qv_addI rfl rfl (by omega)) ?_
                              refine s0 (qv_assign rfl) ?_
                              exact tl_nil (tp_roundRX (k + 1) (by first | (rw [posts3_no (by assumption)]; exact hr183) | (rw [posts3_fine (by assumption) (by assumption)]; exact hr183) | (rw [posts3_use (by assumption) (by assumption)]; exact hr183)) (by first | (rw [lefts3_no (by assumption)]; exact hrkb) | (rw [lefts3_yes (by assumption)]; exact hrkb)) ⟨by omega, by rw [pre3_succ]; exact hK.2.snoc c159⟩ (by omega) ⟨lk rfl (by omega), trivial⟩ rfl rfl rfl rfl rfl)
                          ·
                            refine tl_nil (tp_normal ?_)
                            refine tc_false rfl ?_
                            refine tc_skip (tp_normal ?_)
                            refine tc_seq ?_
                            refine tc_region ?_
                            refine s0 (qv_move rfl) ?_
                            refine s0 (qv_remI rfl rfl (by decide) (by omega)) ?_
                            refine sd (qv_gtr rfl rfl) (fun c187 => ?_) (fun c187 => ?_)
                            ·
                              refine tl_nil (tp_normal ?_)
                              refine tc_true rfl ?_
                              refine tc_region ?_
                              refine s0 (qv_fa fo_44_1 rfl) ?_
                              refine s0 (qv_ldB (i := 1) sc_22 rfl rfl rfl) ?_
                              refine s0 (qv_move rfl) ?_
                              refine s0 (qv_move rfl) ?_
                              refine s0 (qv_move rfl) ?_
                              refine s0 (qv_move rfl) ?_
                              refine s0 (qv_remI rfl rfl (by decide) (by omega)) ?_
                              refine s0 (qv_build (cells := #[.int .i64 (c : Int), .int .i64 (ho : Int), .int .i64 ((k : Int) + 1), .int .i64 ((totalOf r t n l (kk c ho k)) % (1000))]) bt_56 rfl (by kernel_rfl)) ?_
                              refine tl_buildSlice (cells := #[.int .i64 (c : Int), .int .i64 (ho : Int), .int .i64 ((k : Int) + 1), .int .i64 ((totalOf r t n l (kk c ho k)) % (1000))]) (hc := by kernel_rfl) bsl_22_1 (fun b196_11 => ?_)
                              refine tl_append1 2 0 apt_22 (⟨(c : Int), (ho : Int), ((k : Int) + 1), ((totalOf r t n l (kk c ho k)) % (1000))⟩ : Rest) hrkb (fun v197 ob197 hr197 => ?_) rfl (one_56 _) (by first | omega | (simp only [List.length_append, List.length_cons, List.length_nil]; omega))
                              obtain ⟨ra197, rc197, hv197, hc197⟩ := RowOf.slice hr197
                              subst hv197
                              refine s0 (qv_fa fo_44_1 rfl) ?_
                              refine tl_store1 (i := 2) sz_22 rfl rfl rfl rfl rfl (Nat.le_of_ble_eq_true rfl) ?_
                              refine tl_nil (tp_block_normal (tp_normal ?_))
                              refine tc_region ?_
                              refine s0 (qv_move rfl) ?_
                              refine s0 (qv_addI rfl rfl (by omega)) ?_
                              refine s0 (qv_assign rfl) ?_
                              exact tl_nil (tp_roundRX (k + 1) (by first | (rw [posts3_no (by assumption)]; exact hrk) | (rw [posts3_fine (by assumption) (by assumption)]; exact hrk) | (rw [posts3_use (by assumption) (by assumption)]; exact hrk)) (by first | (rw [lefts3_no (by assumption)]; exact hr197) | (rw [lefts3_yes (by assumption)]; exact hr197)) ⟨by omega, by rw [pre3_succ]; exact hK.2.snoc c159⟩ (by omega) ⟨lk rfl (by omega), trivial⟩ rfl rfl rfl rfl rfl)
                            ·
                              refine tl_nil (tp_normal ?_)
                              refine tc_false rfl ?_
                              refine tc_skip (tp_block_normal (tp_normal ?_))
                              refine tc_region ?_
                              refine s0 (qv_move rfl) ?_
                              refine s0 (qv_addI rfl rfl (by omega)) ?_
                              refine s0 (qv_assign rfl) ?_
                              exact tl_nil (tp_roundRX (k + 1) (by first | (rw [posts3_no (by assumption)]; exact hrk) | (rw [posts3_fine (by assumption) (by assumption)]; exact hrk) | (rw [posts3_use (by assumption) (by assumption)]; exact hrk)) (by first | (rw [lefts3_no (by assumption)]; exact hrkb) | (rw [lefts3_yes (by assumption)]; exact hrkb)) ⟨by omega, by rw [pre3_succ]; exact hK.2.snoc c159⟩ (by omega) ⟨lk rfl (by omega), trivial⟩ rfl rfl rfl rfl rfl)
                ·
                  refine tl_nil (tp_normal ?_)
                  refine tc_false rfl ?_
                  refine tc_exit (tp_then_exit (tp_then_exit (tp_block_exit (tp_block_normal (tp_normal ?_)))))
                  refine tc_region ?_
                  refine s0 (qv_move rfl) ?_
                  refine s0 (qv_succ rfl rfl (by omega)) ?_
                  refine s0 (qv_assign rfl) ?_
                  exact tl_nil (tp_roundRX (ho + 1) (by (have h_ := hrk; rw [show k = 5 by omega, pre3_end] at h_; exact h_)) (by (have h_ := hrkb; rw [show k = 5 by omega, pre3_end] at h_; exact h_)) ⟨by omega, by (have h_ := hK.2; rw [show k = 5 by omega, pre3_end] at h_; exact h_)⟩ (by omega) ⟨rfl, trivial⟩ rfl rfl rfl rfl rfl)
              ·
                refine tl_nil (tp_normal ?_)
                refine tc_false rfl ?_
                refine tc_exit (tp_then_exit (tp_then_exit (tp_block_exit (tp_block_normal (tp_normal ?_)))))
                refine tc_region ?_
                refine s0 (qv_move rfl) ?_
                refine s0 (qv_succ rfl rfl (by omega)) ?_
                refine s0 (qv_assign rfl) ?_
                exact tl_nil (tp_roundRX (c + 1) (by (have h_ := hrh; rw [show ho = t.length by omega, pre2_end] at h_; exact h_)) (by (have h_ := hrhb; rw [show ho = t.length by omega, pre2_end] at h_; exact h_)) ⟨by omega, by (have h_ := hH.2; rw [show ho = t.length by omega, pre2_end] at h_; exact h_)⟩ (by omega) ⟨rfl, trivial⟩ rfl rfl rfl rfl rfl)
            ·
              refine tl_nil (tp_normal ?_)
              refine tc_false rfl ?_
              refine tc_exit (tp_then_exit (tp_then_exit (tp_block_exit (tp_normal ?_))))
              refine tc_seq ?_
              obtain ⟨ea0, ec0, hev0, hec0⟩ := RowOf.slice hrc
              subst hev0
              obtain ⟨ea1, ec1, hev1, hec1⟩ := RowOf.slice hrcb
              subst hev1
              refine tc_region ?_
              refine s0 (qv_ldBW (i := 0) ag_44 rfl rfl rfl) ?_
              refine tl_storeO (i := 1) sz_44 rfl rfl rfl rfl rfl rfl rfl ?_
              refine tl_nil (tp_normal ?_)
              refine tc_ret (tp_endC (i := 1) rfl rfl ag_44 rfl rfl ?_)
              intro w' hm
              have e28 : c = 28 := by omega
              subst e28
              rw [pre1_end] at hrc hrcb
              rw [period_okR hck htk hrb hce (by rw [← pre1_end]; exact hC.2)]
              simp only
              obtain ⟨pa, pc, h1, h2, h3⟩ := hrc.sl hm (fun p hp => List.mem_append_right _ (List.mem_append_left _ (by subst hp; simp))) (fun _ => rfl)
              obtain ⟨qa, qc, h4, h5, h6⟩ := hrcb.sl hm (fun p hp => List.mem_append_right _ (List.mem_append_left _ (by subst hp; simp))) (fun _ => rfl)
              obtain ⟨g1, _, g2⟩ := Value.slice.inj h1
              obtain ⟨g3, _, g4⟩ := Value.slice.inj h4
              subst g1 g2 g3 g4
              exact ⟨((_, _), (_, _)), rfl, hm.below, ⟨h2, h3⟩, h5, h6⟩
        ·
          refine s0 (qv_assign rfl) ?_
          refine tl_nil (tp_normal ?_)
          refine tc_seq ?_
          refine tc_seq ?_
          refine tc_region ?_
          refine s0 (qv_move rfl) ?_
          refine s0 (qv_not rfl) ?_
          refine tl_nil (tp_normal ?_)
          refine tc_true rfl ?_
          refine tc_seq ?_
          refine tc_region ?_
          refine s0 (qv_build bt_44 rfl rfl) ?_
          refine tl_storeO (i := 0) sz_44 rfl rfl rfl rfl rfl rfl rfl ?_
          refine tl_nil (tp_normal ?_)
          refine tc_ret (tp_then_ret (tp_endC (i := 0) rfl rfl ag_44 rfl rfl ?_))
          intro w' hm
          rw [period_rest hck htk (by rw [← Bool.not_eq_false]; exact c40)]
          exact ⟨((none, 0), (none, 0)), rfl, hm.below, ⟨Nat.le_refl 0, SlAt.nothing⟩, Nat.le_refl 0, SlAt.nothing⟩
end Go.Q
namespace Go.Q
open Go Go.Proofs Go.RowKit
theorem bt_113 : BuildTy Try.prog 113 #[(0, 1), (1, 1), (2, 1)] #[.int .i64 0, .int .i64 0, .int .i64 0] := ⟨_, Try.underlying113, fun w => by kernel_rfl, ze_113⟩
theorem bsl_23_2 : BuildSl Try.prog 23 2 113 3 #[.int .i64 0, .int .i64 0, .int .i64 0, .int .i64 0, .int .i64 0, .int .i64 0] := ⟨Try.underlying23, sz_113, by decide, by decide, _, ze_113, by kernel_rfl⟩
theorem fn_48 : IsFn Try.prog 48 := isFn_of Try.func48 (by kernel_rfl) rfl
theorem bt_117 : BuildTy Try.prog 117 #[(0, 1), (1, 1), (2, 24), (26, 24)] #[.int .i64 0, .int .i64 0, .int .i64 0, .int .i64 0, .int .i64 0, .int .i64 0, .int .i64 0, .int .i64 0, .int .i64 0, .int .i64 0, .int .i64 0, .int .i64 0, .int .i64 0, .int .i64 0, .int .i64 0, .int .i64 0, .int .i64 0, .int .i64 0, .int .i64 0, .int .i64 0, .int .i64 0, .int .i64 0, .int .i64 0, .int .i64 0, .int .i64 0, .int .i64 0, .int .i64 0, .int .i64 0, .int .i64 0, .int .i64 0, .int .i64 0, .int .i64 0, .int .i64 0, .int .i64 0, .int .i64 0, .int .i64 0, .int .i64 0, .int .i64 0, .int .i64 0, .int .i64 0, .int .i64 0, .int .i64 0, .int .i64 0, .int .i64 0, .int .i64 0, .int .i64 0, .int .i64 0, .int .i64 0, .int .i64 0, .int .i64 0] := ⟨_, Try.underlying117, fun w => by kernel_rfl, ze_117⟩
theorem bsl_24_3 : BuildSl Try.prog 24 3 117 50 #[.int .i64 0, .int .i64 0, .int .i64 0, .int .i64 0, .int .i64 0, .int .i64 0, .int .i64 0, .int .i64 0, .int .i64 0, .int .i64 0, .int .i64 0, .int .i64 0, .int .i64 0, .int .i64 0, .int .i64 0, .int .i64 0, .int .i64 0, .int .i64 0, .int .i64 0, .int .i64 0, .int .i64 0, .int .i64 0, .int .i64 0, .int .i64 0, .int .i64 0, .int .i64 0, .int .i64 0, .int .i64 0, .int .i64 0, .int .i64 0, .int .i64 0, .int .i64 0, .int .i64 0, .int .i64 0, .int .i64 0, .int .i64 0, .int .i64 0, .int .i64 0, .int .i64 0, .int .i64 0, .int .i64 0, .int .i64 0, .int .i64 0, .int .i64 0, .int .i64 0, .int .i64 0, .int .i64 0, .int .i64 0, .int .i64 0, .int .i64 0, .int .i64 0, .int .i64 0, .int .i64 0, .int .i64 0, .int .i64 0, .int .i64 0, .int .i64 0, .int .i64 0, .int .i64 0, .int .i64 0, .int .i64 0, .int .i64 0, .int .i64 0, .int .i64 0, .int .i64 0, .int .i64 0, .int .i64 0, .int .i64 0, .int .i64 0, .int .i64 0, .int .i64 0, .int .i64 0, .int .i64 0, .int .i64 0, .int .i64 0, .int .i64 0, .int .i64 0, .int .i64 0, .int .i64 0, .int .i64 0, .int .i64 0, .int .i64 0, .int .i64 0, .int .i64 0, .int .i64 0, .int .i64 0, .int .i64 0, .int .i64 0, .int .i64 0, .int .i64 0, .int .i64 0, .int .i64 0, .int .i64 0, .int .i64 0, .int .i64 0, .int .i64 0, .int .i64 0, .int .i64 0, .int .i64 0, .int .i64 0, .int .i64 0, .int .i64 0, .int .i64 0, .int .i64 0, .int .i64 0, .int .i64 0, .int .i64 0, .int .i64 0, .int .i64 0, .int .i64 0, .int .i64 0, .int .i64 0, .int .i64 0, .int .i64 0, .int .i64 0, .int .i64 0, .int .i64 0, .int .i64 0, .int .i64 0, .int .i64 0, .int .i64 0, .int .i64 0, .int .i64 0, .int .i64 0, .int .i64 0, .int .i64 0, .int .i64 0, .int .i64 0, .int .i64 0, .int .i64 0, .int .i64 0, .int .i64 0, .int .i64 0, .int .i64 0, .int .i64 0, .int .i64 0, .int .i64 0, .int .i64 0, .int .i64 0, .int .i64 0, .int .i64 0, .int .i64 0, .int .i64 0, .int .i64 0, .int .i64 0, .int .i64 0, .int .i64 0, .int .i64 0, .int .i64 0, .int .i64 0] := ⟨Try.underlying24, sz_117, by decide, by decide, _, ze_117, by kernel_rfl⟩
theorem ze_26 : Zero Try.prog 26 #[.int .i64 0, .slice none 0 0] := fun w => ⟨.agg #[.int .i64 0, .slice none 0 0], by kernel_rfl, rfl⟩
theorem bt_26 : BuildTy Try.prog 26 #[(0, 1), (1, 1)] #[.int .i64 0, .slice none 0 0] := ⟨_, Try.underlying26, fun w => by kernel_rfl, ze_26⟩
theorem sz_26 : Size Try.prog 26 2 := fun w => by kernel_rfl
theorem bt_34 : BuildTy Try.prog 34 #[(0, 1), (1, 1), (2, 1), (3, 1), (4, 1), (5, 1), (6, 1), (7, 1)] #[.int .i64 0, .int .i64 0, .int .i64 0, .int .i64 0, .int .i64 0, .int .i64 0, .int .i64 0, .slice none 0 0] := ⟨_, Try.underlying34, fun w => by kernel_rfl, ze_34⟩
theorem bt_119 : BuildTy Try.prog 119 #[(0, 1), (1, 1), (2, 1)] #[.int .i64 0, .int .i64 0, .int .i64 0] := ⟨_, Try.underlying119, fun w => by kernel_rfl, ze_119⟩
theorem bsl_32_4 : BuildSl Try.prog 32 4 119 3 #[.int .i64 0, .int .i64 0, .int .i64 0, .int .i64 0, .int .i64 0, .int .i64 0, .int .i64 0, .int .i64 0, .int .i64 0, .int .i64 0, .int .i64 0, .int .i64 0] := ⟨Try.underlying32, sz_119, by decide, by decide, _, ze_119, by kernel_rfl⟩
theorem bsl_27_4 : BuildSl Try.prog 27 4 34 8 #[.int .i64 0, .int .i64 0, .int .i64 0, .int .i64 0, .int .i64 0, .int .i64 0, .int .i64 0, .slice none 0 0, .int .i64 0, .int .i64 0, .int .i64 0, .int .i64 0, .int .i64 0, .int .i64 0, .int .i64 0, .slice none 0 0, .int .i64 0, .int .i64 0, .int .i64 0, .int .i64 0, .int .i64 0, .int .i64 0, .int .i64 0, .slice none 0 0, .int .i64 0, .int .i64 0, .int .i64 0, .int .i64 0, .int .i64 0, .int .i64 0, .int .i64 0, .slice none 0 0] := ⟨Try.underlying27, sz_34, by decide, by decide, _, ze_34, by kernel_rfl⟩
theorem bsl_27_2 : BuildSl Try.prog 27 2 34 8 #[.int .i64 0, .int .i64 0, .int .i64 0, .int .i64 0, .int .i64 0, .int .i64 0, .int .i64 0, .slice none 0 0, .int .i64 0, .int .i64 0, .int .i64 0, .int .i64 0, .int .i64 0, .int .i64 0, .int .i64 0, .slice none 0 0] := ⟨Try.underlying27, sz_34, by decide, by decide, _, ze_34, by kernel_rfl⟩
theorem fn_20 : IsFn Try.prog 20 := isFn_of Try.func20 (by kernel_rfl) rfl
theorem fn_22 : IsFn Try.prog 22 := isFn_of Try.func22 (by kernel_rfl) rfl
theorem fn_23 : IsFn Try.prog 23 := isFn_of Try.func23 (by kernel_rfl) rfl
theorem fn_14 : IsFn Try.prog 14 := isFn_of Try.func14 (by kernel_rfl) rfl
theorem fn_15 : IsFn Try.prog 15 := isFn_of Try.func15 (by kernel_rfl) rfl
theorem fn_21 : IsFn Try.prog 21 := isFn_of Try.func21 (by kernel_rfl) rfl
theorem fo_44_2 : FOff Try.prog 44 2 2 := fun b o w => by kernel_rfl
theorem samePosts_self (w : World) (a : List Posting) (aa : Option Addr) (ac : Nat) (ba : Option Addr) (bc : Nat) (ha : SlIn w 6 encPost aa a) (hb : SlIn w 6 encPost ba a) : Calls Try.prog 22 #[.slice aa a.length ac, .slice ba a.length bc] w (fun e w' => e = .returned (.bool true) ∧ Below w.heap.size w w') := by
  have h := samePosts_calls w a aa ac a ba bc ha hb
  rwa [decide_eq_true rfl] at h
theorem sameRests_self (w : World) (a : List Rest) (aa : Option Addr) (ac : Nat) (ba : Option Addr) (bc : Nat) (ha : SlIn w 4 encRest aa a) (hb : SlIn w 4 encRest ba a) : Calls Try.prog 23 #[.slice aa a.length ac, .slice ba a.length bc] w (fun e w' => e = .returned (.bool true) ∧ Below w.heap.size w w') := by
  have h := sameRests_calls w a aa ac a ba bc ha hb
  rwa [decide_eq_true rfl] at h
theorem sanc1 (w : World) (ta : Option Addr) (tc : Nat) (na : Option Addr) (nc : Nat) (ht : SlIn w 3 encTar ta sanT) (hn : SlIn w 50 encLink na sanN.links) :
    Calls Try.prog 18 #[.slice ta 2 tc, .agg (netA sanN na nc), .agg (encUse sanK).toArray] w (fun e w' => e = .returned (.tuple #[.int .i64 1000, .int .i64 0]) ∧ Below w.heap.size w w') := by
  have h := (by (have h_ := charge_calls w sanT ta tc sanN na nc sanK ht hn sanOk SlAt.nothing; simp only [san_c1] at h_; exact h_))
  exact h
theorem sanc2 (w : World) (ta : Option Addr) (tc : Nat) (na : Option Addr) (nc : Nat) (ht : SlIn w 3 encTar ta sanT) (hn : SlIn w 50 encLink na sanN.links) :
    Calls Try.prog 18 #[.slice ta 2 tc, .agg (netA sanN na nc), .agg (encUse sanRd).toArray] w (fun e w' => e = .returned (.tuple #[.int .i64 70, .int .i64 0]) ∧ Below w.heap.size w w') := by
  have h := (by (have h_ := charge_calls w sanT ta tc sanN na nc sanRd ht hn sanOk SlAt.nothing; simp only [san_c2] at h_; exact h_))
  exact h
theorem sanc3 (w : World) (ta : Option Addr) (tc : Nat) (na : Option Addr) (nc : Nat) (ht : SlIn w 3 encTar ta sanT) (hn : SlIn w 50 encLink na sanN.links) (la : Option Addr) (hl : SlIn w 3 encSend la sanL) :
    Calls Try.prog 18 #[.slice ta 2 tc, .agg (netA sanN na nc), .agg (encUse (sanMv la)).toArray] w (fun e w' => e = .returned (.tuple #[.int .i64 420000, .int .i64 0]) ∧ Below w.heap.size w w') := by
  have h := (by (have h_ := charge_calls w sanT ta tc sanN na nc (sanMv la) ht hn sanOk hl; simp only [san_c3] at h_; exact h_))
  exact h
theorem sanc4 (w : World) (ta : Option Addr) (tc : Nat) (na : Option Addr) (nc : Nat) (ht : SlIn w 3 encTar ta sanT) (hn : SlIn w 50 encLink na sanN.links) :
    Calls Try.prog 18 #[.slice ta 2 tc, .agg (netA sanN na nc), .agg (encUse sanFi).toArray] w (fun e w' => e = .returned (.tuple #[.int .i64 3000, .int .i64 0]) ∧ Below w.heap.size w w') := by
  have h := (by (have h_ := charge_calls w sanT ta tc sanN na nc sanFi ht hn sanOk SlAt.nothing; simp only [san_c4] at h_; exact h_))
  exact h
theorem sanck (w : World) (ta : Option Addr) (tc : Nat) (la sa : Option Addr) (lc : Nat) (ht : SlIn w 3 encTar ta sanT) (hl : SlIn w 8 encUse la [sanK, sanRd, sanMv sa, sanFi]) : Calls Try.prog 16 #[.slice ta 2 tc, .slice la 4 lc] w (fun e w' => e = .returned (.int .i64 0) ∧ Below w.heap.size w w') := by
  have h_ := mcheck_calls w sanT ta tc [sanK, sanRd, sanMv sa, sanFi] la lc ht hl
  simp only [san_ck] at h_
  exact h_
theorem sanp1 (w : World) (ta : Option Addr) (tc : Nat) (na : Option Addr) (nc : Nat) (ht : SlIn w 3 encTar ta sanT) (hn : SlIn w 50 encLink na sanN.links) (la : Option Addr) (lc : Nat) (hl : SlIn w 8 encUse la [sanK, sanRd]) :
    Calls Try.prog 20 #[.slice none 0 0, .slice ta 2 tc, .agg (netA sanN na nc), .slice la 2 lc, .int .i64 9] w (fun e w' => ∃ q : (Option Addr × Nat) × (Option Addr × Nat), e = .returned (.tuple #[.slice q.1.1 1 q.1.2, .slice q.2.1 1 q.2.2, .int .i64 0]) ∧ Below w.heap.size w w' ∧ ((1 ≤ q.1.2 ∧ SlAt w' w.heap.size w'.heap.size 6 encPost q.1.1 [(⟨0, 16, 1, 9, 1, 0⟩ : Posting)]) ∧ (1 ≤ q.2.2 ∧ SlAt w' w.heap.size w'.heap.size 4 encRest q.2.1 [sanRe]))) := by
  have h := (by (have h_ := period_calls w [] none 0 sanT ta tc sanN na nc [sanK, sanRd] la lc 9 SlAt.nothing ht hn sanOk hl (fun u hu => by simp only [List.mem_cons, List.not_mem_nil, or_false] at hu; rcases hu with rfl | rfl <;> exact ⟨SlAt.nothing, Nat.le_refl 0⟩); simp only [san_p1] at h_; exact h_))
  exact h
theorem sanp2 (w : World) (ta : Option Addr) (tc : Nat) (na : Option Addr) (nc : Nat) (ht : SlIn w 3 encTar ta sanT) (hn : SlIn w 50 encLink na sanN.links) (la : Option Addr) (lc : Nat) (hl : SlIn w 8 encUse la [sanMo]) (ra : Option Addr) (rc : Nat) (hr : SlIn w 4 encRest ra [sanRe]) :
    Calls Try.prog 20 #[.slice ra 1 rc, .slice ta 2 tc, .agg (netA sanN na nc), .slice la 1 lc, .int .i64 10] w (fun e w' => ∃ q : (Option Addr × Nat) × (Option Addr × Nat), e = .returned (.tuple #[.slice q.1.1 1 q.1.2, .slice q.2.1 1 q.2.2, .int .i64 0]) ∧ Below w.heap.size w w' ∧ ((1 ≤ q.1.2 ∧ SlAt w' w.heap.size w'.heap.size 6 encPost q.1.1 [(⟨1, 16, 1, 10, 3, 0⟩ : Posting)]) ∧ (1 ≤ q.2.2 ∧ SlAt w' w.heap.size w'.heap.size 4 encRest q.2.1 [sanRe]))) := by
  have h := (by (have h_ := period_calls w [sanRe] ra rc sanT ta tc sanN na nc [sanMo] la lc 10 hr ht hn sanOk hl (fun u hu => by simp only [List.mem_cons, List.not_mem_nil, or_false] at hu; rcases hu with rfl <;> exact ⟨SlAt.nothing, Nat.le_refl 0⟩); simp only [san_p2] at h_; exact h_))
  exact h
theorem sanp3 (w : World) (ta : Option Addr) (tc : Nat) (na : Option Addr) (nc : Nat) (ht : SlIn w 3 encTar ta sanT) (hn : SlIn w 50 encLink na sanN.links) (la : Option Addr) (lc : Nat) (hl : SlIn w 8 encUse la [sanFi]) :
    Calls Try.prog 20 #[.slice none 0 0, .slice ta 2 tc, .agg (netA sanN na nc), .slice la 1 lc, .int .i64 10] w (fun e w' => ∃ q : (Option Addr × Nat) × (Option Addr × Nat), e = .returned (.tuple #[.slice q.1.1 1 q.1.2, .slice q.2.1 0 q.2.2, .int .i64 0]) ∧ Below w.heap.size w w' ∧ ((1 ≤ q.1.2 ∧ SlAt w' w.heap.size w'.heap.size 6 encPost q.1.1 [(⟨12, 1, 3, 10, 5, 0⟩ : Posting)]) ∧ (0 ≤ q.2.2 ∧ SlAt w' w.heap.size w'.heap.size 4 encRest q.2.1 []))) := by
  have h := (by (have h_ := period_calls w [] none 0 sanT ta tc sanN na nc [sanFi] la lc 10 SlAt.nothing ht hn sanOk hl (fun u hu => by simp only [List.mem_cons, List.not_mem_nil, or_false] at hu; rcases hu with rfl <;> exact ⟨SlAt.nothing, Nat.le_refl 0⟩); simp only [san_p3] at h_; exact h_))
  exact h
set_option maxRecDepth 100000 in
set_option maxHeartbeats 8000000 in
theorem sanity9_calls (w : World)   :
    Calls Try.prog 15 #[] w (fun e w' => e = .returned (.bool true) ∧ Below w.heap.size w w') := by
  refine calls_of_tc (N := 197) (vs := []) Try.func15 rfl rfl (Nat.le_of_ble_eq_true rfl) ?_
  refine tc_seq ?_
  refine tc_region ?_
  refine s0 (qv_assign rfl) ?_
  refine tl_nil (tp_normal ?_)
  refine tc_seq ?_
  refine tc_region ?_
  refine s0 (qv_build (cells := #[.int .i64 (2), .int .i64 (30), .int .i64 (500)]) bt_113 rfl (by kernel_rfl)) ?_
  refine s0 (qv_build (cells := #[.int .i64 (1), .int .i64 (10), .int .i64 (100)]) bt_113 rfl (by kernel_rfl)) ?_
  refine tl_buildSliceL (enc := encTar) sanT bsl_23_2 (fun b30_0 => ?_) rfl (by kernel_rfl)
  have hsb30_0 := SlAt.ofBox (enc := encTar) (sz := 3) (b := b30_0) (E := 113) (l := sanT) (Nat.le_of_ble_eq_true rfl) (fun x hx => rfl)
  refine s0 (qv_assign rfl) ?_
  refine tl_nil (tp_normal ?_)
  refine tc_seq ?_
  refine tc_region ?_
  refine s0 (qv_call fn_48 rfl (fun w hm => always_calls w (100))) ?_
  refine s0 (qv_call fn_48 rfl (fun w hm => always_calls w (2))) ?_
  refine s0 (qv_build bt_117 rfl rfl) ?_
  refine s0 (qv_call fn_48 rfl (fun w hm => always_calls w (100))) ?_
  refine s0 (qv_call fn_48 rfl (fun w hm => always_calls w (2))) ?_
  refine s0 (qv_build bt_117 rfl rfl) ?_
  refine s0 (qv_call fn_48 rfl (fun w hm => always_calls w (10))) ?_
  refine s0 (qv_call fn_48 rfl (fun w hm => always_calls w (1))) ?_
  refine s0 (qv_build bt_117 rfl rfl) ?_
  refine tl_buildSliceL (enc := encLink) sanN.links bsl_24_3 (fun b40_1 => ?_) rfl (by kernel_rfl)
  have hsb40_1 := SlAt.ofBox (enc := encLink) (sz := 50) (b := b40_1) (E := 117) (l := sanN.links) (Nat.le_of_ble_eq_true rfl) (fun x hx => by (have h_ := sanOk x hx; simp [encLink, h_.1, h_.2]))
  refine s0 (qv_build bt_26 rfl rfl) ?_
  refine tl_alloc ze_26 (by decide) (fun b2_2 => ?_)
  refine tl_storeO (i := 0) sz_26 rfl rfl rfl rfl rfl rfl rfl ?_
  refine tl_nil (tp_normal ?_)
  refine tc_seq ?_
  refine tc_region ?_
  refine s0 (qv_build bt_34 rfl rfl) ?_
  refine tl_alloc ze_34 (by decide) (fun b3_3 => ?_)
  refine tl_storeO (i := 0) sz_34 rfl rfl rfl rfl rfl rfl rfl ?_
  refine tl_nil (tp_normal ?_)
  refine tc_seq ?_
  refine tc_region ?_
  refine s0 (qv_build bt_34 rfl rfl) ?_
  refine tl_alloc ze_34 (by decide) (fun b4_4 => ?_)
  refine tl_storeO (i := 0) sz_34 rfl rfl rfl rfl rfl rfl rfl ?_
  refine tl_nil (tp_normal ?_)
  refine tc_seq ?_
  refine tc_region ?_
  refine s0 (qv_build (cells := #[.int .i64 (0), .int .i64 (5), .int .i64 (100)]) bt_119 rfl (by kernel_rfl)) ?_
  refine s0 (qv_build (cells := #[.int .i64 (2), .int .i64 (5), .int .i64 (10)]) bt_119 rfl (by kernel_rfl)) ?_
  refine s0 (qv_build (cells := #[.int .i64 (1), .int .i64 (6), .int .i64 (100)]) bt_119 rfl (by kernel_rfl)) ?_
  refine s0 (qv_build (cells := #[.int .i64 (2), .int .i64 (6), .int .i64 (10)]) bt_119 rfl (by kernel_rfl)) ?_
  refine tl_buildSliceL (enc := encSend) sanL bsl_32_4 (fun b48_5 => ?_) rfl (by kernel_rfl)
  have hsb48_5 := SlAt.ofBox (enc := encSend) (sz := 3) (b := b48_5) (E := 119) (l := sanL) (Nat.le_of_ble_eq_true rfl) (fun _ _ => rfl)
  refine s0 (qv_build bt_34 rfl rfl) ?_
  refine tl_alloc ze_34 (by decide) (fun b5_6 => ?_)
  refine tl_storeO (i := 0) sz_34 rfl rfl rfl rfl rfl rfl rfl ?_
  refine tl_nil (tp_normal ?_)
  refine tc_seq ?_
  refine tc_region ?_
  refine s0 (qv_build bt_34 rfl rfl) ?_
  refine tl_alloc ze_34 (by decide) (fun b6_7 => ?_)
  refine tl_storeO (i := 0) sz_34 rfl rfl rfl rfl rfl rfl rfl ?_
  refine tl_nil (tp_normal ?_)
  refine tc_seq ?_
  refine tc_region ?_
  refine s0 (qv_move rfl) ?_
  refine s0 (qv_ldBW (i := 5) ag_26 rfl rfl rfl) ?_
  refine s0 (qv_ldBW (i := 4) ag_34 rfl rfl rfl) ?_
  refine s0 (qv_call fn_18 rfl (fun w hm => sanc1 w (some ⟨b30_0, 0, none⟩) 2 (some ⟨b40_1, 0, none⟩) 3 (hsb30_0.into (Mem.has_box (by repeat (first | exact List.Mem.head _ | refine List.Mem.tail _ ?_))) hm) (hsb40_1.into (Mem.has_box (by repeat (first | exact List.Mem.head _ | refine List.Mem.tail _ ?_))) hm))) ?_
  refine s0 (qv_move rfl) ?_
  refine s0 (qv_extract rfl rfl) ?_
  refine s0 (qv_extract rfl rfl) ?_
  refine s0 (qv_assign rfl) ?_
  refine s0 (qv_assign rfl) ?_
  refine tl_nil (tp_normal ?_)
  refine tc_seq ?_
  refine tc_region ?_
  refine s0 (qv_move rfl) ?_
  refine s0 (qv_ldBW (i := 5) ag_26 rfl rfl rfl) ?_
  refine s0 (qv_ldBW (i := 3) ag_34 rfl rfl rfl) ?_
  refine s0 (qv_call fn_18 rfl (fun w hm => sanc2 w (some ⟨b30_0, 0, none⟩) 2 (some ⟨b40_1, 0, none⟩) 3 (hsb30_0.into (Mem.has_box (by repeat (first | exact List.Mem.head _ | refine List.Mem.tail _ ?_))) hm) (hsb40_1.into (Mem.has_box (by repeat (first | exact List.Mem.head _ | refine List.Mem.tail _ ?_))) hm))) ?_
  refine s0 (qv_move rfl) ?_
  refine s0 (qv_extract rfl rfl) ?_
  refine s0 (qv_extract rfl rfl) ?_
  refine s0 (qv_assign rfl) ?_
  refine s0 (qv_assign rfl) ?_
  refine tl_nil (tp_normal ?_)
  refine tc_seq ?_
  refine tc_region ?_
  refine s0 (qv_move rfl) ?_
  refine s0 (qv_ldBW (i := 5) ag_26 rfl rfl rfl) ?_
  refine s0 (qv_ldBW (i := 1) ag_34 rfl rfl rfl) ?_
  refine s0 (qv_call fn_18 rfl (fun w hm => sanc3 w (some ⟨b30_0, 0, none⟩) 2 (some ⟨b40_1, 0, none⟩) 3 (hsb30_0.into (Mem.has_box (by repeat (first | exact List.Mem.head _ | refine List.Mem.tail _ ?_))) hm) (hsb40_1.into (Mem.has_box (by repeat (first | exact List.Mem.head _ | refine List.Mem.tail _ ?_))) hm) (some ⟨b48_5, 0, none⟩) (hsb48_5.into (Mem.has_box (by repeat (first | exact List.Mem.head _ | refine List.Mem.tail _ ?_))) hm))) ?_
  refine s0 (qv_move rfl) ?_
  refine s0 (qv_extract rfl rfl) ?_
  refine s0 (qv_extract rfl rfl) ?_
  refine s0 (qv_assign rfl) ?_
  refine s0 (qv_assign rfl) ?_
  refine tl_nil (tp_normal ?_)
  refine tc_seq ?_
  refine tc_region ?_
  refine s0 (qv_move rfl) ?_
  refine s0 (qv_ldBW (i := 5) ag_26 rfl rfl rfl) ?_
  refine s0 (qv_ldBW (i := 0) ag_34 rfl rfl rfl) ?_
  refine s0 (qv_call fn_18 rfl (fun w hm => sanc4 w (some ⟨b30_0, 0, none⟩) 2 (some ⟨b40_1, 0, none⟩) 3 (hsb30_0.into (Mem.has_box (by repeat (first | exact List.Mem.head _ | refine List.Mem.tail _ ?_))) hm) (hsb40_1.into (Mem.has_box (by repeat (first | exact List.Mem.head _ | refine List.Mem.tail _ ?_))) hm))) ?_
  refine s0 (qv_move rfl) ?_
  refine s0 (qv_extract rfl rfl) ?_
  refine s0 (qv_extract rfl rfl) ?_
  refine s0 (qv_assign rfl) ?_
  refine s0 (qv_assign rfl) ?_
  refine tl_nil (tp_normal ?_)
  refine tc_seq ?_
  refine tc_seq ?_
  refine tc_region ?_
  refine s0 (qv_move rfl) ?_
  refine s0 (qv_neq rfl rfl) ?_
  refine s0 (qv_move rfl) ?_
  refine s0g (qv_move rfl) ?_
  refine s0g (qv_neq rfl rfl) ?_
  refine s0 (qv_pickF rfl rfl) ?_
  refine s0 (qv_move rfl) ?_
  refine s0g (qv_move rfl) ?_
  refine s0g (qv_neq rfl rfl) ?_
  refine s0 (qv_pickF rfl rfl) ?_
  refine s0 (qv_move rfl) ?_
  refine s0g (qv_move rfl) ?_
  refine s0g (qv_neq rfl rfl) ?_
  refine s0 (qv_pickF rfl rfl) ?_
  refine s0 (qv_move rfl) ?_
  refine s0g (qv_move rfl) ?_
  refine s0g (qv_neq rfl rfl) ?_
  refine s0 (qv_pickF rfl rfl) ?_
  refine s0 (qv_move rfl) ?_
  refine s0g (qv_move rfl) ?_
  refine s0g (qv_neq rfl rfl) ?_
  refine s0 (qv_pickF rfl rfl) ?_
  refine s0 (qv_move rfl) ?_
  refine s0g (qv_move rfl) ?_
  refine s0g (qv_neq rfl rfl) ?_
  refine s0 (qv_pickF rfl rfl) ?_
  refine s0 (qv_move rfl) ?_
  refine s0g (qv_move rfl) ?_
  refine s0g (qv_neq rfl rfl) ?_
  refine s0 (qv_pickF rfl rfl) ?_
  refine s0 (qv_move rfl) ?_
  refine s0g (qv_move rfl) ?_
  refine s0g (qv_ldBW (i := 4) ag_34 rfl rfl rfl) ?_
  refine s0g (qv_ldBW (i := 3) ag_34 rfl rfl rfl) ?_
  refine s0g (qv_ldBW (i := 1) ag_34 rfl rfl rfl) ?_
  refine s0g (qv_ldBW (i := 0) ag_34 rfl rfl rfl) ?_
  refine tl_unguard ?_
  refine tl_buildSliceL (enc := encUse) [sanK, sanRd, sanMv (some ⟨b48_5, 0, none⟩), sanFi] bsl_27_4 (fun b115_8 => ?_) rfl (by kernel_rfl)
  have hsb115_8 := SlAt.ofBox (enc := encUse) (sz := 8) (b := b115_8) (E := 34) (l := [sanK, sanRd, sanMv (some ⟨b48_5, 0, none⟩), sanFi]) (Nat.le_of_ble_eq_true rfl) (fun x hx => rfl)
  refine s0g (qv_call fn_16 rfl (fun w hm => sanck w (some ⟨b30_0, 0, none⟩) 2 (some ⟨b115_8, 0, none⟩) (some ⟨b48_5, 0, none⟩) 4 (hsb30_0.into (Mem.has_box (by repeat (first | exact List.Mem.head _ | refine List.Mem.tail _ ?_))) hm) (hsb115_8.into (Mem.has_box (by repeat (first | exact List.Mem.head _ | refine List.Mem.tail _ ?_))) hm))) ?_
  refine s0g (qv_neq rfl rfl) ?_
  refine s0 (qv_pickF rfl rfl) ?_
  refine tl_nil (tp_normal ?_)
  refine tc_false rfl ?_
  refine tc_skip (tp_normal ?_)
  refine tc_seq ?_
  refine tc_region ?_
  refine s0 (qv_move rfl) ?_
  refine s0 (qv_ldBW (i := 6) ag_26 rfl rfl rfl) ?_
  refine s0 (qv_ldBW (i := 5) ag_34 rfl rfl rfl) ?_
  refine s0 (qv_ldBW (i := 4) ag_34 rfl rfl rfl) ?_
  refine tl_buildSliceL (enc := encUse) [sanK, sanRd] bsl_27_2 (fun b124_9 => ?_) rfl (by kernel_rfl)
  have hsb124_9 := SlAt.ofBox (enc := encUse) (sz := 8) (b := b124_9) (E := 34) (l := [sanK, sanRd]) (Nat.le_of_ble_eq_true rfl) (fun x hx => rfl)
  refine tl_callR fn_20 rfl (by decide) (fun w hm => sanp1 w (some ⟨b30_0, 0, none⟩) 2 (some ⟨b40_1, 0, none⟩) 3 (hsb30_0.into (Mem.has_box (by repeat (first | exact List.Mem.head _ | refine List.Mem.tail _ ?_))) hm) (hsb40_1.into (Mem.has_box (by repeat (first | exact List.Mem.head _ | refine List.Mem.tail _ ?_))) hm) (some ⟨b124_9, 0, none⟩) 2 (hsb124_9.into (Mem.has_box (by repeat (first | exact List.Mem.head _ | refine List.Mem.tail _ ?_))) hm)) (fun r125 wa125 wb125 hm125 hb125 hr125 => ?_)
  refine s0 (qv_move rfl) ?_
  refine s0 (qv_extract rfl rfl) ?_
  refine s0 (qv_extract rfl rfl) ?_
  refine s0 (qv_extract rfl rfl) ?_
  refine s0 (qv_assign rfl) ?_
  refine s0 (qv_assign rfl) ?_
  refine s0 (qv_assign rfl) ?_
  refine tl_nil (tp_normal ?_)
  refine tc_seq ?_
  refine tc_region ?_
  refine s0 (qv_ldBW (i := 5) ag_34 rfl rfl rfl) ?_
  refine tl_alloc ze_34 (by decide) (fun b18_10 => ?_)
  refine tl_storeO (i := 0) sz_34 rfl rfl rfl rfl rfl rfl rfl ?_
  refine tl_nil (tp_normal ?_)
  refine tc_seq ?_
  refine tc_region ?_
  refine s0 (qv_fa fo_34_6 rfl) ?_
  refine tl_store1 (i := 0) sz_3 rfl rfl rfl rfl rfl (Nat.le_of_ble_eq_true rfl) ?_
  refine tl_nil (tp_normal ?_)
  refine tc_seq ?_
  refine tc_region ?_
  refine s0 (qv_move rfl) ?_
  refine s0 (qv_move rfl) ?_
  refine s0 (qv_ldBW (i := 8) ag_26 rfl rfl rfl) ?_
  refine s0 (qv_ldBW (i := 0) ag_34 rfl rfl rfl) ?_
  refine tl_buildSliceL (enc := encUse) [sanMo] bsl_27_1 (fun b136_11 => ?_) rfl (by kernel_rfl)
  have hsb136_11 := SlAt.ofBox (enc := encUse) (sz := 8) (b := b136_11) (E := 34) (l := [sanMo]) (Nat.le_of_ble_eq_true rfl) (fun x hx => rfl)
  refine tl_callR fn_20 rfl (by decide) (fun w hm => sanp2 w (some ⟨b30_0, 0, none⟩) 2 (some ⟨b40_1, 0, none⟩) 3 (hsb30_0.into (Mem.has_box (by repeat (first | exact List.Mem.head _ | refine List.Mem.tail _ ?_))) hm) (hsb40_1.into (Mem.has_box (by repeat (first | exact List.Mem.head _ | refine List.Mem.tail _ ?_))) hm) (some ⟨b136_11, 0, none⟩) 1 (hsb136_11.into (Mem.has_box (by repeat (first | exact List.Mem.head _ | refine List.Mem.tail _ ?_))) hm) r125.2.1 r125.2.2 (hr125.2.2.into (Mem.has_kept (by first | exact .head _ | exact .tail _ (.head _) | exact .tail _ (.tail _ (.head _)) | exact .tail _ (.tail _ (.tail _ (.head _))))) hm)) (fun r137 wa137 wb137 hm137 hb137 hr137 => ?_)
  refine s0 (qv_move rfl) ?_
  refine s0 (qv_extract rfl rfl) ?_
  refine s0 (qv_extract rfl rfl) ?_
  refine s0 (qv_extract rfl rfl) ?_
  refine s0 (qv_assign rfl) ?_
  refine s0 (qv_assign rfl) ?_
  refine s0 (qv_assign rfl) ?_
  refine tl_nil (tp_normal ?_)
  refine tc_seq ?_
  refine tc_region ?_
  refine s0 (qv_move rfl) ?_
  refine s0 (qv_ldBW (i := 9) ag_26 rfl rfl rfl) ?_
  refine s0 (qv_ldBW (i := 4) ag_34 rfl rfl rfl) ?_
  refine tl_buildSliceL (enc := encUse) [sanFi] bsl_27_1 (fun b145_12 => ?_) rfl (by kernel_rfl)
  have hsb145_12 := SlAt.ofBox (enc := encUse) (sz := 8) (b := b145_12) (E := 34) (l := [sanFi]) (Nat.le_of_ble_eq_true rfl) (fun x hx => rfl)
  refine tl_callR fn_20 rfl (by decide) (fun w hm => sanp3 w (some ⟨b30_0, 0, none⟩) 2 (some ⟨b40_1, 0, none⟩) 3 (hsb30_0.into (Mem.has_box (by repeat (first | exact List.Mem.head _ | refine List.Mem.tail _ ?_))) hm) (hsb40_1.into (Mem.has_box (by repeat (first | exact List.Mem.head _ | refine List.Mem.tail _ ?_))) hm) (some ⟨b145_12, 0, none⟩) 1 (hsb145_12.into (Mem.has_box (by repeat (first | exact List.Mem.head _ | refine List.Mem.tail _ ?_))) hm)) (fun r146 wa146 wb146 hm146 hb146 hr146 => ?_)
  refine s0 (qv_move rfl) ?_
  refine s0 (qv_extract rfl rfl) ?_
  refine s0 (qv_extract rfl rfl) ?_
  refine s0 (qv_extract rfl rfl) ?_
  refine s0 (qv_assign rfl) ?_
  refine s0 (qv_assign rfl) ?_
  refine s0 (qv_assign rfl) ?_
  refine tl_nil (tp_normal ?_)
  refine tc_seq ?_
  refine tc_region ?_
  refine s0 (qv_build (cells := #[.int .i64 (4), .int .i64 (1), .int .i64 (3), .int .i64 (70)]) bt_56 rfl (by kernel_rfl)) ?_
  refine tl_buildSliceL (enc := encRest) [sanRe] bsl_22_1 (fun b151_13 => ?_) rfl (by kernel_rfl)
  have hsb151_13 := SlAt.ofBox (enc := encRest) (sz := 4) (b := b151_13) (E := 56) (l := [sanRe]) (Nat.le_of_ble_eq_true rfl) (fun x hx => rfl)
  refine s0 (qv_assign rfl) ?_
  refine tl_nil (tp_normal ?_)
  refine tc_seq ?_
  refine tc_region ?_
  refine s0 (qv_move rfl) ?_
  refine s0 (qv_eql rfl rfl) ?_
  refine s0 (qv_move rfl) ?_
  refine s0g (qv_move rfl) ?_
  refine s0g (qv_build (cells := #[.int .i64 (0), .int .i64 (16), .int .i64 (1), .int .i64 (9), .int .i64 (1), .int .i64 (0)]) bt_54 rfl (by kernel_rfl)) ?_
  refine tl_unguard ?_
  refine tl_buildSliceL (enc := encPost) [(⟨0, 16, 1, 9, 1, 0⟩ : Posting)] bsl_40_1 (fun b157_14 => ?_) rfl (by kernel_rfl)
  have hsb157_14 := SlAt.ofBox (enc := encPost) (sz := 6) (b := b157_14) (E := 54) (l := [(⟨0, 16, 1, 9, 1, 0⟩ : Posting)]) (Nat.le_of_ble_eq_true rfl) (fun x hx => rfl)
  refine s0g (qv_call fn_22 rfl (fun w hm => samePosts_self w [(⟨0, 16, 1, 9, 1, 0⟩ : Posting)] r125.1.1 r125.1.2 (some ⟨b157_14, 0, none⟩) 1 (hr125.1.2.into (Mem.has_kept (by first | exact .head _ | exact .tail _ (.head _) | exact .tail _ (.tail _ (.head _)) | exact .tail _ (.tail _ (.tail _ (.head _))))) hm) (hsb157_14.into (Mem.has_box (by repeat (first | exact List.Mem.head _ | refine List.Mem.tail _ ?_))) hm))) ?_
  refine s0 (qv_pickT rfl rfl) ?_
  refine s0 (qv_move rfl) ?_
  refine s0g (qv_move rfl) ?_
  refine s0g (qv_move rfl) ?_
  refine s0g (qv_call fn_23 rfl (fun w hm => sameRests_self w [sanRe] r125.2.1 r125.2.2 (some ⟨b151_13, 0, none⟩) 1 (hr125.2.2.into (Mem.has_kept (by first | exact .head _ | exact .tail _ (.head _) | exact .tail _ (.tail _ (.head _)) | exact .tail _ (.tail _ (.tail _ (.head _))))) hm) (hsb151_13.into (Mem.has_box (by repeat (first | exact List.Mem.head _ | refine List.Mem.tail _ ?_))) hm))) ?_
  refine s0 (qv_pickT rfl rfl) ?_
  refine s0 (qv_assign rfl) ?_
  refine tl_nil (tp_normal ?_)
  refine tc_seq ?_
  refine tc_region ?_
  refine s0 (qv_move rfl) ?_
  refine s0 (qv_eql rfl rfl) ?_
  refine s0 (qv_move rfl) ?_
  refine s0g (qv_move rfl) ?_
  refine s0g (qv_build (cells := #[.int .i64 (1), .int .i64 (16), .int .i64 (1), .int .i64 (10), .int .i64 (3), .int .i64 (0)]) bt_54 rfl (by kernel_rfl)) ?_
  refine tl_unguard ?_
  refine tl_buildSliceL (enc := encPost) [(⟨1, 16, 1, 10, 3, 0⟩ : Posting)] bsl_40_1 (fun b170_15 => ?_) rfl (by kernel_rfl)
  have hsb170_15 := SlAt.ofBox (enc := encPost) (sz := 6) (b := b170_15) (E := 54) (l := [(⟨1, 16, 1, 10, 3, 0⟩ : Posting)]) (Nat.le_of_ble_eq_true rfl) (fun x hx => rfl)
  refine s0g (qv_call fn_22 rfl (fun w hm => samePosts_self w [(⟨1, 16, 1, 10, 3, 0⟩ : Posting)] r137.1.1 r137.1.2 (some ⟨b170_15, 0, none⟩) 1 (hr137.1.2.into (Mem.has_kept (by first | exact .head _ | exact .tail _ (.head _) | exact .tail _ (.tail _ (.head _)) | exact .tail _ (.tail _ (.tail _ (.head _))))) hm) (hsb170_15.into (Mem.has_box (by repeat (first | exact List.Mem.head _ | refine List.Mem.tail _ ?_))) hm))) ?_
  refine s0 (qv_pickT rfl rfl) ?_
  refine s0 (qv_move rfl) ?_
  refine s0g (qv_move rfl) ?_
  refine s0g (qv_move rfl) ?_
  refine s0g (qv_call fn_23 rfl (fun w hm => sameRests_self w [sanRe] r137.2.1 r137.2.2 (some ⟨b151_13, 0, none⟩) 1 (hr137.2.2.into (Mem.has_kept (by first | exact .head _ | exact .tail _ (.head _) | exact .tail _ (.tail _ (.head _)) | exact .tail _ (.tail _ (.tail _ (.head _))))) hm) (hsb151_13.into (Mem.has_box (by repeat (first | exact List.Mem.head _ | refine List.Mem.tail _ ?_))) hm))) ?_
  refine s0 (qv_pickT rfl rfl) ?_
  refine s0 (qv_assign rfl) ?_
  refine tl_nil (tp_normal ?_)
  refine tc_seq ?_
  refine tc_region ?_
  refine s0 (qv_move rfl) ?_
  refine s0 (qv_move rfl) ?_
  refine s0g (qv_move rfl) ?_
  refine s0 (qv_pickT rfl rfl) ?_
  refine s0 (qv_move rfl) ?_
  refine s0g (qv_move rfl) ?_
  refine s0g (qv_eql rfl rfl) ?_
  refine s0 (qv_pickT rfl rfl) ?_
  refine s0 (qv_move rfl) ?_
  refine s0g (qv_move rfl) ?_
  refine s0g (qv_build (cells := #[.int .i64 (12), .int .i64 (1), .int .i64 (3), .int .i64 (10), .int .i64 (5), .int .i64 (0)]) bt_54 rfl (by kernel_rfl)) ?_
  refine tl_unguard ?_
  refine tl_buildSliceL (enc := encPost) [(⟨12, 1, 3, 10, 5, 0⟩ : Posting)] bsl_40_1 (fun b189_16 => ?_) rfl (by kernel_rfl)
  have hsb189_16 := SlAt.ofBox (enc := encPost) (sz := 6) (b := b189_16) (E := 54) (l := [(⟨12, 1, 3, 10, 5, 0⟩ : Posting)]) (Nat.le_of_ble_eq_true rfl) (fun x hx => rfl)
  refine s0g (qv_call fn_22 rfl (fun w hm => samePosts_self w [(⟨12, 1, 3, 10, 5, 0⟩ : Posting)] r146.1.1 r146.1.2 (some ⟨b189_16, 0, none⟩) 1 (hr146.1.2.into (Mem.has_kept (by first | exact .head _ | exact .tail _ (.head _) | exact .tail _ (.tail _ (.head _)) | exact .tail _ (.tail _ (.tail _ (.head _))))) hm) (hsb189_16.into (Mem.has_box (by repeat (first | exact List.Mem.head _ | refine List.Mem.tail _ ?_))) hm))) ?_
  refine s0 (qv_pickT rfl rfl) ?_
  refine s0 (qv_move rfl) ?_
  refine s0g (qv_move rfl) ?_
  refine s0g (qv_len st_22 rfl) ?_
  refine s0g (qv_eql rfl rfl) ?_
  refine s0 (qv_pickT rfl rfl) ?_
  refine s0 (qv_assign rfl) ?_
  refine tl_nil (tp_normal ?_)
  refine tc_ret (tp_end1 rfl rfl ?_)
  intro w' hm
  exact ⟨rfl, hm.below⟩
set_option maxRecDepth 100000 in
set_option maxHeartbeats 8000000 in
theorem law_specified (w : World) (r : List Rest) (ra : Option Addr) (rc : Nat) (t : List Tariff) (ta : Option Addr) (tc : Nat) (n : Net) (na : Option Addr) (nc : Nat) (l : List Use) (la : Option Addr) (lc : Nat) (tick : Int) (hr : SlIn w 4 encRest ra r) (ht : SlIn w 3 encTar ta t) (hn : SlIn w 50 encLink na n.links) (hk : NetOk n) (hl : SlIn w 8 encUse la l) (hins : ∀ u ∈ l, SlIn w 3 encSend u.sends.a u.sends.l ∧ u.sends.l.length ≤ u.sends.c) :
    Calls Try.prog 3 #[.slice ra r.length rc, .slice ta t.length tc, .agg (netA n na nc), .slice la l.length lc, .int .i64 tick] w (fun e w' => e = .returned (.bool true) ∧ Below w.heap.size w w') := by
  have hlent := ht.len
  simp only [maxLen] at hlent
  have hlenn := hn.len
  simp only [maxLen] at hlenn
  have hlenu := hl.len
  simp only [maxLen] at hlenu
  have hlenr := hr.len
  simp only [maxLen] at hlenr
  refine calls_of_tc (N := 110) (vs := [.slice ra r.length rc, .slice ta t.length tc, .agg (netA n na nc), .slice la l.length lc, .int .i64 tick]) Try.func3 rfl rfl (Nat.le_of_ble_eq_true rfl) ?_
  refine tc_seq ?_
  refine tc_region ?_
  refine tl_box rfl (by decide) (fun b7_0 => ?_)
  refine s0 (qv_assign rfl) ?_
  refine tl_nil (tp_normal ?_)
  refine tc_seq ?_
  refine tc_seq ?_
  refine tc_region ?_
  refine s0 (qv_ldBW (i := 0) ag_26 rfl rfl rfl) ?_
  refine s0 (qv_move rfl) ?_
  refine sd (qv_call fn_14 rfl (fun w hm => few9_calls w n na nc l la lc (hn.into Mem.has_base hm) hk (hl.into Mem.has_base hm))) (fun c22 => ?_) (fun c22 => ?_)
  ·
    refine s0 (qv_not rfl) ?_
    refine s0 (qv_move rfl) ?_
    refine s0g (qv_move rfl) ?_
    refine s0g (qv_len st_23 rfl) ?_
    refine sdg (qv_gtr rfl rfl) (fun c27 => ?_) (fun c27 => ?_)
    ·
      refine s0 (qv_pickF rfl rfl) ?_
      refine s0 (qv_move rfl) ?_
      refine sk ?_
      refine sk ?_
      refine sk ?_
      refine s0 (qv_pickT rfl rfl) ?_
      refine tl_nil (tp_normal ?_)
      refine tc_true rfl ?_
      refine tc_seq ?_
      refine tc_region ?_
      refine s0 (qv_call fn_15 rfl (fun w hm => sanity9_calls w)) ?_
      refine s0 (qv_assign rfl) ?_
      refine tl_nil (tp_normal ?_)
      refine tc_ret (tp_then_ret (tp_end1 rfl rfl ?_))
      intro w' hm
      exact ⟨rfl, hm.below⟩
    ·
      refine s0 (qv_pickF rfl rfl) ?_
      refine s0 (qv_move rfl) ?_
      refine s0g (qv_move rfl) ?_
      refine s0g (qv_len st_22 rfl) ?_
      refine sdg (qv_gtr rfl rfl) (fun c32 => ?_) (fun c32 => ?_)
      ·
        refine s0 (qv_pickF rfl rfl) ?_
        refine tl_nil (tp_normal ?_)
        refine tc_true rfl ?_
        refine tc_seq ?_
        refine tc_region ?_
        refine s0 (qv_call fn_15 rfl (fun w hm => sanity9_calls w)) ?_
        refine s0 (qv_assign rfl) ?_
        refine tl_nil (tp_normal ?_)
        refine tc_ret (tp_then_ret (tp_end1 rfl rfl ?_))
        intro w' hm
        exact ⟨rfl, hm.below⟩
      ·
        refine s0 (qv_pickF rfl rfl) ?_
        refine tl_nil (tp_normal ?_)
        refine tc_false rfl ?_
        refine tc_skip (tp_normal ?_)
        refine tc_seq ?_
        refine tc_seq ?_
        refine tc_region ?_
        refine s0 (qv_move rfl) ?_
        refine s0 (qv_move rfl) ?_
        refine s0 (qv_call fn_16 rfl (fun w hm => mcheck_calls w t ta tc l la lc (ht.into Mem.has_base hm) (hl.into Mem.has_base hm))) ?_
        refine s0 (qv_move rfl) ?_
        refine s0 (qv_move rfl) ?_
        refine s0 (qv_call fn_17 rfl (fun w hm => rmcheck_calls w t ta tc l la lc (ht.into Mem.has_base hm) (hl.into Mem.has_base hm))) ?_
        refine s0 (qv_neSelf rfl rfl) ?_
        refine tl_nil (tp_normal ?_)
        refine tc_false rfl ?_
        refine tc_skip (tp_normal ?_)
        refine tc_seq ?_
        refine tc_seq ?_
        refine tc_region ?_
        refine s0 (qv_move rfl) ?_
        refine s0 (qv_len st_27 rfl) ?_
        refine s0 (qv_move rfl) ?_
        refine tl_nil (tp_normal ?_)
        refine tc_block (tc_loopS (fun (k : Nat) => [(44, .int .i64 (k : Int))]) (fun (k : Nat) => k ≤ l.length) (fun (k : Nat) => l.length - k) (0) (Nat.zero_le _) ⟨rfl, trivial⟩ ?_)
        rintro k hI
        refine tc_seq ?_
        refine tc_region ?_
        refine sd (qv_lss rfl rfl) (fun c45 => ?_) (fun c45 => ?_)
        ·
          refine tl_nil (tp_normal ?_)
          refine tc_seq ?_
          refine tc_true rfl ?_
          refine tc_skip (tp_normal ?_)
          refine tc_seq ?_
          refine tc_block ?_
          refine tc_seq ?_
          refine tc_region ?_
          refine s0 (qv_move rfl) ?_
          refine sn st_27 hl rfl rfl (by omega) (fun e47 he47 => ?_)
          refine s0 (qv_ldEW ag_34 hl Mem.has_base rfl he47) ?_
          refine tl_alloc ze_34 (by decide) (fun b12_1 => ?_)
          refine s0 (qv_assign rfl) ?_
          refine tl_storeL (i := 0) sz_34 (hl.szs _ (List.mem_of_getElem? he47)) (one_34 _) rfl rfl rfl rfl ?_
          refine tl_nil (tp_normal ?_)
          refine tc_seq ?_
          refine tc_region ?_
          refine s0 (qv_move rfl) ?_
          refine s0 (qv_ldBW (i := 1) ag_26 rfl rfl rfl) ?_
          refine s0 (qv_ldBW (i := 0) ag_34 rfl rfl rfl) ?_
          refine s0 (qv_call fn_18 rfl (fun w hm => charge_calls w t ta tc n na nc e47 (ht.into Mem.has_base hm) (hn.into Mem.has_base hm) hk ((hins e47 (List.mem_of_getElem? he47)).1.into Mem.has_base hm))) ?_
          refine s0 (qv_move rfl) ?_
          refine s0 (qv_extract rfl rfl) ?_
          refine s0 (qv_extract rfl rfl) ?_
          refine s0 (qv_assign rfl) ?_
          refine s0 (qv_assign rfl) ?_
          refine tl_nil (tp_normal ?_)
          refine tc_seq ?_
          refine tc_region ?_
          refine s0 (qv_move rfl) ?_
          refine s0 (qv_ldBW (i := 1) ag_26 rfl rfl rfl) ?_
          refine s0 (qv_ldBW (i := 0) ag_34 rfl rfl rfl) ?_
          refine s0 (qv_call fn_19 rfl (fun w hm => rcharge_calls w t ta tc n na nc e47 (ht.into Mem.has_base hm) (hn.into Mem.has_base hm) hk ((hins e47 (List.mem_of_getElem? he47)).1.into Mem.has_base hm))) ?_
          refine tl_alloc ze_38 (by decide) (fun b15_2 => ?_)
          refine tl_storeO (i := 0) sz_38 rfl rfl rfl rfl rfl rfl rfl ?_
          refine tl_nil (tp_normal ?_)
          refine tc_seq ?_
          refine tc_region ?_
          refine s0 (qv_move rfl) ?_
          refine sd (qv_lss rfl rfl) (fun c61 => ?_) (fun c61 => ?_)
          ·
            refine s0 (qv_move rfl) ?_
            refine s0g (qv_move rfl) ?_
            refine s0g (qv_fa fo_38_0 rfl) ?_
            refine s0g (qv_ldB (i := 0) sc_3 rfl rfl rfl) ?_
            refine s0g (qv_neSelf rfl rfl) ?_
            refine s0g (qv_move rfl) ?_
            refine s0g (qv_move rfl) ?_
            refine s0g (qv_fa fo_38_1 rfl) ?_
            refine s0g (qv_ldB (i := 0) sc_30 rfl rfl rfl) ?_
            refine s0g (qv_neSelf rfl rfl) ?_
            refine s0g (qv_pickF rfl rfl) ?_
            refine s0 (qv_pickT rfl rfl) ?_
            refine tl_nil (tp_normal ?_)
            refine tc_false rfl ?_
            refine tc_skip (tp_block_normal (tp_normal ?_))
            refine tc_region ?_
            refine s0 (qv_succ rfl rfl (by omega)) ?_
            refine s0 (qv_move rfl) ?_
            exact tl_nil (tp_roundS (k + 1) (by omega) (by omega) ⟨rfl, trivial⟩ rfl rfl rfl rfl)
          ·
            refine s0 (qv_move rfl) ?_
            refine sk ?_
            refine sk ?_
            refine sk ?_
            refine sk ?_
            refine sk ?_
            refine sk ?_
            refine sk ?_
            refine sk ?_
            refine sk ?_
            refine sk ?_
            refine s0 (qv_pickF rfl rfl) ?_
            refine tl_nil (tp_normal ?_)
            refine tc_false rfl ?_
            refine tc_skip (tp_block_normal (tp_normal ?_))
            refine tc_region ?_
            refine s0 (qv_succ rfl rfl (by omega)) ?_
            refine s0 (qv_move rfl) ?_
            exact tl_nil (tp_roundS (k + 1) (by omega) (by omega) ⟨rfl, trivial⟩ rfl rfl rfl rfl)
        ·
          refine tl_nil (tp_normal ?_)
          refine tc_seq ?_
          refine tc_false rfl ?_
          refine tc_exit (tp_then_exit (tp_then_exit (tp_block_exit (tp_normal ?_))))
          refine tc_seq ?_
          refine tc_region ?_
          refine s0 (qv_move rfl) ?_
          refine s0 (qv_move rfl) ?_
          refine s0 (qv_ldBW (i := 0) ag_26 rfl rfl rfl) ?_
          refine s0 (qv_move rfl) ?_
          refine s0 (qv_move rfl) ?_
          refine tl_callR fn_20 rfl (by decide) (fun w hm => period_calls w r ra rc t ta tc n na nc l la lc tick (hr.into Mem.has_base hm) (ht.into Mem.has_base hm) (hn.into Mem.has_base hm) hk (hl.into Mem.has_base hm) (fun u hu => ⟨(hins u hu).1.into Mem.has_base hm, (hins u hu).2⟩)) (fun r81 wa81 wb81 hm81 hb81 hr81 => ?_)
          refine s0 (qv_move rfl) ?_
          refine s0 (qv_extract rfl rfl) ?_
          refine s0 (qv_extract rfl rfl) ?_
          refine s0 (qv_extract rfl rfl) ?_
          refine s0 (qv_assign rfl) ?_
          refine s0 (qv_assign rfl) ?_
          refine s0 (qv_assign rfl) ?_
          refine tl_nil (tp_normal ?_)
          refine tc_seq ?_
          refine tc_region ?_
          refine s0 (qv_move rfl) ?_
          refine s0 (qv_move rfl) ?_
          refine s0 (qv_ldBW (i := 0) ag_26 rfl rfl rfl) ?_
          refine s0 (qv_move rfl) ?_
          refine s0 (qv_move rfl) ?_
          refine tl_callR fn_21 rfl (by decide) (fun w hm => rperiod_calls w r ra rc t ta tc n na nc l la lc tick (hr.into Mem.has_base hm) (ht.into Mem.has_base hm) (hn.into Mem.has_base hm) hk (hl.into Mem.has_base hm) (fun u hu => ⟨(hins u hu).1.into Mem.has_base hm, (hins u hu).2⟩)) (fun r90 wa90 wb90 hm90 hb90 hr90 => ?_)
          refine tl_alloc ze_44 (by decide) (fun b19_3 => ?_)
          refine tl_storeO (i := 0) sz_44 rfl rfl rfl rfl rfl rfl rfl ?_
          refine tl_nil (tp_normal ?_)
          refine tc_seq ?_
          refine tc_region ?_
          refine s0 (qv_call fn_15 rfl (fun w hm => sanity9_calls w)) ?_
          refine s0 (qv_move rfl) ?_
          refine s0g (qv_move rfl) ?_
          refine s0g (qv_fa fo_44_0 rfl) ?_
          refine s0g (qv_ldB (i := 0) sc_40 rfl rfl rfl) ?_
          refine s0g (qv_call fn_22 rfl (fun w hm => samePosts_self w (period r t n l tick).1 r81.1.1 r81.1.2 r90.1.1 r90.1.2 (hr81.1.2.into (Mem.has_kept (by first | exact .head _ | exact .tail _ (.head _) | exact .tail _ (.tail _ (.head _)) | exact .tail _ (.tail _ (.tail _ (.head _))))) hm) (hr90.1.2.into (Mem.has_kept (by first | exact .head _ | exact .tail _ (.head _) | exact .tail _ (.tail _ (.head _)) | exact .tail _ (.tail _ (.tail _ (.head _))))) hm))) ?_
          refine s0 (qv_pickT rfl rfl) ?_
          refine s0 (qv_move rfl) ?_
          refine s0g (qv_move rfl) ?_
          refine s0g (qv_fa fo_44_1 rfl) ?_
          refine s0g (qv_ldB (i := 0) sc_22 rfl rfl rfl) ?_
          refine s0g (qv_call fn_23 rfl (fun w hm => sameRests_self w (period r t n l tick).2.1 r81.2.1 r81.2.2 r90.2.1 r90.2.2 (hr81.2.2.into (Mem.has_kept (by first | exact .head _ | exact .tail _ (.head _) | exact .tail _ (.tail _ (.head _)) | exact .tail _ (.tail _ (.tail _ (.head _))))) hm) (hr90.2.2.into (Mem.has_kept (by first | exact .head _ | exact .tail _ (.head _) | exact .tail _ (.tail _ (.head _)) | exact .tail _ (.tail _ (.tail _ (.head _))))) hm))) ?_
          refine s0 (qv_pickT rfl rfl) ?_
          refine s0 (qv_move rfl) ?_
          refine s0g (qv_move rfl) ?_
          refine s0g (qv_fa fo_44_2 rfl) ?_
          refine s0g (qv_ldB (i := 0) sc_30 rfl rfl rfl) ?_
          refine s0g (qv_eqSelf rfl rfl) ?_
          refine s0 (qv_pickT rfl rfl) ?_
          refine s0 (qv_assign rfl) ?_
          refine tl_nil (tp_normal ?_)
          refine tc_ret (tp_end1 rfl rfl ?_)
          intro w' hm
          exact ⟨rfl, hm.below⟩
  ·
    refine s0 (qv_not rfl) ?_
    refine s0 (qv_move rfl) ?_
    refine sk ?_
    refine sk ?_
    refine sk ?_
    refine s0 (qv_pickT rfl rfl) ?_
    refine s0 (qv_move rfl) ?_
    refine sk ?_
    refine sk ?_
    refine sk ?_
    refine s0 (qv_pickT rfl rfl) ?_
    refine tl_nil (tp_normal ?_)
    refine tc_true rfl ?_
    refine tc_seq ?_
    refine tc_region ?_
    refine s0 (qv_call fn_15 rfl (fun w hm => sanity9_calls w)) ?_
    refine s0 (qv_assign rfl) ?_
    refine tl_nil (tp_normal ?_)
    refine tc_ret (tp_then_ret (tp_end1 rfl rfl ?_))
    intro w' hm
    exact ⟨rfl, hm.below⟩
end Go.Q
