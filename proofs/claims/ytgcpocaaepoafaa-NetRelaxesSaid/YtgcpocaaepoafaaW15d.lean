/- A part of the proof: see the last text. -/
import Derived.Test.YtgcpocaaepoafaaQ13
import Derived.Test.YtgcpocaaepoafaaW15s
import Derived.Test.YtgcpocaaepoafaaQ12
import Derived.Test.YtgcpocaaepoafaaS15
import Derived.Test.YtgcpocaaepoafaaW15c
import Derived.Test.YtgcpocaaepoafaaProg
set_option linter.unusedVariables false
set_option linter.unusedSimpArgs false
set_option linter.unusedSectionVars false
namespace Go.Q
open Go Go.Proofs Go.RowKit
theorem st_54 : SliceTy Try.prog 54 1 := ⟨25, by kernel_rfl, fun w => by kernel_rfl⟩
theorem ze_109 : Zero Try.prog 109 #[.int .i64 0, .int .i64 0] := fun w => ⟨.agg #[.int .i64 0, .int .i64 0], by kernel_rfl, rfl⟩
theorem bt_109 : BuildTy Try.prog 109 #[(0, 1), (1, 1)] #[.int .i64 0, .int .i64 0] := ⟨_, Try.underlying109, fun w => by kernel_rfl, ze_109⟩
theorem mt_107 : MapTy Try.prog 107 109 3 := Try.underlying107
theorem mz_3 (w : World) : (zeroValue 3).run Try.prog w = .ok (.int .i64 0) w := by kernel_rfl
theorem fn_62 : IsFn Try.prog 62 := isFn_of Try.func62 (by kernel_rfl) rfl
theorem sz_109 : Size Try.prog 109 2 := fun w => by kernel_rfl
theorem fo_109_1 : FOff Try.prog 109 1 1 := fun b o w => by kernel_rfl
theorem fo_109_0 : FOff Try.prog 109 0 0 := fun b o w => by kernel_rfl
theorem bt_70 : BuildTy Try.prog 70 #[(0, 1), (1, 1), (2, 1)] #[.int .i64 0, .int .i64 0, .int .i64 0] := ⟨_, Try.underlying70, fun w => by kernel_rfl, ze_70⟩
set_option maxRecDepth 100000 in
set_option maxHeartbeats 4000000 in
theorem join_calls (w : World) (n : Net) (na : Option Addr) (nc : Nat) (ls : List Hd) (lsa : Option Addr) (lsc : Nat) (hn : SlIn w 50 encLink na n.links) (hk : NetOk n) (hls : SlIn w 1 encHd lsa ls) (hins : ∀ h ∈ ls, SlIn w 3 encSend h.a h.l ∧ h.l.length ≤ h.c) (hl4 : ls.length ≤ 4) :
    Calls Try.prog 37 #[.agg (netA n na nc), .slice lsa ls.length lsc] w (fun e w' => JoinIs n ls (fun a b => .tuple #[a, b]) e w w') := by
  have hlenn := hn.len
  simp only [maxLen] at hlenn
  have hlens := hls.len
  simp only [maxLen] at hlens
  refine calls_of_tc (N := 78) (vs := [.agg (netA n na nc), .slice lsa ls.length lsc]) Try.func37 rfl rfl (Nat.le_of_ble_eq_true rfl) ?_
  refine tc_rowRoom ?_
  refine tc_seq ?_
  refine tc_region ?_
  refine tl_box rfl (by decide) (fun b2_0 => ?_)
  refine s0 (qv_assign rfl) ?_
  refine s0 (qv_assign rfl) ?_
  refine tl_nil (tp_normal ?_)
  refine tc_seq ?_
  refine tc_seq ?_
  refine tc_region ?_
  refine s0 (qv_ldBW (i := 0) ag_24 rfl rfl rfl) ?_
  refine s0 (qv_call fn_39 rfl (fun w hm => netCheck_calls w n na nc (hn.into Mem.has_base hm) hk)) ?_
  refine s0 (qv_assign rfl) ?_
  refine tl_nil (tp_normal ?_)
  refine tc_seq ?_
  refine tc_region ?_
  refine s0 (qv_move rfl) ?_
  refine sd (qv_neq rfl rfl) (fun c19 => ?_) (fun c19 => ?_)
  ·
    refine tl_nil (tp_normal ?_)
    refine tc_true rfl ?_
    refine tc_seq ?_
    refine tc_region ?_
    refine s0 (qv_move rfl) ?_
    refine s0 (qv_assign rfl) ?_
    refine s0 (qv_assign rfl) ?_
    refine tl_nil (tp_normal ?_)
    refine tc_ret (tp_then_ret (tp_end2 rfl rfl rfl ?_))
    intro w' hm
    exact joinIs_err (f := fun a b => .tuple #[a, b]) (join_check c19) hm.below
  ·
    refine tl_nil (tp_normal ?_)
    refine tc_false rfl ?_
    refine tc_skip (tp_normal ?_)
    refine tc_seq ?_
    refine tc_region ?_
    refine tl_makeMap (fun b21_1 => ?_)
    refine s0 (qv_assign rfl) ?_
    refine tl_nil (tp_normal ?_)
    refine tc_seq ?_
    refine tc_seq ?_
    refine tc_region ?_
    refine s0 (qv_move rfl) ?_
    refine s0 (qv_len st_54 rfl) ?_
    refine s0 (qv_move rfl) ?_
    refine tl_nil (tp_normal ?_)
    refine tc_block (tc_loopB (fun (q : Nat × Obj) => [(24, .int .i64 (q.1 : Int))]) (fun (q : Nat × Obj) => [(0, b21_1, q.2)]) (fun (q : Nat × Obj) => q.1 ≤ ls.length ∧ rights n (ls.take q.1) = 0 ∧ MapIs encKey (Value.int .i64) (sumM (sends (ls.take q.1))) q.2) (fun (q : Nat × Obj) => ls.length - q.1) ((0, .map #[] 0)) ⟨Nat.zero_le _, rfl, MapIs.nil _ _⟩ ⟨rfl, trivial⟩ rfl ?_)
    rintro q hI
    refine tc_seq ?_
    refine tc_region ?_
    refine sd (qv_lss rfl rfl) (fun c25 => ?_) (fun c25 => ?_)
    ·
      refine tl_nil (tp_normal ?_)
      refine tc_seq ?_
      refine tc_true rfl ?_
      refine tc_skip (tp_normal ?_)
      refine tc_seq ?_
      refine tc_block ?_
      refine tc_seq ?_
      refine tc_region ?_
      refine sn st_54 hls rfl rfl (by omega) (fun e26 he26 => ?_)
      refine s0 (qv_ldE (j := 0) sc_25 hls Mem.has_base rfl rfl he26 rfl) ?_
      refine s0 (qv_assign rfl) ?_
      refine tl_nil (tp_normal ?_)
      refine tc_seq ?_
      refine tc_seq ?_
      refine tc_region ?_
      refine s0 (qv_ldBW (i := 1) ag_24 rfl rfl rfl) ?_
      refine s0 (qv_move rfl) ?_
      refine s0 (qv_call fn_33 rfl (fun w hm => right_calls w n na nc e26.l e26.a e26.c (hn.into Mem.has_base hm) hk ((hins e26 (List.mem_of_getElem? he26)).1.into Mem.has_base hm))) ?_
      refine s0 (qv_assign rfl) ?_
      refine tl_nil (tp_normal ?_)
      refine tc_seq ?_
      refine tc_region ?_
      refine s0 (qv_move rfl) ?_
      refine sd (qv_neq rfl rfl) (fun c32 => ?_) (fun c32 => ?_)
      ·
        refine tl_nil (tp_normal ?_)
        refine tc_true rfl ?_
        refine tc_seq ?_
        refine tc_region ?_
        refine s0 (qv_move rfl) ?_
        refine s0 (qv_assign rfl) ?_
        refine s0 (qv_assign rfl) ?_
        refine tl_nil (tp_normal ?_)
        refine tc_ret (tp_then_ret (tp_block_ret (tp_then_ret (tp_then_ret (tp_block_ret (tp_then_ret (tp_end2 rfl rfl rfl ?_)))))))
        intro w' hm
        exact joinIs_err (f := fun a b => .tuple #[a, b]) (by rw [join_rights c19 (by rw [rights_stop he26 hI.2.1 c32]; exact c32), rights_stop he26 hI.2.1 c32]) hm.below
      ·
        refine tl_nil (tp_normal ?_)
        refine tc_false rfl ?_
        refine tc_skip (tp_normal ?_)
        refine tc_seq ?_
        have hlen := (hins e26 (List.mem_of_getElem? he26)).1.len
        simp only [maxLen] at hlen
        have hrk : rights n (ls.take (q.1 + 1)) = 0 := rights_step he26 hI.2.1 (by omega)
        have hg := right_zero (n := n) (l := e26.l) (by omega)
        refine tc_region ?_
        refine s0 (qv_move rfl) ?_
        refine s0 (qv_len st_25 rfl) ?_
        refine s0 (qv_move rfl) ?_
        refine tl_nil (tp_normal ?_)
        refine tc_block (tc_loopB (fun (r : Nat × Obj) => [(36, .int .i64 (r.1 : Int))]) (fun (r : Nat × Obj) => [(0, b21_1, r.2)]) (fun (r : Nat × Obj) => r.1 ≤ e26.l.length ∧ MapIs encKey (Value.int .i64) (sumM (soFar ls q.1 r.1)) r.2) (fun (r : Nat × Obj) => e26.l.length - r.1) ((0, q.2)) ⟨Nat.zero_le _, by rw [soFar_zero]; exact hI.2.2⟩ ⟨rfl, trivial⟩ rfl ?_)
        rintro r hJ
        refine tc_seq ?_
        refine tc_region ?_
        refine sd (qv_lss rfl rfl) (fun c37 => ?_) (fun c37 => ?_)
        ·
          refine tl_nil (tp_normal ?_)
          refine tc_seq ?_
          refine tc_true rfl ?_
          refine tc_skip (tp_normal ?_)
          refine tc_seq ?_
          refine tc_block ?_
          refine tc_seq ?_
          refine tc_region ?_
          refine sn st_25 (hins e26 (List.mem_of_getElem? he26)).1 rfl rfl (by omega) (fun e38 he38 => ?_)
          refine s0 (qv_ldEW ag_70 (hins e26 (List.mem_of_getElem? he26)).1 Mem.has_base rfl he38) ?_
          refine tl_alloc ze_70 (by decide) (fun b12_2 => ?_)
          refine tl_storeL (i := 0) sz_70 ((hins e26 (List.mem_of_getElem? he26)).1.szs _ (List.mem_of_getElem? he38)) (one_70 _) rfl rfl rfl rfl ?_
          refine tl_nil (tp_normal ?_)
          have hlk := sum_ok hrk hl4 r.1 (keyOf e38)
          obtain ⟨hs0, hs1, hs2, hs3, hs4, hs5⟩ := hg.send e38 (List.mem_of_getElem? he38)
          refine tc_drawV 12 mixed (by kernel_rfl) (hD_erase 1) ?_
          refine tu_take (i := 0) (ho := rfl) (qv_move rfl) ?_ (by kernel_rfl) (by kernel_rfl)
          refine tu_take (i := 1) (ho := rfl) (qv_fa fo_70_1 rfl) ?_ (by kernel_rfl) (by kernel_rfl)
          refine tu_take (i := 2) (ho := rfl) (qv_ldB (i := 0) sc_3 rfl rfl rfl) ?_ (by kernel_rfl) (by kernel_rfl)
          refine tu_take (i := 3) (ho := rfl) (qv_fa fo_70_0 rfl) ?_ (by kernel_rfl) (by kernel_rfl)
          refine tu_take (i := 4) (ho := rfl) (qv_ldB (i := 0) sc_3 rfl rfl rfl) ?_ (by kernel_rfl) (by kernel_rfl)
          refine tu_take (i := 5) (ho := rfl) (qv_build bt_109 rfl rfl) ?_ (by kernel_rfl) (by kernel_rfl)
          refine tu_take (i := 7) (ho := rfl) (qv_fa fo_70_2 rfl) ?_ (by kernel_rfl) (by kernel_rfl)
          refine tu_take (i := 8) (ho := rfl) (qv_ldB (i := 0) sc_3 rfl rfl rfl) ?_ (by kernel_rfl) (by kernel_rfl)
          refine tu_2 6 10 (by kernel_rfl) (by kernel_rfl) (by kernel_rfl) ?_ ?_
          ·
            refine tg_q (qv_lookupM (zv := 0) (k := (keyOf e38)) 1 mt_107 key_109 hJ.2 mz_3 rfl rfl rfl) ?_ (fun w h => hD_erase 1 w h)
            refine tu_take (i := 9) (ho := rfl) (qv_addI rfl rfl (by (try simp only [look_ensure]); omega)) ?_ (by kernel_rfl) (by kernel_rfl)
            refine tu_one 10 ?_ (by kernel_rfl) (by kernel_rfl) (by kernel_rfl)
            refine tg_mapEntry (zv := 0) (k := (keyOf e38)) 1 mt_107 key_109 hJ.2 mz_3 (fun om1 bn1 hst1 => ?_) (fun o_ w h => hD_eraseSet 1 _ w h)
            refine tu_take (i := 11) (ho := rfl) (qv_extract rfl rfl) ?_ (by kernel_rfl) (by kernel_rfl)
            refine tu_tail rfl rfl rfl (by kernel_rfl) ?_
            refine tl_entryStore 1 hst1 (fun om2 hmm2 => ?_)
            have hmn2 : MapIs encKey (Value.int .i64) (addM (sumM (soFar ls q.1 r.1)) e38) om2 := by (have h_ := hmm2; simp only [look_ensure, setAt_ensure] at h_; exact h_)
            refine tl_nil (tp_block_normal (tp_normal ?_))
            refine tc_region ?_
            refine s0 (qv_succ rfl rfl (by omega)) ?_
            refine s0 (qv_move rfl) ?_
            exact tl_nil (tp_roundB (r.1 + 1, om2) ⟨by simp only; omega, by rw [← sumM_step he26 he38]; exact hmn2⟩ (by simp only; omega) ⟨rfl, trivial⟩ rfl rfl rfl rfl)
          ·
            refine tg_mapEntry (zv := 0) (k := (keyOf e38)) 1 mt_107 key_109 hJ.2 mz_3 (fun om3 bn3 hst3 => ?_) (fun o_ w h => hD_eraseSet 1 _ w h)
            refine tu_take (i := 11) (ho := rfl) (qv_extract rfl rfl) ?_ (by kernel_rfl) (by kernel_rfl)
            refine tu_one 6 ?_ (by kernel_rfl) (by kernel_rfl) (by kernel_rfl)
            refine tg_q (qv_lookupM (zv := 0) (k := (keyOf e38)) 1 mt_107 key_109 hst3.is mz_3 rfl rfl rfl) ?_ (fun w h => hD_eraseSet 1 _ w h)
            refine tu_take (i := 9) (ho := rfl) (qv_addI rfl rfl (by (try simp only [look_ensure]); omega)) ?_ (by kernel_rfl) (by kernel_rfl)
            refine tu_tail rfl rfl rfl (by kernel_rfl) ?_
            refine tl_entryStore 1 hst3 (fun om4 hmm4 => ?_)
            have hmn4 : MapIs encKey (Value.int .i64) (addM (sumM (soFar ls q.1 r.1)) e38) om4 := by (have h_ := hmm4; simp only [look_ensure, setAt_ensure] at h_; exact h_)
            refine tl_nil (tp_block_normal (tp_normal ?_))
            refine tc_region ?_
            refine s0 (qv_succ rfl rfl (by omega)) ?_
            refine s0 (qv_move rfl) ?_
            exact tl_nil (tp_roundB (r.1 + 1, om4) ⟨by simp only; omega, by rw [← sumM_step he26 he38]; exact hmn4⟩ (by simp only; omega) ⟨rfl, trivial⟩ rfl rfl rfl rfl)
        ·
          refine tl_nil (tp_normal ?_)
          refine tc_seq ?_
          refine tc_false rfl ?_
          refine tc_exit (tp_then_exit (tp_then_exit (tp_block_exit (tp_block_normal (tp_normal ?_)))))
          refine tc_region ?_
          refine s0 (qv_succ rfl rfl (by omega)) ?_
          refine s0 (qv_move rfl) ?_
          exact tl_nil (tp_roundB (q.1 + 1, r.2) ⟨by simp only; omega, hrk, by (have h_ := hJ.2; rw [soFar_end he26 (by omega)] at h_; exact h_)⟩ (by simp only; omega) ⟨rfl, trivial⟩ rfl rfl rfl rfl)
    ·
      refine tl_nil (tp_normal ?_)
      refine tc_seq ?_
      refine tc_false rfl ?_
      refine tc_exit (tp_then_exit (tp_then_exit (tp_block_exit (tp_normal ?_))))
      refine tc_seq ?_
      refine tc_seq ?_
      have hrs : rights n ls = 0 := by (have := hI.2.1; rwa [take_all (by omega)] at this)
      have hms : sumM (sends (ls.take q.1)) = sumM (sends ls) := by rw [take_all (by omega)]
      refine tc_region ?_
      refine s0 (qv_move rfl) ?_
      refine s0 (qv_lenM 0 mt_107 hI.2.2 rfl rfl) ?_
      refine sd (qv_gtr rfl rfl) (fun c56 => ?_) (fun c56 => ?_)
      ·
        refine tl_nil (tp_normal ?_)
        refine tc_true rfl ?_
        refine tc_seq ?_
        refine tc_region ?_
        refine s0 (qv_assign rfl) ?_
        refine s0 (qv_assign rfl) ?_
        refine tl_nil (tp_normal ?_)
        refine tc_ret (tp_then_ret (tp_end2 rfl rfl rfl ?_))
        intro w' hm
        exact joinIs_err (f := fun a b => .tuple #[a, b]) (join_much c19 hrs (hms ▸ c56)) hm.below
      ·
        refine tl_nil (tp_normal ?_)
        refine tc_false rfl ?_
        refine tc_skip (tp_normal ?_)
        refine tc_seq ?_
        refine tc_region ?_
        refine s0 (qv_assign rfl) ?_
        refine tl_nil (tp_normal ?_)
        refine tc_seq ?_
        refine tc_seq ?_
        refine tc_region ?_
        refine s0 (qv_move rfl) ?_
        refine tl_range 0 mt_107 hI.2.2 (fun r58 oi58 hri58 => ?_)
        refine tl_nil (tp_normal ?_)
        refine tc_block (tc_loopR 0 70 3 encSend (fun (z : (List (SKey × Int) × List (SKey × Int)) × Obj) (v : Value) => [(13, v)]) (fun (z : (List (SKey × Int) × List (SKey × Int)) × Obj) => [(0, r58, z.2)]) (fun (z : (List (SKey × Int) × List (SKey × Int)) × Obj) => (z.1.1.map sendOf)) (fun (z : (List (SKey × Int) × List (SKey × Int)) × Obj) => RangeIs encKey (Value.int .i64) b21_1 (sumM (sends (ls.take q.1))) q.2 z.2 z.1.2 ∧ (z.1.1 ++ z.1.2).Perm (sumM (sends (ls.take q.1))) ∧ ∀ p ∈ z.1.1, p.2 ≤ 1073741824) (fun (z : (List (SKey × Int) × List (SKey × Int)) × Obj) => z.1.2.length) ((([], (sumM (sends (ls.take q.1)))), oi58)) (RowOf.nil _ _ _) ⟨hri58, .refl _, by simp⟩ ⟨rfl, trivial⟩ rfl rfl ?_)
        rintro z vr24 or24 hZ hrow
        have hlz : z.1.1.length ≤ 2000 := by (have h_ := hZ.2.1.length_eq; simp only [List.length_append] at h_; omega)
        have hlz2 : (z.1.1.map sendOf).length ≤ 2000 := by simpa using hlz
        refine tc_seq ?_
        refine tc_region ?_
        refine tl_next 1 0 hZ.1 (fun hnil59 => ?_) (fun p59 rest59 oi59 hperm59 hri59 hnow59 => ?_)
        ·
          refine s0 (qv_extract rfl rfl) ?_
          refine tl_nil (tp_normal ?_)
          refine tc_seq ?_
          refine tc_false rfl ?_
          refine tc_exit (tp_then_exit (tp_then_exit (tp_block_exit (tp_normal ?_))))
          refine tc_seq ?_
          refine tc_region ?_
          refine s0 (qv_move rfl) ?_
          have hbnd : ∀ x ∈ z.1.1.map sendOf, Bnd x := fun x hx => by (obtain ⟨p_, hp_, rfl⟩ := List.mem_map.1 hx; exact sum_bnd hrs p_ (hms ▸ hZ.2.1.mem_iff.1 (List.mem_append_left _ hp_)))
          have hrB : RowOf 70 3 encB vr24 (liftB _ hbnd) or24 := by (have h_ := hrow; unfold RowOf at h_ ⊢; rw [← encB_val, liftB_val]; simpa [liftB] using h_)
          refine tl_sort (α := BS) (enc := encB) (sz := 3) (l := liftB _ hbnd) 0 fn_62 (fun _ => rfl) (by decide) sort_none (R := SortedB (liftB _ hbnd)) (fun h => sortedB_nil h) (fun blk cap w hH hb => sort_some (liftB_len hbnd hlz2) blk cap w hH hb) hrB (fun lB obB hlB hsB hrB2 => ?_)
          have hrow2 : RowOf 70 3 encSend vr24 (lB.map Subtype.val) obB := by (have h_ := hrB2; unfold RowOf at h_ ⊢; rw [encB_val, List.length_map]; exact h_)
          refine tl_nil (tp_normal ?_)
          refine tc_seq ?_
          refine tc_region ?_
          refine s0 (qv_move rfl) ?_
          refine s0 (qv_assign rfl) ?_
          refine s0 (qv_assign rfl) ?_
          refine tl_nil (tp_normal ?_)
          refine tc_ret (tp_end2 rfl rfl rfl ?_)
          intro w' hm
          have hj := join_done c19 hrs (hms ▸ c56) (hms ▸ hZ.2.1) hnil59 hZ.2.2 hsB
          obtain ⟨ra, rc, h1, h2, h3⟩ := hrow2.sl hm (fun p hp => List.mem_append_right _ (List.mem_append_left _ (by subst hp; simp))) (fun _ => rfl)
          refine ⟨(ra, rc), by rw [hj, h1], hm.below, by rw [hj]; exact h2, by rw [hj]; exact h3⟩
        ·
          refine s0 (qv_extract rfl rfl) ?_
          refine tl_nil (tp_normal ?_)
          refine tc_seq ?_
          refine tc_true rfl ?_
          refine tc_skip (tp_normal ?_)
          refine tc_block ?_
          refine tc_seq ?_
          refine tc_region ?_
          refine tl_entry 1 0 hnow59 ?_
          refine s0 (qv_extract rfl rfl) ?_
          refine s0 (qv_extract rfl rfl) ?_
          refine tl_alloc ze_109 (by decide) (fun b14_3 => ?_)
          refine tl_storeO (i := 0) sz_109 rfl rfl rfl rfl rfl rfl rfl ?_
          refine s0 (qv_assign rfl) ?_
          refine tl_nil (tp_normal ?_)
          refine tc_seq ?_
          refine tc_seq ?_
          refine tc_region ?_
          refine s0 (qv_move rfl) ?_
          refine sd (qv_gtr rfl rfl) (fun c65 => ?_) (fun c65 => ?_)
          ·
            refine tl_nil (tp_normal ?_)
            refine tc_true rfl ?_
            refine tc_seq ?_
            refine tc_region ?_
            refine s0 (qv_assign rfl) ?_
            refine s0 (qv_assign rfl) ?_
            refine tl_nil (tp_normal ?_)
            refine tc_ret (tp_then_ret (tp_block_ret (tp_then_ret (tp_block_ret (tp_then_ret (tp_end2 rfl rfl rfl ?_))))))
            intro w' hm
            exact joinIs_err (f := fun a b => .tuple #[a, b]) (join_high c19 hrs (hms ▸ c56) (hms ▸ hZ.2.1) hperm59 c65) hm.below
          ·
            refine tl_nil (tp_normal ?_)
            refine tc_false rfl ?_
            refine tc_skip (tp_normal ?_)
            refine tc_region ?_
            refine s0 (qv_move rfl) ?_
            refine s0 (qv_fa fo_109_1 rfl) ?_
            refine s0 (qv_ldB (i := 0) sc_3 rfl rfl rfl) ?_
            refine s0 (qv_fa fo_109_0 rfl) ?_
            refine s0 (qv_ldB (i := 0) sc_3 rfl rfl rfl) ?_
            refine s0 (qv_move rfl) ?_
            refine s0 (qv_build bt_70 rfl rfl) ?_
            refine tl_buildSlice bsl_25_1 (fun b73_4 => ?_)
            refine tl_append1 0 0 apt_25 (⟨p59.1.2, p59.1.1, p59.2⟩ : Send) hrow (fun v74 ob74 hr74 => ?_) rfl (one_70 _) (by first | omega | (simp only [List.length_append, List.length_cons, List.length_nil]; omega))
            refine s0 (qv_assign rfl) ?_
            exact tl_nil (tp_block_normal (tp_roundR (((z.1.1 ++ [p59], rest59), oi59)) (by rw [List.map_append]; exact hr74) ⟨hri59, perm_step hZ.2.1 hperm59, fun p hp => by (rcases List.mem_append.1 hp with hp | hp; exact hZ.2.2 p hp; simp at hp; subst hp; omega)⟩ (by (have h_ := hperm59.length_eq; simp only [List.length_cons] at h_; simp only; omega)) ⟨rfl, trivial⟩ rfl rfl rfl rfl rfl))

end Go.Q
