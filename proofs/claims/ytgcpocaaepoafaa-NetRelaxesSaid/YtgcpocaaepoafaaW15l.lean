/- A part of the proof: see the last text. -/
import Derived.Test.YtgcpocaaepoafaaQ18
import Derived.Test.YtgcpocaaepoafaaS15h
import Derived.Test.YtgcpocaaepoafaaW15s
import Derived.Test.YtgcpocaaepoafaaQ12
import Derived.Test.YtgcpocaaepoafaaS15
import Derived.Test.YtgcpocaaepoafaaW15k
import Derived.Test.YtgcpocaaepoafaaProg
set_option linter.unusedVariables false
set_option linter.unusedSimpArgs false
set_option linter.unusedSectionVars false
namespace Go.Q
open Go Go.Proofs Go.RowKit
theorem at_73 : ArrTy Try.prog 73 4 1 := ⟨40, by kernel_rfl, fun w => by kernel_rfl⟩
theorem fn_43 : IsFn Try.prog 43 := isFn_of Try.func43 (by kernel_rfl) rfl
theorem apt_22 : AppTy Try.prog 22 49 50 400 := ⟨Try.underlying22, ⟨.agg #[.int .i64 0, .int .i64 0, .int .i64 0, .int .i64 0, .int .i64 0, .int .i64 0, .int .i64 0, .int .i64 0, .int .i64 0, .int .i64 0, .int .i64 0, .int .i64 0, .int .i64 0, .int .i64 0, .int .i64 0, .int .i64 0, .int .i64 0, .int .i64 0, .int .i64 0, .int .i64 0, .int .i64 0, .int .i64 0, .int .i64 0, .int .i64 0, .int .i64 0, .int .i64 0, .int .i64 0, .int .i64 0, .int .i64 0, .int .i64 0, .int .i64 0, .int .i64 0, .int .i64 0, .int .i64 0, .int .i64 0, .int .i64 0, .int .i64 0, .int .i64 0, .int .i64 0, .int .i64 0, .int .i64 0, .int .i64 0, .int .i64 0, .int .i64 0, .int .i64 0, .int .i64 0, .int .i64 0, .int .i64 0, .int .i64 0, .int .i64 0], by kernel_rfl, rfl⟩, by decide⟩
set_option maxRecDepth 100000 in
theorem later_calls (w : World) (l : List Send) (la : Option Addr) (lc : Nat) (b : Int) (hl : SlIn w 3 encSend la l) (hlen2 : l.length ≤ 100000) (hb : ∀ x ∈ l, -1000000000000 ≤ x.tick + b ∧ x.tick + b ≤ 1000000000000) :
    Calls Try.prog 43 #[.slice la l.length lc, .int .i64 b] w (fun e w' => ∃ r : Option Addr × Nat, e = .returned (.slice r.1 (laterL l b).length r.2) ∧ Below w.heap.size w w' ∧ ((laterL l b).length ≤ r.2 ∧ SlAt w' w.heap.size w'.heap.size 3 encSend r.1 (laterL l b))) := by
  have hlen := hl.len
  simp only [maxLen] at hlen
  refine calls_of_tc (N := 35) (vs := [.slice la l.length lc, .int .i64 b]) Try.func43 rfl rfl (Nat.le_of_ble_eq_true rfl) ?_
  refine tc_rowRoom ?_
  refine tc_seq ?_
  refine tc_region ?_
  refine s0 (qv_assign rfl) ?_
  refine tl_nil (tp_normal ?_)
  refine tc_seq ?_
  refine tc_region ?_
  refine s0 (qv_assign rfl) ?_
  refine tl_nil (tp_normal ?_)
  refine tc_seq ?_
  refine tc_seq ?_
  refine tc_region ?_
  refine s0 (qv_assign rfl) ?_
  refine tl_nil (tp_normal ?_)
  refine tc_block (tc_loopR 0 70 3 encSend (fun (k : Nat) (v : Value) => [(5, v), (6, .int .i64 (k : Int))]) (fun (k : Nat) => []) (fun (k : Nat) => ((l.take k).map (lateS b))) (fun (k : Nat) => k ≤ l.length) (fun (k : Nat) => l.length - k) (0) (RowOf.nil _ _ _) (Nat.zero_le _) ⟨rfl, rfl, trivial⟩ rfl rfl ?_)
  rintro k vr42 or42 hI hrow
  have hlk : ((l.take k).map (lateS b)).length ≤ l.length := by simp only [List.length_map]; exact List.length_take_le' k l
  refine tc_seq ?_
  refine tc_seq ?_
  refine tc_region ?_
  refine s0 (qv_move rfl) ?_
  refine s0 (qv_move rfl) ?_
  refine s0 (qv_len st_25 rfl) ?_
  refine sd (qv_lss rfl rfl) (fun c10 => ?_) (fun c10 => ?_)
  ·
    refine tl_nil (tp_normal ?_)
    refine tc_true rfl ?_
    refine tc_skip (tp_normal ?_)
    refine tc_seq ?_
    refine tc_block ?_
    refine tc_drawU 20 19 mixed (by kernel_rfl) ?_
    refine q0 (qv_move rfl) ?_
    refine q0 (qv_move rfl) ?_
    refine q0 (qv_move rfl) ?_
    refine qn st_25 hl rfl rfl (by omega) (fun e16 he16 => ?_)
    refine q0 (qv_fa fo_70_0 rfl) ?_
    refine q0 (qv_ldE (j := 0) sc_3 hl Mem.has_base rfl rfl he16 rfl) ?_
    refine q0 (qv_move rfl) ?_
    refine q0 (qv_move rfl) ?_
    refine qn st_25 hl rfl rfl (by omega) (fun e21 he21 => ?_)
    obtain rfl : e16 = e21 := Option.some.inj (he16.symm.trans he21)
    refine q0 (qv_fa fo_70_1 rfl) ?_
    have hbe := hb e16 (List.mem_of_getElem? he16)
    refine q0 (qv_ldE (j := 1) sc_3 hl Mem.has_base rfl rfl he16 rfl) ?_
    refine q0 (qv_move rfl) ?_
    refine q0 (qv_addI rfl rfl (by omega)) ?_
    refine q0 (qv_move rfl) ?_
    refine q0 (qv_move rfl) ?_
    refine qn st_25 hl rfl rfl (by omega) (fun e28 he28 => ?_)
    obtain rfl : e16 = e28 := Option.some.inj (he16.symm.trans he28)
    refine q0 (qv_fa fo_70_2 rfl) ?_
    refine q0 (qv_ldE (j := 2) sc_3 hl Mem.has_base rfl rfl he16 rfl) ?_
    refine q0 (qv_build (cells := #[.int .i64 e16.link, .int .i64 (e16.tick + b), .int .i64 e16.bytes]) bt_70 rfl (by kernel_rfl)) ?_
    refine tq_up ?_
    refine tu_one 19 ?_ (by kernel_rfl) (by kernel_rfl) (by kernel_rfl)
    refine tg_buildSlice (cells := #[.int .i64 e16.link, .int .i64 (e16.tick + b), .int .i64 e16.bytes]) (hc := by kernel_rfl) bsl_25_1 (fun b32_0 => ?_) (fun _ _ h => hD_drop rfl rfl _ h)
    refine tu_tail rfl rfl rfl (by kernel_rfl) ?_
    refine tl_append1 0 0 apt_25 (⟨e16.link, (e16.tick + b), e16.bytes⟩ : Send) hrow (fun v33 ob33 hr33 => ?_) rfl (one_70 _) (by first | omega | (simp only [List.length_append, List.length_cons, List.length_nil]; omega))
    refine s0 (qv_assign rfl) ?_
    refine tl_nil (tp_block_normal (tp_normal ?_))
    refine tc_region ?_
    refine s0 (qv_move rfl) ?_
    refine s0 (qv_succ rfl rfl (by omega)) ?_
    refine s0 (qv_assign rfl) ?_
    exact tl_nil (tp_roundR (k + 1) (by rw [take_of he16, List.map_append]; exact hr33) (by omega) (by omega) ⟨rfl, rfl, trivial⟩ rfl rfl rfl rfl rfl)
  ·
    refine tl_nil (tp_normal ?_)
    refine tc_false rfl ?_
    refine tc_exit (tp_then_exit (tp_then_exit (tp_block_exit (tp_normal ?_))))
    refine tc_seq ?_
    refine tc_region ?_
    refine s0 (qv_move rfl) ?_
    refine s0 (qv_assign rfl) ?_
    refine tl_nil (tp_normal ?_)
    refine tc_ret (tp_end1 rfl rfl ?_)
    intro w' hm
    have hall := hrow.sl hm (fun p hp => List.mem_append_right _ (List.mem_append_left _ (by subst hp; simp))) (fun _ => rfl)
    obtain ⟨ra, rc, h1, h2, h3⟩ := hall
    have e0 : (l.take k).map (lateS b) = laterL l b := by rw [SlSend_len k (by omega)]; rfl
    rw [e0] at h1 h2 h3
    exact ⟨(ra, rc), by rw [h1], hm.below, h2, h3⟩

theorem enc_capAt {x : Link} {i : Nat} (h : LinkOk x) (hi : i < 24) : (encLink x).toArray.setIfInBounds (0 + 2 + i * 1) (.int .i64 1073741824) = (encLink (capAt x i)).toArray := by
  apply Array.ext'
  simp only [Array.toList_setIfInBounds, encLink, capAt]
  rw [show 0 + 2 + i * 1 = i + 1 + 1 by omega, List.set_cons_succ, List.set_cons_succ, List.set_append_left _ _ (by simp [h.1]; omega), List.map_set]
theorem max_step {l : List Send} {k : Nat} {x : Send} {q q' : Int} (h : ∀ (j : Nat) y, j < k → l[j]? = some y → y.tick + 1 ≤ q) (hx : l[k]? = some x) (h1 : q ≤ q') (h2 : x.tick + 1 ≤ q') : ∀ (j : Nat) y, j < k + 1 → l[j]? = some y → y.tick + 1 ≤ q' := fun j y hj hy => by
  rcases Nat.lt_or_ge j k with h_ | h_
  · have := h j y h_ hy; omega
  · obtain rfl : j = k := by omega
    rw [hx] at hy; cases hy; exact h2
theorem capAt_ok {x : Link} {i : Nat} (h : LinkOk x) : LinkOk (capAt x i) := ⟨by simp only [capAt, List.length_set]; exact h.1, h.2⟩
theorem netOk_set {n : Net} {j i : Nat} {x : Link} (hk : NetOk n) (hx : LinkOk x) : NetOk ⟨n.houses, n.links.set j (capAt x i)⟩ := fun y hy => by rcases set_mem (show y ∈ n.links.set j (capAt x i) from hy) with hy | rfl; exact hk y hy; exact capAt_ok hx
theorem arr_set (w : World) (n : Net) (c : Nat) (l : List Send) (la : Option Addr) (lc : Nat) (j i : Nat) (x : Link) (hlc : l.length ≤ lc) (g : Option Addr) (hn : SlIn w 50 encLink g (n.links.set j (capAt x i))) (hk : NetOk n) (hx : LinkOk x) (hl : SlIn w 3 encSend la l) (d : Demand) :
    Calls Try.prog 28 #[.agg #[.int .i64 n.houses, .slice g n.links.length c], .slice la l.length lc, .agg (demA d)] w (fun e w' => e = .returned (.tuple #[.int .i64 (arrives ⟨n.houses, n.links.set j (capAt x i)⟩ l d).1, .int .i64 (arrives ⟨n.houses, n.links.set j (capAt x i)⟩ l d).2]) ∧ Below w.heap.size w w') := by
  have h := arrives_calls w ⟨n.houses, n.links.set j (capAt x i)⟩ g c l la lc d hlc hn (netOk_set hk hx) hl
  simpa only [netA, List.length_set] using h
set_option maxRecDepth 100000 in
set_option maxHeartbeats 8000000 in
theorem law_relaxes (w : World) (n : Net) (na : Option Addr) (nc : Nat) (l : List Send) (la : Option Addr) (lc : Nat) (d : Demand) (x0 x1 x2 x3 : Int) (hn : SlIn w 50 encLink na n.links) (hk : NetOk n) (hl : SlIn w 3 encSend la l) (hlc : l.length ≤ lc) (hna : na = none → n.links = []) (hx0 : 0 ≤ x0 ∧ x0 ≤ 65535) (hx1 : 0 ≤ x1 ∧ x1 ≤ 65535) (hx2 : 0 ≤ x2 ∧ x2 ≤ 65535) (hx3 : 0 ≤ x3 ∧ x3 ≤ 65535) :
    Calls Try.prog 11 #[.agg (netA n na nc), .slice la l.length lc, .agg (demA d), .agg #[.int .u16 x0, .int .u16 x1, .int .u16 x2, .int .u16 x3]] w (fun e w' => e = .returned (.bool true) ∧ Below w.heap.size w w') := by
  have hlen := hl.len
  simp only [maxLen] at hlen
  have hlenn := hn.len
  simp only [maxLen] at hlenn
  refine calls_of_tc (N := 218) (vs := [.agg (netA n na nc), .slice la l.length lc, .agg (demA d), .agg #[.int .u16 x0, .int .u16 x1, .int .u16 x2, .int .u16 x3]]) Try.func11 rfl rfl (Nat.le_of_ble_eq_true rfl) ?_
  refine tc_rowRoom ?_
  refine tc_seq ?_
  refine tc_region ?_
  refine tl_box rfl (by decide) (fun b4_0 => ?_)
  refine tl_box rfl (by decide) (fun b6_1 => ?_)
  refine tl_box rfl (by decide) (fun b7_2 => ?_)
  refine s0 (qv_assign rfl) ?_
  refine tl_nil (tp_normal ?_)
  refine tc_seq ?_
  refine tc_region ?_
  refine s0 (qv_ldBW (i := 2) ag_24 rfl rfl rfl) ?_
  refine s0 (qv_move rfl) ?_
  refine tl_buildSliceL (enc := encHd) [⟨l, la, lc⟩] bsl_54_1 (fun b30_3 => ?_) rfl (by kernel_rfl)
  have hsb30_3 := SlAt.ofBox (enc := encHd) (sz := 1) (b := b30_3) (E := 25) (l := [⟨l, la, lc⟩]) (Nat.le_of_ble_eq_true rfl) (fun _ _ => rfl)
  refine sd (qv_call fn_29 rfl (fun w hm => few_calls w n na nc [⟨l, la, lc⟩] (some ⟨b30_3, 0, none⟩) 1 (60) (hn.into Mem.has_base hm) hk (hsb30_3.into (Mem.has_box (by repeat (first | exact List.Mem.head _ | refine List.Mem.tail _ ?_))) hm))) (fun c31 => ?_) (fun c31 => ?_)
  ·
    refine s0 (qv_assign rfl) ?_
    refine tl_nil (tp_normal ?_)
    refine tc_seq ?_
    refine tc_seq ?_
    refine tc_region ?_
    refine s0 (qv_move rfl) ?_
    refine s0 (qv_not rfl) ?_
    refine s0 (qv_move rfl) ?_
    refine s0g (qv_ldBW (i := 3) ag_24 rfl rfl rfl) ?_
    refine s0g (qv_move rfl) ?_
    refine s0g (qv_ldBW (i := 2) ag_27 rfl rfl rfl) ?_
    refine s0g (qv_call fn_24 rfl (fun w hm => serves_calls w n na nc l la lc d hlc (hn.into Mem.has_base hm) hk (hl.into Mem.has_base hm))) ?_
    refine sdg (qv_neq rfl rfl) (fun c39 => ?_) (fun c39 => ?_)
    ·
      refine s0 (qv_pickF rfl rfl) ?_
      refine tl_nil (tp_normal ?_)
      refine tc_true rfl ?_
      refine tc_seq ?_
      refine tc_region ?_
      refine s0 (qv_call fn_30 rfl (fun w hm => sanity_calls w)) ?_
      refine s0 (qv_assign rfl) ?_
      refine tl_nil (tp_normal ?_)
      refine tc_ret (tp_then_ret (tp_end1 rfl rfl ?_))
      intro w' hm
      exact ⟨rfl, hm.below⟩
    ·
      refine s0 (qv_pickF rfl rfl) ?_
      refine tl_nil (tp_normal ?_)
      refine tc_false rfl ?_
      refine tc_skip (tp_normal ?_)
      refine tc_seq ?_
      have hfw := c31.2.2 _ (List.mem_singleton.2 rfl)
      simp only at hfw
      have hsv : serves n l d = 0 := by omega
      obtain ⟨g1, g2, g3, g4, g5⟩ := serves_zero hsv
      have hgood := right_zero g1
      have hg2 := g2
      unfold demanded isHouse at hg2
      have hnlen := hgood.net.len
      have hck : netCheck n = 0 := netCheck_of hgood.net
      have ea := arrives_of hsv
      have ec := cost_of g1
      have har := arriveTick_range (n := n) (l := l) (d := d) (by omega)
      have hcb := costSum_all g1
      refine tc_region ?_
      refine s0 (qv_ldBW (i := 3) ag_24 rfl rfl rfl) ?_
      refine s0 (qv_move rfl) ?_
      refine s0 (qv_ldBW (i := 2) ag_27 rfl rfl rfl) ?_
      refine s0 (qv_call fn_28 rfl (fun w hm => arrives_calls w n na nc l la lc d hlc (hn.into Mem.has_base hm) hk (hl.into Mem.has_base hm))) ?_
      refine s0 (qv_move rfl) ?_
      refine s0 (qv_extract rfl rfl) ?_
      refine s0 (qv_extract rfl rfl) ?_
      refine s0 (qv_assign rfl) ?_
      refine s0 (qv_assign rfl) ?_
      refine tl_nil (tp_normal ?_)
      refine tc_seq ?_
      refine tc_region ?_
      refine s0 (qv_ldBW (i := 3) ag_24 rfl rfl rfl) ?_
      refine s0 (qv_move rfl) ?_
      refine s0 (qv_call fn_23 rfl (fun w hm => cost_calls w n na nc l la lc (hn.into Mem.has_base hm) hk (hl.into Mem.has_base hm))) ?_
      refine s0 (qv_move rfl) ?_
      refine s0 (qv_extract rfl rfl) ?_
      refine s0 (qv_extract rfl rfl) ?_
      refine s0 (qv_assign rfl) ?_
      refine s0 (qv_assign rfl) ?_
      refine tl_nil (tp_normal ?_)
      refine tc_seq ?_
      refine tc_seq ?_
      refine tc_region ?_
      refine s0 (qv_move rfl) ?_
      refine sd (qv_neq rfl rfl) (fun c56 => ?_) (fun c56 => ?_)
      ·
        refine s0 (qv_move rfl) ?_
        refine sk ?_
        refine sk ?_
        refine s0 (qv_pickT rfl rfl) ?_
        refine s0 (qv_move rfl) ?_
        refine sk ?_
        refine sk ?_
        refine sk ?_
        refine sk ?_
        refine s0 (qv_pickT rfl rfl) ?_
        refine s0 (qv_move rfl) ?_
        refine sk ?_
        refine sk ?_
        refine sk ?_
        refine sk ?_
        refine s0 (qv_pickT rfl rfl) ?_
        refine tl_nil (tp_normal ?_)
        refine tc_true rfl ?_
        refine tc_seq ?_
        refine tc_region ?_
        refine s0 (qv_assign rfl) ?_
        refine tl_nil (tp_normal ?_)
        refine tc_ret (tp_then_ret (tp_end1 rfl rfl ?_))
        intro w' hm
        exfalso
        first | (rw [ea] at c56; exact c56 rfl) | (rw [ec] at c59; exact c59 rfl) | (rw [ea] at c65; simp only at c65; omega) | (rw [ea] at c71; simp only at c71; omega)
      ·
        refine s0 (qv_move rfl) ?_
        refine s0g (qv_move rfl) ?_
        refine sdg (qv_neq rfl rfl) (fun c59 => ?_) (fun c59 => ?_)
        ·
          refine s0 (qv_pickF rfl rfl) ?_
          refine s0 (qv_move rfl) ?_
          refine sk ?_
          refine sk ?_
          refine sk ?_
          refine sk ?_
          refine s0 (qv_pickT rfl rfl) ?_
          refine s0 (qv_move rfl) ?_
          refine sk ?_
          refine sk ?_
          refine sk ?_
          refine sk ?_
          refine s0 (qv_pickT rfl rfl) ?_
          refine tl_nil (tp_normal ?_)
          refine tc_true rfl ?_
          refine tc_seq ?_
          refine tc_region ?_
          refine s0 (qv_assign rfl) ?_
          refine tl_nil (tp_normal ?_)
          refine tc_ret (tp_then_ret (tp_end1 rfl rfl ?_))
          intro w' hm
          exfalso
          first | (rw [ea] at c56; exact c56 rfl) | (rw [ec] at c59; exact c59 rfl) | (rw [ea] at c65; simp only at c65; omega) | (rw [ea] at c71; simp only at c71; omega)
        ·
          refine s0 (qv_pickF rfl rfl) ?_
          refine s0 (qv_move rfl) ?_
          refine s0g (qv_move rfl) ?_
          refine s0g (qv_fa fo_27_3 rfl) ?_
          refine s0g (qv_ldB (i := 2) sc_3 rfl rfl rfl) ?_
          refine sdg (qv_lss rfl rfl) (fun c65 => ?_) (fun c65 => ?_)
          ·
            refine s0 (qv_pickF rfl rfl) ?_
            refine s0 (qv_move rfl) ?_
            refine sk ?_
            refine sk ?_
            refine sk ?_
            refine sk ?_
            refine s0 (qv_pickT rfl rfl) ?_
            refine tl_nil (tp_normal ?_)
            refine tc_true rfl ?_
            refine tc_seq ?_
            refine tc_region ?_
            refine s0 (qv_assign rfl) ?_
            refine tl_nil (tp_normal ?_)
            refine tc_ret (tp_then_ret (tp_end1 rfl rfl ?_))
            intro w' hm
            exfalso
            first | (rw [ea] at c56; exact c56 rfl) | (rw [ec] at c59; exact c59 rfl) | (rw [ea] at c65; simp only at c65; omega) | (rw [ea] at c71; simp only at c71; omega)
          ·
            refine s0 (qv_pickF rfl rfl) ?_
            refine s0 (qv_move rfl) ?_
            refine s0g (qv_move rfl) ?_
            refine s0g (qv_fa fo_27_4 rfl) ?_
            refine s0g (qv_ldB (i := 2) sc_3 rfl rfl rfl) ?_
            refine sdg (qv_gtr rfl rfl) (fun c71 => ?_) (fun c71 => ?_)
            ·
              refine s0 (qv_pickF rfl rfl) ?_
              refine tl_nil (tp_normal ?_)
              refine tc_true rfl ?_
              refine tc_seq ?_
              refine tc_region ?_
              refine s0 (qv_assign rfl) ?_
              refine tl_nil (tp_normal ?_)
              refine tc_ret (tp_then_ret (tp_end1 rfl rfl ?_))
              intro w' hm
              exfalso
              first | (rw [ea] at c56; exact c56 rfl) | (rw [ec] at c59; exact c59 rfl) | (rw [ea] at c65; simp only at c65; omega) | (rw [ea] at c71; simp only at c71; omega)
            ·
              refine s0 (qv_pickF rfl rfl) ?_
              refine tl_nil (tp_normal ?_)
              refine tc_false rfl ?_
              refine tc_skip (tp_normal ?_)
              refine tc_seq ?_
              refine tc_region ?_
              refine s0 (qv_iA at_73 rfl rfl (by omega)) ?_
              refine s0 (qv_ldB (i := 1) sc_40 rfl rfl rfl) ?_
              refine s0 (qv_convI Try.underlying40 Try.underlying3 rfl (by omega)) ?_
              refine s0 (qv_mulI rfl rfl (by omega)) ?_
              refine s0 (qv_assign rfl) ?_
              refine tl_nil (tp_normal ?_)
              refine tc_seq ?_
              refine tc_region ?_
              refine s0 (qv_fa fo_27_4 rfl) ?_
              refine s0 (qv_ldB (i := 2) sc_3 rfl rfl rfl) ?_
              refine s0 (qv_assign rfl) ?_
              refine tl_nil (tp_normal ?_)
              refine tc_seq ?_
              refine tc_seq ?_
              refine tc_region ?_
              refine s0 (qv_assign rfl) ?_
              refine tl_nil (tp_normal ?_)
              refine tc_block (tc_loopB (fun (q : Nat × Int) => [(16, .int .i64 (q.1 : Int)), (15, .int .i64 q.2)]) (fun (q : Nat × Int) => []) (fun (q : Nat × Int) => q.1 ≤ l.length ∧ d.due ≤ q.2 ∧ (∀ (j : Nat) x, j < q.1 → l[j]? = some x → x.tick + 1 ≤ q.2) ∧ q.2 ≤ 1000001) (fun (q : Nat × Int) => l.length - q.1) ((0, d.due)) ⟨Nat.zero_le _, by simp only; omega, fun _ _ h => absurd h (Nat.not_lt_zero _), by simp only; omega⟩ ⟨rfl, rfl, trivial⟩ rfl ?_)
              rintro q hI
              refine tc_seq ?_
              refine tc_seq ?_
              refine tc_region ?_
              refine s0 (qv_move rfl) ?_
              refine s0 (qv_move rfl) ?_
              refine s0 (qv_len st_25 rfl) ?_
              refine sd (qv_lss rfl rfl) (fun c82 => ?_) (fun c82 => ?_)
              ·
                refine tl_nil (tp_normal ?_)
                refine tc_true rfl ?_
                refine tc_skip (tp_normal ?_)
                refine tc_seq ?_
                refine tc_block ?_
                refine tc_seq ?_
                refine tc_region ?_
                refine s0 (qv_move rfl) ?_
                refine s0 (qv_move rfl) ?_
                refine sn st_25 hl rfl rfl (by omega) (fun e87 he87 => ?_)
                refine s0 (qv_fa fo_70_1 rfl) ?_
                refine s0 (qv_ldE (j := 1) sc_3 hl Mem.has_base rfl rfl he87 rfl) ?_
                obtain ⟨hs0, hs1, hs2, hs3, hs4, hs5⟩ := hgood.send e87 (List.mem_of_getElem? he87)
                refine s0 (qv_addI rfl rfl (by omega)) ?_
                refine s0 (qv_move rfl) ?_
                refine sd (qv_gtr rfl rfl) (fun c92 => ?_) (fun c92 => ?_)
                ·
                  refine tl_nil (tp_normal ?_)
                  refine tc_true rfl ?_
                  refine tc_region ?_
                  refine s0 (qv_move rfl) ?_
                  refine s0 (qv_move rfl) ?_
                  refine sn st_25 hl rfl rfl (by omega) (fun e95 he95 => ?_)
                  obtain rfl : e87 = e95 := Option.some.inj (he87.symm.trans he95)
                  refine s0 (qv_fa fo_70_1 rfl) ?_
                  refine s0 (qv_ldE (j := 1) sc_3 hl Mem.has_base rfl rfl he87 rfl) ?_
                  refine s0 (qv_addI rfl rfl (by omega)) ?_
                  refine s0 (qv_assign rfl) ?_
                  refine tl_nil (tp_block_normal (tp_normal ?_))
                  refine tc_region ?_
                  refine s0 (qv_move rfl) ?_
                  refine s0 (qv_succ rfl rfl (by omega)) ?_
                  refine s0 (qv_assign rfl) ?_
                  exact tl_nil (tp_roundB (q.1 + 1, (e87.tick + (1))) ⟨by simp only; omega, by simp only; omega, max_step hI.2.2.1 he87 (by simp only; omega) (by simp only; omega), by simp only; omega⟩ (by simp only; omega) ⟨rfl, rfl, trivial⟩ rfl rfl rfl rfl)
                ·
                  refine tl_nil (tp_normal ?_)
                  refine tc_false rfl ?_
                  refine tc_skip (tp_block_normal (tp_normal ?_))
                  refine tc_region ?_
                  refine s0 (qv_move rfl) ?_
                  refine s0 (qv_succ rfl rfl (by omega)) ?_
                  refine s0 (qv_assign rfl) ?_
                  exact tl_nil (tp_roundB (q.1 + 1, q.2) ⟨by simp only; omega, by simp only; omega, max_step hI.2.2.1 he87 (by simp only; omega) (by simp only; omega), by simp only; omega⟩ (by simp only; omega) ⟨rfl, rfl, trivial⟩ rfl rfl rfl rfl)
              ·
                refine tl_nil (tp_normal ?_)
                refine tc_false rfl ?_
                refine tc_exit (tp_then_exit (tp_then_exit (tp_block_exit (tp_normal ?_))))
                refine tc_cut (fun (_u : Unit) => [(14, .int .i64 (24 * x0))]) (fun (_u : Unit) => True) ?_ ?_
                ·
                  refine tc_seq ?_
                  refine tc_region ?_
                  refine s0 (qv_move rfl) ?_
                  refine s0 (qv_move rfl) ?_
                  refine s0 (qv_addI rfl rfl (by omega)) ?_
                  refine sd (qv_leq rfl rfl) (fun c102 => ?_) (fun c102 => ?_)
                  ·
                    refine tl_nil (tp_normal ?_)
                    refine tc_true rfl ?_
                    refine tc_seq ?_
                    refine tc_region ?_
                    refine s0 (qv_ldBW (i := 2) ag_27 rfl rfl rfl) ?_
                    refine tl_alloc ze_27 (by decide) (fun b17_4 => ?_)
                    refine tl_storeO (i := 0) sz_27 rfl rfl rfl rfl rfl rfl rfl ?_
                    refine tl_nil (tp_normal ?_)
                    refine tc_seq ?_
                    have hb1 : ∀ x ∈ l, x.tick + 1 + 24 * x0 ≤ 1000000 := fun x hx => by (obtain ⟨j, hj⟩ := List.getElem?_of_mem hx; have := hI.2.2.1 j x (by have := (List.getElem?_eq_some_iff.1 hj).1; omega) hj; omega)
                    have hbl : ∀ x ∈ l, -1000000000000 ≤ x.tick + 24 * x0 ∧ x.tick + 24 * x0 ≤ 1000000000000 := fun x hx => by (have h1 := hb1 x hx; have h2 := (hgood.send x hx).t0; omega)
                    have hls := later_serves hsv (show 0 ≤ x0 by omega) hb1 (by omega)
                    have eal := arrives_of hls
                    have elt := later_arrive (n := n) (l := l) (d := d) (24 * x0)
                    have ecl := cost_of (later_right g1 (show 0 ≤ x0 by omega) hb1)
                    have elc := later_cost (n := n) (l := l) x0
                    refine tc_region ?_
                    refine s0 (qv_fa fo_27_3 rfl) ?_
                    refine s0 (qv_ldB (i := 0) sc_3 rfl rfl rfl) ?_
                    refine s0 (qv_move rfl) ?_
                    refine s0 (qv_addI rfl rfl (by omega)) ?_
                    refine s0 (qv_fa fo_27_3 rfl) ?_
                    refine tl_store1 (i := 0) sz_3 rfl rfl rfl rfl rfl (Nat.le_of_ble_eq_true rfl) ?_
                    refine tl_nil (tp_normal ?_)
                    refine tc_seq ?_
                    refine tc_region ?_
                    refine s0 (qv_fa fo_27_4 rfl) ?_
                    refine s0 (qv_ldB (i := 0) sc_3 rfl rfl rfl) ?_
                    refine s0 (qv_move rfl) ?_
                    refine s0 (qv_addI rfl rfl (by omega)) ?_
                    refine s0 (qv_fa fo_27_4 rfl) ?_
                    refine tl_store1 (i := 0) sz_3 rfl rfl rfl rfl rfl (Nat.le_of_ble_eq_true rfl) ?_
                    refine tl_nil (tp_normal ?_)
                    refine tc_seq ?_
                    refine tc_drawU 11 3 mixed (by kernel_rfl) ?_
                    refine q0 (qv_ldBW (i := 4) ag_24 rfl rfl rfl) ?_
                    refine q0 (qv_move rfl) ?_
                    refine q0 (qv_move rfl) ?_
                    refine tq_up ?_
                    refine tu_take (i := 4) (ho := rfl) (qv_ldBW (i := 0) ag_27 rfl rfl rfl) ?_ (by kernel_rfl) (by kernel_rfl)
                    refine tu_one 3 ?_ (by kernel_rfl) (by kernel_rfl) (by kernel_rfl)
                    refine tg_callR fn_43 (fun w hm => later_calls w l la lc ((24) * x0) (hl.into Mem.has_base hm) (by omega) hbl) (fun r118 wa118 wb118 hm118 hb118 hr118 => ?_) (fun _ h => hD_drop rfl rfl _ h)
                    refine tu_raise (fun w h => hD_drop rfl rfl _ h) ?_
                    refine tu_take (i := 5) (ho := rfl) (qv_call fn_28 rfl (fun w hm => arrives_calls w n na nc (laterL l (((24) * x0))) r118.1 r118.2 (shiftD d (24 * x0)) hr118.1 (hn.into Mem.has_base hm) hk (hr118.2.into (Mem.has_kept (by first | exact .head _ | exact .tail _ (.head _) | exact .tail _ (.tail _ (.head _)) | exact .tail _ (.tail _ (.tail _ (.head _))))) hm))) ?_ (by kernel_rfl) (by kernel_rfl)
                    refine tu_take (i := 6) (ho := rfl) (qv_move rfl) ?_ (by kernel_rfl) (by kernel_rfl)
                    refine tu_take (i := 7) (ho := rfl) (qv_extract rfl rfl) ?_ (by kernel_rfl) (by kernel_rfl)
                    refine tu_take (i := 8) (ho := rfl) (qv_extract rfl rfl) ?_ (by kernel_rfl) (by kernel_rfl)
                    refine tu_take (i := 9) (ho := rfl) (qv_assign rfl) ?_ (by kernel_rfl) (by kernel_rfl)
                    refine tu_take (i := 10) (ho := rfl) (qv_assign rfl) ?_ (by kernel_rfl) (by kernel_rfl)
                    refine tu_tail rfl rfl rfl (by kernel_rfl) ?_
                    refine tl_nil (tp_normal ?_)
                    refine tc_seq ?_
                    refine tc_drawU 10 3 mixed (by kernel_rfl) ?_
                    refine q0 (qv_ldBW (i := 4) ag_24 rfl rfl rfl) ?_
                    refine q0 (qv_move rfl) ?_
                    refine q0 (qv_move rfl) ?_
                    refine tq_up ?_
                    refine tu_one 3 ?_ (by kernel_rfl) (by kernel_rfl) (by kernel_rfl)
                    refine tg_callR fn_43 (fun w hm => later_calls w l la lc ((24) * x0) (hl.into Mem.has_base hm) (by omega) hbl) (fun r127 wa127 wb127 hm127 hb127 hr127 => ?_) (fun _ h => hD_drop rfl rfl _ h)
                    refine tu_raise (fun w h => hD_drop rfl rfl _ h) ?_
                    refine tu_take (i := 4) (ho := rfl) (qv_call fn_23 rfl (fun w hm => cost_calls w n na nc (laterL l (((24) * x0))) r127.1 r127.2 (hn.into Mem.has_base hm) hk (hr127.2.into (Mem.has_kept (by first | exact .head _ | exact .tail _ (.head _) | exact .tail _ (.tail _ (.head _)) | exact .tail _ (.tail _ (.tail _ (.head _))))) hm))) ?_ (by kernel_rfl) (by kernel_rfl)
                    refine tu_take (i := 5) (ho := rfl) (qv_move rfl) ?_ (by kernel_rfl) (by kernel_rfl)
                    refine tu_take (i := 6) (ho := rfl) (qv_extract rfl rfl) ?_ (by kernel_rfl) (by kernel_rfl)
                    refine tu_take (i := 7) (ho := rfl) (qv_extract rfl rfl) ?_ (by kernel_rfl) (by kernel_rfl)
                    refine tu_take (i := 8) (ho := rfl) (qv_assign rfl) ?_ (by kernel_rfl) (by kernel_rfl)
                    refine tu_take (i := 9) (ho := rfl) (qv_assign rfl) ?_ (by kernel_rfl) (by kernel_rfl)
                    refine tu_tail rfl rfl rfl (by kernel_rfl) ?_
                    refine tl_nil (tp_normal ?_)
                    refine tc_seq ?_
                    refine tc_region ?_
                    refine s0 (qv_move rfl) ?_
                    refine sd (qv_neq rfl rfl) (fun c132 => ?_) (fun c132 => ?_)
                    ·
                      refine s0 (qv_move rfl) ?_
                      refine sk ?_
                      refine sk ?_
                      refine s0 (qv_pickT rfl rfl) ?_
                      refine s0 (qv_move rfl) ?_
                      refine sk ?_
                      refine sk ?_
                      refine sk ?_
                      refine sk ?_
                      refine sk ?_
                      refine s0 (qv_pickT rfl rfl) ?_
                      refine s0 (qv_move rfl) ?_
                      refine sk ?_
                      refine sk ?_
                      refine sk ?_
                      refine s0 (qv_pickT rfl rfl) ?_
                      refine tl_nil (tp_normal ?_)
                      refine tc_true rfl ?_
                      refine tc_seq ?_
                      refine tc_region ?_
                      refine s0 (qv_assign rfl) ?_
                      refine tl_nil (tp_normal ?_)
                      refine tc_ret (tp_then_ret (tp_end1 rfl rfl ?_))
                      intro w' hm
                      exfalso
                      first | (rw [eal] at c132; exact c132 rfl) | (rw [ecl] at c135; exact c135 rfl) | (rw [eal, ea, elt] at c142; simp only at c142; omega) | (rw [ecl, ec, elc] at c147; simp only at c147; omega)
                    ·
                      refine s0 (qv_move rfl) ?_
                      refine s0g (qv_move rfl) ?_
                      refine sdg (qv_neq rfl rfl) (fun c135 => ?_) (fun c135 => ?_)
                      ·
                        refine s0 (qv_pickF rfl rfl) ?_
                        refine s0 (qv_move rfl) ?_
                        refine sk ?_
                        refine sk ?_
                        refine sk ?_
                        refine sk ?_
                        refine sk ?_
                        refine s0 (qv_pickT rfl rfl) ?_
                        refine s0 (qv_move rfl) ?_
                        refine sk ?_
                        refine sk ?_
                        refine sk ?_
                        refine s0 (qv_pickT rfl rfl) ?_
                        refine tl_nil (tp_normal ?_)
                        refine tc_true rfl ?_
                        refine tc_seq ?_
                        refine tc_region ?_
                        refine s0 (qv_assign rfl) ?_
                        refine tl_nil (tp_normal ?_)
                        refine tc_ret (tp_then_ret (tp_end1 rfl rfl ?_))
                        intro w' hm
                        exfalso
                        first | (rw [eal] at c132; exact c132 rfl) | (rw [ecl] at c135; exact c135 rfl) | (rw [eal, ea, elt] at c142; simp only at c142; omega) | (rw [ecl, ec, elc] at c147; simp only at c147; omega)
                      ·
                        refine s0 (qv_pickF rfl rfl) ?_
                        refine s0 (qv_move rfl) ?_
                        refine s0g (qv_move rfl) ?_
                        refine s0g (qv_move rfl) ?_
                        refine s0g (qv_move rfl) ?_
                        refine s0g (qv_addI rfl rfl (by rw [ea]; simp only; omega)) ?_
                        refine sdg (qv_neq rfl rfl) (fun c142 => ?_) (fun c142 => ?_)
                        ·
                          refine s0 (qv_pickF rfl rfl) ?_
                          refine s0 (qv_move rfl) ?_
                          refine sk ?_
                          refine sk ?_
                          refine sk ?_
                          refine s0 (qv_pickT rfl rfl) ?_
                          refine tl_nil (tp_normal ?_)
                          refine tc_true rfl ?_
                          refine tc_seq ?_
                          refine tc_region ?_
                          refine s0 (qv_assign rfl) ?_
                          refine tl_nil (tp_normal ?_)
                          refine tc_ret (tp_then_ret (tp_end1 rfl rfl ?_))
                          intro w' hm
                          exfalso
                          first | (rw [eal] at c132; exact c132 rfl) | (rw [ecl] at c135; exact c135 rfl) | (rw [eal, ea, elt] at c142; simp only at c142; omega) | (rw [ecl, ec, elc] at c147; simp only at c147; omega)
                        ·
                          refine s0 (qv_pickF rfl rfl) ?_
                          refine s0 (qv_move rfl) ?_
                          refine s0g (qv_move rfl) ?_
                          refine s0g (qv_move rfl) ?_
                          refine sdg (qv_neq rfl rfl) (fun c147 => ?_) (fun c147 => ?_)
                          ·
                            refine s0 (qv_pickF rfl rfl) ?_
                            refine tl_nil (tp_normal ?_)
                            refine tc_true rfl ?_
                            refine tc_seq ?_
                            refine tc_region ?_
                            refine s0 (qv_assign rfl) ?_
                            refine tl_nil (tp_normal ?_)
                            refine tc_ret (tp_then_ret (tp_end1 rfl rfl ?_))
                            intro w' hm
                            exfalso
                            first | (rw [eal] at c132; exact c132 rfl) | (rw [ecl] at c135; exact c135 rfl) | (rw [eal, ea, elt] at c142; simp only at c142; omega) | (rw [ecl, ec, elc] at c147; simp only at c147; omega)
                          ·
                            refine s0 (qv_pickF rfl rfl) ?_
                            refine tl_nil (tp_normal ?_)
                            refine tc_false rfl ?_
                            exact tc_skip (tp_cut (()) trivial ⟨rfl, trivial⟩ rfl rfl rfl rfl)
                  ·
                    refine tl_nil (tp_normal ?_)
                    refine tc_false rfl ?_
                    exact tc_skip (tp_cut (()) trivial ⟨rfl, trivial⟩ rfl rfl rfl rfl)
                ·
                  rintro _u hJ
                  refine tc_seq ?_
                  refine tc_region ?_
                  refine s0 (qv_ldBW (i := 2) ag_27 rfl rfl rfl) ?_
                  refine tl_alloc ze_27 (by decide) (fun b22_5 => ?_)
                  refine tl_storeO (i := 0) sz_27 rfl rfl rfl rfl rfl rfl rfl ?_
                  refine tl_nil (tp_normal ?_)
                  refine tc_seq ?_
                  have hmod0 := Int.emod_nonneg x1 (show d.ready + 1 ≠ 0 by omega)
                  have hmod1 := Int.emod_lt_of_pos x1 (show 0 < d.ready + 1 by omega)
                  refine tc_drawU 11 11 mixed (by kernel_rfl) ?_
                  refine q0 (qv_fa fo_27_3 rfl) ?_
                  refine q0 (qv_ldB (i := 0) sc_3 rfl rfl rfl) ?_
                  refine q0 (qv_iA at_73 rfl rfl (by omega)) ?_
                  refine q0 (qv_ldB (i := 2) sc_40 rfl rfl rfl) ?_
                  refine q0 (qv_convI Try.underlying40 Try.underlying3 rfl (by omega)) ?_
                  refine q0 (qv_fa fo_27_3 rfl) ?_
                  refine q0 (qv_ldB (i := 0) sc_3 rfl rfl rfl) ?_
                  refine q0 (qv_addI rfl rfl (by omega)) ?_
                  refine q0 (qv_remI rfl rfl (by omega) (by omega)) ?_
                  refine q0 (qv_subI rfl rfl (by omega)) ?_
                  refine q0 (qv_fa fo_27_3 rfl) ?_
                  refine tq_up ?_
                  refine tu_tail rfl rfl rfl (by kernel_rfl) ?_
                  refine tl_store1 (i := 0) sz_3 rfl rfl rfl rfl rfl (Nat.le_of_ble_eq_true rfl) ?_
                  refine tl_nil (tp_normal ?_)
                  refine tc_seq ?_
                  refine tc_drawU 8 2 mixed (by kernel_rfl) ?_
                  refine q0 (qv_fa fo_24_0 rfl) ?_
                  refine q0 (qv_ldB (i := 4) sc_3 rfl rfl rfl) ?_
                  refine tq_up ?_
                  refine tu_take (i := 3) (ho := rfl) (qv_fa fo_24_1 rfl) ?_ (by kernel_rfl) (by kernel_rfl)
                  refine tu_take (i := 4) (ho := rfl) (qv_ldB (i := 4) sc_22 rfl rfl rfl) ?_ (by kernel_rfl) (by kernel_rfl)
                  refine tu_2 2 7 (by kernel_rfl) (by kernel_rfl) (by kernel_rfl) ?_ ?_
                  ·
                    refine tg_buildRow0 (enc := encLink) 0 Try.underlying22 sz_49 (fun br163 hrw163 => ?_) (fun o_ w h => hD_rows rfl rfl rfl w h)
                    refine tu_2 5 7 (by kernel_rfl) (by kernel_rfl) (by kernel_rfl) ?_ ?_
                    ·
                      refine tg_appendS 0 apt_22 hrw163 hn Mem.has_base hna (fun v166 ob166 hr166 => ?_) (fun u hu => by (obtain ⟨x, _, hx⟩ := List.mem_flatMap.1 hu; exact one_49 x u hx)) (by simp only [List.length_nil]; omega) rfl (fun x hx => by (have h_ := hk x hx; simp [encLink, h_.1, h_.2])) (fun o_ w h => hD_rows rfl rfl rfl w h)
                      rw [List.nil_append] at hr166
                      obtain ⟨ra166, rc166, hv166, hc166⟩ := RowOf.slice hr166
                      subst hv166
                      refine tu_take (i := 6) (ho := rfl) (qv_build bt_24 rfl rfl) ?_ (by kernel_rfl) (by kernel_rfl)
                      refine tu_one 7 ?_ (by kernel_rfl) (by kernel_rfl) (by kernel_rfl)
                      refine tg_alloc ze_24 (fun b23_6 => ?_) (fun _ _ h => hD_rows rfl rfl rfl _ h)
                      refine tu_tail rfl rfl rfl (by kernel_rfl) ?_
                      refine tl_storeO (i := 0) sz_24 rfl rfl rfl rfl rfl rfl rfl ?_
                      refine tl_nil (tp_normal ?_)
                      refine tc_seq ?_
                      refine tc_seq ?_
                      refine tc_region ?_
                      refine s0 (qv_fa fo_24_1 rfl) ?_
                      refine s0 (qv_ldB (i := 0) sc_22 rfl rfl rfl) ?_
                      obtain ⟨ra170, rc170, hre170, hrc170⟩ := RowOf.slice hr166
                      refine s0 (qv_lenR st_22 rfl hre170) ?_
                      refine sd (qv_gtr rfl rfl) (fun c171 => ?_) (fun c171 => ?_)
                      ·
                        refine tl_nil (tp_normal ?_)
                        refine tc_true rfl ?_
                        refine tc_seq ?_
                        have hm2 := Int.emod_nonneg x2 (show (n.links.length : Int) ≠ 0 by omega)
                        have hm3 := Int.emod_lt_of_pos x2 (show 0 < (n.links.length : Int) by omega)
                        obtain ⟨gR, rcR, curR, hvR, hobR, hcR1, hcR2, hszR, htkR⟩ := RowOf.some hr166 (by omega)
                        cases hvR
                        subst hobR
                        refine tc_rowBox 0 rfl ?_
                        have hsR := SlAt.ofBoxP (E := 49) (b := gR) (sz := 50) (enc := encLink) (l := n.links) (cur := curR) (by omega) (fun y hy => by (have h_ := hk y hy; simp [encLink, h_.1, h_.2])) htkR
                        refine tc_drawU 12 11 mixed (by kernel_rfl) ?_
                        refine q0 (qv_fa fo_24_1 rfl) ?_
                        refine q0 (qv_ldB (i := 1) sc_22 rfl rfl rfl) ?_
                        refine q0 (qv_iA at_73 rfl rfl (by omega)) ?_
                        refine q0 (qv_ldB (i := 4) sc_40 rfl rfl rfl) ?_
                        refine q0 (qv_convI Try.underlying40 Try.underlying3 rfl (by omega)) ?_
                        refine q0 (qv_fa fo_24_1 rfl) ?_
                        refine q0 (qv_ldB (i := 1) sc_22 rfl rfl rfl) ?_
                        refine q0 (qv_len st_22 rfl) ?_
                        refine q0 (qv_remI rfl rfl (by omega) (by omega)) ?_
                        refine qi st_22 hsR rfl rfl (by omega) (fun e181 he181 => ?_)
                        refine q0 (qv_ldEW ag_49 hsR (Mem.has_box (by repeat (first | exact List.Mem.head _ | refine List.Mem.tail _ ?_))) rfl he181) ?_
                        refine tq_up ?_
                        refine tu_one 11 ?_ (by kernel_rfl) (by kernel_rfl) (by kernel_rfl)
                        refine tg_alloc ze_49 (fun b24_7 => ?_) (fun _ _ h => hD_drop rfl rfl _ h)
                        refine tu_tail rfl rfl rfl (by kernel_rfl) ?_
                        refine tl_storeL (i := 0) sz_49 (hsR.szs _ (List.mem_of_getElem? he181)) (one_49 _) rfl rfl rfl rfl ?_
                        refine tl_nil (tp_normal ?_)
                        refine tc_seq ?_
                        refine tc_region ?_
                        refine s0 (qv_iA at_73 rfl rfl (by omega)) ?_
                        refine s0 (qv_ldB (i := 5) sc_40 rfl rfl rfl) ?_
                        refine s0 (qv_convI Try.underlying40 Try.underlying3 rfl (by omega)) ?_
                        refine s0 (qv_remI rfl rfl (by decide) (by omega)) ?_
                        refine s0 (qv_assign rfl) ?_
                        refine tl_nil (tp_normal ?_)
                        refine tc_seq ?_
                        refine tc_region ?_
                        refine s0 (qv_move rfl) ?_
                        refine s0 (qv_fa fo_49_2 rfl) ?_
                        refine s0 (qv_iA at_47 rfl rfl (by omega)) ?_
                        have hlo := hk e181 (List.mem_of_getElem? he181)
                        refine tl_store1 (i := 0) sz_3 rfl rfl rfl rfl rfl (by simp [encLink, hlo.1, hlo.2]; omega) ?_
                        rw [enc_capAt hlo (by omega)]
                        refine tl_nil (tp_normal ?_)
                        refine tc_drawU 11 11 mixed (by kernel_rfl) ?_
                        refine q0 (qv_fa fo_24_1 rfl) ?_
                        refine q0 (qv_ldB (i := 2) sc_22 rfl rfl rfl) ?_
                        refine q0 (qv_iA at_73 rfl rfl (by omega)) ?_
                        refine q0 (qv_ldB (i := 5) sc_40 rfl rfl rfl) ?_
                        refine q0 (qv_convI Try.underlying40 Try.underlying3 rfl (by omega)) ?_
                        refine q0 (qv_fa fo_24_1 rfl) ?_
                        refine q0 (qv_ldB (i := 2) sc_22 rfl rfl rfl) ?_
                        refine q0 (qv_len st_22 rfl) ?_
                        refine q0 (qv_remI rfl rfl (by omega) (by omega)) ?_
                        refine q0 (qv_ldBW (i := 0) ag_49 rfl rfl (by simp [encLink, capAt, hlo.1, hlo.2])) ?_
                        refine qi st_22 hsR rfl rfl (by omega) (fun e200 he200 => ?_)
                        obtain rfl : e181 = e200 := Option.some.inj (he181.symm.trans he200)
                        refine tq_up ?_
                        refine tu_tail rfl rfl rfl (by kernel_rfl) ?_
                        have hls : (encLink (capAt e181 (x3 % 24).toNat)).length = 50 := by simp [encLink, capAt, hlo.1, hlo.2]
                        refine tl_storeSp (off := 0) (us := encLink (capAt e181 (x3 % 24).toNat)) (capAt e181 (x3 % 24).toNat) (by rw [hls]; exact sz_49) (fun y hy => by (have h_ := hk y hy; simp [encLink, h_.1, h_.2])) hls (by decide) he181 htkR (by rw [hszR]; exact Nat.mul_le_mul_right _ hcR1) (fun j hj => by rw [if_pos ⟨Nat.zero_le _, by omega⟩, Nat.sub_zero]) (by omega) (one_49 _) (j := 1) rfl rfl (by simp only [offs]; omega) rfl (by simp [Value.cells]) (fun curR2 htkR2 hszR2 => ?_)
                        have hsR2 := SlAt.ofBoxP (E := 49) (b := gR) (sz := 50) (enc := encLink) (l := n.links.set (x2 % n.links.length).toNat (capAt e181 (x3 % 24).toNat)) (cur := curR2) (by simp only [List.length_set]; omega) (fun y hy => by (have h_ := netOk_set (n := n) (j := (x2 % n.links.length).toNat) (i := (x3 % 24).toNat) hk hlo y hy; simp [encLink, h_.1, h_.2])) (by rw [List.length_set]; exact htkR2)
                        refine tl_nil (tp_normal ?_)
                        refine tc_seq ?_
                        refine tc_region ?_
                        refine s0 (qv_ldBW (i := 2) ag_24 rfl rfl rfl) ?_
                        refine s0 (qv_move rfl) ?_
                        refine s0 (qv_ldBW (i := 3) ag_27 rfl rfl rfl) ?_
                        refine s0 (qv_call fn_28 rfl (fun w hm => arr_set w n rc166 l la lc (x2 % n.links.length).toNat (x3 % 24).toNat e181 hlc (some ⟨gR, 0, none⟩) (hsR2.into (Mem.has_box (by repeat (first | exact List.Mem.head _ | refine List.Mem.tail _ ?_))) hm) hk hlo (hl.into Mem.has_base hm) (readyAt d (d.ready - x1 % (d.ready + 1))))) ?_
                        refine s0 (qv_move rfl) ?_
                        refine s0 (qv_extract rfl rfl) ?_
                        refine s0 (qv_extract rfl rfl) ?_
                        refine s0 (qv_assign rfl) ?_
                        refine s0 (qv_assign rfl) ?_
                        refine tl_nil (tp_normal ?_)
                        refine tc_seq ?_
                        refine tc_region ?_
                        refine s0 (qv_call fn_30 rfl (fun w hm => sanity_calls w)) ?_
                        refine s0 (qv_move rfl) ?_
                        refine s0g (qv_move rfl) ?_
                        refine sdg (qv_eql rfl rfl) (fun c211 => ?_) (fun c211 => ?_)
                        ·
                          refine s0 (qv_pickT rfl rfl) ?_
                          refine s0 (qv_move rfl) ?_
                          refine s0g (qv_move rfl) ?_
                          refine s0g (qv_move rfl) ?_
                          refine s0g (qv_leq rfl rfl) ?_
                          refine s0 (qv_pickT rfl rfl) ?_
                          refine s0 (qv_assign rfl) ?_
                          refine tl_nil (tp_normal ?_)
                          refine tc_ret (tp_end1 rfl rfl ?_)
                          intro w' hm
                          have hwd := wider_of (h := (x3 % 24).toNat) hck he181
                          have ew := arrives_of (wider_serves hsv (r := d.ready - x1 % (d.ready + 1)) hwd (by omega) (by omega))
                          have hwa := wider_arrive hsv (r := d.ready - x1 % (d.ready + 1)) hwd (by omega) (by omega)
                          first | exact ⟨by rw [decide_eq_true (by rw [ew, ea]; exact hwa)], hm.below⟩ | (exfalso; rw [ew] at c211; exact c211 rfl)
                        ·
                          refine s0 (qv_pickT rfl rfl) ?_
                          refine s0 (qv_move rfl) ?_
                          refine sk ?_
                          refine sk ?_
                          refine sk ?_
                          refine s0 (qv_pickF rfl rfl) ?_
                          refine s0 (qv_assign rfl) ?_
                          refine tl_nil (tp_normal ?_)
                          refine tc_ret (tp_end1 rfl rfl ?_)
                          intro w' hm
                          have hwd := wider_of (h := (x3 % 24).toNat) hck he181
                          have ew := arrives_of (wider_serves hsv (r := d.ready - x1 % (d.ready + 1)) hwd (by omega) (by omega))
                          have hwa := wider_arrive hsv (r := d.ready - x1 % (d.ready + 1)) hwd (by omega) (by omega)
                          first | exact ⟨by rw [decide_eq_true (by rw [ew, ea]; exact hwa)], hm.below⟩ | (exfalso; rw [ew] at c211; exact c211 rfl)
                      ·
                        refine tl_nil (tp_normal ?_)
                        refine tc_false rfl ?_
                        refine tc_skip (tp_normal ?_)
                        refine tc_seq ?_
                        have hnil : n.links = [] := List.eq_nil_of_length_eq_zero (by omega)
                        refine tc_region ?_
                        refine s0 (qv_ldBW (i := 0) ag_24 rfl rfl rfl) ?_
                        refine s0 (qv_move rfl) ?_
                        refine s0 (qv_ldBW (i := 1) ag_27 rfl rfl rfl) ?_
                        refine s0 (qv_call fn_28 rfl (fun w hm => arrives_calls w n ra166 rc166 l la lc (readyAt d (d.ready - x1 % (d.ready + 1))) hlc (by rw [hnil]; exact SlAt.nothing) hk (hl.into Mem.has_base hm))) ?_
                        refine s0 (qv_move rfl) ?_
                        refine s0 (qv_extract rfl rfl) ?_
                        refine s0 (qv_extract rfl rfl) ?_
                        refine s0 (qv_assign rfl) ?_
                        refine s0 (qv_assign rfl) ?_
                        refine tl_nil (tp_normal ?_)
                        refine tc_seq ?_
                        refine tc_region ?_
                        refine s0 (qv_call fn_30 rfl (fun w hm => sanity_calls w)) ?_
                        refine s0 (qv_move rfl) ?_
                        refine s0g (qv_move rfl) ?_
                        refine sdg (qv_eql rfl rfl) (fun c211 => ?_) (fun c211 => ?_)
                        ·
                          refine s0 (qv_pickT rfl rfl) ?_
                          refine s0 (qv_move rfl) ?_
                          refine s0g (qv_move rfl) ?_
                          refine s0g (qv_move rfl) ?_
                          refine s0g (qv_leq rfl rfl) ?_
                          refine s0 (qv_pickT rfl rfl) ?_
                          refine s0 (qv_assign rfl) ?_
                          refine tl_nil (tp_normal ?_)
                          refine tc_ret (tp_end1 rfl rfl ?_)
                          intro w' hm
                          have hwd := Wider.refl hck
                          have ew := arrives_of (wider_serves hsv (r := d.ready - x1 % (d.ready + 1)) hwd (by omega) (by omega))
                          have hwa := wider_arrive hsv (r := d.ready - x1 % (d.ready + 1)) hwd (by omega) (by omega)
                          first | exact ⟨by rw [decide_eq_true (by rw [ew, ea]; exact hwa)], hm.below⟩ | (exfalso; rw [ew] at c211; exact c211 rfl)
                        ·
                          refine s0 (qv_pickT rfl rfl) ?_
                          refine s0 (qv_move rfl) ?_
                          refine sk ?_
                          refine sk ?_
                          refine sk ?_
                          refine s0 (qv_pickF rfl rfl) ?_
                          refine s0 (qv_assign rfl) ?_
                          refine tl_nil (tp_normal ?_)
                          refine tc_ret (tp_end1 rfl rfl ?_)
                          intro w' hm
                          have hwd := Wider.refl hck
                          have ew := arrives_of (wider_serves hsv (r := d.ready - x1 % (d.ready + 1)) hwd (by omega) (by omega))
                          have hwa := wider_arrive hsv (r := d.ready - x1 % (d.ready + 1)) hwd (by omega) (by omega)
                          first | exact ⟨by rw [decide_eq_true (by rw [ew, ea]; exact hwa)], hm.below⟩ | (exfalso; rw [ew] at c211; exact c211 rfl)
                    ·
                      refine tg_alloc ze_24 (fun b23_8 => ?_) (fun _ _ h => hD_rows rfl rfl rfl _ h)
                      refine tu_one 5 ?_ (by kernel_rfl) (by kernel_rfl) (by kernel_rfl)
                      refine tg_appendS 0 apt_22 hrw163 hn Mem.has_base hna (fun v166 ob166 hr166 => ?_) (fun u hu => by (obtain ⟨x, _, hx⟩ := List.mem_flatMap.1 hu; exact one_49 x u hx)) (by simp only [List.length_nil]; omega) rfl (fun x hx => by (have h_ := hk x hx; simp [encLink, h_.1, h_.2])) (fun o_ w h => hD_rows rfl rfl rfl w h)
                      rw [List.nil_append] at hr166
                      obtain ⟨ra166, rc166, hv166, hc166⟩ := RowOf.slice hr166
                      subst hv166
                      refine tu_take (i := 6) (ho := rfl) (qv_build bt_24 rfl rfl) ?_ (by kernel_rfl) (by kernel_rfl)
                      refine tu_tail rfl rfl rfl (by kernel_rfl) ?_
                      refine tl_storeO (i := 0) sz_24 rfl rfl rfl rfl rfl rfl rfl ?_
                      refine tl_nil (tp_normal ?_)
                      refine tc_seq ?_
                      refine tc_seq ?_
                      refine tc_region ?_
                      refine s0 (qv_fa fo_24_1 rfl) ?_
                      refine s0 (qv_ldB (i := 0) sc_22 rfl rfl rfl) ?_
                      obtain ⟨ra170, rc170, hre170, hrc170⟩ := RowOf.slice hr166
                      refine s0 (qv_lenR st_22 rfl hre170) ?_
                      refine sd (qv_gtr rfl rfl) (fun c171 => ?_) (fun c171 => ?_)
                      ·
                        refine tl_nil (tp_normal ?_)
                        refine tc_true rfl ?_
                        refine tc_seq ?_
                        have hm2 := Int.emod_nonneg x2 (show (n.links.length : Int) ≠ 0 by omega)
                        have hm3 := Int.emod_lt_of_pos x2 (show 0 < (n.links.length : Int) by omega)
                        obtain ⟨gR, rcR, curR, hvR, hobR, hcR1, hcR2, hszR, htkR⟩ := RowOf.some hr166 (by omega)
                        cases hvR
                        subst hobR
                        refine tc_rowBox 0 rfl ?_
                        have hsR := SlAt.ofBoxP (E := 49) (b := gR) (sz := 50) (enc := encLink) (l := n.links) (cur := curR) (by omega) (fun y hy => by (have h_ := hk y hy; simp [encLink, h_.1, h_.2])) htkR
                        refine tc_drawU 12 11 mixed (by kernel_rfl) ?_
                        refine q0 (qv_fa fo_24_1 rfl) ?_
                        refine q0 (qv_ldB (i := 1) sc_22 rfl rfl rfl) ?_
                        refine q0 (qv_iA at_73 rfl rfl (by omega)) ?_
                        refine q0 (qv_ldB (i := 4) sc_40 rfl rfl rfl) ?_
                        refine q0 (qv_convI Try.underlying40 Try.underlying3 rfl (by omega)) ?_
                        refine q0 (qv_fa fo_24_1 rfl) ?_
                        refine q0 (qv_ldB (i := 1) sc_22 rfl rfl rfl) ?_
                        refine q0 (qv_len st_22 rfl) ?_
                        refine q0 (qv_remI rfl rfl (by omega) (by omega)) ?_
                        refine qi st_22 hsR rfl rfl (by omega) (fun e181 he181 => ?_)
                        refine q0 (qv_ldEW ag_49 hsR (Mem.has_box (by repeat (first | exact List.Mem.head _ | refine List.Mem.tail _ ?_))) rfl he181) ?_
                        refine tq_up ?_
                        refine tu_one 11 ?_ (by kernel_rfl) (by kernel_rfl) (by kernel_rfl)
                        refine tg_alloc ze_49 (fun b24_9 => ?_) (fun _ _ h => hD_drop rfl rfl _ h)
                        refine tu_tail rfl rfl rfl (by kernel_rfl) ?_
                        refine tl_storeL (i := 0) sz_49 (hsR.szs _ (List.mem_of_getElem? he181)) (one_49 _) rfl rfl rfl rfl ?_
                        refine tl_nil (tp_normal ?_)
                        refine tc_seq ?_
                        refine tc_region ?_
                        refine s0 (qv_iA at_73 rfl rfl (by omega)) ?_
                        refine s0 (qv_ldB (i := 5) sc_40 rfl rfl rfl) ?_
                        refine s0 (qv_convI Try.underlying40 Try.underlying3 rfl (by omega)) ?_
                        refine s0 (qv_remI rfl rfl (by decide) (by omega)) ?_
                        refine s0 (qv_assign rfl) ?_
                        refine tl_nil (tp_normal ?_)
                        refine tc_seq ?_
                        refine tc_region ?_
                        refine s0 (qv_move rfl) ?_
                        refine s0 (qv_fa fo_49_2 rfl) ?_
                        refine s0 (qv_iA at_47 rfl rfl (by omega)) ?_
                        have hlo := hk e181 (List.mem_of_getElem? he181)
                        refine tl_store1 (i := 0) sz_3 rfl rfl rfl rfl rfl (by simp [encLink, hlo.1, hlo.2]; omega) ?_
                        rw [enc_capAt hlo (by omega)]
                        refine tl_nil (tp_normal ?_)
                        refine tc_drawU 11 11 mixed (by kernel_rfl) ?_
                        refine q0 (qv_fa fo_24_1 rfl) ?_
                        refine q0 (qv_ldB (i := 2) sc_22 rfl rfl rfl) ?_
                        refine q0 (qv_iA at_73 rfl rfl (by omega)) ?_
                        refine q0 (qv_ldB (i := 5) sc_40 rfl rfl rfl) ?_
                        refine q0 (qv_convI Try.underlying40 Try.underlying3 rfl (by omega)) ?_
                        refine q0 (qv_fa fo_24_1 rfl) ?_
                        refine q0 (qv_ldB (i := 2) sc_22 rfl rfl rfl) ?_
                        refine q0 (qv_len st_22 rfl) ?_
                        refine q0 (qv_remI rfl rfl (by omega) (by omega)) ?_
                        refine q0 (qv_ldBW (i := 0) ag_49 rfl rfl (by simp [encLink, capAt, hlo.1, hlo.2])) ?_
                        refine qi st_22 hsR rfl rfl (by omega) (fun e200 he200 => ?_)
                        obtain rfl : e181 = e200 := Option.some.inj (he181.symm.trans he200)
                        refine tq_up ?_
                        refine tu_tail rfl rfl rfl (by kernel_rfl) ?_
                        have hls : (encLink (capAt e181 (x3 % 24).toNat)).length = 50 := by simp [encLink, capAt, hlo.1, hlo.2]
                        refine tl_storeSp (off := 0) (us := encLink (capAt e181 (x3 % 24).toNat)) (capAt e181 (x3 % 24).toNat) (by rw [hls]; exact sz_49) (fun y hy => by (have h_ := hk y hy; simp [encLink, h_.1, h_.2])) hls (by decide) he181 htkR (by rw [hszR]; exact Nat.mul_le_mul_right _ hcR1) (fun j hj => by rw [if_pos ⟨Nat.zero_le _, by omega⟩, Nat.sub_zero]) (by omega) (one_49 _) (j := 1) rfl rfl (by simp only [offs]; omega) rfl (by simp [Value.cells]) (fun curR2 htkR2 hszR2 => ?_)
                        have hsR2 := SlAt.ofBoxP (E := 49) (b := gR) (sz := 50) (enc := encLink) (l := n.links.set (x2 % n.links.length).toNat (capAt e181 (x3 % 24).toNat)) (cur := curR2) (by simp only [List.length_set]; omega) (fun y hy => by (have h_ := netOk_set (n := n) (j := (x2 % n.links.length).toNat) (i := (x3 % 24).toNat) hk hlo y hy; simp [encLink, h_.1, h_.2])) (by rw [List.length_set]; exact htkR2)
                        refine tl_nil (tp_normal ?_)
                        refine tc_seq ?_
                        refine tc_region ?_
                        refine s0 (qv_ldBW (i := 2) ag_24 rfl rfl rfl) ?_
                        refine s0 (qv_move rfl) ?_
                        refine s0 (qv_ldBW (i := 3) ag_27 rfl rfl rfl) ?_
                        refine s0 (qv_call fn_28 rfl (fun w hm => arr_set w n rc166 l la lc (x2 % n.links.length).toNat (x3 % 24).toNat e181 hlc (some ⟨gR, 0, none⟩) (hsR2.into (Mem.has_box (by repeat (first | exact List.Mem.head _ | refine List.Mem.tail _ ?_))) hm) hk hlo (hl.into Mem.has_base hm) (readyAt d (d.ready - x1 % (d.ready + 1))))) ?_
                        refine s0 (qv_move rfl) ?_
                        refine s0 (qv_extract rfl rfl) ?_
                        refine s0 (qv_extract rfl rfl) ?_
                        refine s0 (qv_assign rfl) ?_
                        refine s0 (qv_assign rfl) ?_
                        refine tl_nil (tp_normal ?_)
                        refine tc_seq ?_
                        refine tc_region ?_
                        refine s0 (qv_call fn_30 rfl (fun w hm => sanity_calls w)) ?_
                        refine s0 (qv_move rfl) ?_
                        refine s0g (qv_move rfl) ?_
                        refine sdg (qv_eql rfl rfl) (fun c211 => ?_) (fun c211 => ?_)
                        ·
                          refine s0 (qv_pickT rfl rfl) ?_
                          refine s0 (qv_move rfl) ?_
                          refine s0g (qv_move rfl) ?_
                          refine s0g (qv_move rfl) ?_
                          refine s0g (qv_leq rfl rfl) ?_
                          refine s0 (qv_pickT rfl rfl) ?_
                          refine s0 (qv_assign rfl) ?_
                          refine tl_nil (tp_normal ?_)
                          refine tc_ret (tp_end1 rfl rfl ?_)
                          intro w' hm
                          have hwd := wider_of (h := (x3 % 24).toNat) hck he181
                          have ew := arrives_of (wider_serves hsv (r := d.ready - x1 % (d.ready + 1)) hwd (by omega) (by omega))
                          have hwa := wider_arrive hsv (r := d.ready - x1 % (d.ready + 1)) hwd (by omega) (by omega)
                          first | exact ⟨by rw [decide_eq_true (by rw [ew, ea]; exact hwa)], hm.below⟩ | (exfalso; rw [ew] at c211; exact c211 rfl)
                        ·
                          refine s0 (qv_pickT rfl rfl) ?_
                          refine s0 (qv_move rfl) ?_
                          refine sk ?_
                          refine sk ?_
                          refine sk ?_
                          refine s0 (qv_pickF rfl rfl) ?_
                          refine s0 (qv_assign rfl) ?_
                          refine tl_nil (tp_normal ?_)
                          refine tc_ret (tp_end1 rfl rfl ?_)
                          intro w' hm
                          have hwd := wider_of (h := (x3 % 24).toNat) hck he181
                          have ew := arrives_of (wider_serves hsv (r := d.ready - x1 % (d.ready + 1)) hwd (by omega) (by omega))
                          have hwa := wider_arrive hsv (r := d.ready - x1 % (d.ready + 1)) hwd (by omega) (by omega)
                          first | exact ⟨by rw [decide_eq_true (by rw [ew, ea]; exact hwa)], hm.below⟩ | (exfalso; rw [ew] at c211; exact c211 rfl)
                      ·
                        refine tl_nil (tp_normal ?_)
                        refine tc_false rfl ?_
                        refine tc_skip (tp_normal ?_)
                        refine tc_seq ?_
                        have hnil : n.links = [] := List.eq_nil_of_length_eq_zero (by omega)
                        refine tc_region ?_
                        refine s0 (qv_ldBW (i := 0) ag_24 rfl rfl rfl) ?_
                        refine s0 (qv_move rfl) ?_
                        refine s0 (qv_ldBW (i := 1) ag_27 rfl rfl rfl) ?_
                        refine s0 (qv_call fn_28 rfl (fun w hm => arrives_calls w n ra166 rc166 l la lc (readyAt d (d.ready - x1 % (d.ready + 1))) hlc (by rw [hnil]; exact SlAt.nothing) hk (hl.into Mem.has_base hm))) ?_
                        refine s0 (qv_move rfl) ?_
                        refine s0 (qv_extract rfl rfl) ?_
                        refine s0 (qv_extract rfl rfl) ?_
                        refine s0 (qv_assign rfl) ?_
                        refine s0 (qv_assign rfl) ?_
                        refine tl_nil (tp_normal ?_)
                        refine tc_seq ?_
                        refine tc_region ?_
                        refine s0 (qv_call fn_30 rfl (fun w hm => sanity_calls w)) ?_
                        refine s0 (qv_move rfl) ?_
                        refine s0g (qv_move rfl) ?_
                        refine sdg (qv_eql rfl rfl) (fun c211 => ?_) (fun c211 => ?_)
                        ·
                          refine s0 (qv_pickT rfl rfl) ?_
                          refine s0 (qv_move rfl) ?_
                          refine s0g (qv_move rfl) ?_
                          refine s0g (qv_move rfl) ?_
                          refine s0g (qv_leq rfl rfl) ?_
                          refine s0 (qv_pickT rfl rfl) ?_
                          refine s0 (qv_assign rfl) ?_
                          refine tl_nil (tp_normal ?_)
                          refine tc_ret (tp_end1 rfl rfl ?_)
                          intro w' hm
                          have hwd := Wider.refl hck
                          have ew := arrives_of (wider_serves hsv (r := d.ready - x1 % (d.ready + 1)) hwd (by omega) (by omega))
                          have hwa := wider_arrive hsv (r := d.ready - x1 % (d.ready + 1)) hwd (by omega) (by omega)
                          first | exact ⟨by rw [decide_eq_true (by rw [ew, ea]; exact hwa)], hm.below⟩ | (exfalso; rw [ew] at c211; exact c211 rfl)
                        ·
                          refine s0 (qv_pickT rfl rfl) ?_
                          refine s0 (qv_move rfl) ?_
                          refine sk ?_
                          refine sk ?_
                          refine sk ?_
                          refine s0 (qv_pickF rfl rfl) ?_
                          refine s0 (qv_assign rfl) ?_
                          refine tl_nil (tp_normal ?_)
                          refine tc_ret (tp_end1 rfl rfl ?_)
                          intro w' hm
                          have hwd := Wider.refl hck
                          have ew := arrives_of (wider_serves hsv (r := d.ready - x1 % (d.ready + 1)) hwd (by omega) (by omega))
                          have hwa := wider_arrive hsv (r := d.ready - x1 % (d.ready + 1)) hwd (by omega) (by omega)
                          first | exact ⟨by rw [decide_eq_true (by rw [ew, ea]; exact hwa)], hm.below⟩ | (exfalso; rw [ew] at c211; exact c211 rfl)
                  ·
                    refine tg_alloc ze_24 (fun b23_10 => ?_) (fun _ _ h => hD_rows rfl rfl rfl _ h)
                    refine tu_one 2 ?_ (by kernel_rfl) (by kernel_rfl) (by kernel_rfl)
                    refine tg_buildRow0 (enc := encLink) 0 Try.underlying22 sz_49 (fun br163 hrw163 => ?_) (fun o_ w h => hD_rows rfl rfl rfl w h)
                    refine tu_one 5 ?_ (by kernel_rfl) (by kernel_rfl) (by kernel_rfl)
                    refine tg_appendS 0 apt_22 hrw163 hn Mem.has_base hna (fun v166 ob166 hr166 => ?_) (fun u hu => by (obtain ⟨x, _, hx⟩ := List.mem_flatMap.1 hu; exact one_49 x u hx)) (by simp only [List.length_nil]; omega) rfl (fun x hx => by (have h_ := hk x hx; simp [encLink, h_.1, h_.2])) (fun o_ w h => hD_rows rfl rfl rfl w h)
                    rw [List.nil_append] at hr166
                    obtain ⟨ra166, rc166, hv166, hc166⟩ := RowOf.slice hr166
                    subst hv166
                    refine tu_take (i := 6) (ho := rfl) (qv_build bt_24 rfl rfl) ?_ (by kernel_rfl) (by kernel_rfl)
                    refine tu_tail rfl rfl rfl (by kernel_rfl) ?_
                    refine tl_storeO (i := 0) sz_24 rfl rfl rfl rfl rfl rfl rfl ?_
                    refine tl_nil (tp_normal ?_)
                    refine tc_seq ?_
                    refine tc_seq ?_
                    refine tc_region ?_
                    refine s0 (qv_fa fo_24_1 rfl) ?_
                    refine s0 (qv_ldB (i := 0) sc_22 rfl rfl rfl) ?_
                    obtain ⟨ra170, rc170, hre170, hrc170⟩ := RowOf.slice hr166
                    refine s0 (qv_lenR st_22 rfl hre170) ?_
                    refine sd (qv_gtr rfl rfl) (fun c171 => ?_) (fun c171 => ?_)
                    ·
                      refine tl_nil (tp_normal ?_)
                      refine tc_true rfl ?_
                      refine tc_seq ?_
                      have hm2 := Int.emod_nonneg x2 (show (n.links.length : Int) ≠ 0 by omega)
                      have hm3 := Int.emod_lt_of_pos x2 (show 0 < (n.links.length : Int) by omega)
                      obtain ⟨gR, rcR, curR, hvR, hobR, hcR1, hcR2, hszR, htkR⟩ := RowOf.some hr166 (by omega)
                      cases hvR
                      subst hobR
                      refine tc_rowBox 0 rfl ?_
                      have hsR := SlAt.ofBoxP (E := 49) (b := gR) (sz := 50) (enc := encLink) (l := n.links) (cur := curR) (by omega) (fun y hy => by (have h_ := hk y hy; simp [encLink, h_.1, h_.2])) htkR
                      refine tc_drawU 12 11 mixed (by kernel_rfl) ?_
                      refine q0 (qv_fa fo_24_1 rfl) ?_
                      refine q0 (qv_ldB (i := 1) sc_22 rfl rfl rfl) ?_
                      refine q0 (qv_iA at_73 rfl rfl (by omega)) ?_
                      refine q0 (qv_ldB (i := 4) sc_40 rfl rfl rfl) ?_
                      refine q0 (qv_convI Try.underlying40 Try.underlying3 rfl (by omega)) ?_
                      refine q0 (qv_fa fo_24_1 rfl) ?_
                      refine q0 (qv_ldB (i := 1) sc_22 rfl rfl rfl) ?_
                      refine q0 (qv_len st_22 rfl) ?_
                      refine q0 (qv_remI rfl rfl (by omega) (by omega)) ?_
                      refine qi st_22 hsR rfl rfl (by omega) (fun e181 he181 => ?_)
                      refine q0 (qv_ldEW ag_49 hsR (Mem.has_box (by repeat (first | exact List.Mem.head _ | refine List.Mem.tail _ ?_))) rfl he181) ?_
                      refine tq_up ?_
                      refine tu_one 11 ?_ (by kernel_rfl) (by kernel_rfl) (by kernel_rfl)
                      refine tg_alloc ze_49 (fun b24_11 => ?_) (fun _ _ h => hD_drop rfl rfl _ h)
                      refine tu_tail rfl rfl rfl (by kernel_rfl) ?_
                      refine tl_storeL (i := 0) sz_49 (hsR.szs _ (List.mem_of_getElem? he181)) (one_49 _) rfl rfl rfl rfl ?_
                      refine tl_nil (tp_normal ?_)
                      refine tc_seq ?_
                      refine tc_region ?_
                      refine s0 (qv_iA at_73 rfl rfl (by omega)) ?_
                      refine s0 (qv_ldB (i := 5) sc_40 rfl rfl rfl) ?_
                      refine s0 (qv_convI Try.underlying40 Try.underlying3 rfl (by omega)) ?_
                      refine s0 (qv_remI rfl rfl (by decide) (by omega)) ?_
                      refine s0 (qv_assign rfl) ?_
                      refine tl_nil (tp_normal ?_)
                      refine tc_seq ?_
                      refine tc_region ?_
                      refine s0 (qv_move rfl) ?_
                      refine s0 (qv_fa fo_49_2 rfl) ?_
                      refine s0 (qv_iA at_47 rfl rfl (by omega)) ?_
                      have hlo := hk e181 (List.mem_of_getElem? he181)
                      refine tl_store1 (i := 0) sz_3 rfl rfl rfl rfl rfl (by simp [encLink, hlo.1, hlo.2]; omega) ?_
                      rw [enc_capAt hlo (by omega)]
                      refine tl_nil (tp_normal ?_)
                      refine tc_drawU 11 11 mixed (by kernel_rfl) ?_
                      refine q0 (qv_fa fo_24_1 rfl) ?_
                      refine q0 (qv_ldB (i := 2) sc_22 rfl rfl rfl) ?_
                      refine q0 (qv_iA at_73 rfl rfl (by omega)) ?_
                      refine q0 (qv_ldB (i := 5) sc_40 rfl rfl rfl) ?_
                      refine q0 (qv_convI Try.underlying40 Try.underlying3 rfl (by omega)) ?_
                      refine q0 (qv_fa fo_24_1 rfl) ?_
                      refine q0 (qv_ldB (i := 2) sc_22 rfl rfl rfl) ?_
                      refine q0 (qv_len st_22 rfl) ?_
                      refine q0 (qv_remI rfl rfl (by omega) (by omega)) ?_
                      refine q0 (qv_ldBW (i := 0) ag_49 rfl rfl (by simp [encLink, capAt, hlo.1, hlo.2])) ?_
                      refine qi st_22 hsR rfl rfl (by omega) (fun e200 he200 => ?_)
                      obtain rfl : e181 = e200 := Option.some.inj (he181.symm.trans he200)
                      refine tq_up ?_
                      refine tu_tail rfl rfl rfl (by kernel_rfl) ?_
                      have hls : (encLink (capAt e181 (x3 % 24).toNat)).length = 50 := by simp [encLink, capAt, hlo.1, hlo.2]
                      refine tl_storeSp (off := 0) (us := encLink (capAt e181 (x3 % 24).toNat)) (capAt e181 (x3 % 24).toNat) (by rw [hls]; exact sz_49) (fun y hy => by (have h_ := hk y hy; simp [encLink, h_.1, h_.2])) hls (by decide) he181 htkR (by rw [hszR]; exact Nat.mul_le_mul_right _ hcR1) (fun j hj => by rw [if_pos ⟨Nat.zero_le _, by omega⟩, Nat.sub_zero]) (by omega) (one_49 _) (j := 1) rfl rfl (by simp only [offs]; omega) rfl (by simp [Value.cells]) (fun curR2 htkR2 hszR2 => ?_)
                      have hsR2 := SlAt.ofBoxP (E := 49) (b := gR) (sz := 50) (enc := encLink) (l := n.links.set (x2 % n.links.length).toNat (capAt e181 (x3 % 24).toNat)) (cur := curR2) (by simp only [List.length_set]; omega) (fun y hy => by (have h_ := netOk_set (n := n) (j := (x2 % n.links.length).toNat) (i := (x3 % 24).toNat) hk hlo y hy; simp [encLink, h_.1, h_.2])) (by rw [List.length_set]; exact htkR2)
                      refine tl_nil (tp_normal ?_)
                      refine tc_seq ?_
                      refine tc_region ?_
                      refine s0 (qv_ldBW (i := 2) ag_24 rfl rfl rfl) ?_
                      refine s0 (qv_move rfl) ?_
                      refine s0 (qv_ldBW (i := 3) ag_27 rfl rfl rfl) ?_
                      refine s0 (qv_call fn_28 rfl (fun w hm => arr_set w n rc166 l la lc (x2 % n.links.length).toNat (x3 % 24).toNat e181 hlc (some ⟨gR, 0, none⟩) (hsR2.into (Mem.has_box (by repeat (first | exact List.Mem.head _ | refine List.Mem.tail _ ?_))) hm) hk hlo (hl.into Mem.has_base hm) (readyAt d (d.ready - x1 % (d.ready + 1))))) ?_
                      refine s0 (qv_move rfl) ?_
                      refine s0 (qv_extract rfl rfl) ?_
                      refine s0 (qv_extract rfl rfl) ?_
                      refine s0 (qv_assign rfl) ?_
                      refine s0 (qv_assign rfl) ?_
                      refine tl_nil (tp_normal ?_)
                      refine tc_seq ?_
                      refine tc_region ?_
                      refine s0 (qv_call fn_30 rfl (fun w hm => sanity_calls w)) ?_
                      refine s0 (qv_move rfl) ?_
                      refine s0g (qv_move rfl) ?_
                      refine sdg (qv_eql rfl rfl) (fun c211 => ?_) (fun c211 => ?_)
                      ·
                        refine s0 (qv_pickT rfl rfl) ?_
                        refine s0 (qv_move rfl) ?_
                        refine s0g (qv_move rfl) ?_
                        refine s0g (qv_move rfl) ?_
                        refine s0g (qv_leq rfl rfl) ?_
                        refine s0 (qv_pickT rfl rfl) ?_
                        refine s0 (qv_assign rfl) ?_
                        refine tl_nil (tp_normal ?_)
                        refine tc_ret (tp_end1 rfl rfl ?_)
                        intro w' hm
                        have hwd := wider_of (h := (x3 % 24).toNat) hck he181
                        have ew := arrives_of (wider_serves hsv (r := d.ready - x1 % (d.ready + 1)) hwd (by omega) (by omega))
                        have hwa := wider_arrive hsv (r := d.ready - x1 % (d.ready + 1)) hwd (by omega) (by omega)
                        first | exact ⟨by rw [decide_eq_true (by rw [ew, ea]; exact hwa)], hm.below⟩ | (exfalso; rw [ew] at c211; exact c211 rfl)
                      ·
                        refine s0 (qv_pickT rfl rfl) ?_
                        refine s0 (qv_move rfl) ?_
                        refine sk ?_
                        refine sk ?_
                        refine sk ?_
                        refine s0 (qv_pickF rfl rfl) ?_
                        refine s0 (qv_assign rfl) ?_
                        refine tl_nil (tp_normal ?_)
                        refine tc_ret (tp_end1 rfl rfl ?_)
                        intro w' hm
                        have hwd := wider_of (h := (x3 % 24).toNat) hck he181
                        have ew := arrives_of (wider_serves hsv (r := d.ready - x1 % (d.ready + 1)) hwd (by omega) (by omega))
                        have hwa := wider_arrive hsv (r := d.ready - x1 % (d.ready + 1)) hwd (by omega) (by omega)
                        first | exact ⟨by rw [decide_eq_true (by rw [ew, ea]; exact hwa)], hm.below⟩ | (exfalso; rw [ew] at c211; exact c211 rfl)
                    ·
                      refine tl_nil (tp_normal ?_)
                      refine tc_false rfl ?_
                      refine tc_skip (tp_normal ?_)
                      refine tc_seq ?_
                      have hnil : n.links = [] := List.eq_nil_of_length_eq_zero (by omega)
                      refine tc_region ?_
                      refine s0 (qv_ldBW (i := 0) ag_24 rfl rfl rfl) ?_
                      refine s0 (qv_move rfl) ?_
                      refine s0 (qv_ldBW (i := 1) ag_27 rfl rfl rfl) ?_
                      refine s0 (qv_call fn_28 rfl (fun w hm => arrives_calls w n ra166 rc166 l la lc (readyAt d (d.ready - x1 % (d.ready + 1))) hlc (by rw [hnil]; exact SlAt.nothing) hk (hl.into Mem.has_base hm))) ?_
                      refine s0 (qv_move rfl) ?_
                      refine s0 (qv_extract rfl rfl) ?_
                      refine s0 (qv_extract rfl rfl) ?_
                      refine s0 (qv_assign rfl) ?_
                      refine s0 (qv_assign rfl) ?_
                      refine tl_nil (tp_normal ?_)
                      refine tc_seq ?_
                      refine tc_region ?_
                      refine s0 (qv_call fn_30 rfl (fun w hm => sanity_calls w)) ?_
                      refine s0 (qv_move rfl) ?_
                      refine s0g (qv_move rfl) ?_
                      refine sdg (qv_eql rfl rfl) (fun c211 => ?_) (fun c211 => ?_)
                      ·
                        refine s0 (qv_pickT rfl rfl) ?_
                        refine s0 (qv_move rfl) ?_
                        refine s0g (qv_move rfl) ?_
                        refine s0g (qv_move rfl) ?_
                        refine s0g (qv_leq rfl rfl) ?_
                        refine s0 (qv_pickT rfl rfl) ?_
                        refine s0 (qv_assign rfl) ?_
                        refine tl_nil (tp_normal ?_)
                        refine tc_ret (tp_end1 rfl rfl ?_)
                        intro w' hm
                        have hwd := Wider.refl hck
                        have ew := arrives_of (wider_serves hsv (r := d.ready - x1 % (d.ready + 1)) hwd (by omega) (by omega))
                        have hwa := wider_arrive hsv (r := d.ready - x1 % (d.ready + 1)) hwd (by omega) (by omega)
                        first | exact ⟨by rw [decide_eq_true (by rw [ew, ea]; exact hwa)], hm.below⟩ | (exfalso; rw [ew] at c211; exact c211 rfl)
                      ·
                        refine s0 (qv_pickT rfl rfl) ?_
                        refine s0 (qv_move rfl) ?_
                        refine sk ?_
                        refine sk ?_
                        refine sk ?_
                        refine s0 (qv_pickF rfl rfl) ?_
                        refine s0 (qv_assign rfl) ?_
                        refine tl_nil (tp_normal ?_)
                        refine tc_ret (tp_end1 rfl rfl ?_)
                        intro w' hm
                        have hwd := Wider.refl hck
                        have ew := arrives_of (wider_serves hsv (r := d.ready - x1 % (d.ready + 1)) hwd (by omega) (by omega))
                        have hwa := wider_arrive hsv (r := d.ready - x1 % (d.ready + 1)) hwd (by omega) (by omega)
                        first | exact ⟨by rw [decide_eq_true (by rw [ew, ea]; exact hwa)], hm.below⟩ | (exfalso; rw [ew] at c211; exact c211 rfl)
  ·
    refine s0 (qv_assign rfl) ?_
    refine tl_nil (tp_normal ?_)
    refine tc_seq ?_
    refine tc_seq ?_
    refine tc_region ?_
    refine s0 (qv_move rfl) ?_
    refine s0 (qv_not rfl) ?_
    refine s0 (qv_move rfl) ?_
    refine sk ?_
    refine sk ?_
    refine sk ?_
    refine sk ?_
    refine sk ?_
    refine s0 (qv_pickT rfl rfl) ?_
    refine tl_nil (tp_normal ?_)
    refine tc_true rfl ?_
    refine tc_seq ?_
    refine tc_region ?_
    refine s0 (qv_call fn_30 rfl (fun w hm => sanity_calls w)) ?_
    refine s0 (qv_assign rfl) ?_
    refine tl_nil (tp_normal ?_)
    refine tc_ret (tp_then_ret (tp_end1 rfl rfl ?_))
    intro w' hm
    exact ⟨rfl, hm.below⟩

end Go.Q
