/-
  No cell of these rows narrows 'for every input' (looked for: loops, veiled, ifaces, maps, wideKeys, modest, calm, conditions, laid).
  DERIVED. THE GIVEN ROWS OF THIS SEAT. 11 by the template 'for every input the law returns true; each argument reads behind the call as it read before'; 0 by the template 'total and deterministic' (their statements: YtafpeblkodpkmaaTotals.lean).
  GIVEN WITH THE SEED: the statements are not yours to turn. If you find one false, say at which input.
  Laid BY PROGRAM, IN A SANDBOX (cutbox-rows.mjs): the forced cells as the released guide's own fill.sh prints them over the translation 146ed76558a9fef7… (all of the seat's roots in one cut). By AI agents, Wed Nov 11 2026. No macro, syntax, notation, axiom, sorry.
-/
import Derived.Test.YtafpeblkodpkmaaChecked
import GoSem.Claim
import GoSem.ClaimJoined
import GoSem.ClaimMapViews
import Derived.JoinedTies
import Derived.KernelRfl
namespace Go.Proofs.Ytafpeblkodpkmaa
/- THE CELL 'sum', in the pinned program and in every row, IS THE sha256 OF THE DUMP (.gsa) THAT YtafpeblkodpkmaaProg.lean LOADS. Nothing in Lean hashes anything: it is a label: what it is worth is what the hold of that sum in a sandbox is worth. -/
noncomputable def Try.pinned : Pinned := { name := "ytafpeblkodpkmaa", sum := "146ed76558a9fef7626cd15ed28b5d7b3bb4830d01d1aa28d234a5f0c8a784f3", checked := Try.checked }
namespace Rows
def none {H : Type} : Left H := { results := [], args := [] }

/-- 'quietuslaw49.MeterIsAsSpecified': WHATEVER THE INPUT: true; the input reads as it did. -/
def meterIsAsSpecifiedSpec : ChangeSpec := { name := "meterIsAsSpecified", fn := fun _ => fun
  | [d1, d2, d3, d4, d5] => { results := [.lit (.bool true)], args := [d1, d2, d3, d4, d5] }
  | _ => none }
def meterIsAsSpecifiedRow : OpenClaim := { program := "ytafpeblkodpkmaa", sum := "146ed76558a9fef7626cd15ed28b5d7b3bb4830d01d1aa28d234a5f0c8a784f3", func := "quietus/quietuslaw49.MeterIsAsSpecified", spec := "meterIsAsSpecified", unfollowed := true, recurses := true, plainKeys := false, apart := false }
def MeterIsAsSpecifiedSaid : Prop := meterIsAsSpecifiedRow.holds Try.pinned (OpenSpec.ofChange meterIsAsSpecifiedSpec)

/-- ITS FALSE NEIGHBOUR: 'it returns false'. Refute it at one input. -/
def meterIsAsSpecifiedWrong : ChangeSpec := { name := "meterIsAsSpecified", fn := fun _ => fun
  | [d1, d2, d3, d4, d5] => { results := [.lit (.bool false)], args := [d1, d2, d3, d4, d5] }
  | _ => none }
def MeterIsAsSpecifiedWrongFalsely : Prop := meterIsAsSpecifiedRow.holds Try.pinned (OpenSpec.ofChange meterIsAsSpecifiedWrong)

/-- 'quietuslaw49.MeterAddsUp': WHATEVER THE INPUT: true; the input reads as it did. -/
def meterAddsUpSpec : ChangeSpec := { name := "meterAddsUp", fn := fun _ => fun
  | [d1, d2, d3, d4] => { results := [.lit (.bool true)], args := [d1, d2, d3, d4] }
  | _ => none }
def meterAddsUpRow : OpenClaim := { program := "ytafpeblkodpkmaa", sum := "146ed76558a9fef7626cd15ed28b5d7b3bb4830d01d1aa28d234a5f0c8a784f3", func := "quietus/quietuslaw49.MeterAddsUp", spec := "meterAddsUp", unfollowed := true, recurses := true, plainKeys := false, apart := false }
def MeterAddsUpSaid : Prop := meterAddsUpRow.holds Try.pinned (OpenSpec.ofChange meterAddsUpSpec)

/-- ITS FALSE NEIGHBOUR: 'it returns false'. Refute it at one input. -/
def meterAddsUpWrong : ChangeSpec := { name := "meterAddsUp", fn := fun _ => fun
  | [d1, d2, d3, d4] => { results := [.lit (.bool false)], args := [d1, d2, d3, d4] }
  | _ => none }
def MeterAddsUpWrongFalsely : Prop := meterAddsUpRow.holds Try.pinned (OpenSpec.ofChange meterAddsUpWrong)

/-- 'quietuslaw49.MeterDivides': WHATEVER THE INPUT: true; the input reads as it did. -/
def meterDividesSpec : ChangeSpec := { name := "meterDivides", fn := fun _ => fun
  | [d1, d2, d3, d4] => { results := [.lit (.bool true)], args := [d1, d2, d3, d4] }
  | _ => none }
def meterDividesRow : OpenClaim := { program := "ytafpeblkodpkmaa", sum := "146ed76558a9fef7626cd15ed28b5d7b3bb4830d01d1aa28d234a5f0c8a784f3", func := "quietus/quietuslaw49.MeterDivides", spec := "meterDivides", unfollowed := true, recurses := true, plainKeys := false, apart := false }
def MeterDividesSaid : Prop := meterDividesRow.holds Try.pinned (OpenSpec.ofChange meterDividesSpec)

/-- ITS FALSE NEIGHBOUR: 'it returns false'. Refute it at one input. -/
def meterDividesWrong : ChangeSpec := { name := "meterDivides", fn := fun _ => fun
  | [d1, d2, d3, d4] => { results := [.lit (.bool false)], args := [d1, d2, d3, d4] }
  | _ => none }
def MeterDividesWrongFalsely : Prop := meterDividesRow.holds Try.pinned (OpenSpec.ofChange meterDividesWrong)

/-- 'quietuslaw50.SettleDisputesAsSpecified': WHATEVER THE INPUT: true; the input reads as it did. -/
def settleDisputesAsSpecifiedSpec : ChangeSpec := { name := "settleDisputesAsSpecified", fn := fun _ => fun
  | [d1, d2] => { results := [.lit (.bool true)], args := [d1, d2] }
  | _ => none }
def settleDisputesAsSpecifiedRow : OpenClaim := { program := "ytafpeblkodpkmaa", sum := "146ed76558a9fef7626cd15ed28b5d7b3bb4830d01d1aa28d234a5f0c8a784f3", func := "quietus/quietuslaw50.SettleDisputesAsSpecified", spec := "settleDisputesAsSpecified", unfollowed := true, recurses := true, plainKeys := false, apart := false }
def SettleDisputesAsSpecifiedSaid : Prop := settleDisputesAsSpecifiedRow.holds Try.pinned (OpenSpec.ofChange settleDisputesAsSpecifiedSpec)

/-- ITS FALSE NEIGHBOUR: 'it returns false'. Refute it at one input. -/
def settleDisputesAsSpecifiedWrong : ChangeSpec := { name := "settleDisputesAsSpecified", fn := fun _ => fun
  | [d1, d2] => { results := [.lit (.bool false)], args := [d1, d2] }
  | _ => none }
def SettleDisputesAsSpecifiedWrongFalsely : Prop := settleDisputesAsSpecifiedRow.holds Try.pinned (OpenSpec.ofChange settleDisputesAsSpecifiedWrong)

/-- 'quietuslaw50.SettlePaysAsSpecified': WHATEVER THE INPUT: true; the input reads as it did. -/
def settlePaysAsSpecifiedSpec : ChangeSpec := { name := "settlePaysAsSpecified", fn := fun _ => fun
  | [d1, d2] => { results := [.lit (.bool true)], args := [d1, d2] }
  | _ => none }
def settlePaysAsSpecifiedRow : OpenClaim := { program := "ytafpeblkodpkmaa", sum := "146ed76558a9fef7626cd15ed28b5d7b3bb4830d01d1aa28d234a5f0c8a784f3", func := "quietus/quietuslaw50.SettlePaysAsSpecified", spec := "settlePaysAsSpecified", unfollowed := true, recurses := true, plainKeys := false, apart := false }
def SettlePaysAsSpecifiedSaid : Prop := settlePaysAsSpecifiedRow.holds Try.pinned (OpenSpec.ofChange settlePaysAsSpecifiedSpec)

/-- ITS FALSE NEIGHBOUR: 'it returns false'. Refute it at one input. -/
def settlePaysAsSpecifiedWrong : ChangeSpec := { name := "settlePaysAsSpecified", fn := fun _ => fun
  | [d1, d2] => { results := [.lit (.bool false)], args := [d1, d2] }
  | _ => none }
def SettlePaysAsSpecifiedWrongFalsely : Prop := settlePaysAsSpecifiedRow.holds Try.pinned (OpenSpec.ofChange settlePaysAsSpecifiedWrong)

/-- 'quietuslaw50.SettleClearsAsSpecified': WHATEVER THE INPUT: true; the input reads as it did. -/
def settleClearsAsSpecifiedSpec : ChangeSpec := { name := "settleClearsAsSpecified", fn := fun _ => fun
  | [d1, d2, d3] => { results := [.lit (.bool true)], args := [d1, d2, d3] }
  | _ => none }
def settleClearsAsSpecifiedRow : OpenClaim := { program := "ytafpeblkodpkmaa", sum := "146ed76558a9fef7626cd15ed28b5d7b3bb4830d01d1aa28d234a5f0c8a784f3", func := "quietus/quietuslaw50.SettleClearsAsSpecified", spec := "settleClearsAsSpecified", unfollowed := true, recurses := true, plainKeys := false, apart := false }
def SettleClearsAsSpecifiedSaid : Prop := settleClearsAsSpecifiedRow.holds Try.pinned (OpenSpec.ofChange settleClearsAsSpecifiedSpec)

/-- ITS FALSE NEIGHBOUR: 'it returns false'. Refute it at one input. -/
def settleClearsAsSpecifiedWrong : ChangeSpec := { name := "settleClearsAsSpecified", fn := fun _ => fun
  | [d1, d2, d3] => { results := [.lit (.bool false)], args := [d1, d2, d3] }
  | _ => none }
def SettleClearsAsSpecifiedWrongFalsely : Prop := settleClearsAsSpecifiedRow.holds Try.pinned (OpenSpec.ofChange settleClearsAsSpecifiedWrong)

/-- 'quietuslaw50.SettlePaysLeast': WHATEVER THE INPUT: true; the input reads as it did. -/
def settlePaysLeastSpec : ChangeSpec := { name := "settlePaysLeast", fn := fun _ => fun
  | [d1, d2] => { results := [.lit (.bool true)], args := [d1, d2] }
  | _ => none }
def settlePaysLeastRow : OpenClaim := { program := "ytafpeblkodpkmaa", sum := "146ed76558a9fef7626cd15ed28b5d7b3bb4830d01d1aa28d234a5f0c8a784f3", func := "quietus/quietuslaw50.SettlePaysLeast", spec := "settlePaysLeast", unfollowed := true, recurses := true, plainKeys := false, apart := false }
def SettlePaysLeastSaid : Prop := settlePaysLeastRow.holds Try.pinned (OpenSpec.ofChange settlePaysLeastSpec)

/-- ITS FALSE NEIGHBOUR: 'it returns false'. Refute it at one input. -/
def settlePaysLeastWrong : ChangeSpec := { name := "settlePaysLeast", fn := fun _ => fun
  | [d1, d2] => { results := [.lit (.bool false)], args := [d1, d2] }
  | _ => none }
def SettlePaysLeastWrongFalsely : Prop := settlePaysLeastRow.holds Try.pinned (OpenSpec.ofChange settlePaysLeastWrong)

/-- 'quietuslaw50.SettleDisputesBothWays': WHATEVER THE INPUT: true; the input reads as it did. -/
def settleDisputesBothWaysSpec : ChangeSpec := { name := "settleDisputesBothWays", fn := fun _ => fun
  | [d1, d2] => { results := [.lit (.bool true)], args := [d1, d2] }
  | _ => none }
def settleDisputesBothWaysRow : OpenClaim := { program := "ytafpeblkodpkmaa", sum := "146ed76558a9fef7626cd15ed28b5d7b3bb4830d01d1aa28d234a5f0c8a784f3", func := "quietus/quietuslaw50.SettleDisputesBothWays", spec := "settleDisputesBothWays", unfollowed := true, recurses := true, plainKeys := false, apart := false }
def SettleDisputesBothWaysSaid : Prop := settleDisputesBothWaysRow.holds Try.pinned (OpenSpec.ofChange settleDisputesBothWaysSpec)

/-- ITS FALSE NEIGHBOUR: 'it returns false'. Refute it at one input. -/
def settleDisputesBothWaysWrong : ChangeSpec := { name := "settleDisputesBothWays", fn := fun _ => fun
  | [d1, d2] => { results := [.lit (.bool false)], args := [d1, d2] }
  | _ => none }
def SettleDisputesBothWaysWrongFalsely : Prop := settleDisputesBothWaysRow.holds Try.pinned (OpenSpec.ofChange settleDisputesBothWaysWrong)

/-- 'quietuslaw49.MeterSettles': WHATEVER THE INPUT: true; the input reads as it did. -/
def meterSettlesSpec : ChangeSpec := { name := "meterSettles", fn := fun _ => fun
  | [d1, d2, d3, d4, d5] => { results := [.lit (.bool true)], args := [d1, d2, d3, d4, d5] }
  | _ => none }
def meterSettlesRow : OpenClaim := { program := "ytafpeblkodpkmaa", sum := "146ed76558a9fef7626cd15ed28b5d7b3bb4830d01d1aa28d234a5f0c8a784f3", func := "quietus/quietuslaw49.MeterSettles", spec := "meterSettles", unfollowed := true, recurses := true, plainKeys := false, apart := false }
def MeterSettlesSaid : Prop := meterSettlesRow.holds Try.pinned (OpenSpec.ofChange meterSettlesSpec)

/-- ITS FALSE NEIGHBOUR: 'it returns false'. Refute it at one input. -/
def meterSettlesWrong : ChangeSpec := { name := "meterSettles", fn := fun _ => fun
  | [d1, d2, d3, d4, d5] => { results := [.lit (.bool false)], args := [d1, d2, d3, d4, d5] }
  | _ => none }
def MeterSettlesWrongFalsely : Prop := meterSettlesRow.holds Try.pinned (OpenSpec.ofChange meterSettlesWrong)

/-- 'quietuslaw50.SettleClearsBooks': WHATEVER THE INPUT: true; the input reads as it did. -/
def settleClearsBooksSpec : ChangeSpec := { name := "settleClearsBooks", fn := fun _ => fun
  | [d1, d2] => { results := [.lit (.bool true)], args := [d1, d2] }
  | _ => none }
def settleClearsBooksRow : OpenClaim := { program := "ytafpeblkodpkmaa", sum := "146ed76558a9fef7626cd15ed28b5d7b3bb4830d01d1aa28d234a5f0c8a784f3", func := "quietus/quietuslaw50.SettleClearsBooks", spec := "settleClearsBooks", unfollowed := true, recurses := true, plainKeys := false, apart := false }
def SettleClearsBooksSaid : Prop := settleClearsBooksRow.holds Try.pinned (OpenSpec.ofChange settleClearsBooksSpec)

/-- ITS FALSE NEIGHBOUR: 'it returns false'. Refute it at one input. -/
def settleClearsBooksWrong : ChangeSpec := { name := "settleClearsBooks", fn := fun _ => fun
  | [d1, d2] => { results := [.lit (.bool false)], args := [d1, d2] }
  | _ => none }
def SettleClearsBooksWrongFalsely : Prop := settleClearsBooksRow.holds Try.pinned (OpenSpec.ofChange settleClearsBooksWrong)

/-- 'quietuslaw50.SettleFindsOmissions': WHATEVER THE INPUT: true; the input reads as it did. -/
def settleFindsOmissionsSpec : ChangeSpec := { name := "settleFindsOmissions", fn := fun _ => fun
  | [d1, d2, d3] => { results := [.lit (.bool true)], args := [d1, d2, d3] }
  | _ => none }
def settleFindsOmissionsRow : OpenClaim := { program := "ytafpeblkodpkmaa", sum := "146ed76558a9fef7626cd15ed28b5d7b3bb4830d01d1aa28d234a5f0c8a784f3", func := "quietus/quietuslaw50.SettleFindsOmissions", spec := "settleFindsOmissions", unfollowed := true, recurses := true, plainKeys := false, apart := false }
def SettleFindsOmissionsSaid : Prop := settleFindsOmissionsRow.holds Try.pinned (OpenSpec.ofChange settleFindsOmissionsSpec)

/-- ITS FALSE NEIGHBOUR: 'it returns false'. Refute it at one input. -/
def settleFindsOmissionsWrong : ChangeSpec := { name := "settleFindsOmissions", fn := fun _ => fun
  | [d1, d2, d3] => { results := [.lit (.bool false)], args := [d1, d2, d3] }
  | _ => none }
def SettleFindsOmissionsWrongFalsely : Prop := settleFindsOmissionsRow.holds Try.pinned (OpenSpec.ofChange settleFindsOmissionsWrong)

/- THE SECOND FORM. 'bulk': how many values and letters a reading holds, each counted each time it is reached (what is shared counts as often as it is met; a slice's spare places count too). A statement '..UptoSaid' is the law's where the arguments, and the package variables that the reading takes, are together of bulk at most 1048576: NARROWER than '..Said'. Prove '..Said' where nothing that the law and all that it calls make is longer than what came in: it says more and counts as full. Else prove '..UptoSaid'. A law counts once. -/
mutual
def uptoBulk {H : Type} : DataW H → Nat
  | .lit (.string bytes) => bytes.length + 1
  | .lit _ => 1
  | .nil => 1
  | .ptr d => uptoBulk d + 1
  | .slice elems spare => uptoBulkAll elems + uptoBulkAll spare + 1
  | .agg parts => uptoBulkAll parts + 1
  | .iface _ d => uptoBulk d + 1
  | .map entries => uptoBulkEntries entries + 1
  | .held _ => 1
def uptoBulkAll {H : Type} : List (DataW H) → Nat
  | [] => 0
  | d :: r => uptoBulk d + uptoBulkAll r
def uptoBulkEntries {H : Type} : List (Lit × DataW H) → Nat
  | [] => 0
  | x :: r => uptoBulkEntry x + uptoBulkEntries r
def uptoBulkEntry {H : Type} : Lit × DataW H → Nat
  | (.string bytes, d) => bytes.length + uptoBulk d + 1
  | (_, d) => uptoBulk d + 1
 end
def uptoSmall : (H : Type) → List (DataW H) → Bool := fun _ ds => decide (uptoBulkAll ds ≤ 1048576)
def OpenSpec.upto (s : _root_.Go.ChangeSpec) : _root_.Go.OpenSpec := { _root_.Go.OpenSpec.ofChange s with cond := some uptoSmall }

/-- 'quietuslaw49.MeterIsAsSpecified', WHERE WHAT IT READS IS OF BULK AT MOST 1048576: true; the input reads as it did. -/
def meterIsAsSpecifiedUptoRow : OpenClaim := { program := "ytafpeblkodpkmaa", sum := "146ed76558a9fef7626cd15ed28b5d7b3bb4830d01d1aa28d234a5f0c8a784f3", func := "quietus/quietuslaw49.MeterIsAsSpecified", spec := "meterIsAsSpecified", unfollowed := true, recurses := true, plainKeys := false, apart := false, narrowed := true }
def MeterIsAsSpecifiedUptoSaid : Prop := meterIsAsSpecifiedUptoRow.holds Try.pinned (OpenSpec.upto meterIsAsSpecifiedSpec)

/-- 'quietuslaw49.MeterAddsUp', WHERE WHAT IT READS IS OF BULK AT MOST 1048576: true; the input reads as it did. -/
def meterAddsUpUptoRow : OpenClaim := { program := "ytafpeblkodpkmaa", sum := "146ed76558a9fef7626cd15ed28b5d7b3bb4830d01d1aa28d234a5f0c8a784f3", func := "quietus/quietuslaw49.MeterAddsUp", spec := "meterAddsUp", unfollowed := true, recurses := true, plainKeys := false, apart := false, narrowed := true }
def MeterAddsUpUptoSaid : Prop := meterAddsUpUptoRow.holds Try.pinned (OpenSpec.upto meterAddsUpSpec)

/-- 'quietuslaw49.MeterDivides', WHERE WHAT IT READS IS OF BULK AT MOST 1048576: true; the input reads as it did. -/
def meterDividesUptoRow : OpenClaim := { program := "ytafpeblkodpkmaa", sum := "146ed76558a9fef7626cd15ed28b5d7b3bb4830d01d1aa28d234a5f0c8a784f3", func := "quietus/quietuslaw49.MeterDivides", spec := "meterDivides", unfollowed := true, recurses := true, plainKeys := false, apart := false, narrowed := true }
def MeterDividesUptoSaid : Prop := meterDividesUptoRow.holds Try.pinned (OpenSpec.upto meterDividesSpec)

/-- 'quietuslaw50.SettleDisputesAsSpecified', WHERE WHAT IT READS IS OF BULK AT MOST 1048576: true; the input reads as it did. -/
def settleDisputesAsSpecifiedUptoRow : OpenClaim := { program := "ytafpeblkodpkmaa", sum := "146ed76558a9fef7626cd15ed28b5d7b3bb4830d01d1aa28d234a5f0c8a784f3", func := "quietus/quietuslaw50.SettleDisputesAsSpecified", spec := "settleDisputesAsSpecified", unfollowed := true, recurses := true, plainKeys := false, apart := false, narrowed := true }
def SettleDisputesAsSpecifiedUptoSaid : Prop := settleDisputesAsSpecifiedUptoRow.holds Try.pinned (OpenSpec.upto settleDisputesAsSpecifiedSpec)

/-- 'quietuslaw50.SettlePaysAsSpecified', WHERE WHAT IT READS IS OF BULK AT MOST 1048576: true; the input reads as it did. -/
def settlePaysAsSpecifiedUptoRow : OpenClaim := { program := "ytafpeblkodpkmaa", sum := "146ed76558a9fef7626cd15ed28b5d7b3bb4830d01d1aa28d234a5f0c8a784f3", func := "quietus/quietuslaw50.SettlePaysAsSpecified", spec := "settlePaysAsSpecified", unfollowed := true, recurses := true, plainKeys := false, apart := false, narrowed := true }
def SettlePaysAsSpecifiedUptoSaid : Prop := settlePaysAsSpecifiedUptoRow.holds Try.pinned (OpenSpec.upto settlePaysAsSpecifiedSpec)

/-- 'quietuslaw50.SettleClearsAsSpecified', WHERE WHAT IT READS IS OF BULK AT MOST 1048576: true; the input reads as it did. -/
def settleClearsAsSpecifiedUptoRow : OpenClaim := { program := "ytafpeblkodpkmaa", sum := "146ed76558a9fef7626cd15ed28b5d7b3bb4830d01d1aa28d234a5f0c8a784f3", func := "quietus/quietuslaw50.SettleClearsAsSpecified", spec := "settleClearsAsSpecified", unfollowed := true, recurses := true, plainKeys := false, apart := false, narrowed := true }
def SettleClearsAsSpecifiedUptoSaid : Prop := settleClearsAsSpecifiedUptoRow.holds Try.pinned (OpenSpec.upto settleClearsAsSpecifiedSpec)

/-- 'quietuslaw50.SettlePaysLeast', WHERE WHAT IT READS IS OF BULK AT MOST 1048576: true; the input reads as it did. -/
def settlePaysLeastUptoRow : OpenClaim := { program := "ytafpeblkodpkmaa", sum := "146ed76558a9fef7626cd15ed28b5d7b3bb4830d01d1aa28d234a5f0c8a784f3", func := "quietus/quietuslaw50.SettlePaysLeast", spec := "settlePaysLeast", unfollowed := true, recurses := true, plainKeys := false, apart := false, narrowed := true }
def SettlePaysLeastUptoSaid : Prop := settlePaysLeastUptoRow.holds Try.pinned (OpenSpec.upto settlePaysLeastSpec)

/-- 'quietuslaw50.SettleDisputesBothWays', WHERE WHAT IT READS IS OF BULK AT MOST 1048576: true; the input reads as it did. -/
def settleDisputesBothWaysUptoRow : OpenClaim := { program := "ytafpeblkodpkmaa", sum := "146ed76558a9fef7626cd15ed28b5d7b3bb4830d01d1aa28d234a5f0c8a784f3", func := "quietus/quietuslaw50.SettleDisputesBothWays", spec := "settleDisputesBothWays", unfollowed := true, recurses := true, plainKeys := false, apart := false, narrowed := true }
def SettleDisputesBothWaysUptoSaid : Prop := settleDisputesBothWaysUptoRow.holds Try.pinned (OpenSpec.upto settleDisputesBothWaysSpec)

/-- 'quietuslaw49.MeterSettles', WHERE WHAT IT READS IS OF BULK AT MOST 1048576: true; the input reads as it did. -/
def meterSettlesUptoRow : OpenClaim := { program := "ytafpeblkodpkmaa", sum := "146ed76558a9fef7626cd15ed28b5d7b3bb4830d01d1aa28d234a5f0c8a784f3", func := "quietus/quietuslaw49.MeterSettles", spec := "meterSettles", unfollowed := true, recurses := true, plainKeys := false, apart := false, narrowed := true }
def MeterSettlesUptoSaid : Prop := meterSettlesUptoRow.holds Try.pinned (OpenSpec.upto meterSettlesSpec)

/-- 'quietuslaw50.SettleClearsBooks', WHERE WHAT IT READS IS OF BULK AT MOST 1048576: true; the input reads as it did. -/
def settleClearsBooksUptoRow : OpenClaim := { program := "ytafpeblkodpkmaa", sum := "146ed76558a9fef7626cd15ed28b5d7b3bb4830d01d1aa28d234a5f0c8a784f3", func := "quietus/quietuslaw50.SettleClearsBooks", spec := "settleClearsBooks", unfollowed := true, recurses := true, plainKeys := false, apart := false, narrowed := true }
def SettleClearsBooksUptoSaid : Prop := settleClearsBooksUptoRow.holds Try.pinned (OpenSpec.upto settleClearsBooksSpec)

/-- 'quietuslaw50.SettleFindsOmissions', WHERE WHAT IT READS IS OF BULK AT MOST 1048576: true; the input reads as it did. -/
def settleFindsOmissionsUptoRow : OpenClaim := { program := "ytafpeblkodpkmaa", sum := "146ed76558a9fef7626cd15ed28b5d7b3bb4830d01d1aa28d234a5f0c8a784f3", func := "quietus/quietuslaw50.SettleFindsOmissions", spec := "settleFindsOmissions", unfollowed := true, recurses := true, plainKeys := false, apart := false, narrowed := true }
def SettleFindsOmissionsUptoSaid : Prop := settleFindsOmissionsUptoRow.holds Try.pinned (OpenSpec.upto settleFindsOmissionsSpec)

end Rows
end Go.Proofs.Ytafpeblkodpkmaa
