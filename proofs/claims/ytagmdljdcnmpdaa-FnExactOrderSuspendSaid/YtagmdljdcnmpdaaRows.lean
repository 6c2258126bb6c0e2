/-
  NARROWER THAN 'FOR EVERY INPUT', by the rows' own cells (each row's printed sentence says how): FnExactCircleOf: loops · FnExactBuildAll: loops · FnExactOrderSuspend: loops.
  DERIVED. THE GIVEN ROWS OF THIS SEAT. 7 by the template 'for every input the law returns true; each argument reads behind the call as it read before'; 0 by the template 'total and deterministic' (their statements: YtagmdljdcnmpdaaTotals.lean).
  GIVEN WITH THE SEED: the statements are not yours to turn. If you find one false, say at which input.
  Laid BY PROGRAM, IN A SANDBOX (cutbox-rows.mjs): the forced cells as the released guide's own fill.sh prints them over the translation 747142fed0586e00… (all of the seat's roots in one cut). By AI agents, Wed Nov 11 2026. No macro, syntax, notation, axiom, sorry.
-/
import Derived.Test.YtagmdljdcnmpdaaChecked
import GoSem.Claim
import GoSem.ClaimJoined
import GoSem.ClaimMapViews
import Derived.JoinedTies
import Derived.KernelRfl
namespace Go.Proofs.Ytagmdljdcnmpdaa
/- THE CELL 'sum', in the pinned program and in every row, IS THE sha256 OF THE DUMP (.gsa) THAT YtagmdljdcnmpdaaProg.lean LOADS. Nothing in Lean hashes anything: it is a label: what it is worth is what the hold of that sum in a sandbox is worth. -/
noncomputable def Try.pinned : Pinned := { name := "ytagmdljdcnmpdaa", sum := "747142fed0586e008aa402de4c0ca22503fcafd298787e3a418b4575214375b9", checked := Try.checked }
namespace Rows
def none {H : Type} : Left H := { results := [], args := [] }

/-- 'laws.FnBuildKey': WHATEVER THE INPUT: true; the input reads as it did. -/
def fnBuildKeySpec : ChangeSpec := { name := "fnBuildKey", fn := fun _ => fun
  | [d] => { results := [.lit (.bool true)], args := [d] }
  | _ => none }
def fnBuildKeyRow : OpenClaim := { program := "ytagmdljdcnmpdaa", sum := "747142fed0586e008aa402de4c0ca22503fcafd298787e3a418b4575214375b9", func := "loop.example/buildroads/laws.FnBuildKey", spec := "fnBuildKey", unfollowed := true, recurses := true, apart := false }
def FnBuildKeySaid : Prop := fnBuildKeyRow.holds Try.pinned (OpenSpec.ofChange fnBuildKeySpec)

/-- ITS FALSE NEIGHBOUR: 'it returns false'. Refute it at one input. -/
def fnBuildKeyWrong : ChangeSpec := { name := "fnBuildKey", fn := fun _ => fun
  | [d] => { results := [.lit (.bool false)], args := [d] }
  | _ => none }
def FnBuildKeyWrongFalsely : Prop := fnBuildKeyRow.holds Try.pinned (OpenSpec.ofChange fnBuildKeyWrong)

/-- 'laws.FnSheetSafe': WHATEVER THE INPUT: true; the input reads as it did. -/
def fnSheetSafeSpec : ChangeSpec := { name := "fnSheetSafe", fn := fun _ => fun
  | [d] => { results := [.lit (.bool true)], args := [d] }
  | _ => none }
def fnSheetSafeRow : OpenClaim := { program := "ytagmdljdcnmpdaa", sum := "747142fed0586e008aa402de4c0ca22503fcafd298787e3a418b4575214375b9", func := "loop.example/buildroads/laws.FnSheetSafe", spec := "fnSheetSafe", unfollowed := true, recurses := true, apart := false }
def FnSheetSafeSaid : Prop := fnSheetSafeRow.holds Try.pinned (OpenSpec.ofChange fnSheetSafeSpec)

/-- ITS FALSE NEIGHBOUR: 'it returns false'. Refute it at one input. -/
def fnSheetSafeWrong : ChangeSpec := { name := "fnSheetSafe", fn := fun _ => fun
  | [d] => { results := [.lit (.bool false)], args := [d] }
  | _ => none }
def FnSheetSafeWrongFalsely : Prop := fnSheetSafeRow.holds Try.pinned (OpenSpec.ofChange fnSheetSafeWrong)

/-- 'laws.FnBuildAll': WHATEVER THE INPUT: true; the input reads as it did. -/
def fnBuildAllSpec : ChangeSpec := { name := "fnBuildAll", fn := fun _ => fun
  | [d] => { results := [.lit (.bool true)], args := [d] }
  | _ => none }
def fnBuildAllRow : OpenClaim := { program := "ytagmdljdcnmpdaa", sum := "747142fed0586e008aa402de4c0ca22503fcafd298787e3a418b4575214375b9", func := "loop.example/buildroads/laws.FnBuildAll", spec := "fnBuildAll", unfollowed := true, recurses := true, apart := false }
def FnBuildAllSaid : Prop := fnBuildAllRow.holds Try.pinned (OpenSpec.ofChange fnBuildAllSpec)

/-- ITS FALSE NEIGHBOUR: 'it returns false'. Refute it at one input. -/
def fnBuildAllWrong : ChangeSpec := { name := "fnBuildAll", fn := fun _ => fun
  | [d] => { results := [.lit (.bool false)], args := [d] }
  | _ => none }
def FnBuildAllWrongFalsely : Prop := fnBuildAllRow.holds Try.pinned (OpenSpec.ofChange fnBuildAllWrong)

/-- 'laws.FnCircleOf': WHATEVER THE INPUT: true; the input reads as it did. -/
def fnCircleOfSpec : ChangeSpec := { name := "fnCircleOf", fn := fun _ => fun
  | [d] => { results := [.lit (.bool true)], args := [d] }
  | _ => none }
def fnCircleOfRow : OpenClaim := { program := "ytagmdljdcnmpdaa", sum := "747142fed0586e008aa402de4c0ca22503fcafd298787e3a418b4575214375b9", func := "loop.example/buildroads/laws.FnCircleOf", spec := "fnCircleOf", unfollowed := true, recurses := true, apart := false }
def FnCircleOfSaid : Prop := fnCircleOfRow.holds Try.pinned (OpenSpec.ofChange fnCircleOfSpec)

/-- ITS FALSE NEIGHBOUR: 'it returns false'. Refute it at one input. -/
def fnCircleOfWrong : ChangeSpec := { name := "fnCircleOf", fn := fun _ => fun
  | [d] => { results := [.lit (.bool false)], args := [d] }
  | _ => none }
def FnCircleOfWrongFalsely : Prop := fnCircleOfRow.holds Try.pinned (OpenSpec.ofChange fnCircleOfWrong)

/-- 'laws.FnExactCircleOf': WHATEVER THE INPUT: true; the input reads as it did. -/
def fnExactCircleOfSpec : ChangeSpec := { name := "fnExactCircleOf", fn := fun _ => fun
  | [d1, d2, d3] => { results := [.lit (.bool true)], args := [d1, d2, d3] }
  | _ => none }
def fnExactCircleOfRow : OpenClaim := { program := "ytagmdljdcnmpdaa", sum := "747142fed0586e008aa402de4c0ca22503fcafd298787e3a418b4575214375b9", func := "loop.example/buildroads/laws.FnExactCircleOf", spec := "fnExactCircleOf", unfollowed := true, recurses := true, loops := true, apart := false }
def FnExactCircleOfSaid : Prop := fnExactCircleOfRow.holds Try.pinned (OpenSpec.ofChange fnExactCircleOfSpec)

/-- ITS FALSE NEIGHBOUR: 'it returns false'. Refute it at one input. -/
def fnExactCircleOfWrong : ChangeSpec := { name := "fnExactCircleOf", fn := fun _ => fun
  | [d1, d2, d3] => { results := [.lit (.bool false)], args := [d1, d2, d3] }
  | _ => none }
def FnExactCircleOfWrongFalsely : Prop := fnExactCircleOfRow.holds Try.pinned (OpenSpec.ofChange fnExactCircleOfWrong)

/-- 'laws.FnExactBuildAll': WHATEVER THE INPUT: true; the input reads as it did. -/
def fnExactBuildAllSpec : ChangeSpec := { name := "fnExactBuildAll", fn := fun _ => fun
  | [d1, d2] => { results := [.lit (.bool true)], args := [d1, d2] }
  | _ => none }
def fnExactBuildAllRow : OpenClaim := { program := "ytagmdljdcnmpdaa", sum := "747142fed0586e008aa402de4c0ca22503fcafd298787e3a418b4575214375b9", func := "loop.example/buildroads/laws.FnExactBuildAll", spec := "fnExactBuildAll", unfollowed := true, recurses := true, loops := true, apart := false }
def FnExactBuildAllSaid : Prop := fnExactBuildAllRow.holds Try.pinned (OpenSpec.ofChange fnExactBuildAllSpec)

/-- ITS FALSE NEIGHBOUR: 'it returns false'. Refute it at one input. -/
def fnExactBuildAllWrong : ChangeSpec := { name := "fnExactBuildAll", fn := fun _ => fun
  | [d1, d2] => { results := [.lit (.bool false)], args := [d1, d2] }
  | _ => none }
def FnExactBuildAllWrongFalsely : Prop := fnExactBuildAllRow.holds Try.pinned (OpenSpec.ofChange fnExactBuildAllWrong)

/-- 'laws.FnExactOrderSuspend': WHATEVER THE INPUT: true; the input reads as it did. -/
def fnExactOrderSuspendSpec : ChangeSpec := { name := "fnExactOrderSuspend", fn := fun _ => fun
  | [d1, d2, d3] => { results := [.lit (.bool true)], args := [d1, d2, d3] }
  | _ => none }
def fnExactOrderSuspendRow : OpenClaim := { program := "ytagmdljdcnmpdaa", sum := "747142fed0586e008aa402de4c0ca22503fcafd298787e3a418b4575214375b9", func := "loop.example/buildroads/laws.FnExactOrderSuspend", spec := "fnExactOrderSuspend", unfollowed := true, recurses := true, loops := true, apart := false }
def FnExactOrderSuspendSaid : Prop := fnExactOrderSuspendRow.holds Try.pinned (OpenSpec.ofChange fnExactOrderSuspendSpec)

/-- ITS FALSE NEIGHBOUR: 'it returns false'. Refute it at one input. -/
def fnExactOrderSuspendWrong : ChangeSpec := { name := "fnExactOrderSuspend", fn := fun _ => fun
  | [d1, d2, d3] => { results := [.lit (.bool false)], args := [d1, d2, d3] }
  | _ => none }
def FnExactOrderSuspendWrongFalsely : Prop := fnExactOrderSuspendRow.holds Try.pinned (OpenSpec.ofChange fnExactOrderSuspendWrong)

/- THE SECOND FORM. 'bulk': how many values and letters a reading holds, each counted each time it is reached (what is shared counts as often as it is met; a slice's spare places count too). A statement '..UptoSaid' is the law's where the arguments, and the package variables that the reading takes, are together of bulk at most 1048576: NARROWER than '..Said'. Prove '..Said' where nothing that the law and all that it calls make is longer than what came in: it says more and counts as full. Else prove '..UptoSaid'. A law counts once. -/
mutual
def uptoBulk {H : Type} : DataW H → Nat
  | .lit (.string bytes) => bytes.length + 1
  | .lit _ => 1
  | .nil => 1
  | .ptr d => uptoBulk d + 1
  | .slice elems spare => uptoBulkAll elems + uptoBulkAll spare + 1
  | .agg parts => uptoBulkAll parts + 1
  | .iface _ d => uptoBulk d + 1
  | .map entries => uptoBulkEntries entries + 1
  | .held _ => 1
def uptoBulkAll {H : Type} : List (DataW H) → Nat
  | [] => 0
  | d :: r => uptoBulk d + uptoBulkAll r
def uptoBulkEntries {H : Type} : List (Lit × DataW H) → Nat
  | [] => 0
  | x :: r => uptoBulkEntry x + uptoBulkEntries r
def uptoBulkEntry {H : Type} : Lit × DataW H → Nat
  | (.string bytes, d) => bytes.length + uptoBulk d + 1
  | (_, d) => uptoBulk d + 1
 end
def uptoSmall : (H : Type) → List (DataW H) → Bool := fun _ ds => decide (uptoBulkAll ds ≤ 1048576)
def OpenSpec.upto (s : _root_.Go.ChangeSpec) : _root_.Go.OpenSpec := { _root_.Go.OpenSpec.ofChange s with cond := some uptoSmall }

/-- 'laws.FnBuildKey', WHERE WHAT IT READS IS OF BULK AT MOST 1048576: true; the input reads as it did. -/
def fnBuildKeyUptoRow : OpenClaim := { program := "ytagmdljdcnmpdaa", sum := "747142fed0586e008aa402de4c0ca22503fcafd298787e3a418b4575214375b9", func := "loop.example/buildroads/laws.FnBuildKey", spec := "fnBuildKey", unfollowed := true, recurses := true, apart := false, narrowed := true }
def FnBuildKeyUptoSaid : Prop := fnBuildKeyUptoRow.holds Try.pinned (OpenSpec.upto fnBuildKeySpec)

/-- 'laws.FnSheetSafe', WHERE WHAT IT READS IS OF BULK AT MOST 1048576: true; the input reads as it did. -/
def fnSheetSafeUptoRow : OpenClaim := { program := "ytagmdljdcnmpdaa", sum := "747142fed0586e008aa402de4c0ca22503fcafd298787e3a418b4575214375b9", func := "loop.example/buildroads/laws.FnSheetSafe", spec := "fnSheetSafe", unfollowed := true, recurses := true, apart := false, narrowed := true }
def FnSheetSafeUptoSaid : Prop := fnSheetSafeUptoRow.holds Try.pinned (OpenSpec.upto fnSheetSafeSpec)

/-- 'laws.FnBuildAll', WHERE WHAT IT READS IS OF BULK AT MOST 1048576: true; the input reads as it did. -/
def fnBuildAllUptoRow : OpenClaim := { program := "ytagmdljdcnmpdaa", sum := "747142fed0586e008aa402de4c0ca22503fcafd298787e3a418b4575214375b9", func := "loop.example/buildroads/laws.FnBuildAll", spec := "fnBuildAll", unfollowed := true, recurses := true, apart := false, narrowed := true }
def FnBuildAllUptoSaid : Prop := fnBuildAllUptoRow.holds Try.pinned (OpenSpec.upto fnBuildAllSpec)

/-- 'laws.FnCircleOf', WHERE WHAT IT READS IS OF BULK AT MOST 1048576: true; the input reads as it did. -/
def fnCircleOfUptoRow : OpenClaim := { program := "ytagmdljdcnmpdaa", sum := "747142fed0586e008aa402de4c0ca22503fcafd298787e3a418b4575214375b9", func := "loop.example/buildroads/laws.FnCircleOf", spec := "fnCircleOf", unfollowed := true, recurses := true, apart := false, narrowed := true }
def FnCircleOfUptoSaid : Prop := fnCircleOfUptoRow.holds Try.pinned (OpenSpec.upto fnCircleOfSpec)

/-- 'laws.FnExactCircleOf', WHERE WHAT IT READS IS OF BULK AT MOST 1048576: true; the input reads as it did. -/
def fnExactCircleOfUptoRow : OpenClaim := { program := "ytagmdljdcnmpdaa", sum := "747142fed0586e008aa402de4c0ca22503fcafd298787e3a418b4575214375b9", func := "loop.example/buildroads/laws.FnExactCircleOf", spec := "fnExactCircleOf", unfollowed := true, recurses := true, loops := true, apart := false, narrowed := true }
def FnExactCircleOfUptoSaid : Prop := fnExactCircleOfUptoRow.holds Try.pinned (OpenSpec.upto fnExactCircleOfSpec)

/-- 'laws.FnExactBuildAll', WHERE WHAT IT READS IS OF BULK AT MOST 1048576: true; the input reads as it did. -/
def fnExactBuildAllUptoRow : OpenClaim := { program := "ytagmdljdcnmpdaa", sum := "747142fed0586e008aa402de4c0ca22503fcafd298787e3a418b4575214375b9", func := "loop.example/buildroads/laws.FnExactBuildAll", spec := "fnExactBuildAll", unfollowed := true, recurses := true, loops := true, apart := false, narrowed := true }
def FnExactBuildAllUptoSaid : Prop := fnExactBuildAllUptoRow.holds Try.pinned (OpenSpec.upto fnExactBuildAllSpec)

/-- 'laws.FnExactOrderSuspend', WHERE WHAT IT READS IS OF BULK AT MOST 1048576: true; the input reads as it did. -/
def fnExactOrderSuspendUptoRow : OpenClaim := { program := "ytagmdljdcnmpdaa", sum := "747142fed0586e008aa402de4c0ca22503fcafd298787e3a418b4575214375b9", func := "loop.example/buildroads/laws.FnExactOrderSuspend", spec := "fnExactOrderSuspend", unfollowed := true, recurses := true, loops := true, apart := false, narrowed := true }
def FnExactOrderSuspendUptoSaid : Prop := fnExactOrderSuspendUptoRow.holds Try.pinned (OpenSpec.upto fnExactOrderSuspendSpec)

end Rows
end Go.Proofs.Ytagmdljdcnmpdaa
