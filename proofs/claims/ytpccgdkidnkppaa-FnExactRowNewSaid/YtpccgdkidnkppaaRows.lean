/-
  NARROWER THAN 'FOR EVERY INPUT', by the rows' own cells (each row's printed sentence says how): FnExactOrderFits: loops · FnExactRowNew: loops.
  DERIVED. THE GIVEN ROWS OF THIS SEAT. 9 by the template 'for every input the law returns true; each argument reads behind the call as it read before'; 0 by the template 'total and deterministic' (their statements: YtpccgdkidnkppaaTotals.lean).
  GIVEN WITH THE SEED: the statements are not yours to turn. If you find one false, say at which input.
  Laid BY PROGRAM, IN A SANDBOX (cutbox-rows.mjs): the forced cells as the released guide's own fill.sh prints them over the translation 1427c90a71819d52… (all of the seat's roots in one cut). By AI agents, Wed Nov 11 2026. No macro, syntax, notation, axiom, sorry.
-/
import Derived.Test.YtpccgdkidnkppaaChecked
import GoSem.Claim
import GoSem.ClaimJoined
import GoSem.ClaimMapViews
import Derived.JoinedTies
import Derived.KernelRfl
namespace Go.Proofs.Ytpccgdkidnkppaa
/- THE CELL 'sum', in the pinned program and in every row, IS THE sha256 OF THE DUMP (.gsa) THAT YtpccgdkidnkppaaProg.lean LOADS. Nothing in Lean hashes anything: it is a label: what it is worth is what the hold of that sum in a sandbox is worth. -/
noncomputable def Try.pinned : Pinned := { name := "ytpccgdkidnkppaa", sum := "1427c90a71819d52972795c16abe98843ef65ff3ba5b1c94bbb734cee8e114c9", checked := Try.checked }
namespace Rows
def none {H : Type} : Left H := { results := [], args := [] }

/-- 'laws.FnExactOrderFits': WHATEVER THE INPUT: true; the input reads as it did. -/
def fnExactOrderFitsSpec : ChangeSpec := { name := "fnExactOrderFits", fn := fun _ => fun
  | [d1, d2, d3] => { results := [.lit (.bool true)], args := [d1, d2, d3] }
  | _ => none }
def fnExactOrderFitsRow : OpenClaim := { program := "ytpccgdkidnkppaa", sum := "1427c90a71819d52972795c16abe98843ef65ff3ba5b1c94bbb734cee8e114c9", func := "loop.example/buildroads/laws.FnExactOrderFits", spec := "fnExactOrderFits", unfollowed := true, recurses := true, loops := true, apart := false }
def FnExactOrderFitsSaid : Prop := fnExactOrderFitsRow.holds Try.pinned (OpenSpec.ofChange fnExactOrderFitsSpec)

/-- ITS FALSE NEIGHBOUR: 'it returns false'. Refute it at one input. -/
def fnExactOrderFitsWrong : ChangeSpec := { name := "fnExactOrderFits", fn := fun _ => fun
  | [d1, d2, d3] => { results := [.lit (.bool false)], args := [d1, d2, d3] }
  | _ => none }
def FnExactOrderFitsWrongFalsely : Prop := fnExactOrderFitsRow.holds Try.pinned (OpenSpec.ofChange fnExactOrderFitsWrong)

/-- 'laws.FnOrderFits': WHATEVER THE INPUT: true; the input reads as it did. -/
def fnOrderFitsSpec : ChangeSpec := { name := "fnOrderFits", fn := fun _ => fun
  | [d] => { results := [.lit (.bool true)], args := [d] }
  | _ => none }
def fnOrderFitsRow : OpenClaim := { program := "ytpccgdkidnkppaa", sum := "1427c90a71819d52972795c16abe98843ef65ff3ba5b1c94bbb734cee8e114c9", func := "loop.example/buildroads/laws.FnOrderFits", spec := "fnOrderFits", unfollowed := true, recurses := true, apart := false }
def FnOrderFitsSaid : Prop := fnOrderFitsRow.holds Try.pinned (OpenSpec.ofChange fnOrderFitsSpec)

/-- ITS FALSE NEIGHBOUR: 'it returns false'. Refute it at one input. -/
def fnOrderFitsWrong : ChangeSpec := { name := "fnOrderFits", fn := fun _ => fun
  | [d] => { results := [.lit (.bool false)], args := [d] }
  | _ => none }
def FnOrderFitsWrongFalsely : Prop := fnOrderFitsRow.holds Try.pinned (OpenSpec.ofChange fnOrderFitsWrong)

/-- 'laws.FnOrderTopo': WHATEVER THE INPUT: true; the input reads as it did. -/
def fnOrderTopoSpec : ChangeSpec := { name := "fnOrderTopo", fn := fun _ => fun
  | [d] => { results := [.lit (.bool true)], args := [d] }
  | _ => none }
def fnOrderTopoRow : OpenClaim := { program := "ytpccgdkidnkppaa", sum := "1427c90a71819d52972795c16abe98843ef65ff3ba5b1c94bbb734cee8e114c9", func := "loop.example/buildroads/laws.FnOrderTopo", spec := "fnOrderTopo", unfollowed := true, recurses := true, apart := false }
def FnOrderTopoSaid : Prop := fnOrderTopoRow.holds Try.pinned (OpenSpec.ofChange fnOrderTopoSpec)

/-- ITS FALSE NEIGHBOUR: 'it returns false'. Refute it at one input. -/
def fnOrderTopoWrong : ChangeSpec := { name := "fnOrderTopo", fn := fun _ => fun
  | [d] => { results := [.lit (.bool false)], args := [d] }
  | _ => none }
def FnOrderTopoWrongFalsely : Prop := fnOrderTopoRow.holds Try.pinned (OpenSpec.ofChange fnOrderTopoWrong)

/-- 'laws.FnOrderSuspend': WHATEVER THE INPUT: true; the input reads as it did. -/
def fnOrderSuspendSpec : ChangeSpec := { name := "fnOrderSuspend", fn := fun _ => fun
  | [d] => { results := [.lit (.bool true)], args := [d] }
  | _ => none }
def fnOrderSuspendRow : OpenClaim := { program := "ytpccgdkidnkppaa", sum := "1427c90a71819d52972795c16abe98843ef65ff3ba5b1c94bbb734cee8e114c9", func := "loop.example/buildroads/laws.FnOrderSuspend", spec := "fnOrderSuspend", unfollowed := true, recurses := true, apart := false }
def FnOrderSuspendSaid : Prop := fnOrderSuspendRow.holds Try.pinned (OpenSpec.ofChange fnOrderSuspendSpec)

/-- ITS FALSE NEIGHBOUR: 'it returns false'. Refute it at one input. -/
def fnOrderSuspendWrong : ChangeSpec := { name := "fnOrderSuspend", fn := fun _ => fun
  | [d] => { results := [.lit (.bool false)], args := [d] }
  | _ => none }
def FnOrderSuspendWrongFalsely : Prop := fnOrderSuspendRow.holds Try.pinned (OpenSpec.ofChange fnOrderSuspendWrong)

/-- 'laws.FnOrderRestart': WHATEVER THE INPUT: true; the input reads as it did. -/
def fnOrderRestartSpec : ChangeSpec := { name := "fnOrderRestart", fn := fun _ => fun
  | [d] => { results := [.lit (.bool true)], args := [d] }
  | _ => none }
def fnOrderRestartRow : OpenClaim := { program := "ytpccgdkidnkppaa", sum := "1427c90a71819d52972795c16abe98843ef65ff3ba5b1c94bbb734cee8e114c9", func := "loop.example/buildroads/laws.FnOrderRestart", spec := "fnOrderRestart", unfollowed := true, recurses := true, apart := false }
def FnOrderRestartSaid : Prop := fnOrderRestartRow.holds Try.pinned (OpenSpec.ofChange fnOrderRestartSpec)

/-- ITS FALSE NEIGHBOUR: 'it returns false'. Refute it at one input. -/
def fnOrderRestartWrong : ChangeSpec := { name := "fnOrderRestart", fn := fun _ => fun
  | [d] => { results := [.lit (.bool false)], args := [d] }
  | _ => none }
def FnOrderRestartWrongFalsely : Prop := fnOrderRestartRow.holds Try.pinned (OpenSpec.ofChange fnOrderRestartWrong)

/-- 'laws.FnRowNew': WHATEVER THE INPUT: true; the input reads as it did. -/
def fnRowNewSpec : ChangeSpec := { name := "fnRowNew", fn := fun _ => fun
  | [d] => { results := [.lit (.bool true)], args := [d] }
  | _ => none }
def fnRowNewRow : OpenClaim := { program := "ytpccgdkidnkppaa", sum := "1427c90a71819d52972795c16abe98843ef65ff3ba5b1c94bbb734cee8e114c9", func := "loop.example/buildroads/laws.FnRowNew", spec := "fnRowNew", unfollowed := true, recurses := true, apart := false }
def FnRowNewSaid : Prop := fnRowNewRow.holds Try.pinned (OpenSpec.ofChange fnRowNewSpec)

/-- ITS FALSE NEIGHBOUR: 'it returns false'. Refute it at one input. -/
def fnRowNewWrong : ChangeSpec := { name := "fnRowNew", fn := fun _ => fun
  | [d] => { results := [.lit (.bool false)], args := [d] }
  | _ => none }
def FnRowNewWrongFalsely : Prop := fnRowNewRow.holds Try.pinned (OpenSpec.ofChange fnRowNewWrong)

/-- 'laws.FnExactRowNew': WHATEVER THE INPUT: true; the input reads as it did. -/
def fnExactRowNewSpec : ChangeSpec := { name := "fnExactRowNew", fn := fun _ => fun
  | [d1, d2] => { results := [.lit (.bool true)], args := [d1, d2] }
  | _ => none }
def fnExactRowNewRow : OpenClaim := { program := "ytpccgdkidnkppaa", sum := "1427c90a71819d52972795c16abe98843ef65ff3ba5b1c94bbb734cee8e114c9", func := "loop.example/buildroads/laws.FnExactRowNew", spec := "fnExactRowNew", unfollowed := true, recurses := true, loops := true, apart := false }
def FnExactRowNewSaid : Prop := fnExactRowNewRow.holds Try.pinned (OpenSpec.ofChange fnExactRowNewSpec)

/-- ITS FALSE NEIGHBOUR: 'it returns false'. Refute it at one input. -/
def fnExactRowNewWrong : ChangeSpec := { name := "fnExactRowNew", fn := fun _ => fun
  | [d1, d2] => { results := [.lit (.bool false)], args := [d1, d2] }
  | _ => none }
def FnExactRowNewWrongFalsely : Prop := fnExactRowNewRow.holds Try.pinned (OpenSpec.ofChange fnExactRowNewWrong)

/-- 'laws.FnWorkValues': WHATEVER THE INPUT: true; the input reads as it did. -/
def fnWorkValuesSpec : ChangeSpec := { name := "fnWorkValues", fn := fun _ => fun
  | [d] => { results := [.lit (.bool true)], args := [d] }
  | _ => none }
def fnWorkValuesRow : OpenClaim := { program := "ytpccgdkidnkppaa", sum := "1427c90a71819d52972795c16abe98843ef65ff3ba5b1c94bbb734cee8e114c9", func := "loop.example/buildroads/laws.FnWorkValues", spec := "fnWorkValues", unfollowed := true, recurses := true, apart := false }
def FnWorkValuesSaid : Prop := fnWorkValuesRow.holds Try.pinned (OpenSpec.ofChange fnWorkValuesSpec)

/-- ITS FALSE NEIGHBOUR: 'it returns false'. Refute it at one input. -/
def fnWorkValuesWrong : ChangeSpec := { name := "fnWorkValues", fn := fun _ => fun
  | [d] => { results := [.lit (.bool false)], args := [d] }
  | _ => none }
def FnWorkValuesWrongFalsely : Prop := fnWorkValuesRow.holds Try.pinned (OpenSpec.ofChange fnWorkValuesWrong)

/-- 'laws.FnWorkWanted': WHATEVER THE INPUT: true; the input reads as it did. -/
def fnWorkWantedSpec : ChangeSpec := { name := "fnWorkWanted", fn := fun _ => fun
  | [d] => { results := [.lit (.bool true)], args := [d] }
  | _ => none }
def fnWorkWantedRow : OpenClaim := { program := "ytpccgdkidnkppaa", sum := "1427c90a71819d52972795c16abe98843ef65ff3ba5b1c94bbb734cee8e114c9", func := "loop.example/buildroads/laws.FnWorkWanted", spec := "fnWorkWanted", unfollowed := true, recurses := true, apart := false }
def FnWorkWantedSaid : Prop := fnWorkWantedRow.holds Try.pinned (OpenSpec.ofChange fnWorkWantedSpec)

/-- ITS FALSE NEIGHBOUR: 'it returns false'. Refute it at one input. -/
def fnWorkWantedWrong : ChangeSpec := { name := "fnWorkWanted", fn := fun _ => fun
  | [d] => { results := [.lit (.bool false)], args := [d] }
  | _ => none }
def FnWorkWantedWrongFalsely : Prop := fnWorkWantedRow.holds Try.pinned (OpenSpec.ofChange fnWorkWantedWrong)

/- THE SECOND FORM. 'bulk': how many values and letters a reading holds, each counted each time it is reached (what is shared counts as often as it is met; a slice's spare places count too). A statement '..UptoSaid' is the law's where the arguments, and the package variables that the reading takes, are together of bulk at most 1048576: NARROWER than '..Said'. Prove '..Said' where nothing that the law and all that it calls make is longer than what came in: it says more and counts as full. Else prove '..UptoSaid'. A law counts once. -/
mutual
def uptoBulk {H : Type} : DataW H → Nat
  | .lit (.string bytes) => bytes.length + 1
  | .lit _ => 1
  | .nil => 1
  | .ptr d => uptoBulk d + 1
  | .slice elems spare => uptoBulkAll elems + uptoBulkAll spare + 1
  | .agg parts => uptoBulkAll parts + 1
  | .iface _ d => uptoBulk d + 1
  | .map entries => uptoBulkEntries entries + 1
  | .held _ => 1
def uptoBulkAll {H : Type} : List (DataW H) → Nat
  | [] => 0
  | d :: r => uptoBulk d + uptoBulkAll r
def uptoBulkEntries {H : Type} : List (Lit × DataW H) → Nat
  | [] => 0
  | x :: r => uptoBulkEntry x + uptoBulkEntries r
def uptoBulkEntry {H : Type} : Lit × DataW H → Nat
  | (.string bytes, d) => bytes.length + uptoBulk d + 1
  | (_, d) => uptoBulk d + 1
 end
def uptoSmall : (H : Type) → List (DataW H) → Bool := fun _ ds => decide (uptoBulkAll ds ≤ 1048576)
def OpenSpec.upto (s : _root_.Go.ChangeSpec) : _root_.Go.OpenSpec := { _root_.Go.OpenSpec.ofChange s with cond := some uptoSmall }

/-- 'laws.FnExactOrderFits', WHERE WHAT IT READS IS OF BULK AT MOST 1048576: true; the input reads as it did. -/
def fnExactOrderFitsUptoRow : OpenClaim := { program := "ytpccgdkidnkppaa", sum := "1427c90a71819d52972795c16abe98843ef65ff3ba5b1c94bbb734cee8e114c9", func := "loop.example/buildroads/laws.FnExactOrderFits", spec := "fnExactOrderFits", unfollowed := true, recurses := true, loops := true, apart := false, narrowed := true }
def FnExactOrderFitsUptoSaid : Prop := fnExactOrderFitsUptoRow.holds Try.pinned (OpenSpec.upto fnExactOrderFitsSpec)

/-- 'laws.FnOrderFits', WHERE WHAT IT READS IS OF BULK AT MOST 1048576: true; the input reads as it did. -/
def fnOrderFitsUptoRow : OpenClaim := { program := "ytpccgdkidnkppaa", sum := "1427c90a71819d52972795c16abe98843ef65ff3ba5b1c94bbb734cee8e114c9", func := "loop.example/buildroads/laws.FnOrderFits", spec := "fnOrderFits", unfollowed := true, recurses := true, apart := false, narrowed := true }
def FnOrderFitsUptoSaid : Prop := fnOrderFitsUptoRow.holds Try.pinned (OpenSpec.upto fnOrderFitsSpec)

/-- 'laws.FnOrderTopo', WHERE WHAT IT READS IS OF BULK AT MOST 1048576: true; the input reads as it did. -/
def fnOrderTopoUptoRow : OpenClaim := { program := "ytpccgdkidnkppaa", sum := "1427c90a71819d52972795c16abe98843ef65ff3ba5b1c94bbb734cee8e114c9", func := "loop.example/buildroads/laws.FnOrderTopo", spec := "fnOrderTopo", unfollowed := true, recurses := true, apart := false, narrowed := true }
def FnOrderTopoUptoSaid : Prop := fnOrderTopoUptoRow.holds Try.pinned (OpenSpec.upto fnOrderTopoSpec)

/-- 'laws.FnOrderSuspend', WHERE WHAT IT READS IS OF BULK AT MOST 1048576: true; the input reads as it did. -/
def fnOrderSuspendUptoRow : OpenClaim := { program := "ytpccgdkidnkppaa", sum := "1427c90a71819d52972795c16abe98843ef65ff3ba5b1c94bbb734cee8e114c9", func := "loop.example/buildroads/laws.FnOrderSuspend", spec := "fnOrderSuspend", unfollowed := true, recurses := true, apart := false, narrowed := true }
def FnOrderSuspendUptoSaid : Prop := fnOrderSuspendUptoRow.holds Try.pinned (OpenSpec.upto fnOrderSuspendSpec)

/-- 'laws.FnOrderRestart', WHERE WHAT IT READS IS OF BULK AT MOST 1048576: true; the input reads as it did. -/
def fnOrderRestartUptoRow : OpenClaim := { program := "ytpccgdkidnkppaa", sum := "1427c90a71819d52972795c16abe98843ef65ff3ba5b1c94bbb734cee8e114c9", func := "loop.example/buildroads/laws.FnOrderRestart", spec := "fnOrderRestart", unfollowed := true, recurses := true, apart := false, narrowed := true }
def FnOrderRestartUptoSaid : Prop := fnOrderRestartUptoRow.holds Try.pinned (OpenSpec.upto fnOrderRestartSpec)

/-- 'laws.FnRowNew', WHERE WHAT IT READS IS OF BULK AT MOST 1048576: true; the input reads as it did. -/
def fnRowNewUptoRow : OpenClaim := { program := "ytpccgdkidnkppaa", sum := "1427c90a71819d52972795c16abe98843ef65ff3ba5b1c94bbb734cee8e114c9", func := "loop.example/buildroads/laws.FnRowNew", spec := "fnRowNew", unfollowed := true, recurses := true, apart := false, narrowed := true }
def FnRowNewUptoSaid : Prop := fnRowNewUptoRow.holds Try.pinned (OpenSpec.upto fnRowNewSpec)

/-- 'laws.FnExactRowNew', WHERE WHAT IT READS IS OF BULK AT MOST 1048576: true; the input reads as it did. -/
def fnExactRowNewUptoRow : OpenClaim := { program := "ytpccgdkidnkppaa", sum := "1427c90a71819d52972795c16abe98843ef65ff3ba5b1c94bbb734cee8e114c9", func := "loop.example/buildroads/laws.FnExactRowNew", spec := "fnExactRowNew", unfollowed := true, recurses := true, loops := true, apart := false, narrowed := true }
def FnExactRowNewUptoSaid : Prop := fnExactRowNewUptoRow.holds Try.pinned (OpenSpec.upto fnExactRowNewSpec)

/-- 'laws.FnWorkValues', WHERE WHAT IT READS IS OF BULK AT MOST 1048576: true; the input reads as it did. -/
def fnWorkValuesUptoRow : OpenClaim := { program := "ytpccgdkidnkppaa", sum := "1427c90a71819d52972795c16abe98843ef65ff3ba5b1c94bbb734cee8e114c9", func := "loop.example/buildroads/laws.FnWorkValues", spec := "fnWorkValues", unfollowed := true, recurses := true, apart := false, narrowed := true }
def FnWorkValuesUptoSaid : Prop := fnWorkValuesUptoRow.holds Try.pinned (OpenSpec.upto fnWorkValuesSpec)

/-- 'laws.FnWorkWanted', WHERE WHAT IT READS IS OF BULK AT MOST 1048576: true; the input reads as it did. -/
def fnWorkWantedUptoRow : OpenClaim := { program := "ytpccgdkidnkppaa", sum := "1427c90a71819d52972795c16abe98843ef65ff3ba5b1c94bbb734cee8e114c9", func := "loop.example/buildroads/laws.FnWorkWanted", spec := "fnWorkWanted", unfollowed := true, recurses := true, apart := false, narrowed := true }
def FnWorkWantedUptoSaid : Prop := fnWorkWantedUptoRow.holds Try.pinned (OpenSpec.upto fnWorkWantedSpec)

end Rows
end Go.Proofs.Ytpccgdkidnkppaa
