/-
  NARROWER THAN 'FOR EVERY INPUT', by the rows' own cells (each row's printed sentence says how): FnExactToldRight: loops · FnExactToldRuns: loops · FnExactToldValues: loops.
  DERIVED. THE GIVEN ROWS OF THIS SEAT. 7 by the template 'for every input the law returns true; each argument reads behind the call as it read before'; 0 by the template 'total and deterministic' (their statements: YtkbblekengdhaaaTotals.lean).
  GIVEN WITH THE SEED: the statements are not yours to turn. If you find one false, say at which input.
  Laid BY PROGRAM, IN A SANDBOX (cutbox-rows.mjs): the forced cells as the released guide's own fill.sh prints them over the translation 49435cf37442749a… (all of the seat's roots in one cut). By AI agents, Wed Nov 11 2026. No macro, syntax, notation, axiom, sorry.
-/
import Derived.Test.YtkbblekengdhaaaChecked
import GoSem.Claim
import GoSem.ClaimJoined
import GoSem.ClaimMapViews
import Derived.JoinedTies
import Derived.KernelRfl
namespace Go.Proofs.Ytkbblekengdhaaa
/- THE CELL 'sum', in the pinned program and in every row, IS THE sha256 OF THE DUMP (.gsa) THAT YtkbblekengdhaaaProg.lean LOADS. Nothing in Lean hashes anything: it is a label: what it is worth is what the hold of that sum in a sandbox is worth. -/
noncomputable def Try.pinned : Pinned := { name := "ytkbblekengdhaaa", sum := "49435cf37442749ad172a435c5eb089c044a76cd381b116d4d4d79c95fc8f3bb", checked := Try.checked }
namespace Rows
def none {H : Type} : Left H := { results := [], args := [] }

/-- 'laws.FnToldValues': WHATEVER THE INPUT: true; the input reads as it did. -/
def fnToldValuesSpec : ChangeSpec := { name := "fnToldValues", fn := fun _ => fun
  | [d] => { results := [.lit (.bool true)], args := [d] }
  | _ => none }
def fnToldValuesRow : OpenClaim := { program := "ytkbblekengdhaaa", sum := "49435cf37442749ad172a435c5eb089c044a76cd381b116d4d4d79c95fc8f3bb", func := "loop.example/buildroads/laws.FnToldValues", spec := "fnToldValues", unfollowed := true, recurses := true, apart := false }
def FnToldValuesSaid : Prop := fnToldValuesRow.holds Try.pinned (OpenSpec.ofChange fnToldValuesSpec)

/-- ITS FALSE NEIGHBOUR: 'it returns false'. Refute it at one input. -/
def fnToldValuesWrong : ChangeSpec := { name := "fnToldValues", fn := fun _ => fun
  | [d] => { results := [.lit (.bool false)], args := [d] }
  | _ => none }
def FnToldValuesWrongFalsely : Prop := fnToldValuesRow.holds Try.pinned (OpenSpec.ofChange fnToldValuesWrong)

/-- 'laws.FnToldRuns': WHATEVER THE INPUT: true; the input reads as it did. -/
def fnToldRunsSpec : ChangeSpec := { name := "fnToldRuns", fn := fun _ => fun
  | [d] => { results := [.lit (.bool true)], args := [d] }
  | _ => none }
def fnToldRunsRow : OpenClaim := { program := "ytkbblekengdhaaa", sum := "49435cf37442749ad172a435c5eb089c044a76cd381b116d4d4d79c95fc8f3bb", func := "loop.example/buildroads/laws.FnToldRuns", spec := "fnToldRuns", unfollowed := true, recurses := true, apart := false }
def FnToldRunsSaid : Prop := fnToldRunsRow.holds Try.pinned (OpenSpec.ofChange fnToldRunsSpec)

/-- ITS FALSE NEIGHBOUR: 'it returns false'. Refute it at one input. -/
def fnToldRunsWrong : ChangeSpec := { name := "fnToldRuns", fn := fun _ => fun
  | [d] => { results := [.lit (.bool false)], args := [d] }
  | _ => none }
def FnToldRunsWrongFalsely : Prop := fnToldRunsRow.holds Try.pinned (OpenSpec.ofChange fnToldRunsWrong)

/-- 'laws.FnToldRight': WHATEVER THE INPUT: true; the input reads as it did. -/
def fnToldRightSpec : ChangeSpec := { name := "fnToldRight", fn := fun _ => fun
  | [d] => { results := [.lit (.bool true)], args := [d] }
  | _ => none }
def fnToldRightRow : OpenClaim := { program := "ytkbblekengdhaaa", sum := "49435cf37442749ad172a435c5eb089c044a76cd381b116d4d4d79c95fc8f3bb", func := "loop.example/buildroads/laws.FnToldRight", spec := "fnToldRight", unfollowed := true, recurses := true, apart := false }
def FnToldRightSaid : Prop := fnToldRightRow.holds Try.pinned (OpenSpec.ofChange fnToldRightSpec)

/-- ITS FALSE NEIGHBOUR: 'it returns false'. Refute it at one input. -/
def fnToldRightWrong : ChangeSpec := { name := "fnToldRight", fn := fun _ => fun
  | [d] => { results := [.lit (.bool false)], args := [d] }
  | _ => none }
def FnToldRightWrongFalsely : Prop := fnToldRightRow.holds Try.pinned (OpenSpec.ofChange fnToldRightWrong)

/-- 'laws.FnExactToldRight': WHATEVER THE INPUT: true; the input reads as it did. -/
def fnExactToldRightSpec : ChangeSpec := { name := "fnExactToldRight", fn := fun _ => fun
  | [d1, d2, d3, d4] => { results := [.lit (.bool true)], args := [d1, d2, d3, d4] }
  | _ => none }
def fnExactToldRightRow : OpenClaim := { program := "ytkbblekengdhaaa", sum := "49435cf37442749ad172a435c5eb089c044a76cd381b116d4d4d79c95fc8f3bb", func := "loop.example/buildroads/laws.FnExactToldRight", spec := "fnExactToldRight", unfollowed := true, recurses := true, loops := true, apart := false }
def FnExactToldRightSaid : Prop := fnExactToldRightRow.holds Try.pinned (OpenSpec.ofChange fnExactToldRightSpec)

/-- ITS FALSE NEIGHBOUR: 'it returns false'. Refute it at one input. -/
def fnExactToldRightWrong : ChangeSpec := { name := "fnExactToldRight", fn := fun _ => fun
  | [d1, d2, d3, d4] => { results := [.lit (.bool false)], args := [d1, d2, d3, d4] }
  | _ => none }
def FnExactToldRightWrongFalsely : Prop := fnExactToldRightRow.holds Try.pinned (OpenSpec.ofChange fnExactToldRightWrong)

/-- 'laws.FnExactToldRuns': WHATEVER THE INPUT: true; the input reads as it did. -/
def fnExactToldRunsSpec : ChangeSpec := { name := "fnExactToldRuns", fn := fun _ => fun
  | [d1, d2, d3, d4] => { results := [.lit (.bool true)], args := [d1, d2, d3, d4] }
  | _ => none }
def fnExactToldRunsRow : OpenClaim := { program := "ytkbblekengdhaaa", sum := "49435cf37442749ad172a435c5eb089c044a76cd381b116d4d4d79c95fc8f3bb", func := "loop.example/buildroads/laws.FnExactToldRuns", spec := "fnExactToldRuns", unfollowed := true, recurses := true, loops := true, apart := false }
def FnExactToldRunsSaid : Prop := fnExactToldRunsRow.holds Try.pinned (OpenSpec.ofChange fnExactToldRunsSpec)

/-- ITS FALSE NEIGHBOUR: 'it returns false'. Refute it at one input. -/
def fnExactToldRunsWrong : ChangeSpec := { name := "fnExactToldRuns", fn := fun _ => fun
  | [d1, d2, d3, d4] => { results := [.lit (.bool false)], args := [d1, d2, d3, d4] }
  | _ => none }
def FnExactToldRunsWrongFalsely : Prop := fnExactToldRunsRow.holds Try.pinned (OpenSpec.ofChange fnExactToldRunsWrong)

/-- 'laws.FnExactToldValues': WHATEVER THE INPUT: true; the input reads as it did. -/
def fnExactToldValuesSpec : ChangeSpec := { name := "fnExactToldValues", fn := fun _ => fun
  | [d1, d2, d3, d4] => { results := [.lit (.bool true)], args := [d1, d2, d3, d4] }
  | _ => none }
def fnExactToldValuesRow : OpenClaim := { program := "ytkbblekengdhaaa", sum := "49435cf37442749ad172a435c5eb089c044a76cd381b116d4d4d79c95fc8f3bb", func := "loop.example/buildroads/laws.FnExactToldValues", spec := "fnExactToldValues", unfollowed := true, recurses := true, loops := true, apart := false }
def FnExactToldValuesSaid : Prop := fnExactToldValuesRow.holds Try.pinned (OpenSpec.ofChange fnExactToldValuesSpec)

/-- ITS FALSE NEIGHBOUR: 'it returns false'. Refute it at one input. -/
def fnExactToldValuesWrong : ChangeSpec := { name := "fnExactToldValues", fn := fun _ => fun
  | [d1, d2, d3, d4] => { results := [.lit (.bool false)], args := [d1, d2, d3, d4] }
  | _ => none }
def FnExactToldValuesWrongFalsely : Prop := fnExactToldValuesRow.holds Try.pinned (OpenSpec.ofChange fnExactToldValuesWrong)

/-- 'laws.FnStateStart': WHATEVER THE INPUT: true; the input reads as it did. -/
def fnStateStartSpec : ChangeSpec := { name := "fnStateStart", fn := fun _ => fun
  | [d] => { results := [.lit (.bool true)], args := [d] }
  | _ => none }
def fnStateStartRow : OpenClaim := { program := "ytkbblekengdhaaa", sum := "49435cf37442749ad172a435c5eb089c044a76cd381b116d4d4d79c95fc8f3bb", func := "loop.example/buildroads/laws.FnStateStart", spec := "fnStateStart", unfollowed := true, recurses := true, apart := false }
def FnStateStartSaid : Prop := fnStateStartRow.holds Try.pinned (OpenSpec.ofChange fnStateStartSpec)

/-- ITS FALSE NEIGHBOUR: 'it returns false'. Refute it at one input. -/
def fnStateStartWrong : ChangeSpec := { name := "fnStateStart", fn := fun _ => fun
  | [d] => { results := [.lit (.bool false)], args := [d] }
  | _ => none }
def FnStateStartWrongFalsely : Prop := fnStateStartRow.holds Try.pinned (OpenSpec.ofChange fnStateStartWrong)

/- THE SECOND FORM. 'bulk': how many values and letters a reading holds, each counted each time it is reached (what is shared counts as often as it is met; a slice's spare places count too). A statement '..UptoSaid' is the law's where the arguments, and the package variables that the reading takes, are together of bulk at most 1048576: NARROWER than '..Said'. Prove '..Said' where nothing that the law and all that it calls make is longer than what came in: it says more and counts as full. Else prove '..UptoSaid'. A law counts once. -/
mutual
def uptoBulk {H : Type} : DataW H → Nat
  | .lit (.string bytes) => bytes.length + 1
  | .lit _ => 1
  | .nil => 1
  | .ptr d => uptoBulk d + 1
  | .slice elems spare => uptoBulkAll elems + uptoBulkAll spare + 1
  | .agg parts => uptoBulkAll parts + 1
  | .iface _ d => uptoBulk d + 1
  | .map entries => uptoBulkEntries entries + 1
  | .held _ => 1
def uptoBulkAll {H : Type} : List (DataW H) → Nat
  | [] => 0
  | d :: r => uptoBulk d + uptoBulkAll r
def uptoBulkEntries {H : Type} : List (Lit × DataW H) → Nat
  | [] => 0
  | x :: r => uptoBulkEntry x + uptoBulkEntries r
def uptoBulkEntry {H : Type} : Lit × DataW H → Nat
  | (.string bytes, d) => bytes.length + uptoBulk d + 1
  | (_, d) => uptoBulk d + 1
 end
def uptoSmall : (H : Type) → List (DataW H) → Bool := fun _ ds => decide (uptoBulkAll ds ≤ 1048576)
def OpenSpec.upto (s : _root_.Go.ChangeSpec) : _root_.Go.OpenSpec := { _root_.Go.OpenSpec.ofChange s with cond := some uptoSmall }

/-- 'laws.FnToldValues', WHERE WHAT IT READS IS OF BULK AT MOST 1048576: true; the input reads as it did. -/
def fnToldValuesUptoRow : OpenClaim := { program := "ytkbblekengdhaaa", sum := "49435cf37442749ad172a435c5eb089c044a76cd381b116d4d4d79c95fc8f3bb", func := "loop.example/buildroads/laws.FnToldValues", spec := "fnToldValues", unfollowed := true, recurses := true, apart := false, narrowed := true }
def FnToldValuesUptoSaid : Prop := fnToldValuesUptoRow.holds Try.pinned (OpenSpec.upto fnToldValuesSpec)

/-- 'laws.FnToldRuns', WHERE WHAT IT READS IS OF BULK AT MOST 1048576: true; the input reads as it did. -/
def fnToldRunsUptoRow : OpenClaim := { program := "ytkbblekengdhaaa", sum := "49435cf37442749ad172a435c5eb089c044a76cd381b116d4d4d79c95fc8f3bb", func := "loop.example/buildroads/laws.FnToldRuns", spec := "fnToldRuns", unfollowed := true, recurses := true, apart := false, narrowed := true }
def FnToldRunsUptoSaid : Prop := fnToldRunsUptoRow.holds Try.pinned (OpenSpec.upto fnToldRunsSpec)

/-- 'laws.FnToldRight', WHERE WHAT IT READS IS OF BULK AT MOST 1048576: true; the input reads as it did. -/
def fnToldRightUptoRow : OpenClaim := { program := "ytkbblekengdhaaa", sum := "49435cf37442749ad172a435c5eb089c044a76cd381b116d4d4d79c95fc8f3bb", func := "loop.example/buildroads/laws.FnToldRight", spec := "fnToldRight", unfollowed := true, recurses := true, apart := false, narrowed := true }
def FnToldRightUptoSaid : Prop := fnToldRightUptoRow.holds Try.pinned (OpenSpec.upto fnToldRightSpec)

/-- 'laws.FnExactToldRight', WHERE WHAT IT READS IS OF BULK AT MOST 1048576: true; the input reads as it did. -/
def fnExactToldRightUptoRow : OpenClaim := { program := "ytkbblekengdhaaa", sum := "49435cf37442749ad172a435c5eb089c044a76cd381b116d4d4d79c95fc8f3bb", func := "loop.example/buildroads/laws.FnExactToldRight", spec := "fnExactToldRight", unfollowed := true, recurses := true, loops := true, apart := false, narrowed := true }
def FnExactToldRightUptoSaid : Prop := fnExactToldRightUptoRow.holds Try.pinned (OpenSpec.upto fnExactToldRightSpec)

/-- 'laws.FnExactToldRuns', WHERE WHAT IT READS IS OF BULK AT MOST 1048576: true; the input reads as it did. -/
def fnExactToldRunsUptoRow : OpenClaim := { program := "ytkbblekengdhaaa", sum := "49435cf37442749ad172a435c5eb089c044a76cd381b116d4d4d79c95fc8f3bb", func := "loop.example/buildroads/laws.FnExactToldRuns", spec := "fnExactToldRuns", unfollowed := true, recurses := true, loops := true, apart := false, narrowed := true }
def FnExactToldRunsUptoSaid : Prop := fnExactToldRunsUptoRow.holds Try.pinned (OpenSpec.upto fnExactToldRunsSpec)

/-- 'laws.FnExactToldValues', WHERE WHAT IT READS IS OF BULK AT MOST 1048576: true; the input reads as it did. -/
def fnExactToldValuesUptoRow : OpenClaim := { program := "ytkbblekengdhaaa", sum := "49435cf37442749ad172a435c5eb089c044a76cd381b116d4d4d79c95fc8f3bb", func := "loop.example/buildroads/laws.FnExactToldValues", spec := "fnExactToldValues", unfollowed := true, recurses := true, loops := true, apart := false, narrowed := true }
def FnExactToldValuesUptoSaid : Prop := fnExactToldValuesUptoRow.holds Try.pinned (OpenSpec.upto fnExactToldValuesSpec)

/-- 'laws.FnStateStart', WHERE WHAT IT READS IS OF BULK AT MOST 1048576: true; the input reads as it did. -/
def fnStateStartUptoRow : OpenClaim := { program := "ytkbblekengdhaaa", sum := "49435cf37442749ad172a435c5eb089c044a76cd381b116d4d4d79c95fc8f3bb", func := "loop.example/buildroads/laws.FnStateStart", spec := "fnStateStart", unfollowed := true, recurses := true, apart := false, narrowed := true }
def FnStateStartUptoSaid : Prop := fnStateStartUptoRow.holds Try.pinned (OpenSpec.upto fnStateStartSpec)

end Rows
end Go.Proofs.Ytkbblekengdhaaa
