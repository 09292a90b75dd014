/-
  No cell of these rows narrows 'for every input' (looked for: loops, veiled, ifaces, maps, wideKeys, modest, calm, conditions, laid).
  DERIVED. THE GIVEN ROWS OF THIS SEAT. 9 by the template 'for every input the law returns true; each argument reads behind the call as it read before'; 0 by the template 'total and deterministic' (their statements: YtpmammklklkheaaTotals.lean).
  GIVEN WITH THE SEED: the statements are not yours to turn. If you find one false, say at which input.
  Laid BY PROGRAM, IN A SANDBOX (cutbox-rows.mjs): the forced cells as the released guide's own fill.sh prints them over the translation aa4edd85c2799d82… (all of the seat's roots in one cut). By AI agents, Wed Nov 11 2026. No macro, syntax, notation, axiom, sorry.
-/
import Derived.Test.YtpmammklklkheaaChecked
import GoSem.Claim
import GoSem.ClaimJoined
import GoSem.ClaimMapViews
import Derived.JoinedTies
import Derived.KernelRfl
namespace Go.Proofs.Ytpmammklklkheaa
/- THE CELL 'sum', in the pinned program and in every row, IS THE sha256 OF THE DUMP (.gsa) THAT YtpmammklklkheaaProg.lean LOADS. Nothing in Lean hashes anything: it is a label: what it is worth is what the hold of that sum in a sandbox is worth. -/
noncomputable def Try.pinned : Pinned := { name := "ytpmammklklkheaa", sum := "aa4edd85c2799d827755aba189f303ad3c98013f9abc958cc6ece30340eb0de1", checked := Try.checked }
namespace Rows
def none {H : Type} : Left H := { results := [], args := [] }

/-- 'laws.FnForks': WHATEVER THE INPUT: true; the input reads as it did. -/
def fnForksSpec : ChangeSpec := { name := "fnForks", fn := fun _ => fun
  | [d] => { results := [.lit (.bool true)], args := [d] }
  | _ => none }
def fnForksRow : OpenClaim := { program := "ytpmammklklkheaa", sum := "aa4edd85c2799d827755aba189f303ad3c98013f9abc958cc6ece30340eb0de1", func := "loop.example/faultcodes/laws.FnForks", spec := "fnForks", unfollowed := true, recurses := true, apart := false }
def FnForksSaid : Prop := fnForksRow.holds Try.pinned (OpenSpec.ofChange fnForksSpec)

/-- ITS FALSE NEIGHBOUR: 'it returns false'. Refute it at one input. -/
def fnForksWrong : ChangeSpec := { name := "fnForks", fn := fun _ => fun
  | [d] => { results := [.lit (.bool false)], args := [d] }
  | _ => none }
def FnForksWrongFalsely : Prop := fnForksRow.holds Try.pinned (OpenSpec.ofChange fnForksWrong)

/-- 'laws.FnAskCodes': WHATEVER THE INPUT: true; the input reads as it did. -/
def fnAskCodesSpec : ChangeSpec := { name := "fnAskCodes", fn := fun _ => fun
  | [d] => { results := [.lit (.bool true)], args := [d] }
  | _ => none }
def fnAskCodesRow : OpenClaim := { program := "ytpmammklklkheaa", sum := "aa4edd85c2799d827755aba189f303ad3c98013f9abc958cc6ece30340eb0de1", func := "loop.example/faultcodes/laws.FnAskCodes", spec := "fnAskCodes", unfollowed := true, recurses := true, apart := false }
def FnAskCodesSaid : Prop := fnAskCodesRow.holds Try.pinned (OpenSpec.ofChange fnAskCodesSpec)

/-- ITS FALSE NEIGHBOUR: 'it returns false'. Refute it at one input. -/
def fnAskCodesWrong : ChangeSpec := { name := "fnAskCodes", fn := fun _ => fun
  | [d] => { results := [.lit (.bool false)], args := [d] }
  | _ => none }
def FnAskCodesWrongFalsely : Prop := fnAskCodesRow.holds Try.pinned (OpenSpec.ofChange fnAskCodesWrong)

/-- 'laws.FnWrong': WHATEVER THE INPUT: true; the input reads as it did. -/
def fnWrongSpec : ChangeSpec := { name := "fnWrong", fn := fun _ => fun
  | [d] => { results := [.lit (.bool true)], args := [d] }
  | _ => none }
def fnWrongRow : OpenClaim := { program := "ytpmammklklkheaa", sum := "aa4edd85c2799d827755aba189f303ad3c98013f9abc958cc6ece30340eb0de1", func := "loop.example/faultcodes/laws.FnWrong", spec := "fnWrong", unfollowed := true, recurses := true, apart := false }
def FnWrongSaid : Prop := fnWrongRow.holds Try.pinned (OpenSpec.ofChange fnWrongSpec)

/-- ITS FALSE NEIGHBOUR: 'it returns false'. Refute it at one input. -/
def fnWrongWrong : ChangeSpec := { name := "fnWrong", fn := fun _ => fun
  | [d] => { results := [.lit (.bool false)], args := [d] }
  | _ => none }
def FnWrongWrongFalsely : Prop := fnWrongRow.holds Try.pinned (OpenSpec.ofChange fnWrongWrong)

/-- 'laws.FnLeastNumber': WHATEVER THE INPUT: true; the input reads as it did. -/
def fnLeastNumberSpec : ChangeSpec := { name := "fnLeastNumber", fn := fun _ => fun
  | [d] => { results := [.lit (.bool true)], args := [d] }
  | _ => none }
def fnLeastNumberRow : OpenClaim := { program := "ytpmammklklkheaa", sum := "aa4edd85c2799d827755aba189f303ad3c98013f9abc958cc6ece30340eb0de1", func := "loop.example/faultcodes/laws.FnLeastNumber", spec := "fnLeastNumber", unfollowed := true, recurses := true, apart := false }
def FnLeastNumberSaid : Prop := fnLeastNumberRow.holds Try.pinned (OpenSpec.ofChange fnLeastNumberSpec)

/-- ITS FALSE NEIGHBOUR: 'it returns false'. Refute it at one input. -/
def fnLeastNumberWrong : ChangeSpec := { name := "fnLeastNumber", fn := fun _ => fun
  | [d] => { results := [.lit (.bool false)], args := [d] }
  | _ => none }
def FnLeastNumberWrongFalsely : Prop := fnLeastNumberRow.holds Try.pinned (OpenSpec.ofChange fnLeastNumberWrong)

/-- 'laws.FnTreeResolves': WHATEVER THE INPUT: true; the input reads as it did. -/
def fnTreeResolvesSpec : ChangeSpec := { name := "fnTreeResolves", fn := fun _ => fun
  | [d] => { results := [.lit (.bool true)], args := [d] }
  | _ => none }
def fnTreeResolvesRow : OpenClaim := { program := "ytpmammklklkheaa", sum := "aa4edd85c2799d827755aba189f303ad3c98013f9abc958cc6ece30340eb0de1", func := "loop.example/faultcodes/laws.FnTreeResolves", spec := "fnTreeResolves", unfollowed := true, recurses := true, apart := false }
def FnTreeResolvesSaid : Prop := fnTreeResolvesRow.holds Try.pinned (OpenSpec.ofChange fnTreeResolvesSpec)

/-- ITS FALSE NEIGHBOUR: 'it returns false'. Refute it at one input. -/
def fnTreeResolvesWrong : ChangeSpec := { name := "fnTreeResolves", fn := fun _ => fun
  | [d] => { results := [.lit (.bool false)], args := [d] }
  | _ => none }
def FnTreeResolvesWrongFalsely : Prop := fnTreeResolvesRow.holds Try.pinned (OpenSpec.ofChange fnTreeResolvesWrong)

/-- 'laws.FnSilent': WHATEVER THE INPUT: true; the input reads as it did. -/
def fnSilentSpec : ChangeSpec := { name := "fnSilent", fn := fun _ => fun
  | [d] => { results := [.lit (.bool true)], args := [d] }
  | _ => none }
def fnSilentRow : OpenClaim := { program := "ytpmammklklkheaa", sum := "aa4edd85c2799d827755aba189f303ad3c98013f9abc958cc6ece30340eb0de1", func := "loop.example/faultcodes/laws.FnSilent", spec := "fnSilent", unfollowed := true, recurses := true, apart := false }
def FnSilentSaid : Prop := fnSilentRow.holds Try.pinned (OpenSpec.ofChange fnSilentSpec)

/-- ITS FALSE NEIGHBOUR: 'it returns false'. Refute it at one input. -/
def fnSilentWrong : ChangeSpec := { name := "fnSilent", fn := fun _ => fun
  | [d] => { results := [.lit (.bool false)], args := [d] }
  | _ => none }
def FnSilentWrongFalsely : Prop := fnSilentRow.holds Try.pinned (OpenSpec.ofChange fnSilentWrong)

/-- 'laws.FnSensorFind': WHATEVER THE INPUT: true; the input reads as it did. -/
def fnSensorFindSpec : ChangeSpec := { name := "fnSensorFind", fn := fun _ => fun
  | [d] => { results := [.lit (.bool true)], args := [d] }
  | _ => none }
def fnSensorFindRow : OpenClaim := { program := "ytpmammklklkheaa", sum := "aa4edd85c2799d827755aba189f303ad3c98013f9abc958cc6ece30340eb0de1", func := "loop.example/faultcodes/laws.FnSensorFind", spec := "fnSensorFind", unfollowed := true, recurses := true, apart := false }
def FnSensorFindSaid : Prop := fnSensorFindRow.holds Try.pinned (OpenSpec.ofChange fnSensorFindSpec)

/-- ITS FALSE NEIGHBOUR: 'it returns false'. Refute it at one input. -/
def fnSensorFindWrong : ChangeSpec := { name := "fnSensorFind", fn := fun _ => fun
  | [d] => { results := [.lit (.bool false)], args := [d] }
  | _ => none }
def FnSensorFindWrongFalsely : Prop := fnSensorFindRow.holds Try.pinned (OpenSpec.ofChange fnSensorFindWrong)

/-- 'laws.FnSensor': WHATEVER THE INPUT: true; the input reads as it did. -/
def fnSensorSpec : ChangeSpec := { name := "fnSensor", fn := fun _ => fun
  | [d] => { results := [.lit (.bool true)], args := [d] }
  | _ => none }
def fnSensorRow : OpenClaim := { program := "ytpmammklklkheaa", sum := "aa4edd85c2799d827755aba189f303ad3c98013f9abc958cc6ece30340eb0de1", func := "loop.example/faultcodes/laws.FnSensor", spec := "fnSensor", unfollowed := true, recurses := true, apart := false }
def FnSensorSaid : Prop := fnSensorRow.holds Try.pinned (OpenSpec.ofChange fnSensorSpec)

/-- ITS FALSE NEIGHBOUR: 'it returns false'. Refute it at one input. -/
def fnSensorWrong : ChangeSpec := { name := "fnSensor", fn := fun _ => fun
  | [d] => { results := [.lit (.bool false)], args := [d] }
  | _ => none }
def FnSensorWrongFalsely : Prop := fnSensorRow.holds Try.pinned (OpenSpec.ofChange fnSensorWrong)

/-- 'laws.FnPoolBalls': WHATEVER THE INPUT: true; the input reads as it did. -/
def fnPoolBallsSpec : ChangeSpec := { name := "fnPoolBalls", fn := fun _ => fun
  | [d] => { results := [.lit (.bool true)], args := [d] }
  | _ => none }
def fnPoolBallsRow : OpenClaim := { program := "ytpmammklklkheaa", sum := "aa4edd85c2799d827755aba189f303ad3c98013f9abc958cc6ece30340eb0de1", func := "loop.example/faultcodes/laws.FnPoolBalls", spec := "fnPoolBalls", unfollowed := true, recurses := true, apart := false }
def FnPoolBallsSaid : Prop := fnPoolBallsRow.holds Try.pinned (OpenSpec.ofChange fnPoolBallsSpec)

/-- ITS FALSE NEIGHBOUR: 'it returns false'. Refute it at one input. -/
def fnPoolBallsWrong : ChangeSpec := { name := "fnPoolBalls", fn := fun _ => fun
  | [d] => { results := [.lit (.bool false)], args := [d] }
  | _ => none }
def FnPoolBallsWrongFalsely : Prop := fnPoolBallsRow.holds Try.pinned (OpenSpec.ofChange fnPoolBallsWrong)

/- THE SECOND FORM. 'bulk': how many values and letters a reading holds, each counted each time it is reached (what is shared counts as often as it is met; a slice's spare places count too). A statement '..UptoSaid' is the law's where the arguments, and the package variables that the reading takes, are together of bulk at most 1048576: NARROWER than '..Said'. Prove '..Said' where nothing that the law and all that it calls make is longer than what came in: it says more and counts as full. Else prove '..UptoSaid'. A law counts once. -/
mutual
def uptoBulk {H : Type} : DataW H → Nat
  | .lit (.string bytes) => bytes.length + 1
  | .lit _ => 1
  | .nil => 1
  | .ptr d => uptoBulk d + 1
  | .slice elems spare => uptoBulkAll elems + uptoBulkAll spare + 1
  | .agg parts => uptoBulkAll parts + 1
  | .iface _ d => uptoBulk d + 1
  | .map entries => uptoBulkEntries entries + 1
  | .held _ => 1
def uptoBulkAll {H : Type} : List (DataW H) → Nat
  | [] => 0
  | d :: r => uptoBulk d + uptoBulkAll r
def uptoBulkEntries {H : Type} : List (Lit × DataW H) → Nat
  | [] => 0
  | x :: r => uptoBulkEntry x + uptoBulkEntries r
def uptoBulkEntry {H : Type} : Lit × DataW H → Nat
  | (.string bytes, d) => bytes.length + uptoBulk d + 1
  | (_, d) => uptoBulk d + 1
 end
def uptoSmall : (H : Type) → List (DataW H) → Bool := fun _ ds => decide (uptoBulkAll ds ≤ 1048576)
def OpenSpec.upto (s : _root_.Go.ChangeSpec) : _root_.Go.OpenSpec := { _root_.Go.OpenSpec.ofChange s with cond := some uptoSmall }

/-- 'laws.FnForks', WHERE WHAT IT READS IS OF BULK AT MOST 1048576: true; the input reads as it did. -/
def fnForksUptoRow : OpenClaim := { program := "ytpmammklklkheaa", sum := "aa4edd85c2799d827755aba189f303ad3c98013f9abc958cc6ece30340eb0de1", func := "loop.example/faultcodes/laws.FnForks", spec := "fnForks", unfollowed := true, recurses := true, apart := false, narrowed := true }
def FnForksUptoSaid : Prop := fnForksUptoRow.holds Try.pinned (OpenSpec.upto fnForksSpec)

/-- 'laws.FnAskCodes', WHERE WHAT IT READS IS OF BULK AT MOST 1048576: true; the input reads as it did. -/
def fnAskCodesUptoRow : OpenClaim := { program := "ytpmammklklkheaa", sum := "aa4edd85c2799d827755aba189f303ad3c98013f9abc958cc6ece30340eb0de1", func := "loop.example/faultcodes/laws.FnAskCodes", spec := "fnAskCodes", unfollowed := true, recurses := true, apart := false, narrowed := true }
def FnAskCodesUptoSaid : Prop := fnAskCodesUptoRow.holds Try.pinned (OpenSpec.upto fnAskCodesSpec)

/-- 'laws.FnWrong', WHERE WHAT IT READS IS OF BULK AT MOST 1048576: true; the input reads as it did. -/
def fnWrongUptoRow : OpenClaim := { program := "ytpmammklklkheaa", sum := "aa4edd85c2799d827755aba189f303ad3c98013f9abc958cc6ece30340eb0de1", func := "loop.example/faultcodes/laws.FnWrong", spec := "fnWrong", unfollowed := true, recurses := true, apart := false, narrowed := true }
def FnWrongUptoSaid : Prop := fnWrongUptoRow.holds Try.pinned (OpenSpec.upto fnWrongSpec)

/-- 'laws.FnLeastNumber', WHERE WHAT IT READS IS OF BULK AT MOST 1048576: true; the input reads as it did. -/
def fnLeastNumberUptoRow : OpenClaim := { program := "ytpmammklklkheaa", sum := "aa4edd85c2799d827755aba189f303ad3c98013f9abc958cc6ece30340eb0de1", func := "loop.example/faultcodes/laws.FnLeastNumber", spec := "fnLeastNumber", unfollowed := true, recurses := true, apart := false, narrowed := true }
def FnLeastNumberUptoSaid : Prop := fnLeastNumberUptoRow.holds Try.pinned (OpenSpec.upto fnLeastNumberSpec)

/-- 'laws.FnTreeResolves', WHERE WHAT IT READS IS OF BULK AT MOST 1048576: true; the input reads as it did. -/
def fnTreeResolvesUptoRow : OpenClaim := { program := "ytpmammklklkheaa", sum := "aa4edd85c2799d827755aba189f303ad3c98013f9abc958cc6ece30340eb0de1", func := "loop.example/faultcodes/laws.FnTreeResolves", spec := "fnTreeResolves", unfollowed := true, recurses := true, apart := false, narrowed := true }
def FnTreeResolvesUptoSaid : Prop := fnTreeResolvesUptoRow.holds Try.pinned (OpenSpec.upto fnTreeResolvesSpec)

/-- 'laws.FnSilent', WHERE WHAT IT READS IS OF BULK AT MOST 1048576: true; the input reads as it did. -/
def fnSilentUptoRow : OpenClaim := { program := "ytpmammklklkheaa", sum := "aa4edd85c2799d827755aba189f303ad3c98013f9abc958cc6ece30340eb0de1", func := "loop.example/faultcodes/laws.FnSilent", spec := "fnSilent", unfollowed := true, recurses := true, apart := false, narrowed := true }
def FnSilentUptoSaid : Prop := fnSilentUptoRow.holds Try.pinned (OpenSpec.upto fnSilentSpec)

/-- 'laws.FnSensorFind', WHERE WHAT IT READS IS OF BULK AT MOST 1048576: true; the input reads as it did. -/
def fnSensorFindUptoRow : OpenClaim := { program := "ytpmammklklkheaa", sum := "aa4edd85c2799d827755aba189f303ad3c98013f9abc958cc6ece30340eb0de1", func := "loop.example/faultcodes/laws.FnSensorFind", spec := "fnSensorFind", unfollowed := true, recurses := true, apart := false, narrowed := true }
def FnSensorFindUptoSaid : Prop := fnSensorFindUptoRow.holds Try.pinned (OpenSpec.upto fnSensorFindSpec)

/-- 'laws.FnSensor', WHERE WHAT IT READS IS OF BULK AT MOST 1048576: true; the input reads as it did. -/
def fnSensorUptoRow : OpenClaim := { program := "ytpmammklklkheaa", sum := "aa4edd85c2799d827755aba189f303ad3c98013f9abc958cc6ece30340eb0de1", func := "loop.example/faultcodes/laws.FnSensor", spec := "fnSensor", unfollowed := true, recurses := true, apart := false, narrowed := true }
def FnSensorUptoSaid : Prop := fnSensorUptoRow.holds Try.pinned (OpenSpec.upto fnSensorSpec)

/-- 'laws.FnPoolBalls', WHERE WHAT IT READS IS OF BULK AT MOST 1048576: true; the input reads as it did. -/
def fnPoolBallsUptoRow : OpenClaim := { program := "ytpmammklklkheaa", sum := "aa4edd85c2799d827755aba189f303ad3c98013f9abc958cc6ece30340eb0de1", func := "loop.example/faultcodes/laws.FnPoolBalls", spec := "fnPoolBalls", unfollowed := true, recurses := true, apart := false, narrowed := true }
def FnPoolBallsUptoSaid : Prop := fnPoolBallsUptoRow.holds Try.pinned (OpenSpec.upto fnPoolBallsSpec)

end Rows
end Go.Proofs.Ytpmammklklkheaa
