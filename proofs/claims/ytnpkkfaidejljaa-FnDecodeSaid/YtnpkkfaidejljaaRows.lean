/-
  No cell of these rows narrows 'for every input' (looked for: loops, veiled, ifaces, maps, wideKeys, modest, calm, conditions, laid).
  DERIVED. THE GIVEN ROWS OF THIS SEAT. 20 by the template 'for every input the law returns true; each argument reads behind the call as it read before'; 0 by the template 'total and deterministic' (their statements: YtnpkkfaidejljaaTotals.lean).
  GIVEN WITH THE SEED: the statements are not yours to turn. If you find one false, say at which input.
  Laid BY PROGRAM, IN A SANDBOX (cutbox-rows.mjs): the forced cells as the released guide's own fill.sh prints them over the translation d50278a01b137e42… (all of the seat's roots in one cut). By AI agents, Wed Nov 11 2026. No macro, syntax, notation, axiom, sorry.
-/
import Derived.Test.YtnpkkfaidejljaaChecked
import GoSem.Claim
import GoSem.ClaimJoined
import GoSem.ClaimMapViews
import Derived.JoinedTies
import Derived.KernelRfl
namespace Go.Proofs.Ytnpkkfaidejljaa
/- THE CELL 'sum', in the pinned program and in every row, IS THE sha256 OF THE DUMP (.gsa) THAT YtnpkkfaidejljaaProg.lean LOADS. Nothing in Lean hashes anything: it is a label: what it is worth is what the hold of that sum in a sandbox is worth. -/
noncomputable def Try.pinned : Pinned := { name := "ytnpkkfaidejljaa", sum := "d50278a01b137e427480b4c00aa012a59c5b22b552ff639de5a4a3c111e6a606", checked := Try.checked }
namespace Rows
def none {H : Type} : Left H := { results := [], args := [] }

/-- 'laws.FnExactAskDepth': WHATEVER THE INPUT: true; the input reads as it did. -/
def fnExactAskDepthSpec : ChangeSpec := { name := "fnExactAskDepth", fn := fun _ => fun
  | [d1, d2] => { results := [.lit (.bool true)], args := [d1, d2] }
  | _ => none }
def fnExactAskDepthRow : OpenClaim := { program := "ytnpkkfaidejljaa", sum := "d50278a01b137e427480b4c00aa012a59c5b22b552ff639de5a4a3c111e6a606", func := "loop.example/faultcodes/laws.FnExactAskDepth", spec := "fnExactAskDepth", unfollowed := true, recurses := true, apart := false }
def FnExactAskDepthSaid : Prop := fnExactAskDepthRow.holds Try.pinned (OpenSpec.ofChange fnExactAskDepthSpec)

/-- ITS FALSE NEIGHBOUR: 'it returns false'. Refute it at one input. -/
def fnExactAskDepthWrong : ChangeSpec := { name := "fnExactAskDepth", fn := fun _ => fun
  | [d1, d2] => { results := [.lit (.bool false)], args := [d1, d2] }
  | _ => none }
def FnExactAskDepthWrongFalsely : Prop := fnExactAskDepthRow.holds Try.pinned (OpenSpec.ofChange fnExactAskDepthWrong)

/-- 'laws.FnExactAskBest': WHATEVER THE INPUT: true; the input reads as it did. -/
def fnExactAskBestSpec : ChangeSpec := { name := "fnExactAskBest", fn := fun _ => fun
  | [d1, d2] => { results := [.lit (.bool true)], args := [d1, d2] }
  | _ => none }
def fnExactAskBestRow : OpenClaim := { program := "ytnpkkfaidejljaa", sum := "d50278a01b137e427480b4c00aa012a59c5b22b552ff639de5a4a3c111e6a606", func := "loop.example/faultcodes/laws.FnExactAskBest", spec := "fnExactAskBest", unfollowed := true, recurses := true, apart := false }
def FnExactAskBestSaid : Prop := fnExactAskBestRow.holds Try.pinned (OpenSpec.ofChange fnExactAskBestSpec)

/-- ITS FALSE NEIGHBOUR: 'it returns false'. Refute it at one input. -/
def fnExactAskBestWrong : ChangeSpec := { name := "fnExactAskBest", fn := fun _ => fun
  | [d1, d2] => { results := [.lit (.bool false)], args := [d1, d2] }
  | _ => none }
def FnExactAskBestWrongFalsely : Prop := fnExactAskBestRow.holds Try.pinned (OpenSpec.ofChange fnExactAskBestWrong)

/-- 'laws.FnExactAskPlay': WHATEVER THE INPUT: true; the input reads as it did. -/
def fnExactAskPlaySpec : ChangeSpec := { name := "fnExactAskPlay", fn := fun _ => fun
  | [d1, d2] => { results := [.lit (.bool true)], args := [d1, d2] }
  | _ => none }
def fnExactAskPlayRow : OpenClaim := { program := "ytnpkkfaidejljaa", sum := "d50278a01b137e427480b4c00aa012a59c5b22b552ff639de5a4a3c111e6a606", func := "loop.example/faultcodes/laws.FnExactAskPlay", spec := "fnExactAskPlay", unfollowed := true, recurses := true, apart := false }
def FnExactAskPlaySaid : Prop := fnExactAskPlayRow.holds Try.pinned (OpenSpec.ofChange fnExactAskPlaySpec)

/-- ITS FALSE NEIGHBOUR: 'it returns false'. Refute it at one input. -/
def fnExactAskPlayWrong : ChangeSpec := { name := "fnExactAskPlay", fn := fun _ => fun
  | [d1, d2] => { results := [.lit (.bool false)], args := [d1, d2] }
  | _ => none }
def FnExactAskPlayWrongFalsely : Prop := fnExactAskPlayRow.holds Try.pinned (OpenSpec.ofChange fnExactAskPlayWrong)

/-- 'laws.FnExactAskAnswers': WHATEVER THE INPUT: true; the input reads as it did. -/
def fnExactAskAnswersSpec : ChangeSpec := { name := "fnExactAskAnswers", fn := fun _ => fun
  | [d1, d2] => { results := [.lit (.bool true)], args := [d1, d2] }
  | _ => none }
def fnExactAskAnswersRow : OpenClaim := { program := "ytnpkkfaidejljaa", sum := "d50278a01b137e427480b4c00aa012a59c5b22b552ff639de5a4a3c111e6a606", func := "loop.example/faultcodes/laws.FnExactAskAnswers", spec := "fnExactAskAnswers", inPlace := ["internal/abi.NoEscape"], unfollowed := true, recurses := true, apart := false }
def FnExactAskAnswersSaid : Prop := fnExactAskAnswersRow.holds Try.pinned (OpenSpec.ofChange fnExactAskAnswersSpec)

/-- ITS FALSE NEIGHBOUR: 'it returns false'. Refute it at one input. -/
def fnExactAskAnswersWrong : ChangeSpec := { name := "fnExactAskAnswers", fn := fun _ => fun
  | [d1, d2] => { results := [.lit (.bool false)], args := [d1, d2] }
  | _ => none }
def FnExactAskAnswersWrongFalsely : Prop := fnExactAskAnswersRow.holds Try.pinned (OpenSpec.ofChange fnExactAskAnswersWrong)

/-- 'laws.FnExactSensorLeast': WHATEVER THE INPUT: true; the input reads as it did. -/
def fnExactSensorLeastSpec : ChangeSpec := { name := "fnExactSensorLeast", fn := fun _ => fun
  | [d1, d2] => { results := [.lit (.bool true)], args := [d1, d2] }
  | _ => none }
def fnExactSensorLeastRow : OpenClaim := { program := "ytnpkkfaidejljaa", sum := "d50278a01b137e427480b4c00aa012a59c5b22b552ff639de5a4a3c111e6a606", func := "loop.example/faultcodes/laws.FnExactSensorLeast", spec := "fnExactSensorLeast", unfollowed := true, recurses := true, apart := false }
def FnExactSensorLeastSaid : Prop := fnExactSensorLeastRow.holds Try.pinned (OpenSpec.ofChange fnExactSensorLeastSpec)

/-- ITS FALSE NEIGHBOUR: 'it returns false'. Refute it at one input. -/
def fnExactSensorLeastWrong : ChangeSpec := { name := "fnExactSensorLeast", fn := fun _ => fun
  | [d1, d2] => { results := [.lit (.bool false)], args := [d1, d2] }
  | _ => none }
def FnExactSensorLeastWrongFalsely : Prop := fnExactSensorLeastRow.holds Try.pinned (OpenSpec.ofChange fnExactSensorLeastWrong)

/-- 'laws.FnExactSensorSilent': WHATEVER THE INPUT: true; the input reads as it did. -/
def fnExactSensorSilentSpec : ChangeSpec := { name := "fnExactSensorSilent", fn := fun _ => fun
  | [d1, d2] => { results := [.lit (.bool true)], args := [d1, d2] }
  | _ => none }
def fnExactSensorSilentRow : OpenClaim := { program := "ytnpkkfaidejljaa", sum := "d50278a01b137e427480b4c00aa012a59c5b22b552ff639de5a4a3c111e6a606", func := "loop.example/faultcodes/laws.FnExactSensorSilent", spec := "fnExactSensorSilent", unfollowed := true, recurses := true, apart := false }
def FnExactSensorSilentSaid : Prop := fnExactSensorSilentRow.holds Try.pinned (OpenSpec.ofChange fnExactSensorSilentSpec)

/-- ITS FALSE NEIGHBOUR: 'it returns false'. Refute it at one input. -/
def fnExactSensorSilentWrong : ChangeSpec := { name := "fnExactSensorSilent", fn := fun _ => fun
  | [d1, d2] => { results := [.lit (.bool false)], args := [d1, d2] }
  | _ => none }
def FnExactSensorSilentWrongFalsely : Prop := fnExactSensorSilentRow.holds Try.pinned (OpenSpec.ofChange fnExactSensorSilentWrong)

/-- 'laws.FnExactLeastNumber': WHATEVER THE INPUT: true; the input reads as it did. -/
def fnExactLeastNumberSpec : ChangeSpec := { name := "fnExactLeastNumber", fn := fun _ => fun
  | [d1, d2] => { results := [.lit (.bool true)], args := [d1, d2] }
  | _ => none }
def fnExactLeastNumberRow : OpenClaim := { program := "ytnpkkfaidejljaa", sum := "d50278a01b137e427480b4c00aa012a59c5b22b552ff639de5a4a3c111e6a606", func := "loop.example/faultcodes/laws.FnExactLeastNumber", spec := "fnExactLeastNumber", unfollowed := true, recurses := true, apart := false }
def FnExactLeastNumberSaid : Prop := fnExactLeastNumberRow.holds Try.pinned (OpenSpec.ofChange fnExactLeastNumberSpec)

/-- ITS FALSE NEIGHBOUR: 'it returns false'. Refute it at one input. -/
def fnExactLeastNumberWrong : ChangeSpec := { name := "fnExactLeastNumber", fn := fun _ => fun
  | [d1, d2] => { results := [.lit (.bool false)], args := [d1, d2] }
  | _ => none }
def FnExactLeastNumberWrongFalsely : Prop := fnExactLeastNumberRow.holds Try.pinned (OpenSpec.ofChange fnExactLeastNumberWrong)

/-- 'laws.FnSensorApart': WHATEVER THE INPUT: true; the input reads as it did. -/
def fnSensorApartSpec : ChangeSpec := { name := "fnSensorApart", fn := fun _ => fun
  | [d] => { results := [.lit (.bool true)], args := [d] }
  | _ => none }
def fnSensorApartRow : OpenClaim := { program := "ytnpkkfaidejljaa", sum := "d50278a01b137e427480b4c00aa012a59c5b22b552ff639de5a4a3c111e6a606", func := "loop.example/faultcodes/laws.FnSensorApart", spec := "fnSensorApart", apart := false }
def FnSensorApartSaid : Prop := fnSensorApartRow.holds Try.pinned (OpenSpec.ofChange fnSensorApartSpec)

/-- ITS FALSE NEIGHBOUR: 'it returns false'. Refute it at one input. -/
def fnSensorApartWrong : ChangeSpec := { name := "fnSensorApart", fn := fun _ => fun
  | [d] => { results := [.lit (.bool false)], args := [d] }
  | _ => none }
def FnSensorApartWrongFalsely : Prop := fnSensorApartRow.holds Try.pinned (OpenSpec.ofChange fnSensorApartWrong)

/-- 'laws.FnDigits': WHATEVER THE INPUT: true; the input reads as it did. -/
def fnDigitsSpec : ChangeSpec := { name := "fnDigits", fn := fun _ => fun
  | [d] => { results := [.lit (.bool true)], args := [d] }
  | _ => none }
def fnDigitsRow : OpenClaim := { program := "ytnpkkfaidejljaa", sum := "d50278a01b137e427480b4c00aa012a59c5b22b552ff639de5a4a3c111e6a606", func := "loop.example/faultcodes/laws.FnDigits", spec := "fnDigits", unfollowed := true, recurses := true, apart := false }
def FnDigitsSaid : Prop := fnDigitsRow.holds Try.pinned (OpenSpec.ofChange fnDigitsSpec)

/-- ITS FALSE NEIGHBOUR: 'it returns false'. Refute it at one input. -/
def fnDigitsWrong : ChangeSpec := { name := "fnDigits", fn := fun _ => fun
  | [d] => { results := [.lit (.bool false)], args := [d] }
  | _ => none }
def FnDigitsWrongFalsely : Prop := fnDigitsRow.holds Try.pinned (OpenSpec.ofChange fnDigitsWrong)

/-- 'laws.FnPool': WHATEVER THE INPUT: true; the input reads as it did. -/
def fnPoolSpec : ChangeSpec := { name := "fnPool", fn := fun _ => fun
  | [d] => { results := [.lit (.bool true)], args := [d] }
  | _ => none }
def fnPoolRow : OpenClaim := { program := "ytnpkkfaidejljaa", sum := "d50278a01b137e427480b4c00aa012a59c5b22b552ff639de5a4a3c111e6a606", func := "loop.example/faultcodes/laws.FnPool", spec := "fnPool", unfollowed := true, recurses := true, apart := false }
def FnPoolSaid : Prop := fnPoolRow.holds Try.pinned (OpenSpec.ofChange fnPoolSpec)

/-- ITS FALSE NEIGHBOUR: 'it returns false'. Refute it at one input. -/
def fnPoolWrong : ChangeSpec := { name := "fnPool", fn := fun _ => fun
  | [d] => { results := [.lit (.bool false)], args := [d] }
  | _ => none }
def FnPoolWrongFalsely : Prop := fnPoolRow.holds Try.pinned (OpenSpec.ofChange fnPoolWrong)

/-- 'laws.FnAnswers': WHATEVER THE INPUT: true; the input reads as it did. -/
def fnAnswersSpec : ChangeSpec := { name := "fnAnswers", fn := fun _ => fun
  | [d] => { results := [.lit (.bool true)], args := [d] }
  | _ => none }
def fnAnswersRow : OpenClaim := { program := "ytnpkkfaidejljaa", sum := "d50278a01b137e427480b4c00aa012a59c5b22b552ff639de5a4a3c111e6a606", func := "loop.example/faultcodes/laws.FnAnswers", spec := "fnAnswers", unfollowed := true, recurses := true, apart := false }
def FnAnswersSaid : Prop := fnAnswersRow.holds Try.pinned (OpenSpec.ofChange fnAnswersSpec)

/-- ITS FALSE NEIGHBOUR: 'it returns false'. Refute it at one input. -/
def fnAnswersWrong : ChangeSpec := { name := "fnAnswers", fn := fun _ => fun
  | [d] => { results := [.lit (.bool false)], args := [d] }
  | _ => none }
def FnAnswersWrongFalsely : Prop := fnAnswersRow.holds Try.pinned (OpenSpec.ofChange fnAnswersWrong)

/-- 'laws.FnLeft': WHATEVER THE INPUT: true; the input reads as it did. -/
def fnLeftSpec : ChangeSpec := { name := "fnLeft", fn := fun _ => fun
  | [d] => { results := [.lit (.bool true)], args := [d] }
  | _ => none }
def fnLeftRow : OpenClaim := { program := "ytnpkkfaidejljaa", sum := "d50278a01b137e427480b4c00aa012a59c5b22b552ff639de5a4a3c111e6a606", func := "loop.example/faultcodes/laws.FnLeft", spec := "fnLeft", unfollowed := true, recurses := true, apart := false }
def FnLeftSaid : Prop := fnLeftRow.holds Try.pinned (OpenSpec.ofChange fnLeftSpec)

/-- ITS FALSE NEIGHBOUR: 'it returns false'. Refute it at one input. -/
def fnLeftWrong : ChangeSpec := { name := "fnLeft", fn := fun _ => fun
  | [d] => { results := [.lit (.bool false)], args := [d] }
  | _ => none }
def FnLeftWrongFalsely : Prop := fnLeftRow.holds Try.pinned (OpenSpec.ofChange fnLeftWrong)

/-- 'laws.FnSplit': WHATEVER THE INPUT: true; the input reads as it did. -/
def fnSplitSpec : ChangeSpec := { name := "fnSplit", fn := fun _ => fun
  | [d] => { results := [.lit (.bool true)], args := [d] }
  | _ => none }
def fnSplitRow : OpenClaim := { program := "ytnpkkfaidejljaa", sum := "d50278a01b137e427480b4c00aa012a59c5b22b552ff639de5a4a3c111e6a606", func := "loop.example/faultcodes/laws.FnSplit", spec := "fnSplit", unfollowed := true, recurses := true, apart := false }
def FnSplitSaid : Prop := fnSplitRow.holds Try.pinned (OpenSpec.ofChange fnSplitSpec)

/-- ITS FALSE NEIGHBOUR: 'it returns false'. Refute it at one input. -/
def fnSplitWrong : ChangeSpec := { name := "fnSplit", fn := fun _ => fun
  | [d] => { results := [.lit (.bool false)], args := [d] }
  | _ => none }
def FnSplitWrongFalsely : Prop := fnSplitRow.holds Try.pinned (OpenSpec.ofChange fnSplitWrong)

/-- 'laws.FnFound': WHATEVER THE INPUT: true; the input reads as it did. -/
def fnFoundSpec : ChangeSpec := { name := "fnFound", fn := fun _ => fun
  | [d] => { results := [.lit (.bool true)], args := [d] }
  | _ => none }
def fnFoundRow : OpenClaim := { program := "ytnpkkfaidejljaa", sum := "d50278a01b137e427480b4c00aa012a59c5b22b552ff639de5a4a3c111e6a606", func := "loop.example/faultcodes/laws.FnFound", spec := "fnFound", unfollowed := true, recurses := true, apart := false }
def FnFoundSaid : Prop := fnFoundRow.holds Try.pinned (OpenSpec.ofChange fnFoundSpec)

/-- ITS FALSE NEIGHBOUR: 'it returns false'. Refute it at one input. -/
def fnFoundWrong : ChangeSpec := { name := "fnFound", fn := fun _ => fun
  | [d] => { results := [.lit (.bool false)], args := [d] }
  | _ => none }
def FnFoundWrongFalsely : Prop := fnFoundRow.holds Try.pinned (OpenSpec.ofChange fnFoundWrong)

/-- 'laws.FnClear': WHATEVER THE INPUT: true; the input reads as it did. -/
def fnClearSpec : ChangeSpec := { name := "fnClear", fn := fun _ => fun
  | [d] => { results := [.lit (.bool true)], args := [d] }
  | _ => none }
def fnClearRow : OpenClaim := { program := "ytnpkkfaidejljaa", sum := "d50278a01b137e427480b4c00aa012a59c5b22b552ff639de5a4a3c111e6a606", func := "loop.example/faultcodes/laws.FnClear", spec := "fnClear", unfollowed := true, recurses := true, apart := false }
def FnClearSaid : Prop := fnClearRow.holds Try.pinned (OpenSpec.ofChange fnClearSpec)

/-- ITS FALSE NEIGHBOUR: 'it returns false'. Refute it at one input. -/
def fnClearWrong : ChangeSpec := { name := "fnClear", fn := fun _ => fun
  | [d] => { results := [.lit (.bool false)], args := [d] }
  | _ => none }
def FnClearWrongFalsely : Prop := fnClearRow.holds Try.pinned (OpenSpec.ofChange fnClearWrong)

/-- 'laws.FnClearLeft': WHATEVER THE INPUT: true; the input reads as it did. -/
def fnClearLeftSpec : ChangeSpec := { name := "fnClearLeft", fn := fun _ => fun
  | [d] => { results := [.lit (.bool true)], args := [d] }
  | _ => none }
def fnClearLeftRow : OpenClaim := { program := "ytnpkkfaidejljaa", sum := "d50278a01b137e427480b4c00aa012a59c5b22b552ff639de5a4a3c111e6a606", func := "loop.example/faultcodes/laws.FnClearLeft", spec := "fnClearLeft", unfollowed := true, recurses := true, apart := false }
def FnClearLeftSaid : Prop := fnClearLeftRow.holds Try.pinned (OpenSpec.ofChange fnClearLeftSpec)

/-- ITS FALSE NEIGHBOUR: 'it returns false'. Refute it at one input. -/
def fnClearLeftWrong : ChangeSpec := { name := "fnClearLeft", fn := fun _ => fun
  | [d] => { results := [.lit (.bool false)], args := [d] }
  | _ => none }
def FnClearLeftWrongFalsely : Prop := fnClearLeftRow.holds Try.pinned (OpenSpec.ofChange fnClearLeftWrong)

/-- 'laws.FnTells': WHATEVER THE INPUT: true; the input reads as it did. -/
def fnTellsSpec : ChangeSpec := { name := "fnTells", fn := fun _ => fun
  | [d] => { results := [.lit (.bool true)], args := [d] }
  | _ => none }
def fnTellsRow : OpenClaim := { program := "ytnpkkfaidejljaa", sum := "d50278a01b137e427480b4c00aa012a59c5b22b552ff639de5a4a3c111e6a606", func := "loop.example/faultcodes/laws.FnTells", spec := "fnTells", unfollowed := true, recurses := true, apart := false }
def FnTellsSaid : Prop := fnTellsRow.holds Try.pinned (OpenSpec.ofChange fnTellsSpec)

/-- ITS FALSE NEIGHBOUR: 'it returns false'. Refute it at one input. -/
def fnTellsWrong : ChangeSpec := { name := "fnTells", fn := fun _ => fun
  | [d] => { results := [.lit (.bool false)], args := [d] }
  | _ => none }
def FnTellsWrongFalsely : Prop := fnTellsRow.holds Try.pinned (OpenSpec.ofChange fnTellsWrong)

/-- 'laws.FnDecode': WHATEVER THE INPUT: true; the input reads as it did. -/
def fnDecodeSpec : ChangeSpec := { name := "fnDecode", fn := fun _ => fun
  | [d] => { results := [.lit (.bool true)], args := [d] }
  | _ => none }
def fnDecodeRow : OpenClaim := { program := "ytnpkkfaidejljaa", sum := "d50278a01b137e427480b4c00aa012a59c5b22b552ff639de5a4a3c111e6a606", func := "loop.example/faultcodes/laws.FnDecode", spec := "fnDecode", unfollowed := true, recurses := true, apart := false }
def FnDecodeSaid : Prop := fnDecodeRow.holds Try.pinned (OpenSpec.ofChange fnDecodeSpec)

/-- ITS FALSE NEIGHBOUR: 'it returns false'. Refute it at one input. -/
def fnDecodeWrong : ChangeSpec := { name := "fnDecode", fn := fun _ => fun
  | [d] => { results := [.lit (.bool false)], args := [d] }
  | _ => none }
def FnDecodeWrongFalsely : Prop := fnDecodeRow.holds Try.pinned (OpenSpec.ofChange fnDecodeWrong)

/-- 'laws.FnDepth': WHATEVER THE INPUT: true; the input reads as it did. -/
def fnDepthSpec : ChangeSpec := { name := "fnDepth", fn := fun _ => fun
  | [d] => { results := [.lit (.bool true)], args := [d] }
  | _ => none }
def fnDepthRow : OpenClaim := { program := "ytnpkkfaidejljaa", sum := "d50278a01b137e427480b4c00aa012a59c5b22b552ff639de5a4a3c111e6a606", func := "loop.example/faultcodes/laws.FnDepth", spec := "fnDepth", unfollowed := true, recurses := true, apart := false }
def FnDepthSaid : Prop := fnDepthRow.holds Try.pinned (OpenSpec.ofChange fnDepthSpec)

/-- ITS FALSE NEIGHBOUR: 'it returns false'. Refute it at one input. -/
def fnDepthWrong : ChangeSpec := { name := "fnDepth", fn := fun _ => fun
  | [d] => { results := [.lit (.bool false)], args := [d] }
  | _ => none }
def FnDepthWrongFalsely : Prop := fnDepthRow.holds Try.pinned (OpenSpec.ofChange fnDepthWrong)

/-- 'laws.FnBest': WHATEVER THE INPUT: true; the input reads as it did. -/
def fnBestSpec : ChangeSpec := { name := "fnBest", fn := fun _ => fun
  | [d] => { results := [.lit (.bool true)], args := [d] }
  | _ => none }
def fnBestRow : OpenClaim := { program := "ytnpkkfaidejljaa", sum := "d50278a01b137e427480b4c00aa012a59c5b22b552ff639de5a4a3c111e6a606", func := "loop.example/faultcodes/laws.FnBest", spec := "fnBest", unfollowed := true, recurses := true, apart := false }
def FnBestSaid : Prop := fnBestRow.holds Try.pinned (OpenSpec.ofChange fnBestSpec)

/-- ITS FALSE NEIGHBOUR: 'it returns false'. Refute it at one input. -/
def fnBestWrong : ChangeSpec := { name := "fnBest", fn := fun _ => fun
  | [d] => { results := [.lit (.bool false)], args := [d] }
  | _ => none }
def FnBestWrongFalsely : Prop := fnBestRow.holds Try.pinned (OpenSpec.ofChange fnBestWrong)

/- THE SECOND FORM. 'bulk': how many values and letters a reading holds, each counted each time it is reached (what is shared counts as often as it is met; a slice's spare places count too). A statement '..UptoSaid' is the law's where the arguments, and the package variables that the reading takes, are together of bulk at most 1048576: NARROWER than '..Said'. Prove '..Said' where nothing that the law and all that it calls make is longer than what came in: it says more and counts as full. Else prove '..UptoSaid'. A law counts once. -/
mutual
def uptoBulk {H : Type} : DataW H → Nat
  | .lit (.string bytes) => bytes.length + 1
  | .lit _ => 1
  | .nil => 1
  | .ptr d => uptoBulk d + 1
  | .slice elems spare => uptoBulkAll elems + uptoBulkAll spare + 1
  | .agg parts => uptoBulkAll parts + 1
  | .iface _ d => uptoBulk d + 1
  | .map entries => uptoBulkEntries entries + 1
  | .held _ => 1
def uptoBulkAll {H : Type} : List (DataW H) → Nat
  | [] => 0
  | d :: r => uptoBulk d + uptoBulkAll r
def uptoBulkEntries {H : Type} : List (Lit × DataW H) → Nat
  | [] => 0
  | x :: r => uptoBulkEntry x + uptoBulkEntries r
def uptoBulkEntry {H : Type} : Lit × DataW H → Nat
  | (.string bytes, d) => bytes.length + uptoBulk d + 1
  | (_, d) => uptoBulk d + 1
 end
def uptoSmall : (H : Type) → List (DataW H) → Bool := fun _ ds => decide (uptoBulkAll ds ≤ 1048576)
def OpenSpec.upto (s : _root_.Go.ChangeSpec) : _root_.Go.OpenSpec := { _root_.Go.OpenSpec.ofChange s with cond := some uptoSmall }

/-- 'laws.FnExactAskDepth', WHERE WHAT IT READS IS OF BULK AT MOST 1048576: true; the input reads as it did. -/
def fnExactAskDepthUptoRow : OpenClaim := { program := "ytnpkkfaidejljaa", sum := "d50278a01b137e427480b4c00aa012a59c5b22b552ff639de5a4a3c111e6a606", func := "loop.example/faultcodes/laws.FnExactAskDepth", spec := "fnExactAskDepth", unfollowed := true, recurses := true, apart := false, narrowed := true }
def FnExactAskDepthUptoSaid : Prop := fnExactAskDepthUptoRow.holds Try.pinned (OpenSpec.upto fnExactAskDepthSpec)

/-- 'laws.FnExactAskBest', WHERE WHAT IT READS IS OF BULK AT MOST 1048576: true; the input reads as it did. -/
def fnExactAskBestUptoRow : OpenClaim := { program := "ytnpkkfaidejljaa", sum := "d50278a01b137e427480b4c00aa012a59c5b22b552ff639de5a4a3c111e6a606", func := "loop.example/faultcodes/laws.FnExactAskBest", spec := "fnExactAskBest", unfollowed := true, recurses := true, apart := false, narrowed := true }
def FnExactAskBestUptoSaid : Prop := fnExactAskBestUptoRow.holds Try.pinned (OpenSpec.upto fnExactAskBestSpec)

/-- 'laws.FnExactAskPlay', WHERE WHAT IT READS IS OF BULK AT MOST 1048576: true; the input reads as it did. -/
def fnExactAskPlayUptoRow : OpenClaim := { program := "ytnpkkfaidejljaa", sum := "d50278a01b137e427480b4c00aa012a59c5b22b552ff639de5a4a3c111e6a606", func := "loop.example/faultcodes/laws.FnExactAskPlay", spec := "fnExactAskPlay", unfollowed := true, recurses := true, apart := false, narrowed := true }
def FnExactAskPlayUptoSaid : Prop := fnExactAskPlayUptoRow.holds Try.pinned (OpenSpec.upto fnExactAskPlaySpec)

/-- 'laws.FnExactAskAnswers', WHERE WHAT IT READS IS OF BULK AT MOST 1048576: true; the input reads as it did. -/
def fnExactAskAnswersUptoRow : OpenClaim := { program := "ytnpkkfaidejljaa", sum := "d50278a01b137e427480b4c00aa012a59c5b22b552ff639de5a4a3c111e6a606", func := "loop.example/faultcodes/laws.FnExactAskAnswers", spec := "fnExactAskAnswers", inPlace := ["internal/abi.NoEscape"], unfollowed := true, recurses := true, apart := false, narrowed := true }
def FnExactAskAnswersUptoSaid : Prop := fnExactAskAnswersUptoRow.holds Try.pinned (OpenSpec.upto fnExactAskAnswersSpec)

/-- 'laws.FnExactSensorLeast', WHERE WHAT IT READS IS OF BULK AT MOST 1048576: true; the input reads as it did. -/
def fnExactSensorLeastUptoRow : OpenClaim := { program := "ytnpkkfaidejljaa", sum := "d50278a01b137e427480b4c00aa012a59c5b22b552ff639de5a4a3c111e6a606", func := "loop.example/faultcodes/laws.FnExactSensorLeast", spec := "fnExactSensorLeast", unfollowed := true, recurses := true, apart := false, narrowed := true }
def FnExactSensorLeastUptoSaid : Prop := fnExactSensorLeastUptoRow.holds Try.pinned (OpenSpec.upto fnExactSensorLeastSpec)

/-- 'laws.FnExactSensorSilent', WHERE WHAT IT READS IS OF BULK AT MOST 1048576: true; the input reads as it did. -/
def fnExactSensorSilentUptoRow : OpenClaim := { program := "ytnpkkfaidejljaa", sum := "d50278a01b137e427480b4c00aa012a59c5b22b552ff639de5a4a3c111e6a606", func := "loop.example/faultcodes/laws.FnExactSensorSilent", spec := "fnExactSensorSilent", unfollowed := true, recurses := true, apart := false, narrowed := true }
def FnExactSensorSilentUptoSaid : Prop := fnExactSensorSilentUptoRow.holds Try.pinned (OpenSpec.upto fnExactSensorSilentSpec)

/-- 'laws.FnExactLeastNumber', WHERE WHAT IT READS IS OF BULK AT MOST 1048576: true; the input reads as it did. -/
def fnExactLeastNumberUptoRow : OpenClaim := { program := "ytnpkkfaidejljaa", sum := "d50278a01b137e427480b4c00aa012a59c5b22b552ff639de5a4a3c111e6a606", func := "loop.example/faultcodes/laws.FnExactLeastNumber", spec := "fnExactLeastNumber", unfollowed := true, recurses := true, apart := false, narrowed := true }
def FnExactLeastNumberUptoSaid : Prop := fnExactLeastNumberUptoRow.holds Try.pinned (OpenSpec.upto fnExactLeastNumberSpec)

/-- 'laws.FnSensorApart', WHERE WHAT IT READS IS OF BULK AT MOST 1048576: true; the input reads as it did. -/
def fnSensorApartUptoRow : OpenClaim := { program := "ytnpkkfaidejljaa", sum := "d50278a01b137e427480b4c00aa012a59c5b22b552ff639de5a4a3c111e6a606", func := "loop.example/faultcodes/laws.FnSensorApart", spec := "fnSensorApart", apart := false, narrowed := true }
def FnSensorApartUptoSaid : Prop := fnSensorApartUptoRow.holds Try.pinned (OpenSpec.upto fnSensorApartSpec)

/-- 'laws.FnDigits', WHERE WHAT IT READS IS OF BULK AT MOST 1048576: true; the input reads as it did. -/
def fnDigitsUptoRow : OpenClaim := { program := "ytnpkkfaidejljaa", sum := "d50278a01b137e427480b4c00aa012a59c5b22b552ff639de5a4a3c111e6a606", func := "loop.example/faultcodes/laws.FnDigits", spec := "fnDigits", unfollowed := true, recurses := true, apart := false, narrowed := true }
def FnDigitsUptoSaid : Prop := fnDigitsUptoRow.holds Try.pinned (OpenSpec.upto fnDigitsSpec)

/-- 'laws.FnPool', WHERE WHAT IT READS IS OF BULK AT MOST 1048576: true; the input reads as it did. -/
def fnPoolUptoRow : OpenClaim := { program := "ytnpkkfaidejljaa", sum := "d50278a01b137e427480b4c00aa012a59c5b22b552ff639de5a4a3c111e6a606", func := "loop.example/faultcodes/laws.FnPool", spec := "fnPool", unfollowed := true, recurses := true, apart := false, narrowed := true }
def FnPoolUptoSaid : Prop := fnPoolUptoRow.holds Try.pinned (OpenSpec.upto fnPoolSpec)

/-- 'laws.FnAnswers', WHERE WHAT IT READS IS OF BULK AT MOST 1048576: true; the input reads as it did. -/
def fnAnswersUptoRow : OpenClaim := { program := "ytnpkkfaidejljaa", sum := "d50278a01b137e427480b4c00aa012a59c5b22b552ff639de5a4a3c111e6a606", func := "loop.example/faultcodes/laws.FnAnswers", spec := "fnAnswers", unfollowed := true, recurses := true, apart := false, narrowed := true }
def FnAnswersUptoSaid : Prop := fnAnswersUptoRow.holds Try.pinned (OpenSpec.upto fnAnswersSpec)

/-- 'laws.FnLeft', WHERE WHAT IT READS IS OF BULK AT MOST 1048576: true; the input reads as it did. -/
def fnLeftUptoRow : OpenClaim := { program := "ytnpkkfaidejljaa", sum := "d50278a01b137e427480b4c00aa012a59c5b22b552ff639de5a4a3c111e6a606", func := "loop.example/faultcodes/laws.FnLeft", spec := "fnLeft", unfollowed := true, recurses := true, apart := false, narrowed := true }
def FnLeftUptoSaid : Prop := fnLeftUptoRow.holds Try.pinned (OpenSpec.upto fnLeftSpec)

/-- 'laws.FnSplit', WHERE WHAT IT READS IS OF BULK AT MOST 1048576: true; the input reads as it did. -/
def fnSplitUptoRow : OpenClaim := { program := "ytnpkkfaidejljaa", sum := "d50278a01b137e427480b4c00aa012a59c5b22b552ff639de5a4a3c111e6a606", func := "loop.example/faultcodes/laws.FnSplit", spec := "fnSplit", unfollowed := true, recurses := true, apart := false, narrowed := true }
def FnSplitUptoSaid : Prop := fnSplitUptoRow.holds Try.pinned (OpenSpec.upto fnSplitSpec)

/-- 'laws.FnFound', WHERE WHAT IT READS IS OF BULK AT MOST 1048576: true; the input reads as it did. -/
def fnFoundUptoRow : OpenClaim := { program := "ytnpkkfaidejljaa", sum := "d50278a01b137e427480b4c00aa012a59c5b22b552ff639de5a4a3c111e6a606", func := "loop.example/faultcodes/laws.FnFound", spec := "fnFound", unfollowed := true, recurses := true, apart := false, narrowed := true }
def FnFoundUptoSaid : Prop := fnFoundUptoRow.holds Try.pinned (OpenSpec.upto fnFoundSpec)

/-- 'laws.FnClear', WHERE WHAT IT READS IS OF BULK AT MOST 1048576: true; the input reads as it did. -/
def fnClearUptoRow : OpenClaim := { program := "ytnpkkfaidejljaa", sum := "d50278a01b137e427480b4c00aa012a59c5b22b552ff639de5a4a3c111e6a606", func := "loop.example/faultcodes/laws.FnClear", spec := "fnClear", unfollowed := true, recurses := true, apart := false, narrowed := true }
def FnClearUptoSaid : Prop := fnClearUptoRow.holds Try.pinned (OpenSpec.upto fnClearSpec)

/-- 'laws.FnClearLeft', WHERE WHAT IT READS IS OF BULK AT MOST 1048576: true; the input reads as it did. -/
def fnClearLeftUptoRow : OpenClaim := { program := "ytnpkkfaidejljaa", sum := "d50278a01b137e427480b4c00aa012a59c5b22b552ff639de5a4a3c111e6a606", func := "loop.example/faultcodes/laws.FnClearLeft", spec := "fnClearLeft", unfollowed := true, recurses := true, apart := false, narrowed := true }
def FnClearLeftUptoSaid : Prop := fnClearLeftUptoRow.holds Try.pinned (OpenSpec.upto fnClearLeftSpec)

/-- 'laws.FnTells', WHERE WHAT IT READS IS OF BULK AT MOST 1048576: true; the input reads as it did. -/
def fnTellsUptoRow : OpenClaim := { program := "ytnpkkfaidejljaa", sum := "d50278a01b137e427480b4c00aa012a59c5b22b552ff639de5a4a3c111e6a606", func := "loop.example/faultcodes/laws.FnTells", spec := "fnTells", unfollowed := true, recurses := true, apart := false, narrowed := true }
def FnTellsUptoSaid : Prop := fnTellsUptoRow.holds Try.pinned (OpenSpec.upto fnTellsSpec)

/-- 'laws.FnDecode', WHERE WHAT IT READS IS OF BULK AT MOST 1048576: true; the input reads as it did. -/
def fnDecodeUptoRow : OpenClaim := { program := "ytnpkkfaidejljaa", sum := "d50278a01b137e427480b4c00aa012a59c5b22b552ff639de5a4a3c111e6a606", func := "loop.example/faultcodes/laws.FnDecode", spec := "fnDecode", unfollowed := true, recurses := true, apart := false, narrowed := true }
def FnDecodeUptoSaid : Prop := fnDecodeUptoRow.holds Try.pinned (OpenSpec.upto fnDecodeSpec)

/-- 'laws.FnDepth', WHERE WHAT IT READS IS OF BULK AT MOST 1048576: true; the input reads as it did. -/
def fnDepthUptoRow : OpenClaim := { program := "ytnpkkfaidejljaa", sum := "d50278a01b137e427480b4c00aa012a59c5b22b552ff639de5a4a3c111e6a606", func := "loop.example/faultcodes/laws.FnDepth", spec := "fnDepth", unfollowed := true, recurses := true, apart := false, narrowed := true }
def FnDepthUptoSaid : Prop := fnDepthUptoRow.holds Try.pinned (OpenSpec.upto fnDepthSpec)

/-- 'laws.FnBest', WHERE WHAT IT READS IS OF BULK AT MOST 1048576: true; the input reads as it did. -/
def fnBestUptoRow : OpenClaim := { program := "ytnpkkfaidejljaa", sum := "d50278a01b137e427480b4c00aa012a59c5b22b552ff639de5a4a3c111e6a606", func := "loop.example/faultcodes/laws.FnBest", spec := "fnBest", unfollowed := true, recurses := true, apart := false, narrowed := true }
def FnBestUptoSaid : Prop := fnBestUptoRow.holds Try.pinned (OpenSpec.upto fnBestSpec)

end Rows
end Go.Proofs.Ytnpkkfaidejljaa
