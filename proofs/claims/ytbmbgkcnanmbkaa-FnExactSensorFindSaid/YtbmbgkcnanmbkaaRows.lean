/-
  No cell of these rows narrows 'for every input' (looked for: loops, veiled, ifaces, maps, wideKeys, modest, calm, conditions, laid).
  DERIVED. THE GIVEN ROWS OF THIS SEAT. 21 by the template 'for every input the law returns true; each argument reads behind the call as it read before'; 0 by the template 'total and deterministic' (their statements: YtbmbgkcnanmbkaaTotals.lean).
  GIVEN WITH THE SEED: the statements are not yours to turn. If you find one false, say at which input.
  Laid BY PROGRAM, IN A SANDBOX (cutbox-rows.mjs): the forced cells as the released guide's own fill.sh prints them over the translation 8920c94ba020721c… (all of the seat's roots in one cut). By AI agents, Wed Nov 11 2026. No macro, syntax, notation, axiom, sorry.
-/
import Derived.Test.YtbmbgkcnanmbkaaChecked
import GoSem.Claim
import GoSem.ClaimJoined
import GoSem.ClaimMapViews
import Derived.JoinedTies
import Derived.KernelRfl
namespace Go.Proofs.Ytbmbgkcnanmbkaa
/- THE CELL 'sum', in the pinned program and in every row, IS THE sha256 OF THE DUMP (.gsa) THAT YtbmbgkcnanmbkaaProg.lean LOADS. Nothing in Lean hashes anything: it is a label: what it is worth is what the hold of that sum in a sandbox is worth. -/
noncomputable def Try.pinned : Pinned := { name := "ytbmbgkcnanmbkaa", sum := "8920c94ba020721ced6df31538abbe71084c036ac366a90ef79a3d170140f564", checked := Try.checked }
namespace Rows
def none {H : Type} : Left H := { results := [], args := [] }

/-- 'laws.FnExactPoolIn': WHATEVER THE INPUT: true; the input reads as it did. -/
def fnExactPoolInSpec : ChangeSpec := { name := "fnExactPoolIn", fn := fun _ => fun
  | [d1, d2] => { results := [.lit (.bool true)], args := [d1, d2] }
  | _ => none }
def fnExactPoolInRow : OpenClaim := { program := "ytbmbgkcnanmbkaa", sum := "8920c94ba020721ced6df31538abbe71084c036ac366a90ef79a3d170140f564", func := "loop.example/faultcodes/laws.FnExactPoolIn", spec := "fnExactPoolIn", unfollowed := true, recurses := true, apart := false }
def FnExactPoolInSaid : Prop := fnExactPoolInRow.holds Try.pinned (OpenSpec.ofChange fnExactPoolInSpec)

/-- ITS FALSE NEIGHBOUR: 'it returns false'. Refute it at one input. -/
def fnExactPoolInWrong : ChangeSpec := { name := "fnExactPoolIn", fn := fun _ => fun
  | [d1, d2] => { results := [.lit (.bool false)], args := [d1, d2] }
  | _ => none }
def FnExactPoolInWrongFalsely : Prop := fnExactPoolInRow.holds Try.pinned (OpenSpec.ofChange fnExactPoolInWrong)

/-- 'laws.FnExactPoolDigits': WHATEVER THE INPUT: true; the input reads as it did. -/
def fnExactPoolDigitsSpec : ChangeSpec := { name := "fnExactPoolDigits", fn := fun _ => fun
  | [d] => { results := [.lit (.bool true)], args := [d] }
  | _ => none }
def fnExactPoolDigitsRow : OpenClaim := { program := "ytbmbgkcnanmbkaa", sum := "8920c94ba020721ced6df31538abbe71084c036ac366a90ef79a3d170140f564", func := "loop.example/faultcodes/laws.FnExactPoolDigits", spec := "fnExactPoolDigits", apart := false }
def FnExactPoolDigitsSaid : Prop := fnExactPoolDigitsRow.holds Try.pinned (OpenSpec.ofChange fnExactPoolDigitsSpec)

/-- ITS FALSE NEIGHBOUR: 'it returns false'. Refute it at one input. -/
def fnExactPoolDigitsWrong : ChangeSpec := { name := "fnExactPoolDigits", fn := fun _ => fun
  | [d] => { results := [.lit (.bool false)], args := [d] }
  | _ => none }
def FnExactPoolDigitsWrongFalsely : Prop := fnExactPoolDigitsRow.holds Try.pinned (OpenSpec.ofChange fnExactPoolDigitsWrong)

/-- 'laws.FnExactSensorApart': WHATEVER THE INPUT: true; the input reads as it did. -/
def fnExactSensorApartSpec : ChangeSpec := { name := "fnExactSensorApart", fn := fun _ => fun
  | [d1, d2] => { results := [.lit (.bool true)], args := [d1, d2] }
  | _ => none }
def fnExactSensorApartRow : OpenClaim := { program := "ytbmbgkcnanmbkaa", sum := "8920c94ba020721ced6df31538abbe71084c036ac366a90ef79a3d170140f564", func := "loop.example/faultcodes/laws.FnExactSensorApart", spec := "fnExactSensorApart", apart := false }
def FnExactSensorApartSaid : Prop := fnExactSensorApartRow.holds Try.pinned (OpenSpec.ofChange fnExactSensorApartSpec)

/-- ITS FALSE NEIGHBOUR: 'it returns false'. Refute it at one input. -/
def fnExactSensorApartWrong : ChangeSpec := { name := "fnExactSensorApart", fn := fun _ => fun
  | [d1, d2] => { results := [.lit (.bool false)], args := [d1, d2] }
  | _ => none }
def FnExactSensorApartWrongFalsely : Prop := fnExactSensorApartRow.holds Try.pinned (OpenSpec.ofChange fnExactSensorApartWrong)

/-- 'laws.FnExactPoolLeft': WHATEVER THE INPUT: true; the input reads as it did. -/
def fnExactPoolLeftSpec : ChangeSpec := { name := "fnExactPoolLeft", fn := fun _ => fun
  | [d1, d2, d3] => { results := [.lit (.bool true)], args := [d1, d2, d3] }
  | _ => none }
def fnExactPoolLeftRow : OpenClaim := { program := "ytbmbgkcnanmbkaa", sum := "8920c94ba020721ced6df31538abbe71084c036ac366a90ef79a3d170140f564", func := "loop.example/faultcodes/laws.FnExactPoolLeft", spec := "fnExactPoolLeft", unfollowed := true, recurses := true, apart := false }
def FnExactPoolLeftSaid : Prop := fnExactPoolLeftRow.holds Try.pinned (OpenSpec.ofChange fnExactPoolLeftSpec)

/-- ITS FALSE NEIGHBOUR: 'it returns false'. Refute it at one input. -/
def fnExactPoolLeftWrong : ChangeSpec := { name := "fnExactPoolLeft", fn := fun _ => fun
  | [d1, d2, d3] => { results := [.lit (.bool false)], args := [d1, d2, d3] }
  | _ => none }
def FnExactPoolLeftWrongFalsely : Prop := fnExactPoolLeftRow.holds Try.pinned (OpenSpec.ofChange fnExactPoolLeftWrong)

/-- 'laws.FnExactPoolAnswers': WHATEVER THE INPUT: true; the input reads as it did. -/
def fnExactPoolAnswersSpec : ChangeSpec := { name := "fnExactPoolAnswers", fn := fun _ => fun
  | [d1, d2, d3] => { results := [.lit (.bool true)], args := [d1, d2, d3] }
  | _ => none }
def fnExactPoolAnswersRow : OpenClaim := { program := "ytbmbgkcnanmbkaa", sum := "8920c94ba020721ced6df31538abbe71084c036ac366a90ef79a3d170140f564", func := "loop.example/faultcodes/laws.FnExactPoolAnswers", spec := "fnExactPoolAnswers", unfollowed := true, recurses := true, apart := false }
def FnExactPoolAnswersSaid : Prop := fnExactPoolAnswersRow.holds Try.pinned (OpenSpec.ofChange fnExactPoolAnswersSpec)

/-- ITS FALSE NEIGHBOUR: 'it returns false'. Refute it at one input. -/
def fnExactPoolAnswersWrong : ChangeSpec := { name := "fnExactPoolAnswers", fn := fun _ => fun
  | [d1, d2, d3] => { results := [.lit (.bool false)], args := [d1, d2, d3] }
  | _ => none }
def FnExactPoolAnswersWrongFalsely : Prop := fnExactPoolAnswersRow.holds Try.pinned (OpenSpec.ofChange fnExactPoolAnswersWrong)

/-- 'laws.FnExactAskSplit': WHATEVER THE INPUT: true; the input reads as it did. -/
def fnExactAskSplitSpec : ChangeSpec := { name := "fnExactAskSplit", fn := fun _ => fun
  | [d1, d2, d3] => { results := [.lit (.bool true)], args := [d1, d2, d3] }
  | _ => none }
def fnExactAskSplitRow : OpenClaim := { program := "ytbmbgkcnanmbkaa", sum := "8920c94ba020721ced6df31538abbe71084c036ac366a90ef79a3d170140f564", func := "loop.example/faultcodes/laws.FnExactAskSplit", spec := "fnExactAskSplit", unfollowed := true, recurses := true, apart := false }
def FnExactAskSplitSaid : Prop := fnExactAskSplitRow.holds Try.pinned (OpenSpec.ofChange fnExactAskSplitSpec)

/-- ITS FALSE NEIGHBOUR: 'it returns false'. Refute it at one input. -/
def fnExactAskSplitWrong : ChangeSpec := { name := "fnExactAskSplit", fn := fun _ => fun
  | [d1, d2, d3] => { results := [.lit (.bool false)], args := [d1, d2, d3] }
  | _ => none }
def FnExactAskSplitWrongFalsely : Prop := fnExactAskSplitRow.holds Try.pinned (OpenSpec.ofChange fnExactAskSplitWrong)

/-- 'laws.FnExactAskFound': WHATEVER THE INPUT: true; the input reads as it did. -/
def fnExactAskFoundSpec : ChangeSpec := { name := "fnExactAskFound", fn := fun _ => fun
  | [d1, d2, d3] => { results := [.lit (.bool true)], args := [d1, d2, d3] }
  | _ => none }
def fnExactAskFoundRow : OpenClaim := { program := "ytbmbgkcnanmbkaa", sum := "8920c94ba020721ced6df31538abbe71084c036ac366a90ef79a3d170140f564", func := "loop.example/faultcodes/laws.FnExactAskFound", spec := "fnExactAskFound", unfollowed := true, recurses := true, apart := false }
def FnExactAskFoundSaid : Prop := fnExactAskFoundRow.holds Try.pinned (OpenSpec.ofChange fnExactAskFoundSpec)

/-- ITS FALSE NEIGHBOUR: 'it returns false'. Refute it at one input. -/
def fnExactAskFoundWrong : ChangeSpec := { name := "fnExactAskFound", fn := fun _ => fun
  | [d1, d2, d3] => { results := [.lit (.bool false)], args := [d1, d2, d3] }
  | _ => none }
def FnExactAskFoundWrongFalsely : Prop := fnExactAskFoundRow.holds Try.pinned (OpenSpec.ofChange fnExactAskFoundWrong)

/-- 'laws.FnExactPoolBalls': WHATEVER THE INPUT: true; the input reads as it did. -/
def fnExactPoolBallsSpec : ChangeSpec := { name := "fnExactPoolBalls", fn := fun _ => fun
  | [d1, d2] => { results := [.lit (.bool true)], args := [d1, d2] }
  | _ => none }
def fnExactPoolBallsRow : OpenClaim := { program := "ytbmbgkcnanmbkaa", sum := "8920c94ba020721ced6df31538abbe71084c036ac366a90ef79a3d170140f564", func := "loop.example/faultcodes/laws.FnExactPoolBalls", spec := "fnExactPoolBalls", unfollowed := true, recurses := true, apart := false }
def FnExactPoolBallsSaid : Prop := fnExactPoolBallsRow.holds Try.pinned (OpenSpec.ofChange fnExactPoolBallsSpec)

/-- ITS FALSE NEIGHBOUR: 'it returns false'. Refute it at one input. -/
def fnExactPoolBallsWrong : ChangeSpec := { name := "fnExactPoolBalls", fn := fun _ => fun
  | [d1, d2] => { results := [.lit (.bool false)], args := [d1, d2] }
  | _ => none }
def FnExactPoolBallsWrongFalsely : Prop := fnExactPoolBallsRow.holds Try.pinned (OpenSpec.ofChange fnExactPoolBallsWrong)

/-- 'laws.FnExactPoolClear': WHATEVER THE INPUT: true; the input reads as it did. -/
def fnExactPoolClearSpec : ChangeSpec := { name := "fnExactPoolClear", fn := fun _ => fun
  | [d1, d2, d3] => { results := [.lit (.bool true)], args := [d1, d2, d3] }
  | _ => none }
def fnExactPoolClearRow : OpenClaim := { program := "ytbmbgkcnanmbkaa", sum := "8920c94ba020721ced6df31538abbe71084c036ac366a90ef79a3d170140f564", func := "loop.example/faultcodes/laws.FnExactPoolClear", spec := "fnExactPoolClear", unfollowed := true, recurses := true, apart := false }
def FnExactPoolClearSaid : Prop := fnExactPoolClearRow.holds Try.pinned (OpenSpec.ofChange fnExactPoolClearSpec)

/-- ITS FALSE NEIGHBOUR: 'it returns false'. Refute it at one input. -/
def fnExactPoolClearWrong : ChangeSpec := { name := "fnExactPoolClear", fn := fun _ => fun
  | [d1, d2, d3] => { results := [.lit (.bool false)], args := [d1, d2, d3] }
  | _ => none }
def FnExactPoolClearWrongFalsely : Prop := fnExactPoolClearRow.holds Try.pinned (OpenSpec.ofChange fnExactPoolClearWrong)

/-- 'laws.FnExactPoolDecode': WHATEVER THE INPUT: true; the input reads as it did. -/
def fnExactPoolDecodeSpec : ChangeSpec := { name := "fnExactPoolDecode", fn := fun _ => fun
  | [d1, d2, d3, d4] => { results := [.lit (.bool true)], args := [d1, d2, d3, d4] }
  | _ => none }
def fnExactPoolDecodeRow : OpenClaim := { program := "ytbmbgkcnanmbkaa", sum := "8920c94ba020721ced6df31538abbe71084c036ac366a90ef79a3d170140f564", func := "loop.example/faultcodes/laws.FnExactPoolDecode", spec := "fnExactPoolDecode", unfollowed := true, recurses := true, apart := false }
def FnExactPoolDecodeSaid : Prop := fnExactPoolDecodeRow.holds Try.pinned (OpenSpec.ofChange fnExactPoolDecodeSpec)

/-- ITS FALSE NEIGHBOUR: 'it returns false'. Refute it at one input. -/
def fnExactPoolDecodeWrong : ChangeSpec := { name := "fnExactPoolDecode", fn := fun _ => fun
  | [d1, d2, d3, d4] => { results := [.lit (.bool false)], args := [d1, d2, d3, d4] }
  | _ => none }
def FnExactPoolDecodeWrongFalsely : Prop := fnExactPoolDecodeRow.holds Try.pinned (OpenSpec.ofChange fnExactPoolDecodeWrong)

/-- 'laws.FnExactPoolTells': WHATEVER THE INPUT: true; the input reads as it did. -/
def fnExactPoolTellsSpec : ChangeSpec := { name := "fnExactPoolTells", fn := fun _ => fun
  | [d1, d2, d3] => { results := [.lit (.bool true)], args := [d1, d2, d3] }
  | _ => none }
def fnExactPoolTellsRow : OpenClaim := { program := "ytbmbgkcnanmbkaa", sum := "8920c94ba020721ced6df31538abbe71084c036ac366a90ef79a3d170140f564", func := "loop.example/faultcodes/laws.FnExactPoolTells", spec := "fnExactPoolTells", unfollowed := true, recurses := true, apart := false }
def FnExactPoolTellsSaid : Prop := fnExactPoolTellsRow.holds Try.pinned (OpenSpec.ofChange fnExactPoolTellsSpec)

/-- ITS FALSE NEIGHBOUR: 'it returns false'. Refute it at one input. -/
def fnExactPoolTellsWrong : ChangeSpec := { name := "fnExactPoolTells", fn := fun _ => fun
  | [d1, d2, d3] => { results := [.lit (.bool false)], args := [d1, d2, d3] }
  | _ => none }
def FnExactPoolTellsWrongFalsely : Prop := fnExactPoolTellsRow.holds Try.pinned (OpenSpec.ofChange fnExactPoolTellsWrong)

/-- 'laws.FnExactAskDepth': WHATEVER THE INPUT: true; the input reads as it did. -/
def fnExactAskDepthSpec : ChangeSpec := { name := "fnExactAskDepth", fn := fun _ => fun
  | [d1, d2] => { results := [.lit (.bool true)], args := [d1, d2] }
  | _ => none }
def fnExactAskDepthRow : OpenClaim := { program := "ytbmbgkcnanmbkaa", sum := "8920c94ba020721ced6df31538abbe71084c036ac366a90ef79a3d170140f564", func := "loop.example/faultcodes/laws.FnExactAskDepth", spec := "fnExactAskDepth", unfollowed := true, recurses := true, apart := false }
def FnExactAskDepthSaid : Prop := fnExactAskDepthRow.holds Try.pinned (OpenSpec.ofChange fnExactAskDepthSpec)

/-- ITS FALSE NEIGHBOUR: 'it returns false'. Refute it at one input. -/
def fnExactAskDepthWrong : ChangeSpec := { name := "fnExactAskDepth", fn := fun _ => fun
  | [d1, d2] => { results := [.lit (.bool false)], args := [d1, d2] }
  | _ => none }
def FnExactAskDepthWrongFalsely : Prop := fnExactAskDepthRow.holds Try.pinned (OpenSpec.ofChange fnExactAskDepthWrong)

/-- 'laws.FnExactAskBest': WHATEVER THE INPUT: true; the input reads as it did. -/
def fnExactAskBestSpec : ChangeSpec := { name := "fnExactAskBest", fn := fun _ => fun
  | [d1, d2] => { results := [.lit (.bool true)], args := [d1, d2] }
  | _ => none }
def fnExactAskBestRow : OpenClaim := { program := "ytbmbgkcnanmbkaa", sum := "8920c94ba020721ced6df31538abbe71084c036ac366a90ef79a3d170140f564", func := "loop.example/faultcodes/laws.FnExactAskBest", spec := "fnExactAskBest", unfollowed := true, recurses := true, apart := false }
def FnExactAskBestSaid : Prop := fnExactAskBestRow.holds Try.pinned (OpenSpec.ofChange fnExactAskBestSpec)

/-- ITS FALSE NEIGHBOUR: 'it returns false'. Refute it at one input. -/
def fnExactAskBestWrong : ChangeSpec := { name := "fnExactAskBest", fn := fun _ => fun
  | [d1, d2] => { results := [.lit (.bool false)], args := [d1, d2] }
  | _ => none }
def FnExactAskBestWrongFalsely : Prop := fnExactAskBestRow.holds Try.pinned (OpenSpec.ofChange fnExactAskBestWrong)

/-- 'laws.FnExactSensorIn': WHATEVER THE INPUT: true; the input reads as it did. -/
def fnExactSensorInSpec : ChangeSpec := { name := "fnExactSensorIn", fn := fun _ => fun
  | [d1, d2, d3] => { results := [.lit (.bool true)], args := [d1, d2, d3] }
  | _ => none }
def fnExactSensorInRow : OpenClaim := { program := "ytbmbgkcnanmbkaa", sum := "8920c94ba020721ced6df31538abbe71084c036ac366a90ef79a3d170140f564", func := "loop.example/faultcodes/laws.FnExactSensorIn", spec := "fnExactSensorIn", unfollowed := true, recurses := true, apart := false }
def FnExactSensorInSaid : Prop := fnExactSensorInRow.holds Try.pinned (OpenSpec.ofChange fnExactSensorInSpec)

/-- ITS FALSE NEIGHBOUR: 'it returns false'. Refute it at one input. -/
def fnExactSensorInWrong : ChangeSpec := { name := "fnExactSensorIn", fn := fun _ => fun
  | [d1, d2, d3] => { results := [.lit (.bool false)], args := [d1, d2, d3] }
  | _ => none }
def FnExactSensorInWrongFalsely : Prop := fnExactSensorInRow.holds Try.pinned (OpenSpec.ofChange fnExactSensorInWrong)

/-- 'laws.FnExactSensorMost': WHATEVER THE INPUT: true; the input reads as it did. -/
def fnExactSensorMostSpec : ChangeSpec := { name := "fnExactSensorMost", fn := fun _ => fun
  | [d1, d2] => { results := [.lit (.bool true)], args := [d1, d2] }
  | _ => none }
def fnExactSensorMostRow : OpenClaim := { program := "ytbmbgkcnanmbkaa", sum := "8920c94ba020721ced6df31538abbe71084c036ac366a90ef79a3d170140f564", func := "loop.example/faultcodes/laws.FnExactSensorMost", spec := "fnExactSensorMost", unfollowed := true, recurses := true, apart := false }
def FnExactSensorMostSaid : Prop := fnExactSensorMostRow.holds Try.pinned (OpenSpec.ofChange fnExactSensorMostSpec)

/-- ITS FALSE NEIGHBOUR: 'it returns false'. Refute it at one input. -/
def fnExactSensorMostWrong : ChangeSpec := { name := "fnExactSensorMost", fn := fun _ => fun
  | [d1, d2] => { results := [.lit (.bool false)], args := [d1, d2] }
  | _ => none }
def FnExactSensorMostWrongFalsely : Prop := fnExactSensorMostRow.holds Try.pinned (OpenSpec.ofChange fnExactSensorMostWrong)

/-- 'laws.FnExactSensorLeast': WHATEVER THE INPUT: true; the input reads as it did. -/
def fnExactSensorLeastSpec : ChangeSpec := { name := "fnExactSensorLeast", fn := fun _ => fun
  | [d1, d2] => { results := [.lit (.bool true)], args := [d1, d2] }
  | _ => none }
def fnExactSensorLeastRow : OpenClaim := { program := "ytbmbgkcnanmbkaa", sum := "8920c94ba020721ced6df31538abbe71084c036ac366a90ef79a3d170140f564", func := "loop.example/faultcodes/laws.FnExactSensorLeast", spec := "fnExactSensorLeast", unfollowed := true, recurses := true, apart := false }
def FnExactSensorLeastSaid : Prop := fnExactSensorLeastRow.holds Try.pinned (OpenSpec.ofChange fnExactSensorLeastSpec)

/-- ITS FALSE NEIGHBOUR: 'it returns false'. Refute it at one input. -/
def fnExactSensorLeastWrong : ChangeSpec := { name := "fnExactSensorLeast", fn := fun _ => fun
  | [d1, d2] => { results := [.lit (.bool false)], args := [d1, d2] }
  | _ => none }
def FnExactSensorLeastWrongFalsely : Prop := fnExactSensorLeastRow.holds Try.pinned (OpenSpec.ofChange fnExactSensorLeastWrong)

/-- 'laws.FnExactSensorFind': WHATEVER THE INPUT: true; the input reads as it did. -/
def fnExactSensorFindSpec : ChangeSpec := { name := "fnExactSensorFind", fn := fun _ => fun
  | [d1, d2, d3, d4] => { results := [.lit (.bool true)], args := [d1, d2, d3, d4] }
  | _ => none }
def fnExactSensorFindRow : OpenClaim := { program := "ytbmbgkcnanmbkaa", sum := "8920c94ba020721ced6df31538abbe71084c036ac366a90ef79a3d170140f564", func := "loop.example/faultcodes/laws.FnExactSensorFind", spec := "fnExactSensorFind", unfollowed := true, recurses := true, apart := false }
def FnExactSensorFindSaid : Prop := fnExactSensorFindRow.holds Try.pinned (OpenSpec.ofChange fnExactSensorFindSpec)

/-- ITS FALSE NEIGHBOUR: 'it returns false'. Refute it at one input. -/
def fnExactSensorFindWrong : ChangeSpec := { name := "fnExactSensorFind", fn := fun _ => fun
  | [d1, d2, d3, d4] => { results := [.lit (.bool false)], args := [d1, d2, d3, d4] }
  | _ => none }
def FnExactSensorFindWrongFalsely : Prop := fnExactSensorFindRow.holds Try.pinned (OpenSpec.ofChange fnExactSensorFindWrong)

/-- 'laws.FnExactAskPlay': WHATEVER THE INPUT: true; the input reads as it did. -/
def fnExactAskPlaySpec : ChangeSpec := { name := "fnExactAskPlay", fn := fun _ => fun
  | [d1, d2] => { results := [.lit (.bool true)], args := [d1, d2] }
  | _ => none }
def fnExactAskPlayRow : OpenClaim := { program := "ytbmbgkcnanmbkaa", sum := "8920c94ba020721ced6df31538abbe71084c036ac366a90ef79a3d170140f564", func := "loop.example/faultcodes/laws.FnExactAskPlay", spec := "fnExactAskPlay", unfollowed := true, recurses := true, apart := false }
def FnExactAskPlaySaid : Prop := fnExactAskPlayRow.holds Try.pinned (OpenSpec.ofChange fnExactAskPlaySpec)

/-- ITS FALSE NEIGHBOUR: 'it returns false'. Refute it at one input. -/
def fnExactAskPlayWrong : ChangeSpec := { name := "fnExactAskPlay", fn := fun _ => fun
  | [d1, d2] => { results := [.lit (.bool false)], args := [d1, d2] }
  | _ => none }
def FnExactAskPlayWrongFalsely : Prop := fnExactAskPlayRow.holds Try.pinned (OpenSpec.ofChange fnExactAskPlayWrong)

/-- 'laws.FnExactAskAnswers': WHATEVER THE INPUT: true; the input reads as it did. -/
def fnExactAskAnswersSpec : ChangeSpec := { name := "fnExactAskAnswers", fn := fun _ => fun
  | [d1, d2] => { results := [.lit (.bool true)], args := [d1, d2] }
  | _ => none }
def fnExactAskAnswersRow : OpenClaim := { program := "ytbmbgkcnanmbkaa", sum := "8920c94ba020721ced6df31538abbe71084c036ac366a90ef79a3d170140f564", func := "loop.example/faultcodes/laws.FnExactAskAnswers", spec := "fnExactAskAnswers", inPlace := ["internal/abi.NoEscape"], unfollowed := true, recurses := true, apart := false }
def FnExactAskAnswersSaid : Prop := fnExactAskAnswersRow.holds Try.pinned (OpenSpec.ofChange fnExactAskAnswersSpec)

/-- ITS FALSE NEIGHBOUR: 'it returns false'. Refute it at one input. -/
def fnExactAskAnswersWrong : ChangeSpec := { name := "fnExactAskAnswers", fn := fun _ => fun
  | [d1, d2] => { results := [.lit (.bool false)], args := [d1, d2] }
  | _ => none }
def FnExactAskAnswersWrongFalsely : Prop := fnExactAskAnswersRow.holds Try.pinned (OpenSpec.ofChange fnExactAskAnswersWrong)

/-- 'laws.FnExactSensorSilent': WHATEVER THE INPUT: true; the input reads as it did. -/
def fnExactSensorSilentSpec : ChangeSpec := { name := "fnExactSensorSilent", fn := fun _ => fun
  | [d1, d2] => { results := [.lit (.bool true)], args := [d1, d2] }
  | _ => none }
def fnExactSensorSilentRow : OpenClaim := { program := "ytbmbgkcnanmbkaa", sum := "8920c94ba020721ced6df31538abbe71084c036ac366a90ef79a3d170140f564", func := "loop.example/faultcodes/laws.FnExactSensorSilent", spec := "fnExactSensorSilent", unfollowed := true, recurses := true, apart := false }
def FnExactSensorSilentSaid : Prop := fnExactSensorSilentRow.holds Try.pinned (OpenSpec.ofChange fnExactSensorSilentSpec)

/-- ITS FALSE NEIGHBOUR: 'it returns false'. Refute it at one input. -/
def fnExactSensorSilentWrong : ChangeSpec := { name := "fnExactSensorSilent", fn := fun _ => fun
  | [d1, d2] => { results := [.lit (.bool false)], args := [d1, d2] }
  | _ => none }
def FnExactSensorSilentWrongFalsely : Prop := fnExactSensorSilentRow.holds Try.pinned (OpenSpec.ofChange fnExactSensorSilentWrong)

/-- 'laws.FnExactLeastNumber': WHATEVER THE INPUT: true; the input reads as it did. -/
def fnExactLeastNumberSpec : ChangeSpec := { name := "fnExactLeastNumber", fn := fun _ => fun
  | [d1, d2] => { results := [.lit (.bool true)], args := [d1, d2] }
  | _ => none }
def fnExactLeastNumberRow : OpenClaim := { program := "ytbmbgkcnanmbkaa", sum := "8920c94ba020721ced6df31538abbe71084c036ac366a90ef79a3d170140f564", func := "loop.example/faultcodes/laws.FnExactLeastNumber", spec := "fnExactLeastNumber", unfollowed := true, recurses := true, apart := false }
def FnExactLeastNumberSaid : Prop := fnExactLeastNumberRow.holds Try.pinned (OpenSpec.ofChange fnExactLeastNumberSpec)

/-- ITS FALSE NEIGHBOUR: 'it returns false'. Refute it at one input. -/
def fnExactLeastNumberWrong : ChangeSpec := { name := "fnExactLeastNumber", fn := fun _ => fun
  | [d1, d2] => { results := [.lit (.bool false)], args := [d1, d2] }
  | _ => none }
def FnExactLeastNumberWrongFalsely : Prop := fnExactLeastNumberRow.holds Try.pinned (OpenSpec.ofChange fnExactLeastNumberWrong)

/- THE SECOND FORM. 'bulk': how many values and letters a reading holds, each counted each time it is reached (what is shared counts as often as it is met; a slice's spare places count too). A statement '..UptoSaid' is the law's where the arguments, and the package variables that the reading takes, are together of bulk at most 1048576: NARROWER than '..Said'. Prove '..Said' where nothing that the law and all that it calls make is longer than what came in: it says more and counts as full. Else prove '..UptoSaid'. A law counts once. -/
mutual
def uptoBulk {H : Type} : DataW H → Nat
  | .lit (.string bytes) => bytes.length + 1
  | .lit _ => 1
  | .nil => 1
  | .ptr d => uptoBulk d + 1
  | .slice elems spare => uptoBulkAll elems + uptoBulkAll spare + 1
  | .agg parts => uptoBulkAll parts + 1
  | .iface _ d => uptoBulk d + 1
  | .map entries => uptoBulkEntries entries + 1
  | .held _ => 1
def uptoBulkAll {H : Type} : List (DataW H) → Nat
  | [] => 0
  | d :: r => uptoBulk d + uptoBulkAll r
def uptoBulkEntries {H : Type} : List (Lit × DataW H) → Nat
  | [] => 0
  | x :: r => uptoBulkEntry x + uptoBulkEntries r
def uptoBulkEntry {H : Type} : Lit × DataW H → Nat
  | (.string bytes, d) => bytes.length + uptoBulk d + 1
  | (_, d) => uptoBulk d + 1
 end
def uptoSmall : (H : Type) → List (DataW H) → Bool := fun _ ds => decide (uptoBulkAll ds ≤ 1048576)
def OpenSpec.upto (s : _root_.Go.ChangeSpec) : _root_.Go.OpenSpec := { _root_.Go.OpenSpec.ofChange s with cond := some uptoSmall }

/-- 'laws.FnExactPoolIn', WHERE WHAT IT READS IS OF BULK AT MOST 1048576: true; the input reads as it did. -/
def fnExactPoolInUptoRow : OpenClaim := { program := "ytbmbgkcnanmbkaa", sum := "8920c94ba020721ced6df31538abbe71084c036ac366a90ef79a3d170140f564", func := "loop.example/faultcodes/laws.FnExactPoolIn", spec := "fnExactPoolIn", unfollowed := true, recurses := true, apart := false, narrowed := true }
def FnExactPoolInUptoSaid : Prop := fnExactPoolInUptoRow.holds Try.pinned (OpenSpec.upto fnExactPoolInSpec)

/-- 'laws.FnExactPoolDigits', WHERE WHAT IT READS IS OF BULK AT MOST 1048576: true; the input reads as it did. -/
def fnExactPoolDigitsUptoRow : OpenClaim := { program := "ytbmbgkcnanmbkaa", sum := "8920c94ba020721ced6df31538abbe71084c036ac366a90ef79a3d170140f564", func := "loop.example/faultcodes/laws.FnExactPoolDigits", spec := "fnExactPoolDigits", apart := false, narrowed := true }
def FnExactPoolDigitsUptoSaid : Prop := fnExactPoolDigitsUptoRow.holds Try.pinned (OpenSpec.upto fnExactPoolDigitsSpec)

/-- 'laws.FnExactSensorApart', WHERE WHAT IT READS IS OF BULK AT MOST 1048576: true; the input reads as it did. -/
def fnExactSensorApartUptoRow : OpenClaim := { program := "ytbmbgkcnanmbkaa", sum := "8920c94ba020721ced6df31538abbe71084c036ac366a90ef79a3d170140f564", func := "loop.example/faultcodes/laws.FnExactSensorApart", spec := "fnExactSensorApart", apart := false, narrowed := true }
def FnExactSensorApartUptoSaid : Prop := fnExactSensorApartUptoRow.holds Try.pinned (OpenSpec.upto fnExactSensorApartSpec)

/-- 'laws.FnExactPoolLeft', WHERE WHAT IT READS IS OF BULK AT MOST 1048576: true; the input reads as it did. -/
def fnExactPoolLeftUptoRow : OpenClaim := { program := "ytbmbgkcnanmbkaa", sum := "8920c94ba020721ced6df31538abbe71084c036ac366a90ef79a3d170140f564", func := "loop.example/faultcodes/laws.FnExactPoolLeft", spec := "fnExactPoolLeft", unfollowed := true, recurses := true, apart := false, narrowed := true }
def FnExactPoolLeftUptoSaid : Prop := fnExactPoolLeftUptoRow.holds Try.pinned (OpenSpec.upto fnExactPoolLeftSpec)

/-- 'laws.FnExactPoolAnswers', WHERE WHAT IT READS IS OF BULK AT MOST 1048576: true; the input reads as it did. -/
def fnExactPoolAnswersUptoRow : OpenClaim := { program := "ytbmbgkcnanmbkaa", sum := "8920c94ba020721ced6df31538abbe71084c036ac366a90ef79a3d170140f564", func := "loop.example/faultcodes/laws.FnExactPoolAnswers", spec := "fnExactPoolAnswers", unfollowed := true, recurses := true, apart := false, narrowed := true }
def FnExactPoolAnswersUptoSaid : Prop := fnExactPoolAnswersUptoRow.holds Try.pinned (OpenSpec.upto fnExactPoolAnswersSpec)

/-- 'laws.FnExactAskSplit', WHERE WHAT IT READS IS OF BULK AT MOST 1048576: true; the input reads as it did. -/
def fnExactAskSplitUptoRow : OpenClaim := { program := "ytbmbgkcnanmbkaa", sum := "8920c94ba020721ced6df31538abbe71084c036ac366a90ef79a3d170140f564", func := "loop.example/faultcodes/laws.FnExactAskSplit", spec := "fnExactAskSplit", unfollowed := true, recurses := true, apart := false, narrowed := true }
def FnExactAskSplitUptoSaid : Prop := fnExactAskSplitUptoRow.holds Try.pinned (OpenSpec.upto fnExactAskSplitSpec)

/-- 'laws.FnExactAskFound', WHERE WHAT IT READS IS OF BULK AT MOST 1048576: true; the input reads as it did. -/
def fnExactAskFoundUptoRow : OpenClaim := { program := "ytbmbgkcnanmbkaa", sum := "8920c94ba020721ced6df31538abbe71084c036ac366a90ef79a3d170140f564", func := "loop.example/faultcodes/laws.FnExactAskFound", spec := "fnExactAskFound", unfollowed := true, recurses := true, apart := false, narrowed := true }
def FnExactAskFoundUptoSaid : Prop := fnExactAskFoundUptoRow.holds Try.pinned (OpenSpec.upto fnExactAskFoundSpec)

/-- 'laws.FnExactPoolBalls', WHERE WHAT IT READS IS OF BULK AT MOST 1048576: true; the input reads as it did. -/
def fnExactPoolBallsUptoRow : OpenClaim := { program := "ytbmbgkcnanmbkaa", sum := "8920c94ba020721ced6df31538abbe71084c036ac366a90ef79a3d170140f564", func := "loop.example/faultcodes/laws.FnExactPoolBalls", spec := "fnExactPoolBalls", unfollowed := true, recurses := true, apart := false, narrowed := true }
def FnExactPoolBallsUptoSaid : Prop := fnExactPoolBallsUptoRow.holds Try.pinned (OpenSpec.upto fnExactPoolBallsSpec)

/-- 'laws.FnExactPoolClear', WHERE WHAT IT READS IS OF BULK AT MOST 1048576: true; the input reads as it did. -/
def fnExactPoolClearUptoRow : OpenClaim := { program := "ytbmbgkcnanmbkaa", sum := "8920c94ba020721ced6df31538abbe71084c036ac366a90ef79a3d170140f564", func := "loop.example/faultcodes/laws.FnExactPoolClear", spec := "fnExactPoolClear", unfollowed := true, recurses := true, apart := false, narrowed := true }
def FnExactPoolClearUptoSaid : Prop := fnExactPoolClearUptoRow.holds Try.pinned (OpenSpec.upto fnExactPoolClearSpec)

/-- 'laws.FnExactPoolDecode', WHERE WHAT IT READS IS OF BULK AT MOST 1048576: true; the input reads as it did. -/
def fnExactPoolDecodeUptoRow : OpenClaim := { program := "ytbmbgkcnanmbkaa", sum := "8920c94ba020721ced6df31538abbe71084c036ac366a90ef79a3d170140f564", func := "loop.example/faultcodes/laws.FnExactPoolDecode", spec := "fnExactPoolDecode", unfollowed := true, recurses := true, apart := false, narrowed := true }
def FnExactPoolDecodeUptoSaid : Prop := fnExactPoolDecodeUptoRow.holds Try.pinned (OpenSpec.upto fnExactPoolDecodeSpec)

/-- 'laws.FnExactPoolTells', WHERE WHAT IT READS IS OF BULK AT MOST 1048576: true; the input reads as it did. -/
def fnExactPoolTellsUptoRow : OpenClaim := { program := "ytbmbgkcnanmbkaa", sum := "8920c94ba020721ced6df31538abbe71084c036ac366a90ef79a3d170140f564", func := "loop.example/faultcodes/laws.FnExactPoolTells", spec := "fnExactPoolTells", unfollowed := true, recurses := true, apart := false, narrowed := true }
def FnExactPoolTellsUptoSaid : Prop := fnExactPoolTellsUptoRow.holds Try.pinned (OpenSpec.upto fnExactPoolTellsSpec)

/-- 'laws.FnExactAskDepth', WHERE WHAT IT READS IS OF BULK AT MOST 1048576: true; the input reads as it did. -/
def fnExactAskDepthUptoRow : OpenClaim := { program := "ytbmbgkcnanmbkaa", sum := "8920c94ba020721ced6df31538abbe71084c036ac366a90ef79a3d170140f564", func := "loop.example/faultcodes/laws.FnExactAskDepth", spec := "fnExactAskDepth", unfollowed := true, recurses := true, apart := false, narrowed := true }
def FnExactAskDepthUptoSaid : Prop := fnExactAskDepthUptoRow.holds Try.pinned (OpenSpec.upto fnExactAskDepthSpec)

/-- 'laws.FnExactAskBest', WHERE WHAT IT READS IS OF BULK AT MOST 1048576: true; the input reads as it did. -/
def fnExactAskBestUptoRow : OpenClaim := { program := "ytbmbgkcnanmbkaa", sum := "8920c94ba020721ced6df31538abbe71084c036ac366a90ef79a3d170140f564", func := "loop.example/faultcodes/laws.FnExactAskBest", spec := "fnExactAskBest", unfollowed := true, recurses := true, apart := false, narrowed := true }
def FnExactAskBestUptoSaid : Prop := fnExactAskBestUptoRow.holds Try.pinned (OpenSpec.upto fnExactAskBestSpec)

/-- 'laws.FnExactSensorIn', WHERE WHAT IT READS IS OF BULK AT MOST 1048576: true; the input reads as it did. -/
def fnExactSensorInUptoRow : OpenClaim := { program := "ytbmbgkcnanmbkaa", sum := "8920c94ba020721ced6df31538abbe71084c036ac366a90ef79a3d170140f564", func := "loop.example/faultcodes/laws.FnExactSensorIn", spec := "fnExactSensorIn", unfollowed := true, recurses := true, apart := false, narrowed := true }
def FnExactSensorInUptoSaid : Prop := fnExactSensorInUptoRow.holds Try.pinned (OpenSpec.upto fnExactSensorInSpec)

/-- 'laws.FnExactSensorMost', WHERE WHAT IT READS IS OF BULK AT MOST 1048576: true; the input reads as it did. -/
def fnExactSensorMostUptoRow : OpenClaim := { program := "ytbmbgkcnanmbkaa", sum := "8920c94ba020721ced6df31538abbe71084c036ac366a90ef79a3d170140f564", func := "loop.example/faultcodes/laws.FnExactSensorMost", spec := "fnExactSensorMost", unfollowed := true, recurses := true, apart := false, narrowed := true }
def FnExactSensorMostUptoSaid : Prop := fnExactSensorMostUptoRow.holds Try.pinned (OpenSpec.upto fnExactSensorMostSpec)

/-- 'laws.FnExactSensorLeast', WHERE WHAT IT READS IS OF BULK AT MOST 1048576: true; the input reads as it did. -/
def fnExactSensorLeastUptoRow : OpenClaim := { program := "ytbmbgkcnanmbkaa", sum := "8920c94ba020721ced6df31538abbe71084c036ac366a90ef79a3d170140f564", func := "loop.example/faultcodes/laws.FnExactSensorLeast", spec := "fnExactSensorLeast", unfollowed := true, recurses := true, apart := false, narrowed := true }
def FnExactSensorLeastUptoSaid : Prop := fnExactSensorLeastUptoRow.holds Try.pinned (OpenSpec.upto fnExactSensorLeastSpec)

/-- 'laws.FnExactSensorFind', WHERE WHAT IT READS IS OF BULK AT MOST 1048576: true; the input reads as it did. -/
def fnExactSensorFindUptoRow : OpenClaim := { program := "ytbmbgkcnanmbkaa", sum := "8920c94ba020721ced6df31538abbe71084c036ac366a90ef79a3d170140f564", func := "loop.example/faultcodes/laws.FnExactSensorFind", spec := "fnExactSensorFind", unfollowed := true, recurses := true, apart := false, narrowed := true }
def FnExactSensorFindUptoSaid : Prop := fnExactSensorFindUptoRow.holds Try.pinned (OpenSpec.upto fnExactSensorFindSpec)

/-- 'laws.FnExactAskPlay', WHERE WHAT IT READS IS OF BULK AT MOST 1048576: true; the input reads as it did. -/
def fnExactAskPlayUptoRow : OpenClaim := { program := "ytbmbgkcnanmbkaa", sum := "8920c94ba020721ced6df31538abbe71084c036ac366a90ef79a3d170140f564", func := "loop.example/faultcodes/laws.FnExactAskPlay", spec := "fnExactAskPlay", unfollowed := true, recurses := true, apart := false, narrowed := true }
def FnExactAskPlayUptoSaid : Prop := fnExactAskPlayUptoRow.holds Try.pinned (OpenSpec.upto fnExactAskPlaySpec)

/-- 'laws.FnExactAskAnswers', WHERE WHAT IT READS IS OF BULK AT MOST 1048576: true; the input reads as it did. -/
def fnExactAskAnswersUptoRow : OpenClaim := { program := "ytbmbgkcnanmbkaa", sum := "8920c94ba020721ced6df31538abbe71084c036ac366a90ef79a3d170140f564", func := "loop.example/faultcodes/laws.FnExactAskAnswers", spec := "fnExactAskAnswers", inPlace := ["internal/abi.NoEscape"], unfollowed := true, recurses := true, apart := false, narrowed := true }
def FnExactAskAnswersUptoSaid : Prop := fnExactAskAnswersUptoRow.holds Try.pinned (OpenSpec.upto fnExactAskAnswersSpec)

/-- 'laws.FnExactSensorSilent', WHERE WHAT IT READS IS OF BULK AT MOST 1048576: true; the input reads as it did. -/
def fnExactSensorSilentUptoRow : OpenClaim := { program := "ytbmbgkcnanmbkaa", sum := "8920c94ba020721ced6df31538abbe71084c036ac366a90ef79a3d170140f564", func := "loop.example/faultcodes/laws.FnExactSensorSilent", spec := "fnExactSensorSilent", unfollowed := true, recurses := true, apart := false, narrowed := true }
def FnExactSensorSilentUptoSaid : Prop := fnExactSensorSilentUptoRow.holds Try.pinned (OpenSpec.upto fnExactSensorSilentSpec)

/-- 'laws.FnExactLeastNumber', WHERE WHAT IT READS IS OF BULK AT MOST 1048576: true; the input reads as it did. -/
def fnExactLeastNumberUptoRow : OpenClaim := { program := "ytbmbgkcnanmbkaa", sum := "8920c94ba020721ced6df31538abbe71084c036ac366a90ef79a3d170140f564", func := "loop.example/faultcodes/laws.FnExactLeastNumber", spec := "fnExactLeastNumber", unfollowed := true, recurses := true, apart := false, narrowed := true }
def FnExactLeastNumberUptoSaid : Prop := fnExactLeastNumberUptoRow.holds Try.pinned (OpenSpec.upto fnExactLeastNumberSpec)

end Rows
end Go.Proofs.Ytbmbgkcnanmbkaa
