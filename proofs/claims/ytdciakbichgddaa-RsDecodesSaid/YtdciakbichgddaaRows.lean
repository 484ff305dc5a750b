/-
  No cell of these rows narrows 'for every input' (looked for: loops, veiled, ifaces, maps, wideKeys, modest, calm, conditions, laid).
  DERIVED. THE GIVEN ROWS OF THIS SEAT. 21 by the template 'for every input the law returns true; each argument reads behind the call as it read before'; 0 by the template 'total and deterministic' (their statements: YtdciakbichgddaaTotals.lean).
  GIVEN WITH THE SEED: the statements are not yours to turn. If you find one false, say at which input.
  Laid BY PROGRAM, IN A SANDBOX (cutbox-rows.mjs): the forced cells as the released guide's own fill.sh prints them over the translation 9cac5e19196c4e21… (all of the seat's roots in one cut). By AI agents, Wed Nov 11 2026. No macro, syntax, notation, axiom, sorry.
-/
import Derived.Test.YtdciakbichgddaaChecked
import GoSem.Claim
import GoSem.ClaimJoined
import GoSem.ClaimMapViews
import Derived.JoinedTies
import Derived.KernelRfl
namespace Go.Proofs.Ytdciakbichgddaa
/- THE CELL 'sum', in the pinned program and in every row, IS THE sha256 OF THE DUMP (.gsa) THAT YtdciakbichgddaaProg.lean LOADS. Nothing in Lean hashes anything: it is a label: what it is worth is what the hold of that sum in a sandbox is worth. -/
noncomputable def Try.pinned : Pinned := { name := "ytdciakbichgddaa", sum := "9cac5e19196c4e21d9718fd246c2169069cef9ff639951eabdb0f9e3235a48d8", checked := Try.checked }
namespace Rows
def none {H : Type} : Left H := { results := [], args := [] }

/-- 'aumbrylaw04.GfPows': WHATEVER THE INPUT: true; the input reads as it did. -/
def gfPowsSpec : ChangeSpec := { name := "gfPows", fn := fun _ => fun
  | [d1, d2] => { results := [.lit (.bool true)], args := [d1, d2] }
  | _ => none }
def gfPowsRow : OpenClaim := { program := "ytdciakbichgddaa", sum := "9cac5e19196c4e21d9718fd246c2169069cef9ff639951eabdb0f9e3235a48d8", func := "aumbry/aumbrylaw04.GfPows", spec := "gfPows", apart := false }
def GfPowsSaid : Prop := gfPowsRow.holds Try.pinned (OpenSpec.ofChange gfPowsSpec)

/-- ITS FALSE NEIGHBOUR: 'it returns false'. Refute it at one input. -/
def gfPowsWrong : ChangeSpec := { name := "gfPows", fn := fun _ => fun
  | [d1, d2] => { results := [.lit (.bool false)], args := [d1, d2] }
  | _ => none }
def GfPowsWrongFalsely : Prop := gfPowsRow.holds Try.pinned (OpenSpec.ofChange gfPowsWrong)

/-- 'aumbrylaw04.GfOrder': WHATEVER THE INPUT: true; the input reads as it did. -/
def gfOrderSpec : ChangeSpec := { name := "gfOrder", fn := fun _ => fun
  | [d] => { results := [.lit (.bool true)], args := [d] }
  | _ => none }
def gfOrderRow : OpenClaim := { program := "ytdciakbichgddaa", sum := "9cac5e19196c4e21d9718fd246c2169069cef9ff639951eabdb0f9e3235a48d8", func := "aumbry/aumbrylaw04.GfOrder", spec := "gfOrder", apart := false }
def GfOrderSaid : Prop := gfOrderRow.holds Try.pinned (OpenSpec.ofChange gfOrderSpec)

/-- ITS FALSE NEIGHBOUR: 'it returns false'. Refute it at one input. -/
def gfOrderWrong : ChangeSpec := { name := "gfOrder", fn := fun _ => fun
  | [d] => { results := [.lit (.bool false)], args := [d] }
  | _ => none }
def GfOrderWrongFalsely : Prop := gfOrderRow.holds Try.pinned (OpenSpec.ofChange gfOrderWrong)

/-- 'aumbrylaw04.GfDots': WHATEVER THE INPUT: true; the input reads as it did. -/
def gfDotsSpec : ChangeSpec := { name := "gfDots", fn := fun _ => fun
  | [d1, d2] => { results := [.lit (.bool true)], args := [d1, d2] }
  | _ => none }
def gfDotsRow : OpenClaim := { program := "ytdciakbichgddaa", sum := "9cac5e19196c4e21d9718fd246c2169069cef9ff639951eabdb0f9e3235a48d8", func := "aumbry/aumbrylaw04.GfDots", spec := "gfDots", unfollowed := true, recurses := true, apart := false }
def GfDotsSaid : Prop := gfDotsRow.holds Try.pinned (OpenSpec.ofChange gfDotsSpec)

/-- ITS FALSE NEIGHBOUR: 'it returns false'. Refute it at one input. -/
def gfDotsWrong : ChangeSpec := { name := "gfDots", fn := fun _ => fun
  | [d1, d2] => { results := [.lit (.bool false)], args := [d1, d2] }
  | _ => none }
def GfDotsWrongFalsely : Prop := gfDotsRow.holds Try.pinned (OpenSpec.ofChange gfDotsWrong)

/-- 'aumbrylaw04.GfMuls': WHATEVER THE INPUT: true; the input reads as it did. -/
def gfMulsSpec : ChangeSpec := { name := "gfMuls", fn := fun _ => fun
  | [d1, d2] => { results := [.lit (.bool true)], args := [d1, d2] }
  | _ => none }
def gfMulsRow : OpenClaim := { program := "ytdciakbichgddaa", sum := "9cac5e19196c4e21d9718fd246c2169069cef9ff639951eabdb0f9e3235a48d8", func := "aumbry/aumbrylaw04.GfMuls", spec := "gfMuls", apart := false }
def GfMulsSaid : Prop := gfMulsRow.holds Try.pinned (OpenSpec.ofChange gfMulsSpec)

/-- ITS FALSE NEIGHBOUR: 'it returns false'. Refute it at one input. -/
def gfMulsWrong : ChangeSpec := { name := "gfMuls", fn := fun _ => fun
  | [d1, d2] => { results := [.lit (.bool false)], args := [d1, d2] }
  | _ => none }
def GfMulsWrongFalsely : Prop := gfMulsRow.holds Try.pinned (OpenSpec.ofChange gfMulsWrong)

/-- 'aumbrylaw04.GfSquares': WHATEVER THE INPUT: true; the input reads as it did. -/
def gfSquaresSpec : ChangeSpec := { name := "gfSquares", fn := fun _ => fun
  | [d1, d2, d3, d4, d5, d6] => { results := [.lit (.bool true)], args := [d1, d2, d3, d4, d5, d6] }
  | _ => none }
def gfSquaresRow : OpenClaim := { program := "ytdciakbichgddaa", sum := "9cac5e19196c4e21d9718fd246c2169069cef9ff639951eabdb0f9e3235a48d8", func := "aumbry/aumbrylaw04.GfSquares", spec := "gfSquares", unfollowed := true, recurses := true, apart := false }
def GfSquaresSaid : Prop := gfSquaresRow.holds Try.pinned (OpenSpec.ofChange gfSquaresSpec)

/-- ITS FALSE NEIGHBOUR: 'it returns false'. Refute it at one input. -/
def gfSquaresWrong : ChangeSpec := { name := "gfSquares", fn := fun _ => fun
  | [d1, d2, d3, d4, d5, d6] => { results := [.lit (.bool false)], args := [d1, d2, d3, d4, d5, d6] }
  | _ => none }
def GfSquaresWrongFalsely : Prop := gfSquaresRow.holds Try.pinned (OpenSpec.ofChange gfSquaresWrong)

/-- 'aumbrylaw04.GfLaws': WHATEVER THE INPUT: true; the input reads as it did. -/
def gfLawsSpec : ChangeSpec := { name := "gfLaws", fn := fun _ => fun
  | [d1, d2, d3] => { results := [.lit (.bool true)], args := [d1, d2, d3] }
  | _ => none }
def gfLawsRow : OpenClaim := { program := "ytdciakbichgddaa", sum := "9cac5e19196c4e21d9718fd246c2169069cef9ff639951eabdb0f9e3235a48d8", func := "aumbry/aumbrylaw04.GfLaws", spec := "gfLaws", unfollowed := true, recurses := true, apart := false }
def GfLawsSaid : Prop := gfLawsRow.holds Try.pinned (OpenSpec.ofChange gfLawsSpec)

/-- ITS FALSE NEIGHBOUR: 'it returns false'. Refute it at one input. -/
def gfLawsWrong : ChangeSpec := { name := "gfLaws", fn := fun _ => fun
  | [d1, d2, d3] => { results := [.lit (.bool false)], args := [d1, d2, d3] }
  | _ => none }
def GfLawsWrongFalsely : Prop := gfLawsRow.holds Try.pinned (OpenSpec.ofChange gfLawsWrong)

/-- 'aumbrylaw05.MatrixInverses': WHATEVER THE INPUT: true; the input reads as it did. -/
def matrixInversesSpec : ChangeSpec := { name := "matrixInverses", fn := fun _ => fun
  | [d1, d2, d3] => { results := [.lit (.bool true)], args := [d1, d2, d3] }
  | _ => none }
def matrixInversesRow : OpenClaim := { program := "ytdciakbichgddaa", sum := "9cac5e19196c4e21d9718fd246c2169069cef9ff639951eabdb0f9e3235a48d8", func := "aumbry/aumbrylaw05.MatrixInverses", spec := "matrixInverses", unfollowed := true, recurses := true, apart := false }
def MatrixInversesSaid : Prop := matrixInversesRow.holds Try.pinned (OpenSpec.ofChange matrixInversesSpec)

/-- ITS FALSE NEIGHBOUR: 'it returns false'. Refute it at one input. -/
def matrixInversesWrong : ChangeSpec := { name := "matrixInverses", fn := fun _ => fun
  | [d1, d2, d3] => { results := [.lit (.bool false)], args := [d1, d2, d3] }
  | _ => none }
def MatrixInversesWrongFalsely : Prop := matrixInversesRow.holds Try.pinned (OpenSpec.ofChange matrixInversesWrong)

/-- 'aumbrylaw05.MatrixMade': WHATEVER THE INPUT: true; the input reads as it did. -/
def matrixMadeSpec : ChangeSpec := { name := "matrixMade", fn := fun _ => fun
  | [d1, d2] => { results := [.lit (.bool true)], args := [d1, d2] }
  | _ => none }
def matrixMadeRow : OpenClaim := { program := "ytdciakbichgddaa", sum := "9cac5e19196c4e21d9718fd246c2169069cef9ff639951eabdb0f9e3235a48d8", func := "aumbry/aumbrylaw05.MatrixMade", spec := "matrixMade", unfollowed := true, recurses := true, apart := false }
def MatrixMadeSaid : Prop := matrixMadeRow.holds Try.pinned (OpenSpec.ofChange matrixMadeSpec)

/-- ITS FALSE NEIGHBOUR: 'it returns false'. Refute it at one input. -/
def matrixMadeWrong : ChangeSpec := { name := "matrixMade", fn := fun _ => fun
  | [d1, d2] => { results := [.lit (.bool false)], args := [d1, d2] }
  | _ => none }
def MatrixMadeWrongFalsely : Prop := matrixMadeRow.holds Try.pinned (OpenSpec.ofChange matrixMadeWrong)

/-- 'aumbrylaw05.MatrixTurned': WHATEVER THE INPUT: true; the input reads as it did. -/
def matrixTurnedSpec : ChangeSpec := { name := "matrixTurned", fn := fun _ => fun
  | [d1, d2, d3] => { results := [.lit (.bool true)], args := [d1, d2, d3] }
  | _ => none }
def matrixTurnedRow : OpenClaim := { program := "ytdciakbichgddaa", sum := "9cac5e19196c4e21d9718fd246c2169069cef9ff639951eabdb0f9e3235a48d8", func := "aumbry/aumbrylaw05.MatrixTurned", spec := "matrixTurned", unfollowed := true, recurses := true, apart := false }
def MatrixTurnedSaid : Prop := matrixTurnedRow.holds Try.pinned (OpenSpec.ofChange matrixTurnedSpec)

/-- ITS FALSE NEIGHBOUR: 'it returns false'. Refute it at one input. -/
def matrixTurnedWrong : ChangeSpec := { name := "matrixTurned", fn := fun _ => fun
  | [d1, d2, d3] => { results := [.lit (.bool false)], args := [d1, d2, d3] }
  | _ => none }
def MatrixTurnedWrongFalsely : Prop := matrixTurnedRow.holds Try.pinned (OpenSpec.ofChange matrixTurnedWrong)

/-- 'aumbrylaw05.MatrixLaws': WHATEVER THE INPUT: true; the input reads as it did. -/
def matrixLawsSpec : ChangeSpec := { name := "matrixLaws", fn := fun _ => fun
  | [d1, d2, d3, d4] => { results := [.lit (.bool true)], args := [d1, d2, d3, d4] }
  | _ => none }
def matrixLawsRow : OpenClaim := { program := "ytdciakbichgddaa", sum := "9cac5e19196c4e21d9718fd246c2169069cef9ff639951eabdb0f9e3235a48d8", func := "aumbry/aumbrylaw05.MatrixLaws", spec := "matrixLaws", unfollowed := true, recurses := true, apart := false }
def MatrixLawsSaid : Prop := matrixLawsRow.holds Try.pinned (OpenSpec.ofChange matrixLawsSpec)

/-- ITS FALSE NEIGHBOUR: 'it returns false'. Refute it at one input. -/
def matrixLawsWrong : ChangeSpec := { name := "matrixLaws", fn := fun _ => fun
  | [d1, d2, d3, d4] => { results := [.lit (.bool false)], args := [d1, d2, d3, d4] }
  | _ => none }
def MatrixLawsWrongFalsely : Prop := matrixLawsRow.holds Try.pinned (OpenSpec.ofChange matrixLawsWrong)

/-- 'aumbrylaw05.MatrixPowers': WHATEVER THE INPUT: true; the input reads as it did. -/
def matrixPowersSpec : ChangeSpec := { name := "matrixPowers", fn := fun _ => fun
  | [d1, d2, d3] => { results := [.lit (.bool true)], args := [d1, d2, d3] }
  | _ => none }
def matrixPowersRow : OpenClaim := { program := "ytdciakbichgddaa", sum := "9cac5e19196c4e21d9718fd246c2169069cef9ff639951eabdb0f9e3235a48d8", func := "aumbry/aumbrylaw05.MatrixPowers", spec := "matrixPowers", unfollowed := true, recurses := true, apart := false }
def MatrixPowersSaid : Prop := matrixPowersRow.holds Try.pinned (OpenSpec.ofChange matrixPowersSpec)

/-- ITS FALSE NEIGHBOUR: 'it returns false'. Refute it at one input. -/
def matrixPowersWrong : ChangeSpec := { name := "matrixPowers", fn := fun _ => fun
  | [d1, d2, d3] => { results := [.lit (.bool false)], args := [d1, d2, d3] }
  | _ => none }
def MatrixPowersWrongFalsely : Prop := matrixPowersRow.holds Try.pinned (OpenSpec.ofChange matrixPowersWrong)

/-- 'aumbrylaw05.MatrixApplies': WHATEVER THE INPUT: true; the input reads as it did. -/
def matrixAppliesSpec : ChangeSpec := { name := "matrixApplies", fn := fun _ => fun
  | [d1, d2, d3, d4, d5] => { results := [.lit (.bool true)], args := [d1, d2, d3, d4, d5] }
  | _ => none }
def matrixAppliesRow : OpenClaim := { program := "ytdciakbichgddaa", sum := "9cac5e19196c4e21d9718fd246c2169069cef9ff639951eabdb0f9e3235a48d8", func := "aumbry/aumbrylaw05.MatrixApplies", spec := "matrixApplies", unfollowed := true, recurses := true, apart := false }
def MatrixAppliesSaid : Prop := matrixAppliesRow.holds Try.pinned (OpenSpec.ofChange matrixAppliesSpec)

/-- ITS FALSE NEIGHBOUR: 'it returns false'. Refute it at one input. -/
def matrixAppliesWrong : ChangeSpec := { name := "matrixApplies", fn := fun _ => fun
  | [d1, d2, d3, d4, d5] => { results := [.lit (.bool false)], args := [d1, d2, d3, d4, d5] }
  | _ => none }
def MatrixAppliesWrongFalsely : Prop := matrixAppliesRow.holds Try.pinned (OpenSpec.ofChange matrixAppliesWrong)

/-- 'aumbrylaw05.MatrixRaw': WHATEVER THE INPUT: true; the input reads as it did. -/
def matrixRawSpec : ChangeSpec := { name := "matrixRaw", fn := fun _ => fun
  | [d1, d2, d3, d4] => { results := [.lit (.bool true)], args := [d1, d2, d3, d4] }
  | _ => none }
def matrixRawRow : OpenClaim := { program := "ytdciakbichgddaa", sum := "9cac5e19196c4e21d9718fd246c2169069cef9ff639951eabdb0f9e3235a48d8", func := "aumbry/aumbrylaw05.MatrixRaw", spec := "matrixRaw", unfollowed := true, recurses := true, apart := false }
def MatrixRawSaid : Prop := matrixRawRow.holds Try.pinned (OpenSpec.ofChange matrixRawSpec)

/-- ITS FALSE NEIGHBOUR: 'it returns false'. Refute it at one input. -/
def matrixRawWrong : ChangeSpec := { name := "matrixRaw", fn := fun _ => fun
  | [d1, d2, d3, d4] => { results := [.lit (.bool false)], args := [d1, d2, d3, d4] }
  | _ => none }
def MatrixRawWrongFalsely : Prop := matrixRawRow.holds Try.pinned (OpenSpec.ofChange matrixRawWrong)

/-- 'aumbrylaw06.RsSums': WHATEVER THE INPUT: true; the input reads as it did. -/
def rsSumsSpec : ChangeSpec := { name := "rsSums", fn := fun _ => fun
  | [d1, d2, d3, d4] => { results := [.lit (.bool true)], args := [d1, d2, d3, d4] }
  | _ => none }
def rsSumsRow : OpenClaim := { program := "ytdciakbichgddaa", sum := "9cac5e19196c4e21d9718fd246c2169069cef9ff639951eabdb0f9e3235a48d8", func := "aumbry/aumbrylaw06.RsSums", spec := "rsSums", unfollowed := true, recurses := true, apart := false }
def RsSumsSaid : Prop := rsSumsRow.holds Try.pinned (OpenSpec.ofChange rsSumsSpec)

/-- ITS FALSE NEIGHBOUR: 'it returns false'. Refute it at one input. -/
def rsSumsWrong : ChangeSpec := { name := "rsSums", fn := fun _ => fun
  | [d1, d2, d3, d4] => { results := [.lit (.bool false)], args := [d1, d2, d3, d4] }
  | _ => none }
def RsSumsWrongFalsely : Prop := rsSumsRow.holds Try.pinned (OpenSpec.ofChange rsSumsWrong)

/-- 'aumbrylaw06.RsEncodes': WHATEVER THE INPUT: true; the input reads as it did. -/
def rsEncodesSpec : ChangeSpec := { name := "rsEncodes", fn := fun _ => fun
  | [d1, d2, d3, d4] => { results := [.lit (.bool true)], args := [d1, d2, d3, d4] }
  | _ => none }
def rsEncodesRow : OpenClaim := { program := "ytdciakbichgddaa", sum := "9cac5e19196c4e21d9718fd246c2169069cef9ff639951eabdb0f9e3235a48d8", func := "aumbry/aumbrylaw06.RsEncodes", spec := "rsEncodes", unfollowed := true, recurses := true, apart := false }
def RsEncodesSaid : Prop := rsEncodesRow.holds Try.pinned (OpenSpec.ofChange rsEncodesSpec)

/-- ITS FALSE NEIGHBOUR: 'it returns false'. Refute it at one input. -/
def rsEncodesWrong : ChangeSpec := { name := "rsEncodes", fn := fun _ => fun
  | [d1, d2, d3, d4] => { results := [.lit (.bool false)], args := [d1, d2, d3, d4] }
  | _ => none }
def RsEncodesWrongFalsely : Prop := rsEncodesRow.holds Try.pinned (OpenSpec.ofChange rsEncodesWrong)

/-- 'aumbrylaw06.RsNews': WHATEVER THE INPUT: true; the input reads as it did. -/
def rsNewsSpec : ChangeSpec := { name := "rsNews", fn := fun _ => fun
  | [d1, d2] => { results := [.lit (.bool true)], args := [d1, d2] }
  | _ => none }
def rsNewsRow : OpenClaim := { program := "ytdciakbichgddaa", sum := "9cac5e19196c4e21d9718fd246c2169069cef9ff639951eabdb0f9e3235a48d8", func := "aumbry/aumbrylaw06.RsNews", spec := "rsNews", unfollowed := true, recurses := true, apart := false }
def RsNewsSaid : Prop := rsNewsRow.holds Try.pinned (OpenSpec.ofChange rsNewsSpec)

/-- ITS FALSE NEIGHBOUR: 'it returns false'. Refute it at one input. -/
def rsNewsWrong : ChangeSpec := { name := "rsNews", fn := fun _ => fun
  | [d1, d2] => { results := [.lit (.bool false)], args := [d1, d2] }
  | _ => none }
def RsNewsWrongFalsely : Prop := rsNewsRow.holds Try.pinned (OpenSpec.ofChange rsNewsWrong)

/-- 'aumbrylaw06.RsFirst': WHATEVER THE INPUT: true; the input reads as it did. -/
def rsFirstSpec : ChangeSpec := { name := "rsFirst", fn := fun _ => fun
  | [d1, d2, d3] => { results := [.lit (.bool true)], args := [d1, d2, d3] }
  | _ => none }
def rsFirstRow : OpenClaim := { program := "ytdciakbichgddaa", sum := "9cac5e19196c4e21d9718fd246c2169069cef9ff639951eabdb0f9e3235a48d8", func := "aumbry/aumbrylaw06.RsFirst", spec := "rsFirst", unfollowed := true, recurses := true, apart := false }
def RsFirstSaid : Prop := rsFirstRow.holds Try.pinned (OpenSpec.ofChange rsFirstSpec)

/-- ITS FALSE NEIGHBOUR: 'it returns false'. Refute it at one input. -/
def rsFirstWrong : ChangeSpec := { name := "rsFirst", fn := fun _ => fun
  | [d1, d2, d3] => { results := [.lit (.bool false)], args := [d1, d2, d3] }
  | _ => none }
def RsFirstWrongFalsely : Prop := rsFirstRow.holds Try.pinned (OpenSpec.ofChange rsFirstWrong)

/-- 'aumbrylaw06.RsAnew': WHATEVER THE INPUT: true; the input reads as it did. -/
def rsAnewSpec : ChangeSpec := { name := "rsAnew", fn := fun _ => fun
  | [d1, d2, d3, d4] => { results := [.lit (.bool true)], args := [d1, d2, d3, d4] }
  | _ => none }
def rsAnewRow : OpenClaim := { program := "ytdciakbichgddaa", sum := "9cac5e19196c4e21d9718fd246c2169069cef9ff639951eabdb0f9e3235a48d8", func := "aumbry/aumbrylaw06.RsAnew", spec := "rsAnew", unfollowed := true, recurses := true, apart := false }
def RsAnewSaid : Prop := rsAnewRow.holds Try.pinned (OpenSpec.ofChange rsAnewSpec)

/-- ITS FALSE NEIGHBOUR: 'it returns false'. Refute it at one input. -/
def rsAnewWrong : ChangeSpec := { name := "rsAnew", fn := fun _ => fun
  | [d1, d2, d3, d4] => { results := [.lit (.bool false)], args := [d1, d2, d3, d4] }
  | _ => none }
def RsAnewWrongFalsely : Prop := rsAnewRow.holds Try.pinned (OpenSpec.ofChange rsAnewWrong)

/-- 'aumbrylaw06.RsWrong': WHATEVER THE INPUT: true; the input reads as it did. -/
def rsWrongSpec : ChangeSpec := { name := "rsWrong", fn := fun _ => fun
  | [d1, d2, d3, d4, d5, d6] => { results := [.lit (.bool true)], args := [d1, d2, d3, d4, d5, d6] }
  | _ => none }
def rsWrongRow : OpenClaim := { program := "ytdciakbichgddaa", sum := "9cac5e19196c4e21d9718fd246c2169069cef9ff639951eabdb0f9e3235a48d8", func := "aumbry/aumbrylaw06.RsWrong", spec := "rsWrong", unfollowed := true, recurses := true, apart := false }
def RsWrongSaid : Prop := rsWrongRow.holds Try.pinned (OpenSpec.ofChange rsWrongSpec)

/-- ITS FALSE NEIGHBOUR: 'it returns false'. Refute it at one input. -/
def rsWrongWrong : ChangeSpec := { name := "rsWrong", fn := fun _ => fun
  | [d1, d2, d3, d4, d5, d6] => { results := [.lit (.bool false)], args := [d1, d2, d3, d4, d5, d6] }
  | _ => none }
def RsWrongWrongFalsely : Prop := rsWrongRow.holds Try.pinned (OpenSpec.ofChange rsWrongWrong)

/-- 'aumbrylaw06.RsDecodes': WHATEVER THE INPUT: true; the input reads as it did. -/
def rsDecodesSpec : ChangeSpec := { name := "rsDecodes", fn := fun _ => fun
  | [d1, d2, d3] => { results := [.lit (.bool true)], args := [d1, d2, d3] }
  | _ => none }
def rsDecodesRow : OpenClaim := { program := "ytdciakbichgddaa", sum := "9cac5e19196c4e21d9718fd246c2169069cef9ff639951eabdb0f9e3235a48d8", func := "aumbry/aumbrylaw06.RsDecodes", spec := "rsDecodes", unfollowed := true, recurses := true, apart := false }
def RsDecodesSaid : Prop := rsDecodesRow.holds Try.pinned (OpenSpec.ofChange rsDecodesSpec)

/-- ITS FALSE NEIGHBOUR: 'it returns false'. Refute it at one input. -/
def rsDecodesWrong : ChangeSpec := { name := "rsDecodes", fn := fun _ => fun
  | [d1, d2, d3] => { results := [.lit (.bool false)], args := [d1, d2, d3] }
  | _ => none }
def RsDecodesWrongFalsely : Prop := rsDecodesRow.holds Try.pinned (OpenSpec.ofChange rsDecodesWrong)

/-- 'aumbrylaw06.RsAny': WHATEVER THE INPUT: true; the input reads as it did. -/
def rsAnySpec : ChangeSpec := { name := "rsAny", fn := fun _ => fun
  | [d1, d2, d3, d4] => { results := [.lit (.bool true)], args := [d1, d2, d3, d4] }
  | _ => none }
def rsAnyRow : OpenClaim := { program := "ytdciakbichgddaa", sum := "9cac5e19196c4e21d9718fd246c2169069cef9ff639951eabdb0f9e3235a48d8", func := "aumbry/aumbrylaw06.RsAny", spec := "rsAny", unfollowed := true, recurses := true, apart := false }
def RsAnySaid : Prop := rsAnyRow.holds Try.pinned (OpenSpec.ofChange rsAnySpec)

/-- ITS FALSE NEIGHBOUR: 'it returns false'. Refute it at one input. -/
def rsAnyWrong : ChangeSpec := { name := "rsAny", fn := fun _ => fun
  | [d1, d2, d3, d4] => { results := [.lit (.bool false)], args := [d1, d2, d3, d4] }
  | _ => none }
def RsAnyWrongFalsely : Prop := rsAnyRow.holds Try.pinned (OpenSpec.ofChange rsAnyWrong)

/- THE SECOND FORM. 'bulk': how many values and letters a reading holds, each counted each time it is reached (what is shared counts as often as it is met; a slice's spare places count too). A statement '..UptoSaid' is the law's where the arguments, and the package variables that the reading takes, are together of bulk at most 1048576: NARROWER than '..Said'. Prove '..Said' where nothing that the law and all that it calls make is longer than what came in: it says more and counts as full. Else prove '..UptoSaid'. A law counts once. -/
mutual
def uptoBulk {H : Type} : DataW H → Nat
  | .lit (.string bytes) => bytes.length + 1
  | .lit _ => 1
  | .nil => 1
  | .ptr d => uptoBulk d + 1
  | .slice elems spare => uptoBulkAll elems + uptoBulkAll spare + 1
  | .agg parts => uptoBulkAll parts + 1
  | .iface _ d => uptoBulk d + 1
  | .map entries => uptoBulkEntries entries + 1
  | .held _ => 1
def uptoBulkAll {H : Type} : List (DataW H) → Nat
  | [] => 0
  | d :: r => uptoBulk d + uptoBulkAll r
def uptoBulkEntries {H : Type} : List (Lit × DataW H) → Nat
  | [] => 0
  | x :: r => uptoBulkEntry x + uptoBulkEntries r
def uptoBulkEntry {H : Type} : Lit × DataW H → Nat
  | (.string bytes, d) => bytes.length + uptoBulk d + 1
  | (_, d) => uptoBulk d + 1
 end
def uptoSmall : (H : Type) → List (DataW H) → Bool := fun _ ds => decide (uptoBulkAll ds ≤ 1048576)
def OpenSpec.upto (s : _root_.Go.ChangeSpec) : _root_.Go.OpenSpec := { _root_.Go.OpenSpec.ofChange s with cond := some uptoSmall }

/-- 'aumbrylaw04.GfPows', WHERE WHAT IT READS IS OF BULK AT MOST 1048576: true; the input reads as it did. -/
def gfPowsUptoRow : OpenClaim := { program := "ytdciakbichgddaa", sum := "9cac5e19196c4e21d9718fd246c2169069cef9ff639951eabdb0f9e3235a48d8", func := "aumbry/aumbrylaw04.GfPows", spec := "gfPows", apart := false, narrowed := true }
def GfPowsUptoSaid : Prop := gfPowsUptoRow.holds Try.pinned (OpenSpec.upto gfPowsSpec)

/-- 'aumbrylaw04.GfOrder', WHERE WHAT IT READS IS OF BULK AT MOST 1048576: true; the input reads as it did. -/
def gfOrderUptoRow : OpenClaim := { program := "ytdciakbichgddaa", sum := "9cac5e19196c4e21d9718fd246c2169069cef9ff639951eabdb0f9e3235a48d8", func := "aumbry/aumbrylaw04.GfOrder", spec := "gfOrder", apart := false, narrowed := true }
def GfOrderUptoSaid : Prop := gfOrderUptoRow.holds Try.pinned (OpenSpec.upto gfOrderSpec)

/-- 'aumbrylaw04.GfDots', WHERE WHAT IT READS IS OF BULK AT MOST 1048576: true; the input reads as it did. -/
def gfDotsUptoRow : OpenClaim := { program := "ytdciakbichgddaa", sum := "9cac5e19196c4e21d9718fd246c2169069cef9ff639951eabdb0f9e3235a48d8", func := "aumbry/aumbrylaw04.GfDots", spec := "gfDots", unfollowed := true, recurses := true, apart := false, narrowed := true }
def GfDotsUptoSaid : Prop := gfDotsUptoRow.holds Try.pinned (OpenSpec.upto gfDotsSpec)

/-- 'aumbrylaw04.GfMuls', WHERE WHAT IT READS IS OF BULK AT MOST 1048576: true; the input reads as it did. -/
def gfMulsUptoRow : OpenClaim := { program := "ytdciakbichgddaa", sum := "9cac5e19196c4e21d9718fd246c2169069cef9ff639951eabdb0f9e3235a48d8", func := "aumbry/aumbrylaw04.GfMuls", spec := "gfMuls", apart := false, narrowed := true }
def GfMulsUptoSaid : Prop := gfMulsUptoRow.holds Try.pinned (OpenSpec.upto gfMulsSpec)

/-- 'aumbrylaw04.GfSquares', WHERE WHAT IT READS IS OF BULK AT MOST 1048576: true; the input reads as it did. -/
def gfSquaresUptoRow : OpenClaim := { program := "ytdciakbichgddaa", sum := "9cac5e19196c4e21d9718fd246c2169069cef9ff639951eabdb0f9e3235a48d8", func := "aumbry/aumbrylaw04.GfSquares", spec := "gfSquares", unfollowed := true, recurses := true, apart := false, narrowed := true }
def GfSquaresUptoSaid : Prop := gfSquaresUptoRow.holds Try.pinned (OpenSpec.upto gfSquaresSpec)

/-- 'aumbrylaw04.GfLaws', WHERE WHAT IT READS IS OF BULK AT MOST 1048576: true; the input reads as it did. -/
def gfLawsUptoRow : OpenClaim := { program := "ytdciakbichgddaa", sum := "9cac5e19196c4e21d9718fd246c2169069cef9ff639951eabdb0f9e3235a48d8", func := "aumbry/aumbrylaw04.GfLaws", spec := "gfLaws", unfollowed := true, recurses := true, apart := false, narrowed := true }
def GfLawsUptoSaid : Prop := gfLawsUptoRow.holds Try.pinned (OpenSpec.upto gfLawsSpec)

/-- 'aumbrylaw05.MatrixInverses', WHERE WHAT IT READS IS OF BULK AT MOST 1048576: true; the input reads as it did. -/
def matrixInversesUptoRow : OpenClaim := { program := "ytdciakbichgddaa", sum := "9cac5e19196c4e21d9718fd246c2169069cef9ff639951eabdb0f9e3235a48d8", func := "aumbry/aumbrylaw05.MatrixInverses", spec := "matrixInverses", unfollowed := true, recurses := true, apart := false, narrowed := true }
def MatrixInversesUptoSaid : Prop := matrixInversesUptoRow.holds Try.pinned (OpenSpec.upto matrixInversesSpec)

/-- 'aumbrylaw05.MatrixMade', WHERE WHAT IT READS IS OF BULK AT MOST 1048576: true; the input reads as it did. -/
def matrixMadeUptoRow : OpenClaim := { program := "ytdciakbichgddaa", sum := "9cac5e19196c4e21d9718fd246c2169069cef9ff639951eabdb0f9e3235a48d8", func := "aumbry/aumbrylaw05.MatrixMade", spec := "matrixMade", unfollowed := true, recurses := true, apart := false, narrowed := true }
def MatrixMadeUptoSaid : Prop := matrixMadeUptoRow.holds Try.pinned (OpenSpec.upto matrixMadeSpec)

/-- 'aumbrylaw05.MatrixTurned', WHERE WHAT IT READS IS OF BULK AT MOST 1048576: true; the input reads as it did. -/
def matrixTurnedUptoRow : OpenClaim := { program := "ytdciakbichgddaa", sum := "9cac5e19196c4e21d9718fd246c2169069cef9ff639951eabdb0f9e3235a48d8", func := "aumbry/aumbrylaw05.MatrixTurned", spec := "matrixTurned", unfollowed := true, recurses := true, apart := false, narrowed := true }
def MatrixTurnedUptoSaid : Prop := matrixTurnedUptoRow.holds Try.pinned (OpenSpec.upto matrixTurnedSpec)

/-- 'aumbrylaw05.MatrixLaws', WHERE WHAT IT READS IS OF BULK AT MOST 1048576: true; the input reads as it did. -/
def matrixLawsUptoRow : OpenClaim := { program := "ytdciakbichgddaa", sum := "9cac5e19196c4e21d9718fd246c2169069cef9ff639951eabdb0f9e3235a48d8", func := "aumbry/aumbrylaw05.MatrixLaws", spec := "matrixLaws", unfollowed := true, recurses := true, apart := false, narrowed := true }
def MatrixLawsUptoSaid : Prop := matrixLawsUptoRow.holds Try.pinned (OpenSpec.upto matrixLawsSpec)

/-- 'aumbrylaw05.MatrixPowers', WHERE WHAT IT READS IS OF BULK AT MOST 1048576: true; the input reads as it did. -/
def matrixPowersUptoRow : OpenClaim := { program := "ytdciakbichgddaa", sum := "9cac5e19196c4e21d9718fd246c2169069cef9ff639951eabdb0f9e3235a48d8", func := "aumbry/aumbrylaw05.MatrixPowers", spec := "matrixPowers", unfollowed := true, recurses := true, apart := false, narrowed := true }
def MatrixPowersUptoSaid : Prop := matrixPowersUptoRow.holds Try.pinned (OpenSpec.upto matrixPowersSpec)

/-- 'aumbrylaw05.MatrixApplies', WHERE WHAT IT READS IS OF BULK AT MOST 1048576: true; the input reads as it did. -/
def matrixAppliesUptoRow : OpenClaim := { program := "ytdciakbichgddaa", sum := "9cac5e19196c4e21d9718fd246c2169069cef9ff639951eabdb0f9e3235a48d8", func := "aumbry/aumbrylaw05.MatrixApplies", spec := "matrixApplies", unfollowed := true, recurses := true, apart := false, narrowed := true }
def MatrixAppliesUptoSaid : Prop := matrixAppliesUptoRow.holds Try.pinned (OpenSpec.upto matrixAppliesSpec)

/-- 'aumbrylaw05.MatrixRaw', WHERE WHAT IT READS IS OF BULK AT MOST 1048576: true; the input reads as it did. -/
def matrixRawUptoRow : OpenClaim := { program := "ytdciakbichgddaa", sum := "9cac5e19196c4e21d9718fd246c2169069cef9ff639951eabdb0f9e3235a48d8", func := "aumbry/aumbrylaw05.MatrixRaw", spec := "matrixRaw", unfollowed := true, recurses := true, apart := false, narrowed := true }
def MatrixRawUptoSaid : Prop := matrixRawUptoRow.holds Try.pinned (OpenSpec.upto matrixRawSpec)

/-- 'aumbrylaw06.RsSums', WHERE WHAT IT READS IS OF BULK AT MOST 1048576: true; the input reads as it did. -/
def rsSumsUptoRow : OpenClaim := { program := "ytdciakbichgddaa", sum := "9cac5e19196c4e21d9718fd246c2169069cef9ff639951eabdb0f9e3235a48d8", func := "aumbry/aumbrylaw06.RsSums", spec := "rsSums", unfollowed := true, recurses := true, apart := false, narrowed := true }
def RsSumsUptoSaid : Prop := rsSumsUptoRow.holds Try.pinned (OpenSpec.upto rsSumsSpec)

/-- 'aumbrylaw06.RsEncodes', WHERE WHAT IT READS IS OF BULK AT MOST 1048576: true; the input reads as it did. -/
def rsEncodesUptoRow : OpenClaim := { program := "ytdciakbichgddaa", sum := "9cac5e19196c4e21d9718fd246c2169069cef9ff639951eabdb0f9e3235a48d8", func := "aumbry/aumbrylaw06.RsEncodes", spec := "rsEncodes", unfollowed := true, recurses := true, apart := false, narrowed := true }
def RsEncodesUptoSaid : Prop := rsEncodesUptoRow.holds Try.pinned (OpenSpec.upto rsEncodesSpec)

/-- 'aumbrylaw06.RsNews', WHERE WHAT IT READS IS OF BULK AT MOST 1048576: true; the input reads as it did. -/
def rsNewsUptoRow : OpenClaim := { program := "ytdciakbichgddaa", sum := "9cac5e19196c4e21d9718fd246c2169069cef9ff639951eabdb0f9e3235a48d8", func := "aumbry/aumbrylaw06.RsNews", spec := "rsNews", unfollowed := true, recurses := true, apart := false, narrowed := true }
def RsNewsUptoSaid : Prop := rsNewsUptoRow.holds Try.pinned (OpenSpec.upto rsNewsSpec)

/-- 'aumbrylaw06.RsFirst', WHERE WHAT IT READS IS OF BULK AT MOST 1048576: true; the input reads as it did. -/
def rsFirstUptoRow : OpenClaim := { program := "ytdciakbichgddaa", sum := "9cac5e19196c4e21d9718fd246c2169069cef9ff639951eabdb0f9e3235a48d8", func := "aumbry/aumbrylaw06.RsFirst", spec := "rsFirst", unfollowed := true, recurses := true, apart := false, narrowed := true }
def RsFirstUptoSaid : Prop := rsFirstUptoRow.holds Try.pinned (OpenSpec.upto rsFirstSpec)

/-- 'aumbrylaw06.RsAnew', WHERE WHAT IT READS IS OF BULK AT MOST 1048576: true; the input reads as it did. -/
def rsAnewUptoRow : OpenClaim := { program := "ytdciakbichgddaa", sum := "9cac5e19196c4e21d9718fd246c2169069cef9ff639951eabdb0f9e3235a48d8", func := "aumbry/aumbrylaw06.RsAnew", spec := "rsAnew", unfollowed := true, recurses := true, apart := false, narrowed := true }
def RsAnewUptoSaid : Prop := rsAnewUptoRow.holds Try.pinned (OpenSpec.upto rsAnewSpec)

/-- 'aumbrylaw06.RsWrong', WHERE WHAT IT READS IS OF BULK AT MOST 1048576: true; the input reads as it did. -/
def rsWrongUptoRow : OpenClaim := { program := "ytdciakbichgddaa", sum := "9cac5e19196c4e21d9718fd246c2169069cef9ff639951eabdb0f9e3235a48d8", func := "aumbry/aumbrylaw06.RsWrong", spec := "rsWrong", unfollowed := true, recurses := true, apart := false, narrowed := true }
def RsWrongUptoSaid : Prop := rsWrongUptoRow.holds Try.pinned (OpenSpec.upto rsWrongSpec)

/-- 'aumbrylaw06.RsDecodes', WHERE WHAT IT READS IS OF BULK AT MOST 1048576: true; the input reads as it did. -/
def rsDecodesUptoRow : OpenClaim := { program := "ytdciakbichgddaa", sum := "9cac5e19196c4e21d9718fd246c2169069cef9ff639951eabdb0f9e3235a48d8", func := "aumbry/aumbrylaw06.RsDecodes", spec := "rsDecodes", unfollowed := true, recurses := true, apart := false, narrowed := true }
def RsDecodesUptoSaid : Prop := rsDecodesUptoRow.holds Try.pinned (OpenSpec.upto rsDecodesSpec)

/-- 'aumbrylaw06.RsAny', WHERE WHAT IT READS IS OF BULK AT MOST 1048576: true; the input reads as it did. -/
def rsAnyUptoRow : OpenClaim := { program := "ytdciakbichgddaa", sum := "9cac5e19196c4e21d9718fd246c2169069cef9ff639951eabdb0f9e3235a48d8", func := "aumbry/aumbrylaw06.RsAny", spec := "rsAny", unfollowed := true, recurses := true, apart := false, narrowed := true }
def RsAnyUptoSaid : Prop := rsAnyUptoRow.holds Try.pinned (OpenSpec.upto rsAnySpec)

end Rows
end Go.Proofs.Ytdciakbichgddaa
