/-
  No cell of these rows narrows 'for every input' (looked for: loops, veiled, ifaces, maps, wideKeys, modest, calm, conditions, laid).
  DERIVED. THE GIVEN ROWS OF THIS SEAT. 19 by the template 'for every input the law returns true; each argument reads behind the call as it read before'; 0 by the template 'total and deterministic' (their statements: YtplejggfeehbcaaTotals.lean).
  GIVEN WITH THE SEED: the statements are not yours to turn. If you find one false, say at which input.
  Laid BY PROGRAM, IN A SANDBOX (cutbox-rows.mjs): the forced cells as the released guide's own fill.sh prints them over the translation 90a5e810c5c0b463… (all of the seat's roots in one cut). By AI agents, Wed Nov 11 2026. No macro, syntax, notation, axiom, sorry.
-/
import Derived.Test.YtplejggfeehbcaaChecked
import GoSem.Claim
import GoSem.ClaimJoined
import GoSem.ClaimMapViews
import Derived.JoinedTies
import Derived.KernelRfl
namespace Go.Proofs.Ytplejggfeehbcaa
/- THE CELL 'sum', in the pinned program and in every row, IS THE sha256 OF THE DUMP (.gsa) THAT YtplejggfeehbcaaProg.lean LOADS. Nothing in Lean hashes anything: it is a label: what it is worth is what the hold of that sum in a sandbox is worth. -/
noncomputable def Try.pinned : Pinned := { name := "ytplejggfeehbcaa", sum := "90a5e810c5c0b463cdb7fcd552d3e8e5ab4a81bc44789b871b302af82decd09d", checked := Try.checked }
namespace Rows
def none {H : Type} : Left H := { results := [], args := [] }

/-- 'drowselaw01.FigureRatios': WHATEVER THE INPUT: true; the input reads as it did. -/
def figureRatiosSpec : ChangeSpec := { name := "figureRatios", fn := fun _ => fun
  | [d1, d2] => { results := [.lit (.bool true)], args := [d1, d2] }
  | _ => none }
def figureRatiosRow : OpenClaim := { program := "ytplejggfeehbcaa", sum := "90a5e810c5c0b463cdb7fcd552d3e8e5ab4a81bc44789b871b302af82decd09d", func := "drowse/drowselaw01.FigureRatios", spec := "figureRatios", inPlace := ["math.Float64frombits", "math.Float64bits"], apart := false }
def FigureRatiosSaid : Prop := figureRatiosRow.holds Try.pinned (OpenSpec.ofChange figureRatiosSpec)

/-- ITS FALSE NEIGHBOUR: 'it returns false'. Refute it at one input. -/
def figureRatiosWrong : ChangeSpec := { name := "figureRatios", fn := fun _ => fun
  | [d1, d2] => { results := [.lit (.bool false)], args := [d1, d2] }
  | _ => none }
def FigureRatiosWrongFalsely : Prop := figureRatiosRow.holds Try.pinned (OpenSpec.ofChange figureRatiosWrong)

/-- 'drowselaw01.FigureOrder': WHATEVER THE INPUT: true; the input reads as it did. -/
def figureOrderSpec : ChangeSpec := { name := "figureOrder", fn := fun _ => fun
  | [d1, d2, d3] => { results := [.lit (.bool true)], args := [d1, d2, d3] }
  | _ => none }
def figureOrderRow : OpenClaim := { program := "ytplejggfeehbcaa", sum := "90a5e810c5c0b463cdb7fcd552d3e8e5ab4a81bc44789b871b302af82decd09d", func := "drowse/drowselaw01.FigureOrder", spec := "figureOrder", inPlace := ["math.Float64frombits", "math.Float64bits"], apart := false }
def FigureOrderSaid : Prop := figureOrderRow.holds Try.pinned (OpenSpec.ofChange figureOrderSpec)

/-- ITS FALSE NEIGHBOUR: 'it returns false'. Refute it at one input. -/
def figureOrderWrong : ChangeSpec := { name := "figureOrder", fn := fun _ => fun
  | [d1, d2, d3] => { results := [.lit (.bool false)], args := [d1, d2, d3] }
  | _ => none }
def FigureOrderWrongFalsely : Prop := figureOrderRow.holds Try.pinned (OpenSpec.ofChange figureOrderWrong)

/-- 'drowselaw01.FigureClasses': WHATEVER THE INPUT: true; the input reads as it did. -/
def figureClassesSpec : ChangeSpec := { name := "figureClasses", fn := fun _ => fun
  | [d1, d2] => { results := [.lit (.bool true)], args := [d1, d2] }
  | _ => none }
def figureClassesRow : OpenClaim := { program := "ytplejggfeehbcaa", sum := "90a5e810c5c0b463cdb7fcd552d3e8e5ab4a81bc44789b871b302af82decd09d", func := "drowse/drowselaw01.FigureClasses", spec := "figureClasses", inPlace := ["math.Float64frombits", "math.Float64bits"], apart := false }
def FigureClassesSaid : Prop := figureClassesRow.holds Try.pinned (OpenSpec.ofChange figureClassesSpec)

/-- ITS FALSE NEIGHBOUR: 'it returns false'. Refute it at one input. -/
def figureClassesWrong : ChangeSpec := { name := "figureClasses", fn := fun _ => fun
  | [d1, d2] => { results := [.lit (.bool false)], args := [d1, d2] }
  | _ => none }
def FigureClassesWrongFalsely : Prop := figureClassesRow.holds Try.pinned (OpenSpec.ofChange figureClassesWrong)

/-- 'drowselaw01.FigureEnds': WHATEVER THE INPUT: true; the input reads as it did. -/
def figureEndsSpec : ChangeSpec := { name := "figureEnds", fn := fun _ => fun
  | [d] => { results := [.lit (.bool true)], args := [d] }
  | _ => none }
def figureEndsRow : OpenClaim := { program := "ytplejggfeehbcaa", sum := "90a5e810c5c0b463cdb7fcd552d3e8e5ab4a81bc44789b871b302af82decd09d", func := "drowse/drowselaw01.FigureEnds", spec := "figureEnds", inPlace := ["math.Float64frombits", "math.Float64bits"], apart := false }
def FigureEndsSaid : Prop := figureEndsRow.holds Try.pinned (OpenSpec.ofChange figureEndsSpec)

/-- ITS FALSE NEIGHBOUR: 'it returns false'. Refute it at one input. -/
def figureEndsWrong : ChangeSpec := { name := "figureEnds", fn := fun _ => fun
  | [d] => { results := [.lit (.bool false)], args := [d] }
  | _ => none }
def FigureEndsWrongFalsely : Prop := figureEndsRow.holds Try.pinned (OpenSpec.ofChange figureEndsWrong)

/-- 'drowselaw01.FigureFair': WHATEVER THE INPUT: true; the input reads as it did. -/
def figureFairSpec : ChangeSpec := { name := "figureFair", fn := fun _ => fun
  | [d] => { results := [.lit (.bool true)], args := [d] }
  | _ => none }
def figureFairRow : OpenClaim := { program := "ytplejggfeehbcaa", sum := "90a5e810c5c0b463cdb7fcd552d3e8e5ab4a81bc44789b871b302af82decd09d", func := "drowse/drowselaw01.FigureFair", spec := "figureFair", inPlace := ["math.Float64frombits", "math.Float64bits"], unfollowed := true, recurses := true, apart := false }
def FigureFairSaid : Prop := figureFairRow.holds Try.pinned (OpenSpec.ofChange figureFairSpec)

/-- ITS FALSE NEIGHBOUR: 'it returns false'. Refute it at one input. -/
def figureFairWrong : ChangeSpec := { name := "figureFair", fn := fun _ => fun
  | [d] => { results := [.lit (.bool false)], args := [d] }
  | _ => none }
def FigureFairWrongFalsely : Prop := figureFairRow.holds Try.pinned (OpenSpec.ofChange figureFairWrong)

/-- 'drowselaw01.FigureTexts': WHATEVER THE INPUT: true; the input reads as it did. -/
def figureTextsSpec : ChangeSpec := { name := "figureTexts", fn := fun _ => fun
  | [d1, d2] => { results := [.lit (.bool true)], args := [d1, d2] }
  | _ => none }
def figureTextsRow : OpenClaim := { program := "ytplejggfeehbcaa", sum := "90a5e810c5c0b463cdb7fcd552d3e8e5ab4a81bc44789b871b302af82decd09d", func := "drowse/drowselaw01.FigureTexts", spec := "figureTexts", inPlace := ["math.Float64frombits", "math.Float64bits"], apart := false }
def FigureTextsSaid : Prop := figureTextsRow.holds Try.pinned (OpenSpec.ofChange figureTextsSpec)

/-- ITS FALSE NEIGHBOUR: 'it returns false'. Refute it at one input. -/
def figureTextsWrong : ChangeSpec := { name := "figureTexts", fn := fun _ => fun
  | [d1, d2] => { results := [.lit (.bool false)], args := [d1, d2] }
  | _ => none }
def FigureTextsWrongFalsely : Prop := figureTextsRow.holds Try.pinned (OpenSpec.ofChange figureTextsWrong)

/-- 'drowselaw01.FigureSums': WHATEVER THE INPUT: true; the input reads as it did. -/
def figureSumsSpec : ChangeSpec := { name := "figureSums", fn := fun _ => fun
  | [d] => { results := [.lit (.bool true)], args := [d] }
  | _ => none }
def figureSumsRow : OpenClaim := { program := "ytplejggfeehbcaa", sum := "90a5e810c5c0b463cdb7fcd552d3e8e5ab4a81bc44789b871b302af82decd09d", func := "drowse/drowselaw01.FigureSums", spec := "figureSums", inPlace := ["math.Float64frombits", "math.Float64bits"], unfollowed := true, recurses := true, apart := false }
def FigureSumsSaid : Prop := figureSumsRow.holds Try.pinned (OpenSpec.ofChange figureSumsSpec)

/-- ITS FALSE NEIGHBOUR: 'it returns false'. Refute it at one input. -/
def figureSumsWrong : ChangeSpec := { name := "figureSums", fn := fun _ => fun
  | [d] => { results := [.lit (.bool false)], args := [d] }
  | _ => none }
def FigureSumsWrongFalsely : Prop := figureSumsRow.holds Try.pinned (OpenSpec.ofChange figureSumsWrong)

/-- 'drowselaw01.FigureRanks': WHATEVER THE INPUT: true; the input reads as it did. -/
def figureRanksSpec : ChangeSpec := { name := "figureRanks", fn := fun _ => fun
  | [d] => { results := [.lit (.bool true)], args := [d] }
  | _ => none }
def figureRanksRow : OpenClaim := { program := "ytplejggfeehbcaa", sum := "90a5e810c5c0b463cdb7fcd552d3e8e5ab4a81bc44789b871b302af82decd09d", func := "drowse/drowselaw01.FigureRanks", spec := "figureRanks", inPlace := ["math.Float64frombits", "math.Float64bits"], unfollowed := true, recurses := true, apart := false }
def FigureRanksSaid : Prop := figureRanksRow.holds Try.pinned (OpenSpec.ofChange figureRanksSpec)

/-- ITS FALSE NEIGHBOUR: 'it returns false'. Refute it at one input. -/
def figureRanksWrong : ChangeSpec := { name := "figureRanks", fn := fun _ => fun
  | [d] => { results := [.lit (.bool false)], args := [d] }
  | _ => none }
def FigureRanksWrongFalsely : Prop := figureRanksRow.holds Try.pinned (OpenSpec.ofChange figureRanksWrong)

/-- 'drowselaw01.FigureSorted': WHATEVER THE INPUT: true; the input reads as it did. -/
def figureSortedSpec : ChangeSpec := { name := "figureSorted", fn := fun _ => fun
  | [d] => { results := [.lit (.bool true)], args := [d] }
  | _ => none }
def figureSortedRow : OpenClaim := { program := "ytplejggfeehbcaa", sum := "90a5e810c5c0b463cdb7fcd552d3e8e5ab4a81bc44789b871b302af82decd09d", func := "drowse/drowselaw01.FigureSorted", spec := "figureSorted", inPlace := ["math.Float64frombits", "math.Float64bits"], unfollowed := true, recurses := true, apart := false }
def FigureSortedSaid : Prop := figureSortedRow.holds Try.pinned (OpenSpec.ofChange figureSortedSpec)

/-- ITS FALSE NEIGHBOUR: 'it returns false'. Refute it at one input. -/
def figureSortedWrong : ChangeSpec := { name := "figureSorted", fn := fun _ => fun
  | [d] => { results := [.lit (.bool false)], args := [d] }
  | _ => none }
def FigureSortedWrongFalsely : Prop := figureSortedRow.holds Try.pinned (OpenSpec.ofChange figureSortedWrong)

/-- 'drowselaw17.LotsPick': WHATEVER THE INPUT: true; the input reads as it did. -/
def lotsPickSpec : ChangeSpec := { name := "lotsPick", fn := fun _ => fun
  | [d1, d2] => { results := [.lit (.bool true)], args := [d1, d2] }
  | _ => none }
def lotsPickRow : OpenClaim := { program := "ytplejggfeehbcaa", sum := "90a5e810c5c0b463cdb7fcd552d3e8e5ab4a81bc44789b871b302af82decd09d", func := "drowse/drowselaw17.LotsPick", spec := "lotsPick", inPlace := ["math.Float64bits", "math.Float64frombits"], unfollowed := true, recurses := true, apart := false }
def LotsPickSaid : Prop := lotsPickRow.holds Try.pinned (OpenSpec.ofChange lotsPickSpec)

/-- ITS FALSE NEIGHBOUR: 'it returns false'. Refute it at one input. -/
def lotsPickWrong : ChangeSpec := { name := "lotsPick", fn := fun _ => fun
  | [d1, d2] => { results := [.lit (.bool false)], args := [d1, d2] }
  | _ => none }
def LotsPickWrongFalsely : Prop := lotsPickRow.holds Try.pinned (OpenSpec.ofChange lotsPickWrong)

/-- 'drowselaw17.LotsHeaviest': WHATEVER THE INPUT: true; the input reads as it did. -/
def lotsHeaviestSpec : ChangeSpec := { name := "lotsHeaviest", fn := fun _ => fun
  | [d1, d2, d3] => { results := [.lit (.bool true)], args := [d1, d2, d3] }
  | _ => none }
def lotsHeaviestRow : OpenClaim := { program := "ytplejggfeehbcaa", sum := "90a5e810c5c0b463cdb7fcd552d3e8e5ab4a81bc44789b871b302af82decd09d", func := "drowse/drowselaw17.LotsHeaviest", spec := "lotsHeaviest", inPlace := ["math.Float64bits", "math.Float64frombits"], unfollowed := true, recurses := true, apart := false }
def LotsHeaviestSaid : Prop := lotsHeaviestRow.holds Try.pinned (OpenSpec.ofChange lotsHeaviestSpec)

/-- ITS FALSE NEIGHBOUR: 'it returns false'. Refute it at one input. -/
def lotsHeaviestWrong : ChangeSpec := { name := "lotsHeaviest", fn := fun _ => fun
  | [d1, d2, d3] => { results := [.lit (.bool false)], args := [d1, d2, d3] }
  | _ => none }
def LotsHeaviestWrongFalsely : Prop := lotsHeaviestRow.holds Try.pinned (OpenSpec.ofChange lotsHeaviestWrong)

/-- 'drowselaw17.LotsPlays': WHATEVER THE INPUT: true; the input reads as it did. -/
def lotsPlaysSpec : ChangeSpec := { name := "lotsPlays", fn := fun _ => fun
  | [d1, d2] => { results := [.lit (.bool true)], args := [d1, d2] }
  | _ => none }
def lotsPlaysRow : OpenClaim := { program := "ytplejggfeehbcaa", sum := "90a5e810c5c0b463cdb7fcd552d3e8e5ab4a81bc44789b871b302af82decd09d", func := "drowse/drowselaw17.LotsPlays", spec := "lotsPlays", inPlace := ["math.Float64bits", "math.Float64frombits"], unfollowed := true, recurses := true, apart := false }
def LotsPlaysSaid : Prop := lotsPlaysRow.holds Try.pinned (OpenSpec.ofChange lotsPlaysSpec)

/-- ITS FALSE NEIGHBOUR: 'it returns false'. Refute it at one input. -/
def lotsPlaysWrong : ChangeSpec := { name := "lotsPlays", fn := fun _ => fun
  | [d1, d2] => { results := [.lit (.bool false)], args := [d1, d2] }
  | _ => none }
def LotsPlaysWrongFalsely : Prop := lotsPlaysRow.holds Try.pinned (OpenSpec.ofChange lotsPlaysWrong)

/-- 'drowselaw17.LotsAll': WHATEVER THE INPUT: true; the input reads as it did. -/
def lotsAllSpec : ChangeSpec := { name := "lotsAll", fn := fun _ => fun
  | [d1, d2, d3] => { results := [.lit (.bool true)], args := [d1, d2, d3] }
  | _ => none }
def lotsAllRow : OpenClaim := { program := "ytplejggfeehbcaa", sum := "90a5e810c5c0b463cdb7fcd552d3e8e5ab4a81bc44789b871b302af82decd09d", func := "drowse/drowselaw17.LotsAll", spec := "lotsAll", inPlace := ["math.Float64bits", "math.Float64frombits"], unfollowed := true, recurses := true, apart := false }
def LotsAllSaid : Prop := lotsAllRow.holds Try.pinned (OpenSpec.ofChange lotsAllSpec)

/-- ITS FALSE NEIGHBOUR: 'it returns false'. Refute it at one input. -/
def lotsAllWrong : ChangeSpec := { name := "lotsAll", fn := fun _ => fun
  | [d1, d2, d3] => { results := [.lit (.bool false)], args := [d1, d2, d3] }
  | _ => none }
def LotsAllWrongFalsely : Prop := lotsAllRow.holds Try.pinned (OpenSpec.ofChange lotsAllWrong)

/-- 'drowselaw17.LotsScale': WHATEVER THE INPUT: true; the input reads as it did. -/
def lotsScaleSpec : ChangeSpec := { name := "lotsScale", fn := fun _ => fun
  | [d1, d2, d3] => { results := [.lit (.bool true)], args := [d1, d2, d3] }
  | _ => none }
def lotsScaleRow : OpenClaim := { program := "ytplejggfeehbcaa", sum := "90a5e810c5c0b463cdb7fcd552d3e8e5ab4a81bc44789b871b302af82decd09d", func := "drowse/drowselaw17.LotsScale", spec := "lotsScale", inPlace := ["math.Float64bits", "math.Float64frombits"], unfollowed := true, recurses := true, apart := false }
def LotsScaleSaid : Prop := lotsScaleRow.holds Try.pinned (OpenSpec.ofChange lotsScaleSpec)

/-- ITS FALSE NEIGHBOUR: 'it returns false'. Refute it at one input. -/
def lotsScaleWrong : ChangeSpec := { name := "lotsScale", fn := fun _ => fun
  | [d1, d2, d3] => { results := [.lit (.bool false)], args := [d1, d2, d3] }
  | _ => none }
def LotsScaleWrongFalsely : Prop := lotsScaleRow.holds Try.pinned (OpenSpec.ofChange lotsScaleWrong)

/-- 'drowselaw17.LotsNil': WHATEVER THE INPUT: true; the input reads as it did. -/
def lotsNilSpec : ChangeSpec := { name := "lotsNil", fn := fun _ => fun
  | [d] => { results := [.lit (.bool true)], args := [d] }
  | _ => none }
def lotsNilRow : OpenClaim := { program := "ytplejggfeehbcaa", sum := "90a5e810c5c0b463cdb7fcd552d3e8e5ab4a81bc44789b871b302af82decd09d", func := "drowse/drowselaw17.LotsNil", spec := "lotsNil", inPlace := ["math.Float64bits", "math.Float64frombits"], unfollowed := true, recurses := true, apart := false }
def LotsNilSaid : Prop := lotsNilRow.holds Try.pinned (OpenSpec.ofChange lotsNilSpec)

/-- ITS FALSE NEIGHBOUR: 'it returns false'. Refute it at one input. -/
def lotsNilWrong : ChangeSpec := { name := "lotsNil", fn := fun _ => fun
  | [d] => { results := [.lit (.bool false)], args := [d] }
  | _ => none }
def LotsNilWrongFalsely : Prop := lotsNilRow.holds Try.pinned (OpenSpec.ofChange lotsNilWrong)

/-- 'drowselaw22.TallyValues': WHATEVER THE INPUT: true; the input reads as it did. -/
def tallyValuesSpec : ChangeSpec := { name := "tallyValues", fn := fun _ => fun
  | [d1, d2] => { results := [.lit (.bool true)], args := [d1, d2] }
  | _ => none }
def tallyValuesRow : OpenClaim := { program := "ytplejggfeehbcaa", sum := "90a5e810c5c0b463cdb7fcd552d3e8e5ab4a81bc44789b871b302af82decd09d", func := "drowse/drowselaw22.TallyValues", spec := "tallyValues", inPlace := ["math.Float64frombits", "math.Float64bits"], unfollowed := true, recurses := true, apart := false }
def TallyValuesSaid : Prop := tallyValuesRow.holds Try.pinned (OpenSpec.ofChange tallyValuesSpec)

/-- ITS FALSE NEIGHBOUR: 'it returns false'. Refute it at one input. -/
def tallyValuesWrong : ChangeSpec := { name := "tallyValues", fn := fun _ => fun
  | [d1, d2] => { results := [.lit (.bool false)], args := [d1, d2] }
  | _ => none }
def TallyValuesWrongFalsely : Prop := tallyValuesRow.holds Try.pinned (OpenSpec.ofChange tallyValuesWrong)

/-- 'drowselaw22.TallyShares': WHATEVER THE INPUT: true; the input reads as it did. -/
def tallySharesSpec : ChangeSpec := { name := "tallyShares", fn := fun _ => fun
  | [d1, d2] => { results := [.lit (.bool true)], args := [d1, d2] }
  | _ => none }
def tallySharesRow : OpenClaim := { program := "ytplejggfeehbcaa", sum := "90a5e810c5c0b463cdb7fcd552d3e8e5ab4a81bc44789b871b302af82decd09d", func := "drowse/drowselaw22.TallyShares", spec := "tallyShares", inPlace := ["math.Float64frombits", "math.Float64bits"], unfollowed := true, recurses := true, apart := false }
def TallySharesSaid : Prop := tallySharesRow.holds Try.pinned (OpenSpec.ofChange tallySharesSpec)

/-- ITS FALSE NEIGHBOUR: 'it returns false'. Refute it at one input. -/
def tallySharesWrong : ChangeSpec := { name := "tallyShares", fn := fun _ => fun
  | [d1, d2] => { results := [.lit (.bool false)], args := [d1, d2] }
  | _ => none }
def TallySharesWrongFalsely : Prop := tallySharesRow.holds Try.pinned (OpenSpec.ofChange tallySharesWrong)

/-- 'drowselaw22.TallySums': WHATEVER THE INPUT: true; the input reads as it did. -/
def tallySumsSpec : ChangeSpec := { name := "tallySums", fn := fun _ => fun
  | [d] => { results := [.lit (.bool true)], args := [d] }
  | _ => none }
def tallySumsRow : OpenClaim := { program := "ytplejggfeehbcaa", sum := "90a5e810c5c0b463cdb7fcd552d3e8e5ab4a81bc44789b871b302af82decd09d", func := "drowse/drowselaw22.TallySums", spec := "tallySums", inPlace := ["math.Float64frombits", "math.Float64bits"], unfollowed := true, recurses := true, apart := false }
def TallySumsSaid : Prop := tallySumsRow.holds Try.pinned (OpenSpec.ofChange tallySumsSpec)

/-- ITS FALSE NEIGHBOUR: 'it returns false'. Refute it at one input. -/
def tallySumsWrong : ChangeSpec := { name := "tallySums", fn := fun _ => fun
  | [d] => { results := [.lit (.bool false)], args := [d] }
  | _ => none }
def TallySumsWrongFalsely : Prop := tallySumsRow.holds Try.pinned (OpenSpec.ofChange tallySumsWrong)

/-- 'drowselaw22.TallyParts': WHATEVER THE INPUT: true; the input reads as it did. -/
def tallyPartsSpec : ChangeSpec := { name := "tallyParts", fn := fun _ => fun
  | [d] => { results := [.lit (.bool true)], args := [d] }
  | _ => none }
def tallyPartsRow : OpenClaim := { program := "ytplejggfeehbcaa", sum := "90a5e810c5c0b463cdb7fcd552d3e8e5ab4a81bc44789b871b302af82decd09d", func := "drowse/drowselaw22.TallyParts", spec := "tallyParts", inPlace := ["math.Float64frombits", "math.Float64bits"], unfollowed := true, recurses := true, apart := false }
def TallyPartsSaid : Prop := tallyPartsRow.holds Try.pinned (OpenSpec.ofChange tallyPartsSpec)

/-- ITS FALSE NEIGHBOUR: 'it returns false'. Refute it at one input. -/
def tallyPartsWrong : ChangeSpec := { name := "tallyParts", fn := fun _ => fun
  | [d] => { results := [.lit (.bool false)], args := [d] }
  | _ => none }
def TallyPartsWrongFalsely : Prop := tallyPartsRow.holds Try.pinned (OpenSpec.ofChange tallyPartsWrong)

/- THE SECOND FORM. 'bulk': how many values and letters a reading holds, each counted each time it is reached (what is shared counts as often as it is met; a slice's spare places count too). A statement '..UptoSaid' is the law's where the arguments, and the package variables that the reading takes, are together of bulk at most 1048576: NARROWER than '..Said'. Prove '..Said' where nothing that the law and all that it calls make is longer than what came in: it says more and counts as full. Else prove '..UptoSaid'. A law counts once. -/
mutual
def uptoBulk {H : Type} : DataW H → Nat
  | .lit (.string bytes) => bytes.length + 1
  | .lit _ => 1
  | .nil => 1
  | .ptr d => uptoBulk d + 1
  | .slice elems spare => uptoBulkAll elems + uptoBulkAll spare + 1
  | .agg parts => uptoBulkAll parts + 1
  | .iface _ d => uptoBulk d + 1
  | .map entries => uptoBulkEntries entries + 1
  | .held _ => 1
def uptoBulkAll {H : Type} : List (DataW H) → Nat
  | [] => 0
  | d :: r => uptoBulk d + uptoBulkAll r
def uptoBulkEntries {H : Type} : List (Lit × DataW H) → Nat
  | [] => 0
  | x :: r => uptoBulkEntry x + uptoBulkEntries r
def uptoBulkEntry {H : Type} : Lit × DataW H → Nat
  | (.string bytes, d) => bytes.length + uptoBulk d + 1
  | (_, d) => uptoBulk d + 1
 end
def uptoSmall : (H : Type) → List (DataW H) → Bool := fun _ ds => decide (uptoBulkAll ds ≤ 1048576)
def OpenSpec.upto (s : _root_.Go.ChangeSpec) : _root_.Go.OpenSpec := { _root_.Go.OpenSpec.ofChange s with cond := some uptoSmall }

/-- 'drowselaw01.FigureRatios', WHERE WHAT IT READS IS OF BULK AT MOST 1048576: true; the input reads as it did. -/
def figureRatiosUptoRow : OpenClaim := { program := "ytplejggfeehbcaa", sum := "90a5e810c5c0b463cdb7fcd552d3e8e5ab4a81bc44789b871b302af82decd09d", func := "drowse/drowselaw01.FigureRatios", spec := "figureRatios", inPlace := ["math.Float64frombits", "math.Float64bits"], apart := false, narrowed := true }
def FigureRatiosUptoSaid : Prop := figureRatiosUptoRow.holds Try.pinned (OpenSpec.upto figureRatiosSpec)

/-- 'drowselaw01.FigureOrder', WHERE WHAT IT READS IS OF BULK AT MOST 1048576: true; the input reads as it did. -/
def figureOrderUptoRow : OpenClaim := { program := "ytplejggfeehbcaa", sum := "90a5e810c5c0b463cdb7fcd552d3e8e5ab4a81bc44789b871b302af82decd09d", func := "drowse/drowselaw01.FigureOrder", spec := "figureOrder", inPlace := ["math.Float64frombits", "math.Float64bits"], apart := false, narrowed := true }
def FigureOrderUptoSaid : Prop := figureOrderUptoRow.holds Try.pinned (OpenSpec.upto figureOrderSpec)

/-- 'drowselaw01.FigureClasses', WHERE WHAT IT READS IS OF BULK AT MOST 1048576: true; the input reads as it did. -/
def figureClassesUptoRow : OpenClaim := { program := "ytplejggfeehbcaa", sum := "90a5e810c5c0b463cdb7fcd552d3e8e5ab4a81bc44789b871b302af82decd09d", func := "drowse/drowselaw01.FigureClasses", spec := "figureClasses", inPlace := ["math.Float64frombits", "math.Float64bits"], apart := false, narrowed := true }
def FigureClassesUptoSaid : Prop := figureClassesUptoRow.holds Try.pinned (OpenSpec.upto figureClassesSpec)

/-- 'drowselaw01.FigureEnds', WHERE WHAT IT READS IS OF BULK AT MOST 1048576: true; the input reads as it did. -/
def figureEndsUptoRow : OpenClaim := { program := "ytplejggfeehbcaa", sum := "90a5e810c5c0b463cdb7fcd552d3e8e5ab4a81bc44789b871b302af82decd09d", func := "drowse/drowselaw01.FigureEnds", spec := "figureEnds", inPlace := ["math.Float64frombits", "math.Float64bits"], apart := false, narrowed := true }
def FigureEndsUptoSaid : Prop := figureEndsUptoRow.holds Try.pinned (OpenSpec.upto figureEndsSpec)

/-- 'drowselaw01.FigureFair', WHERE WHAT IT READS IS OF BULK AT MOST 1048576: true; the input reads as it did. -/
def figureFairUptoRow : OpenClaim := { program := "ytplejggfeehbcaa", sum := "90a5e810c5c0b463cdb7fcd552d3e8e5ab4a81bc44789b871b302af82decd09d", func := "drowse/drowselaw01.FigureFair", spec := "figureFair", inPlace := ["math.Float64frombits", "math.Float64bits"], unfollowed := true, recurses := true, apart := false, narrowed := true }
def FigureFairUptoSaid : Prop := figureFairUptoRow.holds Try.pinned (OpenSpec.upto figureFairSpec)

/-- 'drowselaw01.FigureTexts', WHERE WHAT IT READS IS OF BULK AT MOST 1048576: true; the input reads as it did. -/
def figureTextsUptoRow : OpenClaim := { program := "ytplejggfeehbcaa", sum := "90a5e810c5c0b463cdb7fcd552d3e8e5ab4a81bc44789b871b302af82decd09d", func := "drowse/drowselaw01.FigureTexts", spec := "figureTexts", inPlace := ["math.Float64frombits", "math.Float64bits"], apart := false, narrowed := true }
def FigureTextsUptoSaid : Prop := figureTextsUptoRow.holds Try.pinned (OpenSpec.upto figureTextsSpec)

/-- 'drowselaw01.FigureSums', WHERE WHAT IT READS IS OF BULK AT MOST 1048576: true; the input reads as it did. -/
def figureSumsUptoRow : OpenClaim := { program := "ytplejggfeehbcaa", sum := "90a5e810c5c0b463cdb7fcd552d3e8e5ab4a81bc44789b871b302af82decd09d", func := "drowse/drowselaw01.FigureSums", spec := "figureSums", inPlace := ["math.Float64frombits", "math.Float64bits"], unfollowed := true, recurses := true, apart := false, narrowed := true }
def FigureSumsUptoSaid : Prop := figureSumsUptoRow.holds Try.pinned (OpenSpec.upto figureSumsSpec)

/-- 'drowselaw01.FigureRanks', WHERE WHAT IT READS IS OF BULK AT MOST 1048576: true; the input reads as it did. -/
def figureRanksUptoRow : OpenClaim := { program := "ytplejggfeehbcaa", sum := "90a5e810c5c0b463cdb7fcd552d3e8e5ab4a81bc44789b871b302af82decd09d", func := "drowse/drowselaw01.FigureRanks", spec := "figureRanks", inPlace := ["math.Float64frombits", "math.Float64bits"], unfollowed := true, recurses := true, apart := false, narrowed := true }
def FigureRanksUptoSaid : Prop := figureRanksUptoRow.holds Try.pinned (OpenSpec.upto figureRanksSpec)

/-- 'drowselaw01.FigureSorted', WHERE WHAT IT READS IS OF BULK AT MOST 1048576: true; the input reads as it did. -/
def figureSortedUptoRow : OpenClaim := { program := "ytplejggfeehbcaa", sum := "90a5e810c5c0b463cdb7fcd552d3e8e5ab4a81bc44789b871b302af82decd09d", func := "drowse/drowselaw01.FigureSorted", spec := "figureSorted", inPlace := ["math.Float64frombits", "math.Float64bits"], unfollowed := true, recurses := true, apart := false, narrowed := true }
def FigureSortedUptoSaid : Prop := figureSortedUptoRow.holds Try.pinned (OpenSpec.upto figureSortedSpec)

/-- 'drowselaw17.LotsPick', WHERE WHAT IT READS IS OF BULK AT MOST 1048576: true; the input reads as it did. -/
def lotsPickUptoRow : OpenClaim := { program := "ytplejggfeehbcaa", sum := "90a5e810c5c0b463cdb7fcd552d3e8e5ab4a81bc44789b871b302af82decd09d", func := "drowse/drowselaw17.LotsPick", spec := "lotsPick", inPlace := ["math.Float64bits", "math.Float64frombits"], unfollowed := true, recurses := true, apart := false, narrowed := true }
def LotsPickUptoSaid : Prop := lotsPickUptoRow.holds Try.pinned (OpenSpec.upto lotsPickSpec)

/-- 'drowselaw17.LotsHeaviest', WHERE WHAT IT READS IS OF BULK AT MOST 1048576: true; the input reads as it did. -/
def lotsHeaviestUptoRow : OpenClaim := { program := "ytplejggfeehbcaa", sum := "90a5e810c5c0b463cdb7fcd552d3e8e5ab4a81bc44789b871b302af82decd09d", func := "drowse/drowselaw17.LotsHeaviest", spec := "lotsHeaviest", inPlace := ["math.Float64bits", "math.Float64frombits"], unfollowed := true, recurses := true, apart := false, narrowed := true }
def LotsHeaviestUptoSaid : Prop := lotsHeaviestUptoRow.holds Try.pinned (OpenSpec.upto lotsHeaviestSpec)

/-- 'drowselaw17.LotsPlays', WHERE WHAT IT READS IS OF BULK AT MOST 1048576: true; the input reads as it did. -/
def lotsPlaysUptoRow : OpenClaim := { program := "ytplejggfeehbcaa", sum := "90a5e810c5c0b463cdb7fcd552d3e8e5ab4a81bc44789b871b302af82decd09d", func := "drowse/drowselaw17.LotsPlays", spec := "lotsPlays", inPlace := ["math.Float64bits", "math.Float64frombits"], unfollowed := true, recurses := true, apart := false, narrowed := true }
def LotsPlaysUptoSaid : Prop := lotsPlaysUptoRow.holds Try.pinned (OpenSpec.upto lotsPlaysSpec)

/-- 'drowselaw17.LotsAll', WHERE WHAT IT READS IS OF BULK AT MOST 1048576: true; the input reads as it did. -/
def lotsAllUptoRow : OpenClaim := { program := "ytplejggfeehbcaa", sum := "90a5e810c5c0b463cdb7fcd552d3e8e5ab4a81bc44789b871b302af82decd09d", func := "drowse/drowselaw17.LotsAll", spec := "lotsAll", inPlace := ["math.Float64bits", "math.Float64frombits"], unfollowed := true, recurses := true, apart := false, narrowed := true }
def LotsAllUptoSaid : Prop := lotsAllUptoRow.holds Try.pinned (OpenSpec.upto lotsAllSpec)

/-- 'drowselaw17.LotsScale', WHERE WHAT IT READS IS OF BULK AT MOST 1048576: true; the input reads as it did. -/
def lotsScaleUptoRow : OpenClaim := { program := "ytplejggfeehbcaa", sum := "90a5e810c5c0b463cdb7fcd552d3e8e5ab4a81bc44789b871b302af82decd09d", func := "drowse/drowselaw17.LotsScale", spec := "lotsScale", inPlace := ["math.Float64bits", "math.Float64frombits"], unfollowed := true, recurses := true, apart := false, narrowed := true }
def LotsScaleUptoSaid : Prop := lotsScaleUptoRow.holds Try.pinned (OpenSpec.upto lotsScaleSpec)

/-- 'drowselaw17.LotsNil', WHERE WHAT IT READS IS OF BULK AT MOST 1048576: true; the input reads as it did. -/
def lotsNilUptoRow : OpenClaim := { program := "ytplejggfeehbcaa", sum := "90a5e810c5c0b463cdb7fcd552d3e8e5ab4a81bc44789b871b302af82decd09d", func := "drowse/drowselaw17.LotsNil", spec := "lotsNil", inPlace := ["math.Float64bits", "math.Float64frombits"], unfollowed := true, recurses := true, apart := false, narrowed := true }
def LotsNilUptoSaid : Prop := lotsNilUptoRow.holds Try.pinned (OpenSpec.upto lotsNilSpec)

/-- 'drowselaw22.TallyValues', WHERE WHAT IT READS IS OF BULK AT MOST 1048576: true; the input reads as it did. -/
def tallyValuesUptoRow : OpenClaim := { program := "ytplejggfeehbcaa", sum := "90a5e810c5c0b463cdb7fcd552d3e8e5ab4a81bc44789b871b302af82decd09d", func := "drowse/drowselaw22.TallyValues", spec := "tallyValues", inPlace := ["math.Float64frombits", "math.Float64bits"], unfollowed := true, recurses := true, apart := false, narrowed := true }
def TallyValuesUptoSaid : Prop := tallyValuesUptoRow.holds Try.pinned (OpenSpec.upto tallyValuesSpec)

/-- 'drowselaw22.TallyShares', WHERE WHAT IT READS IS OF BULK AT MOST 1048576: true; the input reads as it did. -/
def tallySharesUptoRow : OpenClaim := { program := "ytplejggfeehbcaa", sum := "90a5e810c5c0b463cdb7fcd552d3e8e5ab4a81bc44789b871b302af82decd09d", func := "drowse/drowselaw22.TallyShares", spec := "tallyShares", inPlace := ["math.Float64frombits", "math.Float64bits"], unfollowed := true, recurses := true, apart := false, narrowed := true }
def TallySharesUptoSaid : Prop := tallySharesUptoRow.holds Try.pinned (OpenSpec.upto tallySharesSpec)

/-- 'drowselaw22.TallySums', WHERE WHAT IT READS IS OF BULK AT MOST 1048576: true; the input reads as it did. -/
def tallySumsUptoRow : OpenClaim := { program := "ytplejggfeehbcaa", sum := "90a5e810c5c0b463cdb7fcd552d3e8e5ab4a81bc44789b871b302af82decd09d", func := "drowse/drowselaw22.TallySums", spec := "tallySums", inPlace := ["math.Float64frombits", "math.Float64bits"], unfollowed := true, recurses := true, apart := false, narrowed := true }
def TallySumsUptoSaid : Prop := tallySumsUptoRow.holds Try.pinned (OpenSpec.upto tallySumsSpec)

/-- 'drowselaw22.TallyParts', WHERE WHAT IT READS IS OF BULK AT MOST 1048576: true; the input reads as it did. -/
def tallyPartsUptoRow : OpenClaim := { program := "ytplejggfeehbcaa", sum := "90a5e810c5c0b463cdb7fcd552d3e8e5ab4a81bc44789b871b302af82decd09d", func := "drowse/drowselaw22.TallyParts", spec := "tallyParts", inPlace := ["math.Float64frombits", "math.Float64bits"], unfollowed := true, recurses := true, apart := false, narrowed := true }
def TallyPartsUptoSaid : Prop := tallyPartsUptoRow.holds Try.pinned (OpenSpec.upto tallyPartsSpec)

end Rows
end Go.Proofs.Ytplejggfeehbcaa
