/-
  No cell of these rows narrows 'for every input' (looked for: loops, veiled, ifaces, maps, wideKeys, modest, calm, conditions, laid).
  DERIVED. THE GIVEN ROWS OF THIS SEAT. 3 by the template 'for every input the law returns true; each argument reads behind the call as it read before'; 0 by the template 'total and deterministic' (their statements: YtmkbbfcecolobaaTotals.lean).
  GIVEN WITH THE SEED: the statements are not yours to turn. If you find one false, say at which input.
  Laid BY PROGRAM, IN A SANDBOX (cutbox-rows.mjs): the forced cells as the released guide's own fill.sh prints them over the translation 83901d55824d5715… (all of the seat's roots in one cut). By AI agents, Wed Nov 11 2026. No macro, syntax, notation, axiom, sorry.
-/
import Derived.Test.YtmkbbfcecolobaaChecked
import GoSem.Claim
import GoSem.ClaimJoined
import GoSem.ClaimMapViews
import Derived.JoinedTies
import Derived.KernelRfl
namespace Go.Proofs.Ytmkbbfcecolobaa
/- THE CELL 'sum', in the pinned program and in every row, IS THE sha256 OF THE DUMP (.gsa) THAT YtmkbbfcecolobaaProg.lean LOADS. Nothing in Lean hashes anything: it is a label: what it is worth is what the hold of that sum in a sandbox is worth. -/
noncomputable def Try.pinned : Pinned := { name := "ytmkbbfcecolobaa", sum := "83901d55824d5715ad00b8c7407653eec403d64db7dffae988835e84762390a5", checked := Try.checked }
namespace Rows
def none {H : Type} : Left H := { results := [], args := [] }

/-- 'drowselaw01.FigureRanks': WHATEVER THE INPUT: true; the input reads as it did. -/
def figureRanksSpec : ChangeSpec := { name := "figureRanks", fn := fun _ => fun
  | [d] => { results := [.lit (.bool true)], args := [d] }
  | _ => none }
def figureRanksRow : OpenClaim := { program := "ytmkbbfcecolobaa", sum := "83901d55824d5715ad00b8c7407653eec403d64db7dffae988835e84762390a5", func := "drowse/drowselaw01.FigureRanks", spec := "figureRanks", inPlace := ["math.Float64frombits", "math.Float64bits"], unfollowed := true, recurses := true, apart := false }
def FigureRanksSaid : Prop := figureRanksRow.holds Try.pinned (OpenSpec.ofChange figureRanksSpec)

/-- ITS FALSE NEIGHBOUR: 'it returns false'. Refute it at one input. -/
def figureRanksWrong : ChangeSpec := { name := "figureRanks", fn := fun _ => fun
  | [d] => { results := [.lit (.bool false)], args := [d] }
  | _ => none }
def FigureRanksWrongFalsely : Prop := figureRanksRow.holds Try.pinned (OpenSpec.ofChange figureRanksWrong)

/-- 'drowselaw01.FigureSorted': WHATEVER THE INPUT: true; the input reads as it did. -/
def figureSortedSpec : ChangeSpec := { name := "figureSorted", fn := fun _ => fun
  | [d] => { results := [.lit (.bool true)], args := [d] }
  | _ => none }
def figureSortedRow : OpenClaim := { program := "ytmkbbfcecolobaa", sum := "83901d55824d5715ad00b8c7407653eec403d64db7dffae988835e84762390a5", func := "drowse/drowselaw01.FigureSorted", spec := "figureSorted", inPlace := ["math.Float64frombits", "math.Float64bits"], unfollowed := true, recurses := true, apart := false }
def FigureSortedSaid : Prop := figureSortedRow.holds Try.pinned (OpenSpec.ofChange figureSortedSpec)

/-- ITS FALSE NEIGHBOUR: 'it returns false'. Refute it at one input. -/
def figureSortedWrong : ChangeSpec := { name := "figureSorted", fn := fun _ => fun
  | [d] => { results := [.lit (.bool false)], args := [d] }
  | _ => none }
def FigureSortedWrongFalsely : Prop := figureSortedRow.holds Try.pinned (OpenSpec.ofChange figureSortedWrong)

/-- 'drowselaw22.TallyShares': WHATEVER THE INPUT: true; the input reads as it did. -/
def tallySharesSpec : ChangeSpec := { name := "tallyShares", fn := fun _ => fun
  | [d1, d2] => { results := [.lit (.bool true)], args := [d1, d2] }
  | _ => none }
def tallySharesRow : OpenClaim := { program := "ytmkbbfcecolobaa", sum := "83901d55824d5715ad00b8c7407653eec403d64db7dffae988835e84762390a5", func := "drowse/drowselaw22.TallyShares", spec := "tallyShares", inPlace := ["math.Float64frombits", "math.Float64bits"], unfollowed := true, recurses := true, apart := false }
def TallySharesSaid : Prop := tallySharesRow.holds Try.pinned (OpenSpec.ofChange tallySharesSpec)

/-- ITS FALSE NEIGHBOUR: 'it returns false'. Refute it at one input. -/
def tallySharesWrong : ChangeSpec := { name := "tallyShares", fn := fun _ => fun
  | [d1, d2] => { results := [.lit (.bool false)], args := [d1, d2] }
  | _ => none }
def TallySharesWrongFalsely : Prop := tallySharesRow.holds Try.pinned (OpenSpec.ofChange tallySharesWrong)

/- THE SECOND FORM. 'bulk': how many values and letters a reading holds, each counted each time it is reached (what is shared counts as often as it is met; a slice's spare places count too). A statement '..UptoSaid' is the law's where the arguments, and the package variables that the reading takes, are together of bulk at most 1048576: NARROWER than '..Said'. Prove '..Said' where nothing that the law and all that it calls make is longer than what came in: it says more and counts as full. Else prove '..UptoSaid'. A law counts once. -/
mutual
def uptoBulk {H : Type} : DataW H → Nat
  | .lit (.string bytes) => bytes.length + 1
  | .lit _ => 1
  | .nil => 1
  | .ptr d => uptoBulk d + 1
  | .slice elems spare => uptoBulkAll elems + uptoBulkAll spare + 1
  | .agg parts => uptoBulkAll parts + 1
  | .iface _ d => uptoBulk d + 1
  | .map entries => uptoBulkEntries entries + 1
  | .held _ => 1
def uptoBulkAll {H : Type} : List (DataW H) → Nat
  | [] => 0
  | d :: r => uptoBulk d + uptoBulkAll r
def uptoBulkEntries {H : Type} : List (Lit × DataW H) → Nat
  | [] => 0
  | x :: r => uptoBulkEntry x + uptoBulkEntries r
def uptoBulkEntry {H : Type} : Lit × DataW H → Nat
  | (.string bytes, d) => bytes.length + uptoBulk d + 1
  | (_, d) => uptoBulk d + 1
 end
def uptoSmall : (H : Type) → List (DataW H) → Bool := fun _ ds => decide (uptoBulkAll ds ≤ 1048576)
def OpenSpec.upto (s : _root_.Go.ChangeSpec) : _root_.Go.OpenSpec := { _root_.Go.OpenSpec.ofChange s with cond := some uptoSmall }

/-- 'drowselaw01.FigureRanks', WHERE WHAT IT READS IS OF BULK AT MOST 1048576: true; the input reads as it did. -/
def figureRanksUptoRow : OpenClaim := { program := "ytmkbbfcecolobaa", sum := "83901d55824d5715ad00b8c7407653eec403d64db7dffae988835e84762390a5", func := "drowse/drowselaw01.FigureRanks", spec := "figureRanks", inPlace := ["math.Float64frombits", "math.Float64bits"], unfollowed := true, recurses := true, apart := false, narrowed := true }
def FigureRanksUptoSaid : Prop := figureRanksUptoRow.holds Try.pinned (OpenSpec.upto figureRanksSpec)

/-- 'drowselaw01.FigureSorted', WHERE WHAT IT READS IS OF BULK AT MOST 1048576: true; the input reads as it did. -/
def figureSortedUptoRow : OpenClaim := { program := "ytmkbbfcecolobaa", sum := "83901d55824d5715ad00b8c7407653eec403d64db7dffae988835e84762390a5", func := "drowse/drowselaw01.FigureSorted", spec := "figureSorted", inPlace := ["math.Float64frombits", "math.Float64bits"], unfollowed := true, recurses := true, apart := false, narrowed := true }
def FigureSortedUptoSaid : Prop := figureSortedUptoRow.holds Try.pinned (OpenSpec.upto figureSortedSpec)

/-- 'drowselaw22.TallyShares', WHERE WHAT IT READS IS OF BULK AT MOST 1048576: true; the input reads as it did. -/
def tallySharesUptoRow : OpenClaim := { program := "ytmkbbfcecolobaa", sum := "83901d55824d5715ad00b8c7407653eec403d64db7dffae988835e84762390a5", func := "drowse/drowselaw22.TallyShares", spec := "tallyShares", inPlace := ["math.Float64frombits", "math.Float64bits"], unfollowed := true, recurses := true, apart := false, narrowed := true }
def TallySharesUptoSaid : Prop := tallySharesUptoRow.holds Try.pinned (OpenSpec.upto tallySharesSpec)

end Rows
end Go.Proofs.Ytmkbbfcecolobaa
