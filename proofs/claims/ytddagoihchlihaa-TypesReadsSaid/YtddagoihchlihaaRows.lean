/-
  No cell of these rows narrows 'for every input' (looked for: loops, veiled, ifaces, maps, wideKeys, modest, calm, conditions, laid).
  DERIVED. THE GIVEN ROWS OF THIS SEAT. 6 by the template 'for every input the law returns true; each argument reads behind the call as it read before'; 0 by the template 'total and deterministic' (their statements: YtddagoihchlihaaTotals.lean).
  GIVEN WITH THE SEED: the statements are not yours to turn. If you find one false, say at which input.
  Laid BY PROGRAM, IN A SANDBOX (cutbox-rows.mjs): the forced cells as the released guide's own fill.sh prints them over the translation 8b23fa40a0b8a66e… (all of the seat's roots in one cut). By AI agents, Wed Nov 11 2026. No macro, syntax, notation, axiom, sorry.
-/
import Derived.Test.YtddagoihchlihaaChecked
import GoSem.Claim
import GoSem.ClaimJoined
import GoSem.ClaimMapViews
import Derived.JoinedTies
import Derived.KernelRfl
namespace Go.Proofs.Ytddagoihchlihaa
/- THE CELL 'sum', in the pinned program and in every row, IS THE sha256 OF THE DUMP (.gsa) THAT YtddagoihchlihaaProg.lean LOADS. Nothing in Lean hashes anything: it is a label: what it is worth is what the hold of that sum in a sandbox is worth. -/
noncomputable def Try.pinned : Pinned := { name := "ytddagoihchlihaa", sum := "8b23fa40a0b8a66e6a835907b991f24c849619c04d7e242f63906b6289886f07", checked := Try.checked }
namespace Rows
def none {H : Type} : Left H := { results := [], args := [] }

/-- 'drowselaw04.TypesAssigns': WHATEVER THE INPUT: true; the input reads as it did. -/
def typesAssignsSpec : ChangeSpec := { name := "typesAssigns", fn := fun _ => fun
  | [d1, d2] => { results := [.lit (.bool true)], args := [d1, d2] }
  | _ => none }
def typesAssignsRow : OpenClaim := { program := "ytddagoihchlihaa", sum := "8b23fa40a0b8a66e6a835907b991f24c849619c04d7e242f63906b6289886f07", func := "drowse/drowselaw04.TypesAssigns", spec := "typesAssigns", apart := false }
def TypesAssignsSaid : Prop := typesAssignsRow.holds Try.pinned (OpenSpec.ofChange typesAssignsSpec)

/-- ITS FALSE NEIGHBOUR: 'it returns false'. Refute it at one input. -/
def typesAssignsWrong : ChangeSpec := { name := "typesAssigns", fn := fun _ => fun
  | [d1, d2] => { results := [.lit (.bool false)], args := [d1, d2] }
  | _ => none }
def TypesAssignsWrongFalsely : Prop := typesAssignsRow.holds Try.pinned (OpenSpec.ofChange typesAssignsWrong)

/-- 'drowselaw04.TypesReads': WHATEVER THE INPUT: true; the input reads as it did. -/
def typesReadsSpec : ChangeSpec := { name := "typesReads", fn := fun _ => fun
  | [d1, d2] => { results := [.lit (.bool true)], args := [d1, d2] }
  | _ => none }
def typesReadsRow : OpenClaim := { program := "ytddagoihchlihaa", sum := "8b23fa40a0b8a66e6a835907b991f24c849619c04d7e242f63906b6289886f07", func := "drowse/drowselaw04.TypesReads", spec := "typesReads", apart := false }
def TypesReadsSaid : Prop := typesReadsRow.holds Try.pinned (OpenSpec.ofChange typesReadsSpec)

/-- ITS FALSE NEIGHBOUR: 'it returns false'. Refute it at one input. -/
def typesReadsWrong : ChangeSpec := { name := "typesReads", fn := fun _ => fun
  | [d1, d2] => { results := [.lit (.bool false)], args := [d1, d2] }
  | _ => none }
def TypesReadsWrongFalsely : Prop := typesReadsRow.holds Try.pinned (OpenSpec.ofChange typesReadsWrong)

/-- 'drowselaw04.TypesBack': WHATEVER THE INPUT: true; the input reads as it did. -/
def typesBackSpec : ChangeSpec := { name := "typesBack", fn := fun _ => fun
  | [d1, d2] => { results := [.lit (.bool true)], args := [d1, d2] }
  | _ => none }
def typesBackRow : OpenClaim := { program := "ytddagoihchlihaa", sum := "8b23fa40a0b8a66e6a835907b991f24c849619c04d7e242f63906b6289886f07", func := "drowse/drowselaw04.TypesBack", spec := "typesBack", apart := false }
def TypesBackSaid : Prop := typesBackRow.holds Try.pinned (OpenSpec.ofChange typesBackSpec)

/-- ITS FALSE NEIGHBOUR: 'it returns false'. Refute it at one input. -/
def typesBackWrong : ChangeSpec := { name := "typesBack", fn := fun _ => fun
  | [d1, d2] => { results := [.lit (.bool false)], args := [d1, d2] }
  | _ => none }
def TypesBackWrongFalsely : Prop := typesBackRow.holds Try.pinned (OpenSpec.ofChange typesBackWrong)

/-- 'drowselaw08.CodeOpens': WHATEVER THE INPUT: true; the input reads as it did. -/
def codeOpensSpec : ChangeSpec := { name := "codeOpens", fn := fun _ => fun
  | [d] => { results := [.lit (.bool true)], args := [d] }
  | _ => none }
def codeOpensRow : OpenClaim := { program := "ytddagoihchlihaa", sum := "8b23fa40a0b8a66e6a835907b991f24c849619c04d7e242f63906b6289886f07", func := "drowse/drowselaw08.CodeOpens", spec := "codeOpens", unfollowed := true, recurses := true, apart := false }
def CodeOpensSaid : Prop := codeOpensRow.holds Try.pinned (OpenSpec.ofChange codeOpensSpec)

/-- ITS FALSE NEIGHBOUR: 'it returns false'. Refute it at one input. -/
def codeOpensWrong : ChangeSpec := { name := "codeOpens", fn := fun _ => fun
  | [d] => { results := [.lit (.bool false)], args := [d] }
  | _ => none }
def CodeOpensWrongFalsely : Prop := codeOpensRow.holds Try.pinned (OpenSpec.ofChange codeOpensWrong)

/-- 'drowselaw08.CodeEffects': WHATEVER THE INPUT: true; the input reads as it did. -/
def codeEffectsSpec : ChangeSpec := { name := "codeEffects", fn := fun _ => fun
  | [d1, d2] => { results := [.lit (.bool true)], args := [d1, d2] }
  | _ => none }
def codeEffectsRow : OpenClaim := { program := "ytddagoihchlihaa", sum := "8b23fa40a0b8a66e6a835907b991f24c849619c04d7e242f63906b6289886f07", func := "drowse/drowselaw08.CodeEffects", spec := "codeEffects", unfollowed := true, recurses := true, apart := false }
def CodeEffectsSaid : Prop := codeEffectsRow.holds Try.pinned (OpenSpec.ofChange codeEffectsSpec)

/-- ITS FALSE NEIGHBOUR: 'it returns false'. Refute it at one input. -/
def codeEffectsWrong : ChangeSpec := { name := "codeEffects", fn := fun _ => fun
  | [d1, d2] => { results := [.lit (.bool false)], args := [d1, d2] }
  | _ => none }
def CodeEffectsWrongFalsely : Prop := codeEffectsRow.holds Try.pinned (OpenSpec.ofChange codeEffectsWrong)

/-- 'drowselaw08.CodeSafe': WHATEVER THE INPUT: true; the input reads as it did. -/
def codeSafeSpec : ChangeSpec := { name := "codeSafe", fn := fun _ => fun
  | [d1, d2] => { results := [.lit (.bool true)], args := [d1, d2] }
  | _ => none }
def codeSafeRow : OpenClaim := { program := "ytddagoihchlihaa", sum := "8b23fa40a0b8a66e6a835907b991f24c849619c04d7e242f63906b6289886f07", func := "drowse/drowselaw08.CodeSafe", spec := "codeSafe", unfollowed := true, recurses := true, apart := false }
def CodeSafeSaid : Prop := codeSafeRow.holds Try.pinned (OpenSpec.ofChange codeSafeSpec)

/-- ITS FALSE NEIGHBOUR: 'it returns false'. Refute it at one input. -/
def codeSafeWrong : ChangeSpec := { name := "codeSafe", fn := fun _ => fun
  | [d1, d2] => { results := [.lit (.bool false)], args := [d1, d2] }
  | _ => none }
def CodeSafeWrongFalsely : Prop := codeSafeRow.holds Try.pinned (OpenSpec.ofChange codeSafeWrong)

/- THE SECOND FORM. 'bulk': how many values and letters a reading holds, each counted each time it is reached (what is shared counts as often as it is met; a slice's spare places count too). A statement '..UptoSaid' is the law's where the arguments, and the package variables that the reading takes, are together of bulk at most 1048576: NARROWER than '..Said'. Prove '..Said' where nothing that the law and all that it calls make is longer than what came in: it says more and counts as full. Else prove '..UptoSaid'. A law counts once. -/
mutual
def uptoBulk {H : Type} : DataW H → Nat
  | .lit (.string bytes) => bytes.length + 1
  | .lit _ => 1
  | .nil => 1
  | .ptr d => uptoBulk d + 1
  | .slice elems spare => uptoBulkAll elems + uptoBulkAll spare + 1
  | .agg parts => uptoBulkAll parts + 1
  | .iface _ d => uptoBulk d + 1
  | .map entries => uptoBulkEntries entries + 1
  | .held _ => 1
def uptoBulkAll {H : Type} : List (DataW H) → Nat
  | [] => 0
  | d :: r => uptoBulk d + uptoBulkAll r
def uptoBulkEntries {H : Type} : List (Lit × DataW H) → Nat
  | [] => 0
  | x :: r => uptoBulkEntry x + uptoBulkEntries r
def uptoBulkEntry {H : Type} : Lit × DataW H → Nat
  | (.string bytes, d) => bytes.length + uptoBulk d + 1
  | (_, d) => uptoBulk d + 1
 end
def uptoSmall : (H : Type) → List (DataW H) → Bool := fun _ ds => decide (uptoBulkAll ds ≤ 1048576)
def OpenSpec.upto (s : _root_.Go.ChangeSpec) : _root_.Go.OpenSpec := { _root_.Go.OpenSpec.ofChange s with cond := some uptoSmall }

/-- 'drowselaw04.TypesAssigns', WHERE WHAT IT READS IS OF BULK AT MOST 1048576: true; the input reads as it did. -/
def typesAssignsUptoRow : OpenClaim := { program := "ytddagoihchlihaa", sum := "8b23fa40a0b8a66e6a835907b991f24c849619c04d7e242f63906b6289886f07", func := "drowse/drowselaw04.TypesAssigns", spec := "typesAssigns", apart := false, narrowed := true }
def TypesAssignsUptoSaid : Prop := typesAssignsUptoRow.holds Try.pinned (OpenSpec.upto typesAssignsSpec)

/-- 'drowselaw04.TypesReads', WHERE WHAT IT READS IS OF BULK AT MOST 1048576: true; the input reads as it did. -/
def typesReadsUptoRow : OpenClaim := { program := "ytddagoihchlihaa", sum := "8b23fa40a0b8a66e6a835907b991f24c849619c04d7e242f63906b6289886f07", func := "drowse/drowselaw04.TypesReads", spec := "typesReads", apart := false, narrowed := true }
def TypesReadsUptoSaid : Prop := typesReadsUptoRow.holds Try.pinned (OpenSpec.upto typesReadsSpec)

/-- 'drowselaw04.TypesBack', WHERE WHAT IT READS IS OF BULK AT MOST 1048576: true; the input reads as it did. -/
def typesBackUptoRow : OpenClaim := { program := "ytddagoihchlihaa", sum := "8b23fa40a0b8a66e6a835907b991f24c849619c04d7e242f63906b6289886f07", func := "drowse/drowselaw04.TypesBack", spec := "typesBack", apart := false, narrowed := true }
def TypesBackUptoSaid : Prop := typesBackUptoRow.holds Try.pinned (OpenSpec.upto typesBackSpec)

/-- 'drowselaw08.CodeOpens', WHERE WHAT IT READS IS OF BULK AT MOST 1048576: true; the input reads as it did. -/
def codeOpensUptoRow : OpenClaim := { program := "ytddagoihchlihaa", sum := "8b23fa40a0b8a66e6a835907b991f24c849619c04d7e242f63906b6289886f07", func := "drowse/drowselaw08.CodeOpens", spec := "codeOpens", unfollowed := true, recurses := true, apart := false, narrowed := true }
def CodeOpensUptoSaid : Prop := codeOpensUptoRow.holds Try.pinned (OpenSpec.upto codeOpensSpec)

/-- 'drowselaw08.CodeEffects', WHERE WHAT IT READS IS OF BULK AT MOST 1048576: true; the input reads as it did. -/
def codeEffectsUptoRow : OpenClaim := { program := "ytddagoihchlihaa", sum := "8b23fa40a0b8a66e6a835907b991f24c849619c04d7e242f63906b6289886f07", func := "drowse/drowselaw08.CodeEffects", spec := "codeEffects", unfollowed := true, recurses := true, apart := false, narrowed := true }
def CodeEffectsUptoSaid : Prop := codeEffectsUptoRow.holds Try.pinned (OpenSpec.upto codeEffectsSpec)

/-- 'drowselaw08.CodeSafe', WHERE WHAT IT READS IS OF BULK AT MOST 1048576: true; the input reads as it did. -/
def codeSafeUptoRow : OpenClaim := { program := "ytddagoihchlihaa", sum := "8b23fa40a0b8a66e6a835907b991f24c849619c04d7e242f63906b6289886f07", func := "drowse/drowselaw08.CodeSafe", spec := "codeSafe", unfollowed := true, recurses := true, apart := false, narrowed := true }
def CodeSafeUptoSaid : Prop := codeSafeUptoRow.holds Try.pinned (OpenSpec.upto codeSafeSpec)

end Rows
end Go.Proofs.Ytddagoihchlihaa
