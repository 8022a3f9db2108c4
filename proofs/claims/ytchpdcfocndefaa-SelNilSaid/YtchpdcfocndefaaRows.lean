/-
  No cell of these rows narrows 'for every input' (looked for: loops, veiled, ifaces, maps, wideKeys, modest, calm, conditions, laid).
  DERIVED. THE GIVEN ROWS OF THIS SEAT. 5 by the template 'for every input the law returns true; each argument reads behind the call as it read before'; 0 by the template 'total and deterministic' (their statements: YtchpdcfocndefaaTotals.lean).
  GIVEN WITH THE SEED: the statements are not yours to turn. If you find one false, say at which input.
  Laid BY PROGRAM, IN A SANDBOX (cutbox-rows.mjs): the forced cells as the released guide's own fill.sh prints them over the translation fc4c19b9f99e7703… (all of the seat's roots in one cut). By AI agents, Wed Nov 11 2026. No macro, syntax, notation, axiom, sorry.
-/
import Derived.Test.YtchpdcfocndefaaChecked
import GoSem.Claim
import GoSem.ClaimJoined
import GoSem.ClaimMapViews
import Derived.JoinedTies
import Derived.KernelRfl
namespace Go.Proofs.Ytchpdcfocndefaa
/- THE CELL 'sum', in the pinned program and in every row, IS THE sha256 OF THE DUMP (.gsa) THAT YtchpdcfocndefaaProg.lean LOADS. Nothing in Lean hashes anything: it is a label: what it is worth is what the hold of that sum in a sandbox is worth. -/
noncomputable def Try.pinned : Pinned := { name := "ytchpdcfocndefaa", sum := "fc4c19b9f99e7703d75ada9c11eabac69703c9b0d242150a3c2fe8ea1fce8801", checked := Try.checked }
namespace Rows
def none {H : Type} : Left H := { results := [], args := [] }

/-- 'drowselaw13.HeapNil': WHATEVER THE INPUT: true; the input reads as it did. -/
def heapNilSpec : ChangeSpec := { name := "heapNil", fn := fun _ => fun
  | [d1, d2] => { results := [.lit (.bool true)], args := [d1, d2] }
  | _ => none }
def heapNilRow : OpenClaim := { program := "ytchpdcfocndefaa", sum := "fc4c19b9f99e7703d75ada9c11eabac69703c9b0d242150a3c2fe8ea1fce8801", func := "drowse/drowselaw13.HeapNil", spec := "heapNil", unfollowed := true, recurses := true, plainKeys := false, apart := false }
def HeapNilSaid : Prop := heapNilRow.holds Try.pinned (OpenSpec.ofChange heapNilSpec)

/-- ITS FALSE NEIGHBOUR: 'it returns false'. Refute it at one input. -/
def heapNilWrong : ChangeSpec := { name := "heapNil", fn := fun _ => fun
  | [d1, d2] => { results := [.lit (.bool false)], args := [d1, d2] }
  | _ => none }
def HeapNilWrongFalsely : Prop := heapNilRow.holds Try.pinned (OpenSpec.ofChange heapNilWrong)

/-- 'drowselaw11.WaitqNil': WHATEVER THE INPUT: true; the input reads as it did. -/
def waitqNilSpec : ChangeSpec := { name := "waitqNil", fn := fun _ => fun
  | [d1, d2, d3] => { results := [.lit (.bool true)], args := [d1, d2, d3] }
  | _ => none }
def waitqNilRow : OpenClaim := { program := "ytchpdcfocndefaa", sum := "fc4c19b9f99e7703d75ada9c11eabac69703c9b0d242150a3c2fe8ea1fce8801", func := "drowse/drowselaw11.WaitqNil", spec := "waitqNil", unfollowed := true, recurses := true, plainKeys := false, apart := false }
def WaitqNilSaid : Prop := waitqNilRow.holds Try.pinned (OpenSpec.ofChange waitqNilSpec)

/-- ITS FALSE NEIGHBOUR: 'it returns false'. Refute it at one input. -/
def waitqNilWrong : ChangeSpec := { name := "waitqNil", fn := fun _ => fun
  | [d1, d2, d3] => { results := [.lit (.bool false)], args := [d1, d2, d3] }
  | _ => none }
def WaitqNilWrongFalsely : Prop := waitqNilRow.holds Try.pinned (OpenSpec.ofChange waitqNilWrong)

/-- 'drowselaw16.LocksNil': WHATEVER THE INPUT: true; the input reads as it did. -/
def locksNilSpec : ChangeSpec := { name := "locksNil", fn := fun _ => fun
  | [d1, d2, d3] => { results := [.lit (.bool true)], args := [d1, d2, d3] }
  | _ => none }
def locksNilRow : OpenClaim := { program := "ytchpdcfocndefaa", sum := "fc4c19b9f99e7703d75ada9c11eabac69703c9b0d242150a3c2fe8ea1fce8801", func := "drowse/drowselaw16.LocksNil", spec := "locksNil", unfollowed := true, recurses := true, plainKeys := false, apart := false }
def LocksNilSaid : Prop := locksNilRow.holds Try.pinned (OpenSpec.ofChange locksNilSpec)

/-- ITS FALSE NEIGHBOUR: 'it returns false'. Refute it at one input. -/
def locksNilWrong : ChangeSpec := { name := "locksNil", fn := fun _ => fun
  | [d1, d2, d3] => { results := [.lit (.bool false)], args := [d1, d2, d3] }
  | _ => none }
def LocksNilWrongFalsely : Prop := locksNilRow.holds Try.pinned (OpenSpec.ofChange locksNilWrong)

/-- 'drowselaw15.SelNil': WHATEVER THE INPUT: true; the input reads as it did. -/
def selNilSpec : ChangeSpec := { name := "selNil", fn := fun _ => fun
  | [d1, d2, d3] => { results := [.lit (.bool true)], args := [d1, d2, d3] }
  | _ => none }
def selNilRow : OpenClaim := { program := "ytchpdcfocndefaa", sum := "fc4c19b9f99e7703d75ada9c11eabac69703c9b0d242150a3c2fe8ea1fce8801", func := "drowse/drowselaw15.SelNil", spec := "selNil", unfollowed := true, recurses := true, plainKeys := false, apart := false }
def SelNilSaid : Prop := selNilRow.holds Try.pinned (OpenSpec.ofChange selNilSpec)

/-- ITS FALSE NEIGHBOUR: 'it returns false'. Refute it at one input. -/
def selNilWrong : ChangeSpec := { name := "selNil", fn := fun _ => fun
  | [d1, d2, d3] => { results := [.lit (.bool false)], args := [d1, d2, d3] }
  | _ => none }
def SelNilWrongFalsely : Prop := selNilRow.holds Try.pinned (OpenSpec.ofChange selNilWrong)

/-- 'drowselaw14.ChansNil': WHATEVER THE INPUT: true; the input reads as it did. -/
def chansNilSpec : ChangeSpec := { name := "chansNil", fn := fun _ => fun
  | [d1, d2, d3] => { results := [.lit (.bool true)], args := [d1, d2, d3] }
  | _ => none }
def chansNilRow : OpenClaim := { program := "ytchpdcfocndefaa", sum := "fc4c19b9f99e7703d75ada9c11eabac69703c9b0d242150a3c2fe8ea1fce8801", func := "drowse/drowselaw14.ChansNil", spec := "chansNil", unfollowed := true, recurses := true, plainKeys := false, apart := false }
def ChansNilSaid : Prop := chansNilRow.holds Try.pinned (OpenSpec.ofChange chansNilSpec)

/-- ITS FALSE NEIGHBOUR: 'it returns false'. Refute it at one input. -/
def chansNilWrong : ChangeSpec := { name := "chansNil", fn := fun _ => fun
  | [d1, d2, d3] => { results := [.lit (.bool false)], args := [d1, d2, d3] }
  | _ => none }
def ChansNilWrongFalsely : Prop := chansNilRow.holds Try.pinned (OpenSpec.ofChange chansNilWrong)

/- THE SECOND FORM. 'bulk': how many values and letters a reading holds, each counted each time it is reached (what is shared counts as often as it is met; a slice's spare places count too). A statement '..UptoSaid' is the law's where the arguments, and the package variables that the reading takes, are together of bulk at most 1048576: NARROWER than '..Said'. Prove '..Said' where nothing that the law and all that it calls make is longer than what came in: it says more and counts as full. Else prove '..UptoSaid'. A law counts once. -/
mutual
def uptoBulk {H : Type} : DataW H → Nat
  | .lit (.string bytes) => bytes.length + 1
  | .lit _ => 1
  | .nil => 1
  | .ptr d => uptoBulk d + 1
  | .slice elems spare => uptoBulkAll elems + uptoBulkAll spare + 1
  | .agg parts => uptoBulkAll parts + 1
  | .iface _ d => uptoBulk d + 1
  | .map entries => uptoBulkEntries entries + 1
  | .held _ => 1
def uptoBulkAll {H : Type} : List (DataW H) → Nat
  | [] => 0
  | d :: r => uptoBulk d + uptoBulkAll r
def uptoBulkEntries {H : Type} : List (Lit × DataW H) → Nat
  | [] => 0
  | x :: r => uptoBulkEntry x + uptoBulkEntries r
def uptoBulkEntry {H : Type} : Lit × DataW H → Nat
  | (.string bytes, d) => bytes.length + uptoBulk d + 1
  | (_, d) => uptoBulk d + 1
 end
def uptoSmall : (H : Type) → List (DataW H) → Bool := fun _ ds => decide (uptoBulkAll ds ≤ 1048576)
def OpenSpec.upto (s : _root_.Go.ChangeSpec) : _root_.Go.OpenSpec := { _root_.Go.OpenSpec.ofChange s with cond := some uptoSmall }

/-- 'drowselaw13.HeapNil', WHERE WHAT IT READS IS OF BULK AT MOST 1048576: true; the input reads as it did. -/
def heapNilUptoRow : OpenClaim := { program := "ytchpdcfocndefaa", sum := "fc4c19b9f99e7703d75ada9c11eabac69703c9b0d242150a3c2fe8ea1fce8801", func := "drowse/drowselaw13.HeapNil", spec := "heapNil", unfollowed := true, recurses := true, plainKeys := false, apart := false, narrowed := true }
def HeapNilUptoSaid : Prop := heapNilUptoRow.holds Try.pinned (OpenSpec.upto heapNilSpec)

/-- 'drowselaw11.WaitqNil', WHERE WHAT IT READS IS OF BULK AT MOST 1048576: true; the input reads as it did. -/
def waitqNilUptoRow : OpenClaim := { program := "ytchpdcfocndefaa", sum := "fc4c19b9f99e7703d75ada9c11eabac69703c9b0d242150a3c2fe8ea1fce8801", func := "drowse/drowselaw11.WaitqNil", spec := "waitqNil", unfollowed := true, recurses := true, plainKeys := false, apart := false, narrowed := true }
def WaitqNilUptoSaid : Prop := waitqNilUptoRow.holds Try.pinned (OpenSpec.upto waitqNilSpec)

/-- 'drowselaw16.LocksNil', WHERE WHAT IT READS IS OF BULK AT MOST 1048576: true; the input reads as it did. -/
def locksNilUptoRow : OpenClaim := { program := "ytchpdcfocndefaa", sum := "fc4c19b9f99e7703d75ada9c11eabac69703c9b0d242150a3c2fe8ea1fce8801", func := "drowse/drowselaw16.LocksNil", spec := "locksNil", unfollowed := true, recurses := true, plainKeys := false, apart := false, narrowed := true }
def LocksNilUptoSaid : Prop := locksNilUptoRow.holds Try.pinned (OpenSpec.upto locksNilSpec)

/-- 'drowselaw15.SelNil', WHERE WHAT IT READS IS OF BULK AT MOST 1048576: true; the input reads as it did. -/
def selNilUptoRow : OpenClaim := { program := "ytchpdcfocndefaa", sum := "fc4c19b9f99e7703d75ada9c11eabac69703c9b0d242150a3c2fe8ea1fce8801", func := "drowse/drowselaw15.SelNil", spec := "selNil", unfollowed := true, recurses := true, plainKeys := false, apart := false, narrowed := true }
def SelNilUptoSaid : Prop := selNilUptoRow.holds Try.pinned (OpenSpec.upto selNilSpec)

/-- 'drowselaw14.ChansNil', WHERE WHAT IT READS IS OF BULK AT MOST 1048576: true; the input reads as it did. -/
def chansNilUptoRow : OpenClaim := { program := "ytchpdcfocndefaa", sum := "fc4c19b9f99e7703d75ada9c11eabac69703c9b0d242150a3c2fe8ea1fce8801", func := "drowse/drowselaw14.ChansNil", spec := "chansNil", unfollowed := true, recurses := true, plainKeys := false, apart := false, narrowed := true }
def ChansNilUptoSaid : Prop := chansNilUptoRow.holds Try.pinned (OpenSpec.upto chansNilSpec)

end Rows
end Go.Proofs.Ytchpdcfocndefaa
