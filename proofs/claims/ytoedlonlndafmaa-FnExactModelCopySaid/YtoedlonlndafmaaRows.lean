/-
  No cell of these rows narrows 'for every input' (looked for: loops, veiled, ifaces, maps, wideKeys, modest, calm, conditions, laid).
  DERIVED. THE GIVEN ROWS OF THIS SEAT. 4 by the template 'for every input the law returns true; each argument reads behind the call as it read before'; 0 by the template 'total and deterministic' (their statements: YtoedlonlndafmaaTotals.lean).
  GIVEN WITH THE SEED: the statements are not yours to turn. If you find one false, say at which input.
  Laid BY PROGRAM, IN A SANDBOX (cutbox-rows.mjs): the forced cells as the released guide's own fill.sh prints them over the translation 57a89445d83590ce… (all of the seat's roots in one cut). By AI agents, Wed Nov 11 2026. No macro, syntax, notation, axiom, sorry.
-/
import Derived.Test.YtoedlonlndafmaaChecked
import GoSem.Claim
import GoSem.ClaimJoined
import GoSem.ClaimMapViews
import Derived.JoinedTies
import Derived.KernelRfl
namespace Go.Proofs.Ytoedlonlndafmaa
/- THE CELL 'sum', in the pinned program and in every row, IS THE sha256 OF THE DUMP (.gsa) THAT YtoedlonlndafmaaProg.lean LOADS. Nothing in Lean hashes anything: it is a label: what it is worth is what the hold of that sum in a sandbox is worth. -/
noncomputable def Try.pinned : Pinned := { name := "ytoedlonlndafmaa", sum := "57a89445d83590ce460af8d382f9bb03f94aa4e9f8b7407f5582265870362363", checked := Try.checked }
namespace Rows
def none {H : Type} : Left H := { results := [], args := [] }

/-- 'laws.FnExactModelDrop': WHATEVER THE INPUT: true; the input reads as it did. -/
def fnExactModelDropSpec : ChangeSpec := { name := "fnExactModelDrop", fn := fun _ => fun
  | [d1, d2] => { results := [.lit (.bool true)], args := [d1, d2] }
  | _ => none }
def fnExactModelDropRow : OpenClaim := { program := "ytoedlonlndafmaa", sum := "57a89445d83590ce460af8d382f9bb03f94aa4e9f8b7407f5582265870362363", func := "loop.example/paling/laws.FnExactModelDrop", spec := "fnExactModelDrop", unfollowed := true, recurses := true, apart := false }
def FnExactModelDropSaid : Prop := fnExactModelDropRow.holds Try.pinned (OpenSpec.ofChange fnExactModelDropSpec)

/-- ITS FALSE NEIGHBOUR: 'it returns false'. Refute it at one input. -/
def fnExactModelDropWrong : ChangeSpec := { name := "fnExactModelDrop", fn := fun _ => fun
  | [d1, d2] => { results := [.lit (.bool false)], args := [d1, d2] }
  | _ => none }
def FnExactModelDropWrongFalsely : Prop := fnExactModelDropRow.holds Try.pinned (OpenSpec.ofChange fnExactModelDropWrong)

/-- 'laws.FnExactModelMake': WHATEVER THE INPUT: true; the input reads as it did. -/
def fnExactModelMakeSpec : ChangeSpec := { name := "fnExactModelMake", fn := fun _ => fun
  | [d1, d2] => { results := [.lit (.bool true)], args := [d1, d2] }
  | _ => none }
def fnExactModelMakeRow : OpenClaim := { program := "ytoedlonlndafmaa", sum := "57a89445d83590ce460af8d382f9bb03f94aa4e9f8b7407f5582265870362363", func := "loop.example/paling/laws.FnExactModelMake", spec := "fnExactModelMake", unfollowed := true, recurses := true, apart := false }
def FnExactModelMakeSaid : Prop := fnExactModelMakeRow.holds Try.pinned (OpenSpec.ofChange fnExactModelMakeSpec)

/-- ITS FALSE NEIGHBOUR: 'it returns false'. Refute it at one input. -/
def fnExactModelMakeWrong : ChangeSpec := { name := "fnExactModelMake", fn := fun _ => fun
  | [d1, d2] => { results := [.lit (.bool false)], args := [d1, d2] }
  | _ => none }
def FnExactModelMakeWrongFalsely : Prop := fnExactModelMakeRow.holds Try.pinned (OpenSpec.ofChange fnExactModelMakeWrong)

/-- 'laws.FnExactModelWrite': WHATEVER THE INPUT: true; the input reads as it did. -/
def fnExactModelWriteSpec : ChangeSpec := { name := "fnExactModelWrite", fn := fun _ => fun
  | [d1, d2, d3, d4] => { results := [.lit (.bool true)], args := [d1, d2, d3, d4] }
  | _ => none }
def fnExactModelWriteRow : OpenClaim := { program := "ytoedlonlndafmaa", sum := "57a89445d83590ce460af8d382f9bb03f94aa4e9f8b7407f5582265870362363", func := "loop.example/paling/laws.FnExactModelWrite", spec := "fnExactModelWrite", unfollowed := true, recurses := true, apart := false }
def FnExactModelWriteSaid : Prop := fnExactModelWriteRow.holds Try.pinned (OpenSpec.ofChange fnExactModelWriteSpec)

/-- ITS FALSE NEIGHBOUR: 'it returns false'. Refute it at one input. -/
def fnExactModelWriteWrong : ChangeSpec := { name := "fnExactModelWrite", fn := fun _ => fun
  | [d1, d2, d3, d4] => { results := [.lit (.bool false)], args := [d1, d2, d3, d4] }
  | _ => none }
def FnExactModelWriteWrongFalsely : Prop := fnExactModelWriteRow.holds Try.pinned (OpenSpec.ofChange fnExactModelWriteWrong)

/-- 'laws.FnExactModelCopy': WHATEVER THE INPUT: true; the input reads as it did. -/
def fnExactModelCopySpec : ChangeSpec := { name := "fnExactModelCopy", fn := fun _ => fun
  | [d1, d2, d3] => { results := [.lit (.bool true)], args := [d1, d2, d3] }
  | _ => none }
def fnExactModelCopyRow : OpenClaim := { program := "ytoedlonlndafmaa", sum := "57a89445d83590ce460af8d382f9bb03f94aa4e9f8b7407f5582265870362363", func := "loop.example/paling/laws.FnExactModelCopy", spec := "fnExactModelCopy", unfollowed := true, recurses := true, apart := false }
def FnExactModelCopySaid : Prop := fnExactModelCopyRow.holds Try.pinned (OpenSpec.ofChange fnExactModelCopySpec)

/-- ITS FALSE NEIGHBOUR: 'it returns false'. Refute it at one input. -/
def fnExactModelCopyWrong : ChangeSpec := { name := "fnExactModelCopy", fn := fun _ => fun
  | [d1, d2, d3] => { results := [.lit (.bool false)], args := [d1, d2, d3] }
  | _ => none }
def FnExactModelCopyWrongFalsely : Prop := fnExactModelCopyRow.holds Try.pinned (OpenSpec.ofChange fnExactModelCopyWrong)

/- THE SECOND FORM. 'bulk': how many values and letters a reading holds, each counted each time it is reached (what is shared counts as often as it is met; a slice's spare places count too). A statement '..UptoSaid' is the law's where the arguments, and the package variables that the reading takes, are together of bulk at most 1048576: NARROWER than '..Said'. Prove '..Said' where nothing that the law and all that it calls make is longer than what came in: it says more and counts as full. Else prove '..UptoSaid'. A law counts once. -/
mutual
def uptoBulk {H : Type} : DataW H → Nat
  | .lit (.string bytes) => bytes.length + 1
  | .lit _ => 1
  | .nil => 1
  | .ptr d => uptoBulk d + 1
  | .slice elems spare => uptoBulkAll elems + uptoBulkAll spare + 1
  | .agg parts => uptoBulkAll parts + 1
  | .iface _ d => uptoBulk d + 1
  | .map entries => uptoBulkEntries entries + 1
  | .held _ => 1
def uptoBulkAll {H : Type} : List (DataW H) → Nat
  | [] => 0
  | d :: r => uptoBulk d + uptoBulkAll r
def uptoBulkEntries {H : Type} : List (Lit × DataW H) → Nat
  | [] => 0
  | x :: r => uptoBulkEntry x + uptoBulkEntries r
def uptoBulkEntry {H : Type} : Lit × DataW H → Nat
  | (.string bytes, d) => bytes.length + uptoBulk d + 1
  | (_, d) => uptoBulk d + 1
 end
def uptoSmall : (H : Type) → List (DataW H) → Bool := fun _ ds => decide (uptoBulkAll ds ≤ 1048576)
def OpenSpec.upto (s : _root_.Go.ChangeSpec) : _root_.Go.OpenSpec := { _root_.Go.OpenSpec.ofChange s with cond := some uptoSmall }

/-- 'laws.FnExactModelDrop', WHERE WHAT IT READS IS OF BULK AT MOST 1048576: true; the input reads as it did. -/
def fnExactModelDropUptoRow : OpenClaim := { program := "ytoedlonlndafmaa", sum := "57a89445d83590ce460af8d382f9bb03f94aa4e9f8b7407f5582265870362363", func := "loop.example/paling/laws.FnExactModelDrop", spec := "fnExactModelDrop", unfollowed := true, recurses := true, apart := false, narrowed := true }
def FnExactModelDropUptoSaid : Prop := fnExactModelDropUptoRow.holds Try.pinned (OpenSpec.upto fnExactModelDropSpec)

/-- 'laws.FnExactModelMake', WHERE WHAT IT READS IS OF BULK AT MOST 1048576: true; the input reads as it did. -/
def fnExactModelMakeUptoRow : OpenClaim := { program := "ytoedlonlndafmaa", sum := "57a89445d83590ce460af8d382f9bb03f94aa4e9f8b7407f5582265870362363", func := "loop.example/paling/laws.FnExactModelMake", spec := "fnExactModelMake", unfollowed := true, recurses := true, apart := false, narrowed := true }
def FnExactModelMakeUptoSaid : Prop := fnExactModelMakeUptoRow.holds Try.pinned (OpenSpec.upto fnExactModelMakeSpec)

/-- 'laws.FnExactModelWrite', WHERE WHAT IT READS IS OF BULK AT MOST 1048576: true; the input reads as it did. -/
def fnExactModelWriteUptoRow : OpenClaim := { program := "ytoedlonlndafmaa", sum := "57a89445d83590ce460af8d382f9bb03f94aa4e9f8b7407f5582265870362363", func := "loop.example/paling/laws.FnExactModelWrite", spec := "fnExactModelWrite", unfollowed := true, recurses := true, apart := false, narrowed := true }
def FnExactModelWriteUptoSaid : Prop := fnExactModelWriteUptoRow.holds Try.pinned (OpenSpec.upto fnExactModelWriteSpec)

/-- 'laws.FnExactModelCopy', WHERE WHAT IT READS IS OF BULK AT MOST 1048576: true; the input reads as it did. -/
def fnExactModelCopyUptoRow : OpenClaim := { program := "ytoedlonlndafmaa", sum := "57a89445d83590ce460af8d382f9bb03f94aa4e9f8b7407f5582265870362363", func := "loop.example/paling/laws.FnExactModelCopy", spec := "fnExactModelCopy", unfollowed := true, recurses := true, apart := false, narrowed := true }
def FnExactModelCopyUptoSaid : Prop := fnExactModelCopyUptoRow.holds Try.pinned (OpenSpec.upto fnExactModelCopySpec)

end Rows
end Go.Proofs.Ytoedlonlndafmaa
