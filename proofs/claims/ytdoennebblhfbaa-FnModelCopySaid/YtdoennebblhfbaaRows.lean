/-
  No cell of these rows narrows 'for every input' (looked for: loops, veiled, ifaces, maps, wideKeys, modest, calm, conditions, laid).
  DERIVED. THE GIVEN ROWS OF THIS SEAT. 4 by the template 'for every input the law returns true; each argument reads behind the call as it read before'; 0 by the template 'total and deterministic' (their statements: YtdoennebblhfbaaTotals.lean).
  GIVEN WITH THE SEED: the statements are not yours to turn. If you find one false, say at which input.
  Laid BY PROGRAM, IN A SANDBOX (cutbox-rows.mjs): the forced cells as the released guide's own fill.sh prints them over the translation 10dfb7527f24eb45… (all of the seat's roots in one cut). By AI agents, Wed Nov 11 2026. No macro, syntax, notation, axiom, sorry.
-/
import Derived.Test.YtdoennebblhfbaaChecked
import GoSem.Claim
import GoSem.ClaimJoined
import GoSem.ClaimMapViews
import Derived.JoinedTies
import Derived.KernelRfl
namespace Go.Proofs.Ytdoennebblhfbaa
/- THE CELL 'sum', in the pinned program and in every row, IS THE sha256 OF THE DUMP (.gsa) THAT YtdoennebblhfbaaProg.lean LOADS. Nothing in Lean hashes anything: it is a label: what it is worth is what the hold of that sum in a sandbox is worth. -/
noncomputable def Try.pinned : Pinned := { name := "ytdoennebblhfbaa", sum := "10dfb7527f24eb455e69bbf3f23e82d2e36458df9d7dd7a4b2773f46f584e3f3", checked := Try.checked }
namespace Rows
def none {H : Type} : Left H := { results := [], args := [] }

/-- 'laws.FnModelRead': WHATEVER THE INPUT: true; the input reads as it did. -/
def fnModelReadSpec : ChangeSpec := { name := "fnModelRead", fn := fun _ => fun
  | [d] => { results := [.lit (.bool true)], args := [d] }
  | _ => none }
def fnModelReadRow : OpenClaim := { program := "ytdoennebblhfbaa", sum := "10dfb7527f24eb455e69bbf3f23e82d2e36458df9d7dd7a4b2773f46f584e3f3", func := "loop.example/paling/laws.FnModelRead", spec := "fnModelRead", unfollowed := true, recurses := true, apart := false }
def FnModelReadSaid : Prop := fnModelReadRow.holds Try.pinned (OpenSpec.ofChange fnModelReadSpec)

/-- ITS FALSE NEIGHBOUR: 'it returns false'. Refute it at one input. -/
def fnModelReadWrong : ChangeSpec := { name := "fnModelRead", fn := fun _ => fun
  | [d] => { results := [.lit (.bool false)], args := [d] }
  | _ => none }
def FnModelReadWrongFalsely : Prop := fnModelReadRow.holds Try.pinned (OpenSpec.ofChange fnModelReadWrong)

/-- 'laws.FnModelLess': WHATEVER THE INPUT: true; the input reads as it did. -/
def fnModelLessSpec : ChangeSpec := { name := "fnModelLess", fn := fun _ => fun
  | [d] => { results := [.lit (.bool true)], args := [d] }
  | _ => none }
def fnModelLessRow : OpenClaim := { program := "ytdoennebblhfbaa", sum := "10dfb7527f24eb455e69bbf3f23e82d2e36458df9d7dd7a4b2773f46f584e3f3", func := "loop.example/paling/laws.FnModelLess", spec := "fnModelLess", unfollowed := true, recurses := true, apart := false }
def FnModelLessSaid : Prop := fnModelLessRow.holds Try.pinned (OpenSpec.ofChange fnModelLessSpec)

/-- ITS FALSE NEIGHBOUR: 'it returns false'. Refute it at one input. -/
def fnModelLessWrong : ChangeSpec := { name := "fnModelLess", fn := fun _ => fun
  | [d] => { results := [.lit (.bool false)], args := [d] }
  | _ => none }
def FnModelLessWrongFalsely : Prop := fnModelLessRow.holds Try.pinned (OpenSpec.ofChange fnModelLessWrong)

/-- 'laws.FnModelDrop': WHATEVER THE INPUT: true; the input reads as it did. -/
def fnModelDropSpec : ChangeSpec := { name := "fnModelDrop", fn := fun _ => fun
  | [d] => { results := [.lit (.bool true)], args := [d] }
  | _ => none }
def fnModelDropRow : OpenClaim := { program := "ytdoennebblhfbaa", sum := "10dfb7527f24eb455e69bbf3f23e82d2e36458df9d7dd7a4b2773f46f584e3f3", func := "loop.example/paling/laws.FnModelDrop", spec := "fnModelDrop", unfollowed := true, recurses := true, apart := false }
def FnModelDropSaid : Prop := fnModelDropRow.holds Try.pinned (OpenSpec.ofChange fnModelDropSpec)

/-- ITS FALSE NEIGHBOUR: 'it returns false'. Refute it at one input. -/
def fnModelDropWrong : ChangeSpec := { name := "fnModelDrop", fn := fun _ => fun
  | [d] => { results := [.lit (.bool false)], args := [d] }
  | _ => none }
def FnModelDropWrongFalsely : Prop := fnModelDropRow.holds Try.pinned (OpenSpec.ofChange fnModelDropWrong)

/-- 'laws.FnModelCopy': WHATEVER THE INPUT: true; the input reads as it did. -/
def fnModelCopySpec : ChangeSpec := { name := "fnModelCopy", fn := fun _ => fun
  | [d] => { results := [.lit (.bool true)], args := [d] }
  | _ => none }
def fnModelCopyRow : OpenClaim := { program := "ytdoennebblhfbaa", sum := "10dfb7527f24eb455e69bbf3f23e82d2e36458df9d7dd7a4b2773f46f584e3f3", func := "loop.example/paling/laws.FnModelCopy", spec := "fnModelCopy", unfollowed := true, recurses := true, apart := false }
def FnModelCopySaid : Prop := fnModelCopyRow.holds Try.pinned (OpenSpec.ofChange fnModelCopySpec)

/-- ITS FALSE NEIGHBOUR: 'it returns false'. Refute it at one input. -/
def fnModelCopyWrong : ChangeSpec := { name := "fnModelCopy", fn := fun _ => fun
  | [d] => { results := [.lit (.bool false)], args := [d] }
  | _ => none }
def FnModelCopyWrongFalsely : Prop := fnModelCopyRow.holds Try.pinned (OpenSpec.ofChange fnModelCopyWrong)

/- THE SECOND FORM. 'bulk': how many values and letters a reading holds, each counted each time it is reached (what is shared counts as often as it is met; a slice's spare places count too). A statement '..UptoSaid' is the law's where the arguments, and the package variables that the reading takes, are together of bulk at most 1048576: NARROWER than '..Said'. Prove '..Said' where nothing that the law and all that it calls make is longer than what came in: it says more and counts as full. Else prove '..UptoSaid'. A law counts once. -/
mutual
def uptoBulk {H : Type} : DataW H → Nat
  | .lit (.string bytes) => bytes.length + 1
  | .lit _ => 1
  | .nil => 1
  | .ptr d => uptoBulk d + 1
  | .slice elems spare => uptoBulkAll elems + uptoBulkAll spare + 1
  | .agg parts => uptoBulkAll parts + 1
  | .iface _ d => uptoBulk d + 1
  | .map entries => uptoBulkEntries entries + 1
  | .held _ => 1
def uptoBulkAll {H : Type} : List (DataW H) → Nat
  | [] => 0
  | d :: r => uptoBulk d + uptoBulkAll r
def uptoBulkEntries {H : Type} : List (Lit × DataW H) → Nat
  | [] => 0
  | x :: r => uptoBulkEntry x + uptoBulkEntries r
def uptoBulkEntry {H : Type} : Lit × DataW H → Nat
  | (.string bytes, d) => bytes.length + uptoBulk d + 1
  | (_, d) => uptoBulk d + 1
 end
def uptoSmall : (H : Type) → List (DataW H) → Bool := fun _ ds => decide (uptoBulkAll ds ≤ 1048576)
def OpenSpec.upto (s : _root_.Go.ChangeSpec) : _root_.Go.OpenSpec := { _root_.Go.OpenSpec.ofChange s with cond := some uptoSmall }

/-- 'laws.FnModelRead', WHERE WHAT IT READS IS OF BULK AT MOST 1048576: true; the input reads as it did. -/
def fnModelReadUptoRow : OpenClaim := { program := "ytdoennebblhfbaa", sum := "10dfb7527f24eb455e69bbf3f23e82d2e36458df9d7dd7a4b2773f46f584e3f3", func := "loop.example/paling/laws.FnModelRead", spec := "fnModelRead", unfollowed := true, recurses := true, apart := false, narrowed := true }
def FnModelReadUptoSaid : Prop := fnModelReadUptoRow.holds Try.pinned (OpenSpec.upto fnModelReadSpec)

/-- 'laws.FnModelLess', WHERE WHAT IT READS IS OF BULK AT MOST 1048576: true; the input reads as it did. -/
def fnModelLessUptoRow : OpenClaim := { program := "ytdoennebblhfbaa", sum := "10dfb7527f24eb455e69bbf3f23e82d2e36458df9d7dd7a4b2773f46f584e3f3", func := "loop.example/paling/laws.FnModelLess", spec := "fnModelLess", unfollowed := true, recurses := true, apart := false, narrowed := true }
def FnModelLessUptoSaid : Prop := fnModelLessUptoRow.holds Try.pinned (OpenSpec.upto fnModelLessSpec)

/-- 'laws.FnModelDrop', WHERE WHAT IT READS IS OF BULK AT MOST 1048576: true; the input reads as it did. -/
def fnModelDropUptoRow : OpenClaim := { program := "ytdoennebblhfbaa", sum := "10dfb7527f24eb455e69bbf3f23e82d2e36458df9d7dd7a4b2773f46f584e3f3", func := "loop.example/paling/laws.FnModelDrop", spec := "fnModelDrop", unfollowed := true, recurses := true, apart := false, narrowed := true }
def FnModelDropUptoSaid : Prop := fnModelDropUptoRow.holds Try.pinned (OpenSpec.upto fnModelDropSpec)

/-- 'laws.FnModelCopy', WHERE WHAT IT READS IS OF BULK AT MOST 1048576: true; the input reads as it did. -/
def fnModelCopyUptoRow : OpenClaim := { program := "ytdoennebblhfbaa", sum := "10dfb7527f24eb455e69bbf3f23e82d2e36458df9d7dd7a4b2773f46f584e3f3", func := "loop.example/paling/laws.FnModelCopy", spec := "fnModelCopy", unfollowed := true, recurses := true, apart := false, narrowed := true }
def FnModelCopyUptoSaid : Prop := fnModelCopyUptoRow.holds Try.pinned (OpenSpec.upto fnModelCopySpec)

end Rows
end Go.Proofs.Ytdoennebblhfbaa
