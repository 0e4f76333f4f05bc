/-
  No cell of these rows narrows 'for every input' (looked for: loops, veiled, ifaces, maps, wideKeys, modest, calm, conditions, laid).
  DERIVED. THE GIVEN ROWS OF THIS SEAT. 2 by the template 'for every input the law returns true; each argument reads behind the call as it read before'; 0 by the template 'total and deterministic' (their statements: YtfkdigopkdfcjaaTotals.lean).
  GIVEN WITH THE SEED: the statements are not yours to turn. If you find one false, say at which input.
  Laid BY PROGRAM, IN A SANDBOX (cutbox-rows.mjs): the forced cells as the released guide's own fill.sh prints them over the translation 15b659e8446e5610… (all of the seat's roots in one cut). By AI agents, Wed Nov 11 2026. No macro, syntax, notation, axiom, sorry.
-/
import Derived.Test.YtfkdigopkdfcjaaChecked
import GoSem.Claim
import GoSem.ClaimJoined
import GoSem.ClaimMapViews
import Derived.JoinedTies
import Derived.KernelRfl
namespace Go.Proofs.Ytfkdigopkdfcjaa
/- THE CELL 'sum', in the pinned program and in every row, IS THE sha256 OF THE DUMP (.gsa) THAT YtfkdigopkdfcjaaProg.lean LOADS. Nothing in Lean hashes anything: it is a label: what it is worth is what the hold of that sum in a sandbox is worth. -/
noncomputable def Try.pinned : Pinned := { name := "ytfkdigopkdfcjaa", sum := "15b659e8446e561060687ea68319c06aa918d30a727a2a82bf35ca1b11116f00", checked := Try.checked }
namespace Rows
def none {H : Type} : Left H := { results := [], args := [] }

/-- 'lockwrightkeep.PadShannon': WHATEVER THE INPUT: true; the input reads as it did. -/
def padShannonSpec : ChangeSpec := { name := "padShannon", fn := fun _ => fun
  | [d] => { results := [.lit (.bool true)], args := [d] }
  | _ => none }
def padShannonRow : OpenClaim := { program := "ytfkdigopkdfcjaa", sum := "15b659e8446e561060687ea68319c06aa918d30a727a2a82bf35ca1b11116f00", func := "lockwright/lockwrightkeep.PadShannon", spec := "padShannon", unfollowed := true, recurses := true, apart := false }
def PadShannonSaid : Prop := padShannonRow.holds Try.pinned (OpenSpec.ofChange padShannonSpec)

/-- ITS FALSE NEIGHBOUR: 'it returns false'. Refute it at one input. -/
def padShannonWrong : ChangeSpec := { name := "padShannon", fn := fun _ => fun
  | [d] => { results := [.lit (.bool false)], args := [d] }
  | _ => none }
def PadShannonWrongFalsely : Prop := padShannonRow.holds Try.pinned (OpenSpec.ofChange padShannonWrong)

/-- 'lockwrightkeep.PadVernam': WHATEVER THE INPUT: true; the input reads as it did. -/
def padVernamSpec : ChangeSpec := { name := "padVernam", fn := fun _ => fun
  | [d] => { results := [.lit (.bool true)], args := [d] }
  | _ => none }
def padVernamRow : OpenClaim := { program := "ytfkdigopkdfcjaa", sum := "15b659e8446e561060687ea68319c06aa918d30a727a2a82bf35ca1b11116f00", func := "lockwright/lockwrightkeep.PadVernam", spec := "padVernam", unfollowed := true, recurses := true, apart := false }
def PadVernamSaid : Prop := padVernamRow.holds Try.pinned (OpenSpec.ofChange padVernamSpec)

/-- ITS FALSE NEIGHBOUR: 'it returns false'. Refute it at one input. -/
def padVernamWrong : ChangeSpec := { name := "padVernam", fn := fun _ => fun
  | [d] => { results := [.lit (.bool false)], args := [d] }
  | _ => none }
def PadVernamWrongFalsely : Prop := padVernamRow.holds Try.pinned (OpenSpec.ofChange padVernamWrong)

/- THE SECOND FORM. 'bulk': how many values and letters a reading holds, each counted each time it is reached (what is shared counts as often as it is met; a slice's spare places count too). A statement '..UptoSaid' is the law's where the arguments, and the package variables that the reading takes, are together of bulk at most 1048576: NARROWER than '..Said'. Prove '..Said' where nothing that the law and all that it calls make is longer than what came in: it says more and counts as full. Else prove '..UptoSaid'. A law counts once. -/
mutual
def uptoBulk {H : Type} : DataW H → Nat
  | .lit (.string bytes) => bytes.length + 1
  | .lit _ => 1
  | .nil => 1
  | .ptr d => uptoBulk d + 1
  | .slice elems spare => uptoBulkAll elems + uptoBulkAll spare + 1
  | .agg parts => uptoBulkAll parts + 1
  | .iface _ d => uptoBulk d + 1
  | .map entries => uptoBulkEntries entries + 1
  | .held _ => 1
def uptoBulkAll {H : Type} : List (DataW H) → Nat
  | [] => 0
  | d :: r => uptoBulk d + uptoBulkAll r
def uptoBulkEntries {H : Type} : List (Lit × DataW H) → Nat
  | [] => 0
  | x :: r => uptoBulkEntry x + uptoBulkEntries r
def uptoBulkEntry {H : Type} : Lit × DataW H → Nat
  | (.string bytes, d) => bytes.length + uptoBulk d + 1
  | (_, d) => uptoBulk d + 1
 end
def uptoSmall : (H : Type) → List (DataW H) → Bool := fun _ ds => decide (uptoBulkAll ds ≤ 1048576)
def OpenSpec.upto (s : _root_.Go.ChangeSpec) : _root_.Go.OpenSpec := { _root_.Go.OpenSpec.ofChange s with cond := some uptoSmall }

/-- 'lockwrightkeep.PadShannon', WHERE WHAT IT READS IS OF BULK AT MOST 1048576: true; the input reads as it did. -/
def padShannonUptoRow : OpenClaim := { program := "ytfkdigopkdfcjaa", sum := "15b659e8446e561060687ea68319c06aa918d30a727a2a82bf35ca1b11116f00", func := "lockwright/lockwrightkeep.PadShannon", spec := "padShannon", unfollowed := true, recurses := true, apart := false, narrowed := true }
def PadShannonUptoSaid : Prop := padShannonUptoRow.holds Try.pinned (OpenSpec.upto padShannonSpec)

/-- 'lockwrightkeep.PadVernam', WHERE WHAT IT READS IS OF BULK AT MOST 1048576: true; the input reads as it did. -/
def padVernamUptoRow : OpenClaim := { program := "ytfkdigopkdfcjaa", sum := "15b659e8446e561060687ea68319c06aa918d30a727a2a82bf35ca1b11116f00", func := "lockwright/lockwrightkeep.PadVernam", spec := "padVernam", unfollowed := true, recurses := true, apart := false, narrowed := true }
def PadVernamUptoSaid : Prop := padVernamUptoRow.holds Try.pinned (OpenSpec.upto padVernamSpec)

end Rows
end Go.Proofs.Ytfkdigopkdfcjaa
