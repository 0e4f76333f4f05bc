/-
  No cell of these rows narrows 'for every input' (looked for: loops, veiled, ifaces, maps, wideKeys, modest, calm, conditions, laid).
  DERIVED. THE GIVEN ROWS OF THIS SEAT. 2 by the template 'for every input the law returns true; each argument reads behind the call as it read before'; 0 by the template 'total and deterministic' (their statements: YtifegnpdclcolaaTotals.lean).
  GIVEN WITH THE SEED: the statements are not yours to turn. If you find one false, say at which input.
  Laid BY PROGRAM, IN A SANDBOX (cutbox-rows.mjs): the forced cells as the released guide's own fill.sh prints them over the translation baee3ea7e51ac87d… (all of the seat's roots in one cut). By AI agents, Wed Nov 11 2026. No macro, syntax, notation, axiom, sorry.
-/
import Derived.Test.YtifegnpdclcolaaChecked
import GoSem.Claim
import GoSem.ClaimJoined
import GoSem.ClaimMapViews
import Derived.JoinedTies
import Derived.KernelRfl
namespace Go.Proofs.Ytifegnpdclcolaa
/- THE CELL 'sum', in the pinned program and in every row, IS THE sha256 OF THE DUMP (.gsa) THAT YtifegnpdclcolaaProg.lean LOADS. Nothing in Lean hashes anything: it is a label: what it is worth is what the hold of that sum in a sandbox is worth. -/
noncomputable def Try.pinned : Pinned := { name := "ytifegnpdclcolaa", sum := "baee3ea7e51ac87d25617c3351fcd691b33e927447383e668ac8d9912894d468", checked := Try.checked }
namespace Rows
def none {H : Type} : Left H := { results := [], args := [] }

/-- 'lockwrightkeep.RatchetRight': WHATEVER THE INPUT: true; the input reads as it did. -/
def ratchetRightSpec : ChangeSpec := { name := "ratchetRight", fn := fun _ => fun
  | [d1, d2, d3] => { results := [.lit (.bool true)], args := [d1, d2, d3] }
  | _ => none }
def ratchetRightRow : OpenClaim := { program := "ytifegnpdclcolaa", sum := "baee3ea7e51ac87d25617c3351fcd691b33e927447383e668ac8d9912894d468", func := "lockwright/lockwrightkeep.RatchetRight", spec := "ratchetRight", apart := false }
def RatchetRightSaid : Prop := ratchetRightRow.holds Try.pinned (OpenSpec.ofChange ratchetRightSpec)

/-- ITS FALSE NEIGHBOUR: 'it returns false'. Refute it at one input. -/
def ratchetRightWrong : ChangeSpec := { name := "ratchetRight", fn := fun _ => fun
  | [d1, d2, d3] => { results := [.lit (.bool false)], args := [d1, d2, d3] }
  | _ => none }
def RatchetRightWrongFalsely : Prop := ratchetRightRow.holds Try.pinned (OpenSpec.ofChange ratchetRightWrong)

/-- 'lockwrightkeep.RatchetAny': WHATEVER THE INPUT: true; the input reads as it did. -/
def ratchetAnySpec : ChangeSpec := { name := "ratchetAny", fn := fun _ => fun
  | [d1, d2, d3] => { results := [.lit (.bool true)], args := [d1, d2, d3] }
  | _ => none }
def ratchetAnyRow : OpenClaim := { program := "ytifegnpdclcolaa", sum := "baee3ea7e51ac87d25617c3351fcd691b33e927447383e668ac8d9912894d468", func := "lockwright/lockwrightkeep.RatchetAny", spec := "ratchetAny", apart := false }
def RatchetAnySaid : Prop := ratchetAnyRow.holds Try.pinned (OpenSpec.ofChange ratchetAnySpec)

/-- ITS FALSE NEIGHBOUR: 'it returns false'. Refute it at one input. -/
def ratchetAnyWrong : ChangeSpec := { name := "ratchetAny", fn := fun _ => fun
  | [d1, d2, d3] => { results := [.lit (.bool false)], args := [d1, d2, d3] }
  | _ => none }
def RatchetAnyWrongFalsely : Prop := ratchetAnyRow.holds Try.pinned (OpenSpec.ofChange ratchetAnyWrong)

/- THE SECOND FORM. 'bulk': how many values and letters a reading holds, each counted each time it is reached (what is shared counts as often as it is met; a slice's spare places count too). A statement '..UptoSaid' is the law's where the arguments, and the package variables that the reading takes, are together of bulk at most 1048576: NARROWER than '..Said'. Prove '..Said' where nothing that the law and all that it calls make is longer than what came in: it says more and counts as full. Else prove '..UptoSaid'. A law counts once. -/
mutual
def uptoBulk {H : Type} : DataW H → Nat
  | .lit (.string bytes) => bytes.length + 1
  | .lit _ => 1
  | .nil => 1
  | .ptr d => uptoBulk d + 1
  | .slice elems spare => uptoBulkAll elems + uptoBulkAll spare + 1
  | .agg parts => uptoBulkAll parts + 1
  | .iface _ d => uptoBulk d + 1
  | .map entries => uptoBulkEntries entries + 1
  | .held _ => 1
def uptoBulkAll {H : Type} : List (DataW H) → Nat
  | [] => 0
  | d :: r => uptoBulk d + uptoBulkAll r
def uptoBulkEntries {H : Type} : List (Lit × DataW H) → Nat
  | [] => 0
  | x :: r => uptoBulkEntry x + uptoBulkEntries r
def uptoBulkEntry {H : Type} : Lit × DataW H → Nat
  | (.string bytes, d) => bytes.length + uptoBulk d + 1
  | (_, d) => uptoBulk d + 1
 end
def uptoSmall : (H : Type) → List (DataW H) → Bool := fun _ ds => decide (uptoBulkAll ds ≤ 1048576)
def OpenSpec.upto (s : _root_.Go.ChangeSpec) : _root_.Go.OpenSpec := { _root_.Go.OpenSpec.ofChange s with cond := some uptoSmall }

/-- 'lockwrightkeep.RatchetRight', WHERE WHAT IT READS IS OF BULK AT MOST 1048576: true; the input reads as it did. -/
def ratchetRightUptoRow : OpenClaim := { program := "ytifegnpdclcolaa", sum := "baee3ea7e51ac87d25617c3351fcd691b33e927447383e668ac8d9912894d468", func := "lockwright/lockwrightkeep.RatchetRight", spec := "ratchetRight", apart := false, narrowed := true }
def RatchetRightUptoSaid : Prop := ratchetRightUptoRow.holds Try.pinned (OpenSpec.upto ratchetRightSpec)

/-- 'lockwrightkeep.RatchetAny', WHERE WHAT IT READS IS OF BULK AT MOST 1048576: true; the input reads as it did. -/
def ratchetAnyUptoRow : OpenClaim := { program := "ytifegnpdclcolaa", sum := "baee3ea7e51ac87d25617c3351fcd691b33e927447383e668ac8d9912894d468", func := "lockwright/lockwrightkeep.RatchetAny", spec := "ratchetAny", apart := false, narrowed := true }
def RatchetAnyUptoSaid : Prop := ratchetAnyUptoRow.holds Try.pinned (OpenSpec.upto ratchetAnySpec)

end Rows
end Go.Proofs.Ytifegnpdclcolaa
