/-
  No cell of these rows narrows 'for every input' (looked for: loops, veiled, ifaces, maps, wideKeys, modest, calm, conditions, laid).
  DERIVED. THE GIVEN ROWS OF THIS SEAT. 3 by the template 'for every input the law returns true; each argument reads behind the call as it read before'; 0 by the template 'total and deterministic' (their statements: YtkdmfgaijfbcgaaGreatTotals.lean).
  GIVEN WITH THE SEED: the statements are not yours to turn. If you find one false, say at which input.
  Laid BY PROGRAM, IN A SANDBOX (cutbox-rows.mjs): the forced cells as the released guide's own fill.sh prints them over the translation 2457a47168b17adf… (all of the seat's roots in one cut). By AI agents, Wed Nov 11 2026. No macro, syntax, notation, axiom, sorry.
-/
import Derived.Test.YtkdmfgaijfbcgaaGreatChecked
import GoSem.Claim
import GoSem.ClaimJoined
import GoSem.ClaimMapViews
import Derived.JoinedTies
import Derived.KernelRfl
namespace Go.Proofs.YtkdmfgaijfbcgaaGreat
/- THE CELL 'sum', in the pinned program and in every row, IS THE sha256 OF THE DUMP (.gsa) THAT YtkdmfgaijfbcgaaGreatProg.lean LOADS. Nothing in Lean hashes anything: it is a label: what it is worth is what the hold of that sum in a sandbox is worth. -/
noncomputable def Tryz.pinned : Pinned := { name := "ytkdmfgaijfbcgaagreat", sum := "2457a47168b17adf1af47ff29254c2abf5e6c1239b63ffd932ea02207807060b", checked := Tryz.checked }
namespace Rows
def none {H : Type} : Left H := { results := [], args := [] }

/-- 'credencelaw25.BestNames': WHATEVER THE INPUT: true; the input reads as it did. -/
def bestNamesSpec : ChangeSpec := { name := "bestNames", fn := fun _ => fun
  | [] => { results := [.lit (.bool true)], args := [] }
  | _ => none }
def bestNamesRow : OpenClaim := { program := "ytkdmfgaijfbcgaagreat", sum := "2457a47168b17adf1af47ff29254c2abf5e6c1239b63ffd932ea02207807060b", func := "credence/credencelaw25.BestNames", spec := "bestNames", unfollowed := true, recurses := true, apart := false }
def BestNamesSaid : Prop := bestNamesRow.holds Tryz.pinned (OpenSpec.ofChange bestNamesSpec)

/-- ITS FALSE NEIGHBOUR: 'it returns false'. Refute it at one input. -/
def bestNamesWrong : ChangeSpec := { name := "bestNames", fn := fun _ => fun
  | [] => { results := [.lit (.bool false)], args := [] }
  | _ => none }
def BestNamesWrongFalsely : Prop := bestNamesRow.holds Tryz.pinned (OpenSpec.ofChange bestNamesWrong)

/-- 'credencelaw25.BestFalling': WHATEVER THE INPUT: true; the input reads as it did. -/
def bestFallingSpec : ChangeSpec := { name := "bestFalling", fn := fun _ => fun
  | [d1, d2, d3, d4] => { results := [.lit (.bool true)], args := [d1, d2, d3, d4] }
  | _ => none }
def bestFallingRow : OpenClaim := { program := "ytkdmfgaijfbcgaagreat", sum := "2457a47168b17adf1af47ff29254c2abf5e6c1239b63ffd932ea02207807060b", func := "credence/credencelaw25.BestFalling", spec := "bestFalling", unfollowed := true, recurses := true, apart := false }
def BestFallingSaid : Prop := bestFallingRow.holds Tryz.pinned (OpenSpec.ofChange bestFallingSpec)

/-- ITS FALSE NEIGHBOUR: 'it returns false'. Refute it at one input. -/
def bestFallingWrong : ChangeSpec := { name := "bestFalling", fn := fun _ => fun
  | [d1, d2, d3, d4] => { results := [.lit (.bool false)], args := [d1, d2, d3, d4] }
  | _ => none }
def BestFallingWrongFalsely : Prop := bestFallingRow.holds Tryz.pinned (OpenSpec.ofChange bestFallingWrong)

/-- 'credencelaw25.BestRing': WHATEVER THE INPUT: true; the input reads as it did. -/
def bestRingSpec : ChangeSpec := { name := "bestRing", fn := fun _ => fun
  | [d1, d2] => { results := [.lit (.bool true)], args := [d1, d2] }
  | _ => none }
def bestRingRow : OpenClaim := { program := "ytkdmfgaijfbcgaagreat", sum := "2457a47168b17adf1af47ff29254c2abf5e6c1239b63ffd932ea02207807060b", func := "credence/credencelaw25.BestRing", spec := "bestRing", unfollowed := true, recurses := true, apart := false }
def BestRingSaid : Prop := bestRingRow.holds Tryz.pinned (OpenSpec.ofChange bestRingSpec)

/-- ITS FALSE NEIGHBOUR: 'it returns false'. Refute it at one input. -/
def bestRingWrong : ChangeSpec := { name := "bestRing", fn := fun _ => fun
  | [d1, d2] => { results := [.lit (.bool false)], args := [d1, d2] }
  | _ => none }
def BestRingWrongFalsely : Prop := bestRingRow.holds Tryz.pinned (OpenSpec.ofChange bestRingWrong)

/- THE SECOND FORM. 'bulk': how many values and letters a reading holds, each counted each time it is reached (what is shared counts as often as it is met; a slice's spare places count too). A statement '..UptoSaid' is the law's where the arguments, and the package variables that the reading takes, are together of bulk at most 1048576: NARROWER than '..Said'. Prove '..Said' where nothing that the law and all that it calls make is longer than what came in: it says more and counts as full. Else prove '..UptoSaid'. A law counts once. -/
mutual
def uptoBulk {H : Type} : DataW H → Nat
  | .lit (.string bytes) => bytes.length + 1
  | .lit _ => 1
  | .nil => 1
  | .ptr d => uptoBulk d + 1
  | .slice elems spare => uptoBulkAll elems + uptoBulkAll spare + 1
  | .agg parts => uptoBulkAll parts + 1
  | .iface _ d => uptoBulk d + 1
  | .map entries => uptoBulkEntries entries + 1
  | .held _ => 1
def uptoBulkAll {H : Type} : List (DataW H) → Nat
  | [] => 0
  | d :: r => uptoBulk d + uptoBulkAll r
def uptoBulkEntries {H : Type} : List (Lit × DataW H) → Nat
  | [] => 0
  | x :: r => uptoBulkEntry x + uptoBulkEntries r
def uptoBulkEntry {H : Type} : Lit × DataW H → Nat
  | (.string bytes, d) => bytes.length + uptoBulk d + 1
  | (_, d) => uptoBulk d + 1
 end
def uptoSmall : (H : Type) → List (DataW H) → Bool := fun _ ds => decide (uptoBulkAll ds ≤ 1048576)
def OpenSpec.upto (s : _root_.Go.ChangeSpec) : _root_.Go.OpenSpec := { _root_.Go.OpenSpec.ofChange s with cond := some uptoSmall }

/-- 'credencelaw25.BestNames', WHERE WHAT IT READS IS OF BULK AT MOST 1048576: true; the input reads as it did. -/
def bestNamesUptoRow : OpenClaim := { program := "ytkdmfgaijfbcgaagreat", sum := "2457a47168b17adf1af47ff29254c2abf5e6c1239b63ffd932ea02207807060b", func := "credence/credencelaw25.BestNames", spec := "bestNames", unfollowed := true, recurses := true, apart := false, narrowed := true }
def BestNamesUptoSaid : Prop := bestNamesUptoRow.holds Tryz.pinned (OpenSpec.upto bestNamesSpec)

/-- 'credencelaw25.BestFalling', WHERE WHAT IT READS IS OF BULK AT MOST 1048576: true; the input reads as it did. -/
def bestFallingUptoRow : OpenClaim := { program := "ytkdmfgaijfbcgaagreat", sum := "2457a47168b17adf1af47ff29254c2abf5e6c1239b63ffd932ea02207807060b", func := "credence/credencelaw25.BestFalling", spec := "bestFalling", unfollowed := true, recurses := true, apart := false, narrowed := true }
def BestFallingUptoSaid : Prop := bestFallingUptoRow.holds Tryz.pinned (OpenSpec.upto bestFallingSpec)

/-- 'credencelaw25.BestRing', WHERE WHAT IT READS IS OF BULK AT MOST 1048576: true; the input reads as it did. -/
def bestRingUptoRow : OpenClaim := { program := "ytkdmfgaijfbcgaagreat", sum := "2457a47168b17adf1af47ff29254c2abf5e6c1239b63ffd932ea02207807060b", func := "credence/credencelaw25.BestRing", spec := "bestRing", unfollowed := true, recurses := true, apart := false, narrowed := true }
def BestRingUptoSaid : Prop := bestRingUptoRow.holds Tryz.pinned (OpenSpec.upto bestRingSpec)

end Rows
end Go.Proofs.YtkdmfgaijfbcgaaGreat
