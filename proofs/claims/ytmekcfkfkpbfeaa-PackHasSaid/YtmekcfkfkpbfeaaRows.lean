/-
  No cell of these rows narrows 'for every input' (looked for: loops, veiled, ifaces, maps, wideKeys, modest, calm, conditions, laid).
  DERIVED. THE GIVEN ROWS OF THIS SEAT. 10 by the template 'for every input the law returns true; each argument reads behind the call as it read before'; 0 by the template 'total and deterministic' (their statements: YtmekcfkfkpbfeaaTotals.lean).
  GIVEN WITH THE SEED: the statements are not yours to turn. If you find one false, say at which input.
  Laid BY PROGRAM, IN A SANDBOX (cutbox-rows.mjs): the forced cells as the released guide's own fill.sh prints them over the translation 1e64b177d9e3ac63… (all of the seat's roots in one cut). By AI agents, Wed Nov 11 2026. No macro, syntax, notation, axiom, sorry.
-/
import Derived.Test.YtmekcfkfkpbfeaaChecked
import GoSem.Claim
import GoSem.ClaimJoined
import GoSem.ClaimMapViews
import Derived.JoinedTies
import Derived.KernelRfl
namespace Go.Proofs.Ytmekcfkfkpbfeaa
/- THE CELL 'sum', in the pinned program and in every row, IS THE sha256 OF THE DUMP (.gsa) THAT YtmekcfkfkpbfeaaProg.lean LOADS. Nothing in Lean hashes anything: it is a label: what it is worth is what the hold of that sum in a sandbox is worth. -/
noncomputable def Try.pinned : Pinned := { name := "ytmekcfkfkpbfeaa", sum := "1e64b177d9e3ac6339b969a594f8521be0df27e67c39cdbaf578d8ce5e60298b", checked := Try.checked }
namespace Rows
def none {H : Type} : Left H := { results := [], args := [] }

/-- 'wogglelaw04.PackGenerators': WHATEVER THE INPUT: true; the input reads as it did. -/
def packGeneratorsSpec : ChangeSpec := { name := "packGenerators", fn := fun _ => fun
  | [d1, d2, d3] => { results := [.lit (.bool true)], args := [d1, d2, d3] }
  | _ => none }
def packGeneratorsRow : OpenClaim := { program := "ytmekcfkfkpbfeaa", sum := "1e64b177d9e3ac6339b969a594f8521be0df27e67c39cdbaf578d8ce5e60298b", func := "woggle/wogglelaw04.PackGenerators", spec := "packGenerators", unfollowed := true, recurses := true, apart := false }
def PackGeneratorsSaid : Prop := packGeneratorsRow.holds Try.pinned (OpenSpec.ofChange packGeneratorsSpec)

/-- ITS FALSE NEIGHBOUR: 'it returns false'. Refute it at one input. -/
def packGeneratorsWrong : ChangeSpec := { name := "packGenerators", fn := fun _ => fun
  | [d1, d2, d3] => { results := [.lit (.bool false)], args := [d1, d2, d3] }
  | _ => none }
def PackGeneratorsWrongFalsely : Prop := packGeneratorsRow.holds Try.pinned (OpenSpec.ofChange packGeneratorsWrong)

/-- 'wogglelaw04.PackMinimals': WHATEVER THE INPUT: true; the input reads as it did. -/
def packMinimalsSpec : ChangeSpec := { name := "packMinimals", fn := fun _ => fun
  | [d] => { results := [.lit (.bool true)], args := [d] }
  | _ => none }
def packMinimalsRow : OpenClaim := { program := "ytmekcfkfkpbfeaa", sum := "1e64b177d9e3ac6339b969a594f8521be0df27e67c39cdbaf578d8ce5e60298b", func := "woggle/wogglelaw04.PackMinimals", spec := "packMinimals", unfollowed := true, recurses := true, apart := false }
def PackMinimalsSaid : Prop := packMinimalsRow.holds Try.pinned (OpenSpec.ofChange packMinimalsSpec)

/-- ITS FALSE NEIGHBOUR: 'it returns false'. Refute it at one input. -/
def packMinimalsWrong : ChangeSpec := { name := "packMinimals", fn := fun _ => fun
  | [d] => { results := [.lit (.bool false)], args := [d] }
  | _ => none }
def PackMinimalsWrongFalsely : Prop := packMinimalsRow.holds Try.pinned (OpenSpec.ofChange packMinimalsWrong)

/-- 'wogglelaw04.PackRadical': WHATEVER THE INPUT: true; the input reads as it did. -/
def packRadicalSpec : ChangeSpec := { name := "packRadical", fn := fun _ => fun
  | [d1, d2, d3] => { results := [.lit (.bool true)], args := [d1, d2, d3] }
  | _ => none }
def packRadicalRow : OpenClaim := { program := "ytmekcfkfkpbfeaa", sum := "1e64b177d9e3ac6339b969a594f8521be0df27e67c39cdbaf578d8ce5e60298b", func := "woggle/wogglelaw04.PackRadical", spec := "packRadical", unfollowed := true, recurses := true, apart := false }
def PackRadicalSaid : Prop := packRadicalRow.holds Try.pinned (OpenSpec.ofChange packRadicalSpec)

/-- ITS FALSE NEIGHBOUR: 'it returns false'. Refute it at one input. -/
def packRadicalWrong : ChangeSpec := { name := "packRadical", fn := fun _ => fun
  | [d1, d2, d3] => { results := [.lit (.bool false)], args := [d1, d2, d3] }
  | _ => none }
def PackRadicalWrongFalsely : Prop := packRadicalRow.holds Try.pinned (OpenSpec.ofChange packRadicalWrong)

/-- 'wogglelaw04.PackParts': WHATEVER THE INPUT: true; the input reads as it did. -/
def packPartsSpec : ChangeSpec := { name := "packParts", fn := fun _ => fun
  | [d] => { results := [.lit (.bool true)], args := [d] }
  | _ => none }
def packPartsRow : OpenClaim := { program := "ytmekcfkfkpbfeaa", sum := "1e64b177d9e3ac6339b969a594f8521be0df27e67c39cdbaf578d8ce5e60298b", func := "woggle/wogglelaw04.PackParts", spec := "packParts", unfollowed := true, recurses := true, apart := false }
def PackPartsSaid : Prop := packPartsRow.holds Try.pinned (OpenSpec.ofChange packPartsSpec)

/-- ITS FALSE NEIGHBOUR: 'it returns false'. Refute it at one input. -/
def packPartsWrong : ChangeSpec := { name := "packParts", fn := fun _ => fun
  | [d] => { results := [.lit (.bool false)], args := [d] }
  | _ => none }
def PackPartsWrongFalsely : Prop := packPartsRow.holds Try.pinned (OpenSpec.ofChange packPartsWrong)

/-- 'wogglelaw04.PackDimension': WHATEVER THE INPUT: true; the input reads as it did. -/
def packDimensionSpec : ChangeSpec := { name := "packDimension", fn := fun _ => fun
  | [d1, d2] => { results := [.lit (.bool true)], args := [d1, d2] }
  | _ => none }
def packDimensionRow : OpenClaim := { program := "ytmekcfkfkpbfeaa", sum := "1e64b177d9e3ac6339b969a594f8521be0df27e67c39cdbaf578d8ce5e60298b", func := "woggle/wogglelaw04.PackDimension", spec := "packDimension", unfollowed := true, recurses := true, apart := false }
def PackDimensionSaid : Prop := packDimensionRow.holds Try.pinned (OpenSpec.ofChange packDimensionSpec)

/-- ITS FALSE NEIGHBOUR: 'it returns false'. Refute it at one input. -/
def packDimensionWrong : ChangeSpec := { name := "packDimension", fn := fun _ => fun
  | [d1, d2] => { results := [.lit (.bool false)], args := [d1, d2] }
  | _ => none }
def PackDimensionWrongFalsely : Prop := packDimensionRow.holds Try.pinned (OpenSpec.ofChange packDimensionWrong)

/-- 'wogglelaw04.PackHas': WHATEVER THE INPUT: true; the input reads as it did. -/
def packHasSpec : ChangeSpec := { name := "packHas", fn := fun _ => fun
  | [d1, d2] => { results := [.lit (.bool true)], args := [d1, d2] }
  | _ => none }
def packHasRow : OpenClaim := { program := "ytmekcfkfkpbfeaa", sum := "1e64b177d9e3ac6339b969a594f8521be0df27e67c39cdbaf578d8ce5e60298b", func := "woggle/wogglelaw04.PackHas", spec := "packHas", unfollowed := true, recurses := true, apart := false }
def PackHasSaid : Prop := packHasRow.holds Try.pinned (OpenSpec.ofChange packHasSpec)

/-- ITS FALSE NEIGHBOUR: 'it returns false'. Refute it at one input. -/
def packHasWrong : ChangeSpec := { name := "packHas", fn := fun _ => fun
  | [d1, d2] => { results := [.lit (.bool false)], args := [d1, d2] }
  | _ => none }
def PackHasWrongFalsely : Prop := packHasRow.holds Try.pinned (OpenSpec.ofChange packHasWrong)

/-- 'wogglelaw04.PackQuotient': WHATEVER THE INPUT: true; the input reads as it did. -/
def packQuotientSpec : ChangeSpec := { name := "packQuotient", fn := fun _ => fun
  | [d1, d2, d3] => { results := [.lit (.bool true)], args := [d1, d2, d3] }
  | _ => none }
def packQuotientRow : OpenClaim := { program := "ytmekcfkfkpbfeaa", sum := "1e64b177d9e3ac6339b969a594f8521be0df27e67c39cdbaf578d8ce5e60298b", func := "woggle/wogglelaw04.PackQuotient", spec := "packQuotient", unfollowed := true, recurses := true, apart := false }
def PackQuotientSaid : Prop := packQuotientRow.holds Try.pinned (OpenSpec.ofChange packQuotientSpec)

/-- ITS FALSE NEIGHBOUR: 'it returns false'. Refute it at one input. -/
def packQuotientWrong : ChangeSpec := { name := "packQuotient", fn := fun _ => fun
  | [d1, d2, d3] => { results := [.lit (.bool false)], args := [d1, d2, d3] }
  | _ => none }
def PackQuotientWrongFalsely : Prop := packQuotientRow.holds Try.pinned (OpenSpec.ofChange packQuotientWrong)

/-- 'wogglelaw04.PackSets': WHATEVER THE INPUT: true; the input reads as it did. -/
def packSetsSpec : ChangeSpec := { name := "packSets", fn := fun _ => fun
  | [d1, d2] => { results := [.lit (.bool true)], args := [d1, d2] }
  | _ => none }
def packSetsRow : OpenClaim := { program := "ytmekcfkfkpbfeaa", sum := "1e64b177d9e3ac6339b969a594f8521be0df27e67c39cdbaf578d8ce5e60298b", func := "woggle/wogglelaw04.PackSets", spec := "packSets", unfollowed := true, recurses := true, apart := false }
def PackSetsSaid : Prop := packSetsRow.holds Try.pinned (OpenSpec.ofChange packSetsSpec)

/-- ITS FALSE NEIGHBOUR: 'it returns false'. Refute it at one input. -/
def packSetsWrong : ChangeSpec := { name := "packSets", fn := fun _ => fun
  | [d1, d2] => { results := [.lit (.bool false)], args := [d1, d2] }
  | _ => none }
def PackSetsWrongFalsely : Prop := packSetsRow.holds Try.pinned (OpenSpec.ofChange packSetsWrong)

/-- 'wogglelaw04.PackUnion': WHATEVER THE INPUT: true; the input reads as it did. -/
def packUnionSpec : ChangeSpec := { name := "packUnion", fn := fun _ => fun
  | [d1, d2, d3] => { results := [.lit (.bool true)], args := [d1, d2, d3] }
  | _ => none }
def packUnionRow : OpenClaim := { program := "ytmekcfkfkpbfeaa", sum := "1e64b177d9e3ac6339b969a594f8521be0df27e67c39cdbaf578d8ce5e60298b", func := "woggle/wogglelaw04.PackUnion", spec := "packUnion", unfollowed := true, recurses := true, apart := false }
def PackUnionSaid : Prop := packUnionRow.holds Try.pinned (OpenSpec.ofChange packUnionSpec)

/-- ITS FALSE NEIGHBOUR: 'it returns false'. Refute it at one input. -/
def packUnionWrong : ChangeSpec := { name := "packUnion", fn := fun _ => fun
  | [d1, d2, d3] => { results := [.lit (.bool false)], args := [d1, d2, d3] }
  | _ => none }
def PackUnionWrongFalsely : Prop := packUnionRow.holds Try.pinned (OpenSpec.ofChange packUnionWrong)

/-- 'woggletop.TopIdeals': WHATEVER THE INPUT: true; the input reads as it did. -/
def topIdealsSpec : ChangeSpec := { name := "topIdeals", fn := fun _ => fun
  | [d1, d2] => { results := [.lit (.bool true)], args := [d1, d2] }
  | _ => none }
def topIdealsRow : OpenClaim := { program := "ytmekcfkfkpbfeaa", sum := "1e64b177d9e3ac6339b969a594f8521be0df27e67c39cdbaf578d8ce5e60298b", func := "woggle/woggletop.TopIdeals", spec := "topIdeals", unfollowed := true, recurses := true, apart := false }
def TopIdealsSaid : Prop := topIdealsRow.holds Try.pinned (OpenSpec.ofChange topIdealsSpec)

/-- ITS FALSE NEIGHBOUR: 'it returns false'. Refute it at one input. -/
def topIdealsWrong : ChangeSpec := { name := "topIdeals", fn := fun _ => fun
  | [d1, d2] => { results := [.lit (.bool false)], args := [d1, d2] }
  | _ => none }
def TopIdealsWrongFalsely : Prop := topIdealsRow.holds Try.pinned (OpenSpec.ofChange topIdealsWrong)

/- THE SECOND FORM. 'bulk': how many values and letters a reading holds, each counted each time it is reached (what is shared counts as often as it is met; a slice's spare places count too). A statement '..UptoSaid' is the law's where the arguments, and the package variables that the reading takes, are together of bulk at most 1048576: NARROWER than '..Said'. Prove '..Said' where nothing that the law and all that it calls make is longer than what came in: it says more and counts as full. Else prove '..UptoSaid'. A law counts once. -/
mutual
def uptoBulk {H : Type} : DataW H → Nat
  | .lit (.string bytes) => bytes.length + 1
  | .lit _ => 1
  | .nil => 1
  | .ptr d => uptoBulk d + 1
  | .slice elems spare => uptoBulkAll elems + uptoBulkAll spare + 1
  | .agg parts => uptoBulkAll parts + 1
  | .iface _ d => uptoBulk d + 1
  | .map entries => uptoBulkEntries entries + 1
  | .held _ => 1
def uptoBulkAll {H : Type} : List (DataW H) → Nat
  | [] => 0
  | d :: r => uptoBulk d + uptoBulkAll r
def uptoBulkEntries {H : Type} : List (Lit × DataW H) → Nat
  | [] => 0
  | x :: r => uptoBulkEntry x + uptoBulkEntries r
def uptoBulkEntry {H : Type} : Lit × DataW H → Nat
  | (.string bytes, d) => bytes.length + uptoBulk d + 1
  | (_, d) => uptoBulk d + 1
 end
def uptoSmall : (H : Type) → List (DataW H) → Bool := fun _ ds => decide (uptoBulkAll ds ≤ 1048576)
def OpenSpec.upto (s : _root_.Go.ChangeSpec) : _root_.Go.OpenSpec := { _root_.Go.OpenSpec.ofChange s with cond := some uptoSmall }

/-- 'wogglelaw04.PackGenerators', WHERE WHAT IT READS IS OF BULK AT MOST 1048576: true; the input reads as it did. -/
def packGeneratorsUptoRow : OpenClaim := { program := "ytmekcfkfkpbfeaa", sum := "1e64b177d9e3ac6339b969a594f8521be0df27e67c39cdbaf578d8ce5e60298b", func := "woggle/wogglelaw04.PackGenerators", spec := "packGenerators", unfollowed := true, recurses := true, apart := false, narrowed := true }
def PackGeneratorsUptoSaid : Prop := packGeneratorsUptoRow.holds Try.pinned (OpenSpec.upto packGeneratorsSpec)

/-- 'wogglelaw04.PackMinimals', WHERE WHAT IT READS IS OF BULK AT MOST 1048576: true; the input reads as it did. -/
def packMinimalsUptoRow : OpenClaim := { program := "ytmekcfkfkpbfeaa", sum := "1e64b177d9e3ac6339b969a594f8521be0df27e67c39cdbaf578d8ce5e60298b", func := "woggle/wogglelaw04.PackMinimals", spec := "packMinimals", unfollowed := true, recurses := true, apart := false, narrowed := true }
def PackMinimalsUptoSaid : Prop := packMinimalsUptoRow.holds Try.pinned (OpenSpec.upto packMinimalsSpec)

/-- 'wogglelaw04.PackRadical', WHERE WHAT IT READS IS OF BULK AT MOST 1048576: true; the input reads as it did. -/
def packRadicalUptoRow : OpenClaim := { program := "ytmekcfkfkpbfeaa", sum := "1e64b177d9e3ac6339b969a594f8521be0df27e67c39cdbaf578d8ce5e60298b", func := "woggle/wogglelaw04.PackRadical", spec := "packRadical", unfollowed := true, recurses := true, apart := false, narrowed := true }
def PackRadicalUptoSaid : Prop := packRadicalUptoRow.holds Try.pinned (OpenSpec.upto packRadicalSpec)

/-- 'wogglelaw04.PackParts', WHERE WHAT IT READS IS OF BULK AT MOST 1048576: true; the input reads as it did. -/
def packPartsUptoRow : OpenClaim := { program := "ytmekcfkfkpbfeaa", sum := "1e64b177d9e3ac6339b969a594f8521be0df27e67c39cdbaf578d8ce5e60298b", func := "woggle/wogglelaw04.PackParts", spec := "packParts", unfollowed := true, recurses := true, apart := false, narrowed := true }
def PackPartsUptoSaid : Prop := packPartsUptoRow.holds Try.pinned (OpenSpec.upto packPartsSpec)

/-- 'wogglelaw04.PackDimension', WHERE WHAT IT READS IS OF BULK AT MOST 1048576: true; the input reads as it did. -/
def packDimensionUptoRow : OpenClaim := { program := "ytmekcfkfkpbfeaa", sum := "1e64b177d9e3ac6339b969a594f8521be0df27e67c39cdbaf578d8ce5e60298b", func := "woggle/wogglelaw04.PackDimension", spec := "packDimension", unfollowed := true, recurses := true, apart := false, narrowed := true }
def PackDimensionUptoSaid : Prop := packDimensionUptoRow.holds Try.pinned (OpenSpec.upto packDimensionSpec)

/-- 'wogglelaw04.PackHas', WHERE WHAT IT READS IS OF BULK AT MOST 1048576: true; the input reads as it did. -/
def packHasUptoRow : OpenClaim := { program := "ytmekcfkfkpbfeaa", sum := "1e64b177d9e3ac6339b969a594f8521be0df27e67c39cdbaf578d8ce5e60298b", func := "woggle/wogglelaw04.PackHas", spec := "packHas", unfollowed := true, recurses := true, apart := false, narrowed := true }
def PackHasUptoSaid : Prop := packHasUptoRow.holds Try.pinned (OpenSpec.upto packHasSpec)

/-- 'wogglelaw04.PackQuotient', WHERE WHAT IT READS IS OF BULK AT MOST 1048576: true; the input reads as it did. -/
def packQuotientUptoRow : OpenClaim := { program := "ytmekcfkfkpbfeaa", sum := "1e64b177d9e3ac6339b969a594f8521be0df27e67c39cdbaf578d8ce5e60298b", func := "woggle/wogglelaw04.PackQuotient", spec := "packQuotient", unfollowed := true, recurses := true, apart := false, narrowed := true }
def PackQuotientUptoSaid : Prop := packQuotientUptoRow.holds Try.pinned (OpenSpec.upto packQuotientSpec)

/-- 'wogglelaw04.PackSets', WHERE WHAT IT READS IS OF BULK AT MOST 1048576: true; the input reads as it did. -/
def packSetsUptoRow : OpenClaim := { program := "ytmekcfkfkpbfeaa", sum := "1e64b177d9e3ac6339b969a594f8521be0df27e67c39cdbaf578d8ce5e60298b", func := "woggle/wogglelaw04.PackSets", spec := "packSets", unfollowed := true, recurses := true, apart := false, narrowed := true }
def PackSetsUptoSaid : Prop := packSetsUptoRow.holds Try.pinned (OpenSpec.upto packSetsSpec)

/-- 'wogglelaw04.PackUnion', WHERE WHAT IT READS IS OF BULK AT MOST 1048576: true; the input reads as it did. -/
def packUnionUptoRow : OpenClaim := { program := "ytmekcfkfkpbfeaa", sum := "1e64b177d9e3ac6339b969a594f8521be0df27e67c39cdbaf578d8ce5e60298b", func := "woggle/wogglelaw04.PackUnion", spec := "packUnion", unfollowed := true, recurses := true, apart := false, narrowed := true }
def PackUnionUptoSaid : Prop := packUnionUptoRow.holds Try.pinned (OpenSpec.upto packUnionSpec)

/-- 'woggletop.TopIdeals', WHERE WHAT IT READS IS OF BULK AT MOST 1048576: true; the input reads as it did. -/
def topIdealsUptoRow : OpenClaim := { program := "ytmekcfkfkpbfeaa", sum := "1e64b177d9e3ac6339b969a594f8521be0df27e67c39cdbaf578d8ce5e60298b", func := "woggle/woggletop.TopIdeals", spec := "topIdeals", unfollowed := true, recurses := true, apart := false, narrowed := true }
def TopIdealsUptoSaid : Prop := topIdealsUptoRow.holds Try.pinned (OpenSpec.upto topIdealsSpec)

end Rows
end Go.Proofs.Ytmekcfkfkpbfeaa
