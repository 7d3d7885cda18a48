/-
  No cell of these rows narrows 'for every input' (looked for: loops, veiled, ifaces, maps, wideKeys, modest, calm, conditions, laid).
  DERIVED. THE GIVEN ROWS OF THIS SEAT. 5 by the template 'for every input the law returns true; each argument reads behind the call as it read before'; 0 by the template 'total and deterministic' (their statements: YtlmablpekedcfaaTotals.lean).
  GIVEN WITH THE SEED: the statements are not yours to turn. If you find one false, say at which input.
  Laid BY PROGRAM, IN A SANDBOX (cutbox-rows.mjs): the forced cells as the released guide's own fill.sh prints them over the translation 7c049889b19c8015… (all of the seat's roots in one cut). By AI agents, Wed Nov 11 2026. No macro, syntax, notation, axiom, sorry.
-/
import Derived.Test.YtlmablpekedcfaaChecked
import GoSem.Claim
import GoSem.ClaimJoined
import GoSem.ClaimMapViews
import Derived.JoinedTies
import Derived.KernelRfl
namespace Go.Proofs.Ytlmablpekedcfaa
/- THE CELL 'sum', in the pinned program and in every row, IS THE sha256 OF THE DUMP (.gsa) THAT YtlmablpekedcfaaProg.lean LOADS. Nothing in Lean hashes anything: it is a label: what it is worth is what the hold of that sum in a sandbox is worth. -/
noncomputable def Try.pinned : Pinned := { name := "ytlmablpekedcfaa", sum := "7c049889b19c801597c3f09a7c895c78c42c3f5e91d39d908eaa0d7b7633ea4b", checked := Try.checked }
namespace Rows
def none {H : Type} : Left H := { results := [], args := [] }

/-- 'palimpsestlaw12.RegionsKinds': WHATEVER THE INPUT: true; the input reads as it did. -/
def regionsKindsSpec : ChangeSpec := { name := "regionsKinds", fn := fun _ => fun
  | [d] => { results := [.lit (.bool true)], args := [d] }
  | _ => none }
def regionsKindsRow : OpenClaim := { program := "ytlmablpekedcfaa", sum := "7c049889b19c801597c3f09a7c895c78c42c3f5e91d39d908eaa0d7b7633ea4b", func := "palimpsest/palimpsestlaw12.RegionsKinds", spec := "regionsKinds", unfollowed := true, recurses := true, apart := false }
def RegionsKindsSaid : Prop := regionsKindsRow.holds Try.pinned (OpenSpec.ofChange regionsKindsSpec)

/-- ITS FALSE NEIGHBOUR: 'it returns false'. Refute it at one input. -/
def regionsKindsWrong : ChangeSpec := { name := "regionsKinds", fn := fun _ => fun
  | [d] => { results := [.lit (.bool false)], args := [d] }
  | _ => none }
def RegionsKindsWrongFalsely : Prop := regionsKindsRow.holds Try.pinned (OpenSpec.ofChange regionsKindsWrong)

/-- 'palimpsestlaw12.RegionsApart': WHATEVER THE INPUT: true; the input reads as it did. -/
def regionsApartSpec : ChangeSpec := { name := "regionsApart", fn := fun _ => fun
  | [d1, d2, d3] => { results := [.lit (.bool true)], args := [d1, d2, d3] }
  | _ => none }
def regionsApartRow : OpenClaim := { program := "ytlmablpekedcfaa", sum := "7c049889b19c801597c3f09a7c895c78c42c3f5e91d39d908eaa0d7b7633ea4b", func := "palimpsest/palimpsestlaw12.RegionsApart", spec := "regionsApart", unfollowed := true, recurses := true, apart := false }
def RegionsApartSaid : Prop := regionsApartRow.holds Try.pinned (OpenSpec.ofChange regionsApartSpec)

/-- ITS FALSE NEIGHBOUR: 'it returns false'. Refute it at one input. -/
def regionsApartWrong : ChangeSpec := { name := "regionsApart", fn := fun _ => fun
  | [d1, d2, d3] => { results := [.lit (.bool false)], args := [d1, d2, d3] }
  | _ => none }
def RegionsApartWrongFalsely : Prop := regionsApartRow.holds Try.pinned (OpenSpec.ofChange regionsApartWrong)

/-- 'palimpsestlaw12.RegionsOrder': WHATEVER THE INPUT: true; the input reads as it did. -/
def regionsOrderSpec : ChangeSpec := { name := "regionsOrder", fn := fun _ => fun
  | [d] => { results := [.lit (.bool true)], args := [d] }
  | _ => none }
def regionsOrderRow : OpenClaim := { program := "ytlmablpekedcfaa", sum := "7c049889b19c801597c3f09a7c895c78c42c3f5e91d39d908eaa0d7b7633ea4b", func := "palimpsest/palimpsestlaw12.RegionsOrder", spec := "regionsOrder", unfollowed := true, recurses := true, apart := false }
def RegionsOrderSaid : Prop := regionsOrderRow.holds Try.pinned (OpenSpec.ofChange regionsOrderSpec)

/-- ITS FALSE NEIGHBOUR: 'it returns false'. Refute it at one input. -/
def regionsOrderWrong : ChangeSpec := { name := "regionsOrder", fn := fun _ => fun
  | [d] => { results := [.lit (.bool false)], args := [d] }
  | _ => none }
def RegionsOrderWrongFalsely : Prop := regionsOrderRow.holds Try.pinned (OpenSpec.ofChange regionsOrderWrong)

/-- 'palimpsestlaw12.RegionsMove': WHATEVER THE INPUT: true; the input reads as it did. -/
def regionsMoveSpec : ChangeSpec := { name := "regionsMove", fn := fun _ => fun
  | [d1, d2, d3] => { results := [.lit (.bool true)], args := [d1, d2, d3] }
  | _ => none }
def regionsMoveRow : OpenClaim := { program := "ytlmablpekedcfaa", sum := "7c049889b19c801597c3f09a7c895c78c42c3f5e91d39d908eaa0d7b7633ea4b", func := "palimpsest/palimpsestlaw12.RegionsMove", spec := "regionsMove", unfollowed := true, recurses := true, apart := false }
def RegionsMoveSaid : Prop := regionsMoveRow.holds Try.pinned (OpenSpec.ofChange regionsMoveSpec)

/-- ITS FALSE NEIGHBOUR: 'it returns false'. Refute it at one input. -/
def regionsMoveWrong : ChangeSpec := { name := "regionsMove", fn := fun _ => fun
  | [d1, d2, d3] => { results := [.lit (.bool false)], args := [d1, d2, d3] }
  | _ => none }
def RegionsMoveWrongFalsely : Prop := regionsMoveRow.holds Try.pinned (OpenSpec.ofChange regionsMoveWrong)

/-- 'palimpsestlaw12.RegionsPlay': WHATEVER THE INPUT: true; the input reads as it did. -/
def regionsPlaySpec : ChangeSpec := { name := "regionsPlay", fn := fun _ => fun
  | [d] => { results := [.lit (.bool true)], args := [d] }
  | _ => none }
def regionsPlayRow : OpenClaim := { program := "ytlmablpekedcfaa", sum := "7c049889b19c801597c3f09a7c895c78c42c3f5e91d39d908eaa0d7b7633ea4b", func := "palimpsest/palimpsestlaw12.RegionsPlay", spec := "regionsPlay", unfollowed := true, recurses := true, apart := false }
def RegionsPlaySaid : Prop := regionsPlayRow.holds Try.pinned (OpenSpec.ofChange regionsPlaySpec)

/-- ITS FALSE NEIGHBOUR: 'it returns false'. Refute it at one input. -/
def regionsPlayWrong : ChangeSpec := { name := "regionsPlay", fn := fun _ => fun
  | [d] => { results := [.lit (.bool false)], args := [d] }
  | _ => none }
def RegionsPlayWrongFalsely : Prop := regionsPlayRow.holds Try.pinned (OpenSpec.ofChange regionsPlayWrong)

/- THE SECOND FORM. 'bulk': how many values and letters a reading holds, each counted each time it is reached (what is shared counts as often as it is met; a slice's spare places count too). A statement '..UptoSaid' is the law's where the arguments, and the package variables that the reading takes, are together of bulk at most 1048576: NARROWER than '..Said'. Prove '..Said' where nothing that the law and all that it calls make is longer than what came in: it says more and counts as full. Else prove '..UptoSaid'. A law counts once. -/
mutual
def uptoBulk {H : Type} : DataW H → Nat
  | .lit (.string bytes) => bytes.length + 1
  | .lit _ => 1
  | .nil => 1
  | .ptr d => uptoBulk d + 1
  | .slice elems spare => uptoBulkAll elems + uptoBulkAll spare + 1
  | .agg parts => uptoBulkAll parts + 1
  | .iface _ d => uptoBulk d + 1
  | .map entries => uptoBulkEntries entries + 1
  | .held _ => 1
def uptoBulkAll {H : Type} : List (DataW H) → Nat
  | [] => 0
  | d :: r => uptoBulk d + uptoBulkAll r
def uptoBulkEntries {H : Type} : List (Lit × DataW H) → Nat
  | [] => 0
  | x :: r => uptoBulkEntry x + uptoBulkEntries r
def uptoBulkEntry {H : Type} : Lit × DataW H → Nat
  | (.string bytes, d) => bytes.length + uptoBulk d + 1
  | (_, d) => uptoBulk d + 1
 end
def uptoSmall : (H : Type) → List (DataW H) → Bool := fun _ ds => decide (uptoBulkAll ds ≤ 1048576)
def OpenSpec.upto (s : _root_.Go.ChangeSpec) : _root_.Go.OpenSpec := { _root_.Go.OpenSpec.ofChange s with cond := some uptoSmall }

/-- 'palimpsestlaw12.RegionsKinds', WHERE WHAT IT READS IS OF BULK AT MOST 1048576: true; the input reads as it did. -/
def regionsKindsUptoRow : OpenClaim := { program := "ytlmablpekedcfaa", sum := "7c049889b19c801597c3f09a7c895c78c42c3f5e91d39d908eaa0d7b7633ea4b", func := "palimpsest/palimpsestlaw12.RegionsKinds", spec := "regionsKinds", unfollowed := true, recurses := true, apart := false, narrowed := true }
def RegionsKindsUptoSaid : Prop := regionsKindsUptoRow.holds Try.pinned (OpenSpec.upto regionsKindsSpec)

/-- 'palimpsestlaw12.RegionsApart', WHERE WHAT IT READS IS OF BULK AT MOST 1048576: true; the input reads as it did. -/
def regionsApartUptoRow : OpenClaim := { program := "ytlmablpekedcfaa", sum := "7c049889b19c801597c3f09a7c895c78c42c3f5e91d39d908eaa0d7b7633ea4b", func := "palimpsest/palimpsestlaw12.RegionsApart", spec := "regionsApart", unfollowed := true, recurses := true, apart := false, narrowed := true }
def RegionsApartUptoSaid : Prop := regionsApartUptoRow.holds Try.pinned (OpenSpec.upto regionsApartSpec)

/-- 'palimpsestlaw12.RegionsOrder', WHERE WHAT IT READS IS OF BULK AT MOST 1048576: true; the input reads as it did. -/
def regionsOrderUptoRow : OpenClaim := { program := "ytlmablpekedcfaa", sum := "7c049889b19c801597c3f09a7c895c78c42c3f5e91d39d908eaa0d7b7633ea4b", func := "palimpsest/palimpsestlaw12.RegionsOrder", spec := "regionsOrder", unfollowed := true, recurses := true, apart := false, narrowed := true }
def RegionsOrderUptoSaid : Prop := regionsOrderUptoRow.holds Try.pinned (OpenSpec.upto regionsOrderSpec)

/-- 'palimpsestlaw12.RegionsMove', WHERE WHAT IT READS IS OF BULK AT MOST 1048576: true; the input reads as it did. -/
def regionsMoveUptoRow : OpenClaim := { program := "ytlmablpekedcfaa", sum := "7c049889b19c801597c3f09a7c895c78c42c3f5e91d39d908eaa0d7b7633ea4b", func := "palimpsest/palimpsestlaw12.RegionsMove", spec := "regionsMove", unfollowed := true, recurses := true, apart := false, narrowed := true }
def RegionsMoveUptoSaid : Prop := regionsMoveUptoRow.holds Try.pinned (OpenSpec.upto regionsMoveSpec)

/-- 'palimpsestlaw12.RegionsPlay', WHERE WHAT IT READS IS OF BULK AT MOST 1048576: true; the input reads as it did. -/
def regionsPlayUptoRow : OpenClaim := { program := "ytlmablpekedcfaa", sum := "7c049889b19c801597c3f09a7c895c78c42c3f5e91d39d908eaa0d7b7633ea4b", func := "palimpsest/palimpsestlaw12.RegionsPlay", spec := "regionsPlay", unfollowed := true, recurses := true, apart := false, narrowed := true }
def RegionsPlayUptoSaid : Prop := regionsPlayUptoRow.holds Try.pinned (OpenSpec.upto regionsPlaySpec)

end Rows
end Go.Proofs.Ytlmablpekedcfaa
