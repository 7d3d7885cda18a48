/-
  No cell of these rows narrows 'for every input' (looked for: loops, veiled, ifaces, maps, wideKeys, modest, calm, conditions, laid).
  DERIVED. THE GIVEN ROWS OF THIS SEAT. 6 by the template 'for every input the law returns true; each argument reads behind the call as it read before'; 0 by the template 'total and deterministic' (their statements: YtleaimlaljlokaaTotals.lean).
  GIVEN WITH THE SEED: the statements are not yours to turn. If you find one false, say at which input.
  Laid BY PROGRAM, IN A SANDBOX (cutbox-rows.mjs): the forced cells as the released guide's own fill.sh prints them over the translation fc12b5abf161017f… (all of the seat's roots in one cut). By AI agents, Wed Nov 11 2026. No macro, syntax, notation, axiom, sorry.
-/
import Derived.Test.YtleaimlaljlokaaChecked
import GoSem.Claim
import GoSem.ClaimJoined
import GoSem.ClaimMapViews
import Derived.JoinedTies
import Derived.KernelRfl
namespace Go.Proofs.Ytleaimlaljlokaa
/- THE CELL 'sum', in the pinned program and in every row, IS THE sha256 OF THE DUMP (.gsa) THAT YtleaimlaljlokaaProg.lean LOADS. Nothing in Lean hashes anything: it is a label: what it is worth is what the hold of that sum in a sandbox is worth. -/
noncomputable def Try.pinned : Pinned := { name := "ytleaimlaljlokaa", sum := "fc12b5abf161017f1df796767bf3a173844e895265bc5873664de3730cf73189", checked := Try.checked }
namespace Rows
def none {H : Type} : Left H := { results := [], args := [] }

/-- 'palimpsestlaw04.LzExpands': WHATEVER THE INPUT: true; the input reads as it did. -/
def lzExpandsSpec : ChangeSpec := { name := "lzExpands", fn := fun _ => fun
  | [d1, d2] => { results := [.lit (.bool true)], args := [d1, d2] }
  | _ => none }
def lzExpandsRow : OpenClaim := { program := "ytleaimlaljlokaa", sum := "fc12b5abf161017f1df796767bf3a173844e895265bc5873664de3730cf73189", func := "palimpsest/palimpsestlaw04.LzExpands", spec := "lzExpands", unfollowed := true, recurses := true, plainKeys := false, apart := false }
def LzExpandsSaid : Prop := lzExpandsRow.holds Try.pinned (OpenSpec.ofChange lzExpandsSpec)

/-- ITS FALSE NEIGHBOUR: 'it returns false'. Refute it at one input. -/
def lzExpandsWrong : ChangeSpec := { name := "lzExpands", fn := fun _ => fun
  | [d1, d2] => { results := [.lit (.bool false)], args := [d1, d2] }
  | _ => none }
def LzExpandsWrongFalsely : Prop := lzExpandsRow.holds Try.pinned (OpenSpec.ofChange lzExpandsWrong)

/-- 'palimpsestlaw04.LzBack': WHATEVER THE INPUT: true; the input reads as it did. -/
def lzBackSpec : ChangeSpec := { name := "lzBack", fn := fun _ => fun
  | [d1, d2, d3] => { results := [.lit (.bool true)], args := [d1, d2, d3] }
  | _ => none }
def lzBackRow : OpenClaim := { program := "ytleaimlaljlokaa", sum := "fc12b5abf161017f1df796767bf3a173844e895265bc5873664de3730cf73189", func := "palimpsest/palimpsestlaw04.LzBack", spec := "lzBack", unfollowed := true, recurses := true, plainKeys := false, apart := false }
def LzBackSaid : Prop := lzBackRow.holds Try.pinned (OpenSpec.ofChange lzBackSpec)

/-- ITS FALSE NEIGHBOUR: 'it returns false'. Refute it at one input. -/
def lzBackWrong : ChangeSpec := { name := "lzBack", fn := fun _ => fun
  | [d1, d2, d3] => { results := [.lit (.bool false)], args := [d1, d2, d3] }
  | _ => none }
def LzBackWrongFalsely : Prop := lzBackRow.holds Try.pinned (OpenSpec.ofChange lzBackWrong)

/-- 'palimpsestlaw04.LzParses': WHATEVER THE INPUT: true; the input reads as it did. -/
def lzParsesSpec : ChangeSpec := { name := "lzParses", fn := fun _ => fun
  | [d1, d2, d3] => { results := [.lit (.bool true)], args := [d1, d2, d3] }
  | _ => none }
def lzParsesRow : OpenClaim := { program := "ytleaimlaljlokaa", sum := "fc12b5abf161017f1df796767bf3a173844e895265bc5873664de3730cf73189", func := "palimpsest/palimpsestlaw04.LzParses", spec := "lzParses", unfollowed := true, recurses := true, plainKeys := false, apart := false }
def LzParsesSaid : Prop := lzParsesRow.holds Try.pinned (OpenSpec.ofChange lzParsesSpec)

/-- ITS FALSE NEIGHBOUR: 'it returns false'. Refute it at one input. -/
def lzParsesWrong : ChangeSpec := { name := "lzParses", fn := fun _ => fun
  | [d1, d2, d3] => { results := [.lit (.bool false)], args := [d1, d2, d3] }
  | _ => none }
def LzParsesWrongFalsely : Prop := lzParsesRow.holds Try.pinned (OpenSpec.ofChange lzParsesWrong)

/-- 'palimpsestlaw04.LzLong': WHATEVER THE INPUT: true; the input reads as it did. -/
def lzLongSpec : ChangeSpec := { name := "lzLong", fn := fun _ => fun
  | [] => { results := [.lit (.bool true)], args := [] }
  | _ => none }
def lzLongRow : OpenClaim := { program := "ytleaimlaljlokaa", sum := "fc12b5abf161017f1df796767bf3a173844e895265bc5873664de3730cf73189", func := "palimpsest/palimpsestlaw04.LzLong", spec := "lzLong", unfollowed := true, recurses := true, plainKeys := false, apart := false }
def LzLongSaid : Prop := lzLongRow.holds Try.pinned (OpenSpec.ofChange lzLongSpec)

/-- ITS FALSE NEIGHBOUR: 'it returns false'. Refute it at one input. -/
def lzLongWrong : ChangeSpec := { name := "lzLong", fn := fun _ => fun
  | [] => { results := [.lit (.bool false)], args := [] }
  | _ => none }
def LzLongWrongFalsely : Prop := lzLongRow.holds Try.pinned (OpenSpec.ofChange lzLongWrong)

/-- 'palimpsestlaw04.LzCounts': WHATEVER THE INPUT: true; the input reads as it did. -/
def lzCountsSpec : ChangeSpec := { name := "lzCounts", fn := fun _ => fun
  | [d] => { results := [.lit (.bool true)], args := [d] }
  | _ => none }
def lzCountsRow : OpenClaim := { program := "ytleaimlaljlokaa", sum := "fc12b5abf161017f1df796767bf3a173844e895265bc5873664de3730cf73189", func := "palimpsest/palimpsestlaw04.LzCounts", spec := "lzCounts", unfollowed := true, recurses := true, plainKeys := false, apart := false }
def LzCountsSaid : Prop := lzCountsRow.holds Try.pinned (OpenSpec.ofChange lzCountsSpec)

/-- ITS FALSE NEIGHBOUR: 'it returns false'. Refute it at one input. -/
def lzCountsWrong : ChangeSpec := { name := "lzCounts", fn := fun _ => fun
  | [d] => { results := [.lit (.bool false)], args := [d] }
  | _ => none }
def LzCountsWrongFalsely : Prop := lzCountsRow.holds Try.pinned (OpenSpec.ofChange lzCountsWrong)

/-- 'palimpsestlaw04.LzSymbols': WHATEVER THE INPUT: true; the input reads as it did. -/
def lzSymbolsSpec : ChangeSpec := { name := "lzSymbols", fn := fun _ => fun
  | [d1, d2] => { results := [.lit (.bool true)], args := [d1, d2] }
  | _ => none }
def lzSymbolsRow : OpenClaim := { program := "ytleaimlaljlokaa", sum := "fc12b5abf161017f1df796767bf3a173844e895265bc5873664de3730cf73189", func := "palimpsest/palimpsestlaw04.LzSymbols", spec := "lzSymbols", unfollowed := true, recurses := true, plainKeys := false, apart := false }
def LzSymbolsSaid : Prop := lzSymbolsRow.holds Try.pinned (OpenSpec.ofChange lzSymbolsSpec)

/-- ITS FALSE NEIGHBOUR: 'it returns false'. Refute it at one input. -/
def lzSymbolsWrong : ChangeSpec := { name := "lzSymbols", fn := fun _ => fun
  | [d1, d2] => { results := [.lit (.bool false)], args := [d1, d2] }
  | _ => none }
def LzSymbolsWrongFalsely : Prop := lzSymbolsRow.holds Try.pinned (OpenSpec.ofChange lzSymbolsWrong)

/- THE SECOND FORM. 'bulk': how many values and letters a reading holds, each counted each time it is reached (what is shared counts as often as it is met; a slice's spare places count too). A statement '..UptoSaid' is the law's where the arguments, and the package variables that the reading takes, are together of bulk at most 1048576: NARROWER than '..Said'. Prove '..Said' where nothing that the law and all that it calls make is longer than what came in: it says more and counts as full. Else prove '..UptoSaid'. A law counts once. -/
mutual
def uptoBulk {H : Type} : DataW H → Nat
  | .lit (.string bytes) => bytes.length + 1
  | .lit _ => 1
  | .nil => 1
  | .ptr d => uptoBulk d + 1
  | .slice elems spare => uptoBulkAll elems + uptoBulkAll spare + 1
  | .agg parts => uptoBulkAll parts + 1
  | .iface _ d => uptoBulk d + 1
  | .map entries => uptoBulkEntries entries + 1
  | .held _ => 1
def uptoBulkAll {H : Type} : List (DataW H) → Nat
  | [] => 0
  | d :: r => uptoBulk d + uptoBulkAll r
def uptoBulkEntries {H : Type} : List (Lit × DataW H) → Nat
  | [] => 0
  | x :: r => uptoBulkEntry x + uptoBulkEntries r
def uptoBulkEntry {H : Type} : Lit × DataW H → Nat
  | (.string bytes, d) => bytes.length + uptoBulk d + 1
  | (_, d) => uptoBulk d + 1
 end
def uptoSmall : (H : Type) → List (DataW H) → Bool := fun _ ds => decide (uptoBulkAll ds ≤ 1048576)
def OpenSpec.upto (s : _root_.Go.ChangeSpec) : _root_.Go.OpenSpec := { _root_.Go.OpenSpec.ofChange s with cond := some uptoSmall }

/-- 'palimpsestlaw04.LzExpands', WHERE WHAT IT READS IS OF BULK AT MOST 1048576: true; the input reads as it did. -/
def lzExpandsUptoRow : OpenClaim := { program := "ytleaimlaljlokaa", sum := "fc12b5abf161017f1df796767bf3a173844e895265bc5873664de3730cf73189", func := "palimpsest/palimpsestlaw04.LzExpands", spec := "lzExpands", unfollowed := true, recurses := true, plainKeys := false, apart := false, narrowed := true }
def LzExpandsUptoSaid : Prop := lzExpandsUptoRow.holds Try.pinned (OpenSpec.upto lzExpandsSpec)

/-- 'palimpsestlaw04.LzBack', WHERE WHAT IT READS IS OF BULK AT MOST 1048576: true; the input reads as it did. -/
def lzBackUptoRow : OpenClaim := { program := "ytleaimlaljlokaa", sum := "fc12b5abf161017f1df796767bf3a173844e895265bc5873664de3730cf73189", func := "palimpsest/palimpsestlaw04.LzBack", spec := "lzBack", unfollowed := true, recurses := true, plainKeys := false, apart := false, narrowed := true }
def LzBackUptoSaid : Prop := lzBackUptoRow.holds Try.pinned (OpenSpec.upto lzBackSpec)

/-- 'palimpsestlaw04.LzParses', WHERE WHAT IT READS IS OF BULK AT MOST 1048576: true; the input reads as it did. -/
def lzParsesUptoRow : OpenClaim := { program := "ytleaimlaljlokaa", sum := "fc12b5abf161017f1df796767bf3a173844e895265bc5873664de3730cf73189", func := "palimpsest/palimpsestlaw04.LzParses", spec := "lzParses", unfollowed := true, recurses := true, plainKeys := false, apart := false, narrowed := true }
def LzParsesUptoSaid : Prop := lzParsesUptoRow.holds Try.pinned (OpenSpec.upto lzParsesSpec)

/-- 'palimpsestlaw04.LzLong', WHERE WHAT IT READS IS OF BULK AT MOST 1048576: true; the input reads as it did. -/
def lzLongUptoRow : OpenClaim := { program := "ytleaimlaljlokaa", sum := "fc12b5abf161017f1df796767bf3a173844e895265bc5873664de3730cf73189", func := "palimpsest/palimpsestlaw04.LzLong", spec := "lzLong", unfollowed := true, recurses := true, plainKeys := false, apart := false, narrowed := true }
def LzLongUptoSaid : Prop := lzLongUptoRow.holds Try.pinned (OpenSpec.upto lzLongSpec)

/-- 'palimpsestlaw04.LzCounts', WHERE WHAT IT READS IS OF BULK AT MOST 1048576: true; the input reads as it did. -/
def lzCountsUptoRow : OpenClaim := { program := "ytleaimlaljlokaa", sum := "fc12b5abf161017f1df796767bf3a173844e895265bc5873664de3730cf73189", func := "palimpsest/palimpsestlaw04.LzCounts", spec := "lzCounts", unfollowed := true, recurses := true, plainKeys := false, apart := false, narrowed := true }
def LzCountsUptoSaid : Prop := lzCountsUptoRow.holds Try.pinned (OpenSpec.upto lzCountsSpec)

/-- 'palimpsestlaw04.LzSymbols', WHERE WHAT IT READS IS OF BULK AT MOST 1048576: true; the input reads as it did. -/
def lzSymbolsUptoRow : OpenClaim := { program := "ytleaimlaljlokaa", sum := "fc12b5abf161017f1df796767bf3a173844e895265bc5873664de3730cf73189", func := "palimpsest/palimpsestlaw04.LzSymbols", spec := "lzSymbols", unfollowed := true, recurses := true, plainKeys := false, apart := false, narrowed := true }
def LzSymbolsUptoSaid : Prop := lzSymbolsUptoRow.holds Try.pinned (OpenSpec.upto lzSymbolsSpec)

end Rows
end Go.Proofs.Ytleaimlaljlokaa
