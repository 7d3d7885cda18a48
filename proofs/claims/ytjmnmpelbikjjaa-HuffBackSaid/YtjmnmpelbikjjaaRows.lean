/-
  No cell of these rows narrows 'for every input' (looked for: loops, veiled, ifaces, maps, wideKeys, modest, calm, conditions, laid).
  DERIVED. THE GIVEN ROWS OF THIS SEAT. 5 by the template 'for every input the law returns true; each argument reads behind the call as it read before'; 0 by the template 'total and deterministic' (their statements: YtjmnmpelbikjjaaTotals.lean).
  GIVEN WITH THE SEED: the statements are not yours to turn. If you find one false, say at which input.
  Laid BY PROGRAM, IN A SANDBOX (cutbox-rows.mjs): the forced cells as the released guide's own fill.sh prints them over the translation 6be59b0c4dc608f4… (all of the seat's roots in one cut). By AI agents, Wed Nov 11 2026. No macro, syntax, notation, axiom, sorry.
-/
import Derived.Test.YtjmnmpelbikjjaaChecked
import GoSem.Claim
import GoSem.ClaimJoined
import GoSem.ClaimMapViews
import Derived.JoinedTies
import Derived.KernelRfl
namespace Go.Proofs.Ytjmnmpelbikjjaa
/- THE CELL 'sum', in the pinned program and in every row, IS THE sha256 OF THE DUMP (.gsa) THAT YtjmnmpelbikjjaaProg.lean LOADS. Nothing in Lean hashes anything: it is a label: what it is worth is what the hold of that sum in a sandbox is worth. -/
noncomputable def Try.pinned : Pinned := { name := "ytjmnmpelbikjjaa", sum := "6be59b0c4dc608f4eb5d9674982d7136152361e7ffc6e01c8d5a46ac1f603410", checked := Try.checked }
namespace Rows
def none {H : Type} : Left H := { results := [], args := [] }

/-- 'palimpsestlaw03.HuffCodes': WHATEVER THE INPUT: true; the input reads as it did. -/
def huffCodesSpec : ChangeSpec := { name := "huffCodes", fn := fun _ => fun
  | [d] => { results := [.lit (.bool true)], args := [d] }
  | _ => none }
def huffCodesRow : OpenClaim := { program := "ytjmnmpelbikjjaa", sum := "6be59b0c4dc608f4eb5d9674982d7136152361e7ffc6e01c8d5a46ac1f603410", func := "palimpsest/palimpsestlaw03.HuffCodes", spec := "huffCodes", unfollowed := true, recurses := true, apart := false }
def HuffCodesSaid : Prop := huffCodesRow.holds Try.pinned (OpenSpec.ofChange huffCodesSpec)

/-- ITS FALSE NEIGHBOUR: 'it returns false'. Refute it at one input. -/
def huffCodesWrong : ChangeSpec := { name := "huffCodes", fn := fun _ => fun
  | [d] => { results := [.lit (.bool false)], args := [d] }
  | _ => none }
def HuffCodesWrongFalsely : Prop := huffCodesRow.holds Try.pinned (OpenSpec.ofChange huffCodesWrong)

/-- 'palimpsestlaw03.HuffLeast': WHATEVER THE INPUT: true; the input reads as it did. -/
def huffLeastSpec : ChangeSpec := { name := "huffLeast", fn := fun _ => fun
  | [d1, d2] => { results := [.lit (.bool true)], args := [d1, d2] }
  | _ => none }
def huffLeastRow : OpenClaim := { program := "ytjmnmpelbikjjaa", sum := "6be59b0c4dc608f4eb5d9674982d7136152361e7ffc6e01c8d5a46ac1f603410", func := "palimpsest/palimpsestlaw03.HuffLeast", spec := "huffLeast", unfollowed := true, recurses := true, apart := false }
def HuffLeastSaid : Prop := huffLeastRow.holds Try.pinned (OpenSpec.ofChange huffLeastSpec)

/-- ITS FALSE NEIGHBOUR: 'it returns false'. Refute it at one input. -/
def huffLeastWrong : ChangeSpec := { name := "huffLeast", fn := fun _ => fun
  | [d1, d2] => { results := [.lit (.bool false)], args := [d1, d2] }
  | _ => none }
def HuffLeastWrongFalsely : Prop := huffLeastRow.holds Try.pinned (OpenSpec.ofChange huffLeastWrong)

/-- 'palimpsestlaw03.HuffPlain': WHATEVER THE INPUT: true; the input reads as it did. -/
def huffPlainSpec : ChangeSpec := { name := "huffPlain", fn := fun _ => fun
  | [d1, d2] => { results := [.lit (.bool true)], args := [d1, d2] }
  | _ => none }
def huffPlainRow : OpenClaim := { program := "ytjmnmpelbikjjaa", sum := "6be59b0c4dc608f4eb5d9674982d7136152361e7ffc6e01c8d5a46ac1f603410", func := "palimpsest/palimpsestlaw03.HuffPlain", spec := "huffPlain", unfollowed := true, recurses := true, apart := false }
def HuffPlainSaid : Prop := huffPlainRow.holds Try.pinned (OpenSpec.ofChange huffPlainSpec)

/-- ITS FALSE NEIGHBOUR: 'it returns false'. Refute it at one input. -/
def huffPlainWrong : ChangeSpec := { name := "huffPlain", fn := fun _ => fun
  | [d1, d2] => { results := [.lit (.bool false)], args := [d1, d2] }
  | _ => none }
def HuffPlainWrongFalsely : Prop := huffPlainRow.holds Try.pinned (OpenSpec.ofChange huffPlainWrong)

/-- 'palimpsestlaw03.HuffCoding': WHATEVER THE INPUT: true; the input reads as it did. -/
def huffCodingSpec : ChangeSpec := { name := "huffCoding", fn := fun _ => fun
  | [d] => { results := [.lit (.bool true)], args := [d] }
  | _ => none }
def huffCodingRow : OpenClaim := { program := "ytjmnmpelbikjjaa", sum := "6be59b0c4dc608f4eb5d9674982d7136152361e7ffc6e01c8d5a46ac1f603410", func := "palimpsest/palimpsestlaw03.HuffCoding", spec := "huffCoding", unfollowed := true, recurses := true, apart := false }
def HuffCodingSaid : Prop := huffCodingRow.holds Try.pinned (OpenSpec.ofChange huffCodingSpec)

/-- ITS FALSE NEIGHBOUR: 'it returns false'. Refute it at one input. -/
def huffCodingWrong : ChangeSpec := { name := "huffCoding", fn := fun _ => fun
  | [d] => { results := [.lit (.bool false)], args := [d] }
  | _ => none }
def HuffCodingWrongFalsely : Prop := huffCodingRow.holds Try.pinned (OpenSpec.ofChange huffCodingWrong)

/-- 'palimpsestlaw03.HuffBack': WHATEVER THE INPUT: true; the input reads as it did. -/
def huffBackSpec : ChangeSpec := { name := "huffBack", fn := fun _ => fun
  | [d1, d2] => { results := [.lit (.bool true)], args := [d1, d2] }
  | _ => none }
def huffBackRow : OpenClaim := { program := "ytjmnmpelbikjjaa", sum := "6be59b0c4dc608f4eb5d9674982d7136152361e7ffc6e01c8d5a46ac1f603410", func := "palimpsest/palimpsestlaw03.HuffBack", spec := "huffBack", unfollowed := true, recurses := true, apart := false }
def HuffBackSaid : Prop := huffBackRow.holds Try.pinned (OpenSpec.ofChange huffBackSpec)

/-- ITS FALSE NEIGHBOUR: 'it returns false'. Refute it at one input. -/
def huffBackWrong : ChangeSpec := { name := "huffBack", fn := fun _ => fun
  | [d1, d2] => { results := [.lit (.bool false)], args := [d1, d2] }
  | _ => none }
def HuffBackWrongFalsely : Prop := huffBackRow.holds Try.pinned (OpenSpec.ofChange huffBackWrong)

/- THE SECOND FORM. 'bulk': how many values and letters a reading holds, each counted each time it is reached (what is shared counts as often as it is met; a slice's spare places count too). A statement '..UptoSaid' is the law's where the arguments, and the package variables that the reading takes, are together of bulk at most 1048576: NARROWER than '..Said'. Prove '..Said' where nothing that the law and all that it calls make is longer than what came in: it says more and counts as full. Else prove '..UptoSaid'. A law counts once. -/
mutual
def uptoBulk {H : Type} : DataW H → Nat
  | .lit (.string bytes) => bytes.length + 1
  | .lit _ => 1
  | .nil => 1
  | .ptr d => uptoBulk d + 1
  | .slice elems spare => uptoBulkAll elems + uptoBulkAll spare + 1
  | .agg parts => uptoBulkAll parts + 1
  | .iface _ d => uptoBulk d + 1
  | .map entries => uptoBulkEntries entries + 1
  | .held _ => 1
def uptoBulkAll {H : Type} : List (DataW H) → Nat
  | [] => 0
  | d :: r => uptoBulk d + uptoBulkAll r
def uptoBulkEntries {H : Type} : List (Lit × DataW H) → Nat
  | [] => 0
  | x :: r => uptoBulkEntry x + uptoBulkEntries r
def uptoBulkEntry {H : Type} : Lit × DataW H → Nat
  | (.string bytes, d) => bytes.length + uptoBulk d + 1
  | (_, d) => uptoBulk d + 1
 end
def uptoSmall : (H : Type) → List (DataW H) → Bool := fun _ ds => decide (uptoBulkAll ds ≤ 1048576)
def OpenSpec.upto (s : _root_.Go.ChangeSpec) : _root_.Go.OpenSpec := { _root_.Go.OpenSpec.ofChange s with cond := some uptoSmall }

/-- 'palimpsestlaw03.HuffCodes', WHERE WHAT IT READS IS OF BULK AT MOST 1048576: true; the input reads as it did. -/
def huffCodesUptoRow : OpenClaim := { program := "ytjmnmpelbikjjaa", sum := "6be59b0c4dc608f4eb5d9674982d7136152361e7ffc6e01c8d5a46ac1f603410", func := "palimpsest/palimpsestlaw03.HuffCodes", spec := "huffCodes", unfollowed := true, recurses := true, apart := false, narrowed := true }
def HuffCodesUptoSaid : Prop := huffCodesUptoRow.holds Try.pinned (OpenSpec.upto huffCodesSpec)

/-- 'palimpsestlaw03.HuffLeast', WHERE WHAT IT READS IS OF BULK AT MOST 1048576: true; the input reads as it did. -/
def huffLeastUptoRow : OpenClaim := { program := "ytjmnmpelbikjjaa", sum := "6be59b0c4dc608f4eb5d9674982d7136152361e7ffc6e01c8d5a46ac1f603410", func := "palimpsest/palimpsestlaw03.HuffLeast", spec := "huffLeast", unfollowed := true, recurses := true, apart := false, narrowed := true }
def HuffLeastUptoSaid : Prop := huffLeastUptoRow.holds Try.pinned (OpenSpec.upto huffLeastSpec)

/-- 'palimpsestlaw03.HuffPlain', WHERE WHAT IT READS IS OF BULK AT MOST 1048576: true; the input reads as it did. -/
def huffPlainUptoRow : OpenClaim := { program := "ytjmnmpelbikjjaa", sum := "6be59b0c4dc608f4eb5d9674982d7136152361e7ffc6e01c8d5a46ac1f603410", func := "palimpsest/palimpsestlaw03.HuffPlain", spec := "huffPlain", unfollowed := true, recurses := true, apart := false, narrowed := true }
def HuffPlainUptoSaid : Prop := huffPlainUptoRow.holds Try.pinned (OpenSpec.upto huffPlainSpec)

/-- 'palimpsestlaw03.HuffCoding', WHERE WHAT IT READS IS OF BULK AT MOST 1048576: true; the input reads as it did. -/
def huffCodingUptoRow : OpenClaim := { program := "ytjmnmpelbikjjaa", sum := "6be59b0c4dc608f4eb5d9674982d7136152361e7ffc6e01c8d5a46ac1f603410", func := "palimpsest/palimpsestlaw03.HuffCoding", spec := "huffCoding", unfollowed := true, recurses := true, apart := false, narrowed := true }
def HuffCodingUptoSaid : Prop := huffCodingUptoRow.holds Try.pinned (OpenSpec.upto huffCodingSpec)

/-- 'palimpsestlaw03.HuffBack', WHERE WHAT IT READS IS OF BULK AT MOST 1048576: true; the input reads as it did. -/
def huffBackUptoRow : OpenClaim := { program := "ytjmnmpelbikjjaa", sum := "6be59b0c4dc608f4eb5d9674982d7136152361e7ffc6e01c8d5a46ac1f603410", func := "palimpsest/palimpsestlaw03.HuffBack", spec := "huffBack", unfollowed := true, recurses := true, apart := false, narrowed := true }
def HuffBackUptoSaid : Prop := huffBackUptoRow.holds Try.pinned (OpenSpec.upto huffBackSpec)

end Rows
end Go.Proofs.Ytjmnmpelbikjjaa
