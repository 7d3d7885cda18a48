/-
  No cell of these rows narrows 'for every input' (looked for: loops, veiled, ifaces, maps, wideKeys, modest, calm, conditions, laid).
  DERIVED. THE GIVEN ROWS OF THIS SEAT. 4 by the template 'for every input the law returns true; each argument reads behind the call as it read before'; 0 by the template 'total and deterministic' (their statements: YtiijhaajaglabaaGreatTotals.lean).
  GIVEN WITH THE SEED: the statements are not yours to turn. If you find one false, say at which input.
  Laid BY PROGRAM, IN A SANDBOX (cutbox-rows.mjs): the forced cells as the released guide's own fill.sh prints them over the translation 21b3c79894fd7d5c… (all of the seat's roots in one cut). By AI agents, Wed Nov 11 2026. No macro, syntax, notation, axiom, sorry.
-/
import Derived.Test.YtiijhaajaglabaaGreatChecked
import GoSem.Claim
import GoSem.ClaimJoined
import GoSem.ClaimMapViews
import Derived.JoinedTies
import Derived.KernelRfl
namespace Go.Proofs.YtiijhaajaglabaaGreat
/- THE CELL 'sum', in the pinned program and in every row, IS THE sha256 OF THE DUMP (.gsa) THAT YtiijhaajaglabaaGreatProg.lean LOADS. Nothing in Lean hashes anything: it is a label: what it is worth is what the hold of that sum in a sandbox is worth. -/
noncomputable def Tryz.pinned : Pinned := { name := "ytiijhaajaglabaagreat", sum := "21b3c79894fd7d5c0479e89421ba5efdaaac23858c8164f89d1ab7f28cae9dab", checked := Tryz.checked }
namespace Rows
def none {H : Type} : Left H := { results := [], args := [] }

/-- 'palimpsestlaw05.DeflatePacks': WHATEVER THE INPUT: true; the input reads as it did. -/
def deflatePacksSpec : ChangeSpec := { name := "deflatePacks", fn := fun _ => fun
  | [d1, d2] => { results := [.lit (.bool true)], args := [d1, d2] }
  | _ => none }
def deflatePacksRow : OpenClaim := { program := "ytiijhaajaglabaagreat", sum := "21b3c79894fd7d5c0479e89421ba5efdaaac23858c8164f89d1ab7f28cae9dab", func := "palimpsest/palimpsestlaw05.DeflatePacks", spec := "deflatePacks", unfollowed := true, recurses := true, plainKeys := false, apart := false }
def DeflatePacksSaid : Prop := deflatePacksRow.holds Tryz.pinned (OpenSpec.ofChange deflatePacksSpec)

/-- ITS FALSE NEIGHBOUR: 'it returns false'. Refute it at one input. -/
def deflatePacksWrong : ChangeSpec := { name := "deflatePacks", fn := fun _ => fun
  | [d1, d2] => { results := [.lit (.bool false)], args := [d1, d2] }
  | _ => none }
def DeflatePacksWrongFalsely : Prop := deflatePacksRow.holds Tryz.pinned (OpenSpec.ofChange deflatePacksWrong)

/-- 'palimpsestlaw05.DeflateBack': WHATEVER THE INPUT: true; the input reads as it did. -/
def deflateBackSpec : ChangeSpec := { name := "deflateBack", fn := fun _ => fun
  | [d] => { results := [.lit (.bool true)], args := [d] }
  | _ => none }
def deflateBackRow : OpenClaim := { program := "ytiijhaajaglabaagreat", sum := "21b3c79894fd7d5c0479e89421ba5efdaaac23858c8164f89d1ab7f28cae9dab", func := "palimpsest/palimpsestlaw05.DeflateBack", spec := "deflateBack", unfollowed := true, recurses := true, plainKeys := false, apart := false }
def DeflateBackSaid : Prop := deflateBackRow.holds Tryz.pinned (OpenSpec.ofChange deflateBackSpec)

/-- ITS FALSE NEIGHBOUR: 'it returns false'. Refute it at one input. -/
def deflateBackWrong : ChangeSpec := { name := "deflateBack", fn := fun _ => fun
  | [d] => { results := [.lit (.bool false)], args := [d] }
  | _ => none }
def DeflateBackWrongFalsely : Prop := deflateBackRow.holds Tryz.pinned (OpenSpec.ofChange deflateBackWrong)

/-- 'palimpsestlaw05.DeflateSmall': WHATEVER THE INPUT: true; the input reads as it did. -/
def deflateSmallSpec : ChangeSpec := { name := "deflateSmall", fn := fun _ => fun
  | [d1, d2] => { results := [.lit (.bool true)], args := [d1, d2] }
  | _ => none }
def deflateSmallRow : OpenClaim := { program := "ytiijhaajaglabaagreat", sum := "21b3c79894fd7d5c0479e89421ba5efdaaac23858c8164f89d1ab7f28cae9dab", func := "palimpsest/palimpsestlaw05.DeflateSmall", spec := "deflateSmall", unfollowed := true, recurses := true, plainKeys := false, apart := false }
def DeflateSmallSaid : Prop := deflateSmallRow.holds Tryz.pinned (OpenSpec.ofChange deflateSmallSpec)

/-- ITS FALSE NEIGHBOUR: 'it returns false'. Refute it at one input. -/
def deflateSmallWrong : ChangeSpec := { name := "deflateSmall", fn := fun _ => fun
  | [d1, d2] => { results := [.lit (.bool false)], args := [d1, d2] }
  | _ => none }
def DeflateSmallWrongFalsely : Prop := deflateSmallRow.holds Tryz.pinned (OpenSpec.ofChange deflateSmallWrong)

/-- 'palimpsestlaw05.DeflateLong': WHATEVER THE INPUT: true; the input reads as it did. -/
def deflateLongSpec : ChangeSpec := { name := "deflateLong", fn := fun _ => fun
  | [] => { results := [.lit (.bool true)], args := [] }
  | _ => none }
def deflateLongRow : OpenClaim := { program := "ytiijhaajaglabaagreat", sum := "21b3c79894fd7d5c0479e89421ba5efdaaac23858c8164f89d1ab7f28cae9dab", func := "palimpsest/palimpsestlaw05.DeflateLong", spec := "deflateLong", unfollowed := true, recurses := true, plainKeys := false, apart := false }
def DeflateLongSaid : Prop := deflateLongRow.holds Tryz.pinned (OpenSpec.ofChange deflateLongSpec)

/-- ITS FALSE NEIGHBOUR: 'it returns false'. Refute it at one input. -/
def deflateLongWrong : ChangeSpec := { name := "deflateLong", fn := fun _ => fun
  | [] => { results := [.lit (.bool false)], args := [] }
  | _ => none }
def DeflateLongWrongFalsely : Prop := deflateLongRow.holds Tryz.pinned (OpenSpec.ofChange deflateLongWrong)

/- THE SECOND FORM. 'bulk': how many values and letters a reading holds, each counted each time it is reached (what is shared counts as often as it is met; a slice's spare places count too). A statement '..UptoSaid' is the law's where the arguments, and the package variables that the reading takes, are together of bulk at most 1048576: NARROWER than '..Said'. Prove '..Said' where nothing that the law and all that it calls make is longer than what came in: it says more and counts as full. Else prove '..UptoSaid'. A law counts once. -/
mutual
def uptoBulk {H : Type} : DataW H → Nat
  | .lit (.string bytes) => bytes.length + 1
  | .lit _ => 1
  | .nil => 1
  | .ptr d => uptoBulk d + 1
  | .slice elems spare => uptoBulkAll elems + uptoBulkAll spare + 1
  | .agg parts => uptoBulkAll parts + 1
  | .iface _ d => uptoBulk d + 1
  | .map entries => uptoBulkEntries entries + 1
  | .held _ => 1
def uptoBulkAll {H : Type} : List (DataW H) → Nat
  | [] => 0
  | d :: r => uptoBulk d + uptoBulkAll r
def uptoBulkEntries {H : Type} : List (Lit × DataW H) → Nat
  | [] => 0
  | x :: r => uptoBulkEntry x + uptoBulkEntries r
def uptoBulkEntry {H : Type} : Lit × DataW H → Nat
  | (.string bytes, d) => bytes.length + uptoBulk d + 1
  | (_, d) => uptoBulk d + 1
 end
def uptoSmall : (H : Type) → List (DataW H) → Bool := fun _ ds => decide (uptoBulkAll ds ≤ 1048576)
def OpenSpec.upto (s : _root_.Go.ChangeSpec) : _root_.Go.OpenSpec := { _root_.Go.OpenSpec.ofChange s with cond := some uptoSmall }

/-- 'palimpsestlaw05.DeflatePacks', WHERE WHAT IT READS IS OF BULK AT MOST 1048576: true; the input reads as it did. -/
def deflatePacksUptoRow : OpenClaim := { program := "ytiijhaajaglabaagreat", sum := "21b3c79894fd7d5c0479e89421ba5efdaaac23858c8164f89d1ab7f28cae9dab", func := "palimpsest/palimpsestlaw05.DeflatePacks", spec := "deflatePacks", unfollowed := true, recurses := true, plainKeys := false, apart := false, narrowed := true }
def DeflatePacksUptoSaid : Prop := deflatePacksUptoRow.holds Tryz.pinned (OpenSpec.upto deflatePacksSpec)

/-- 'palimpsestlaw05.DeflateBack', WHERE WHAT IT READS IS OF BULK AT MOST 1048576: true; the input reads as it did. -/
def deflateBackUptoRow : OpenClaim := { program := "ytiijhaajaglabaagreat", sum := "21b3c79894fd7d5c0479e89421ba5efdaaac23858c8164f89d1ab7f28cae9dab", func := "palimpsest/palimpsestlaw05.DeflateBack", spec := "deflateBack", unfollowed := true, recurses := true, plainKeys := false, apart := false, narrowed := true }
def DeflateBackUptoSaid : Prop := deflateBackUptoRow.holds Tryz.pinned (OpenSpec.upto deflateBackSpec)

/-- 'palimpsestlaw05.DeflateSmall', WHERE WHAT IT READS IS OF BULK AT MOST 1048576: true; the input reads as it did. -/
def deflateSmallUptoRow : OpenClaim := { program := "ytiijhaajaglabaagreat", sum := "21b3c79894fd7d5c0479e89421ba5efdaaac23858c8164f89d1ab7f28cae9dab", func := "palimpsest/palimpsestlaw05.DeflateSmall", spec := "deflateSmall", unfollowed := true, recurses := true, plainKeys := false, apart := false, narrowed := true }
def DeflateSmallUptoSaid : Prop := deflateSmallUptoRow.holds Tryz.pinned (OpenSpec.upto deflateSmallSpec)

/-- 'palimpsestlaw05.DeflateLong', WHERE WHAT IT READS IS OF BULK AT MOST 1048576: true; the input reads as it did. -/
def deflateLongUptoRow : OpenClaim := { program := "ytiijhaajaglabaagreat", sum := "21b3c79894fd7d5c0479e89421ba5efdaaac23858c8164f89d1ab7f28cae9dab", func := "palimpsest/palimpsestlaw05.DeflateLong", spec := "deflateLong", unfollowed := true, recurses := true, plainKeys := false, apart := false, narrowed := true }
def DeflateLongUptoSaid : Prop := deflateLongUptoRow.holds Tryz.pinned (OpenSpec.upto deflateLongSpec)

end Rows
end Go.Proofs.YtiijhaajaglabaaGreat
