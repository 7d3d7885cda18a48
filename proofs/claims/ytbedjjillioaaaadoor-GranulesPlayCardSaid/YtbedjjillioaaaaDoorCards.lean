/-
  DERIVED. GIVEN WITH THE SEED: THE CARDS: each row of YtbedjjillioaaaaDoorRows.lean that lists a variable, with what it lists TIED to the program's text (the seventh form; the later family's looks); each row that meets fmt, with fmt's text TOLD by the authors' own Lean function (tested against real Go, not proved from fmt's source: count such statements apart). THE CARD IS WHAT COUNTS. Prove the row's statement (the work); the ties are given (YtbedjjillioaaaaDoorTie.lean); close each card by the builder's one call (the guide's Derived/Test/ToyasCard.lean, 'card_holds'). Laid BY PROGRAM, IN A SANDBOX (cutbox-door.mjs). By AI agents, Wed Nov 11 2026. No macro, syntax, notation, axiom, sorry.
-/
import Derived.Test.YtbedjjillioaaaaDoorRows
import GoSem.ClaimSeven
namespace Go.Proofs.YtbedjjillioaaaaDoor
namespace Rows

/-- THE TIED CARD OF 'palimpsestlaw19.GranulesNext'. -/
def granulesNextCard : Claim7 := { stood := { row := granulesNextRow, standIns := [], harness := (true, "4bc33c3775f8abc132950a847bc1daa30a353f247cece732f80f24c265e7f5ca"), looks := false }, kinds := [], alts := [], laidByText := true, laidKinds := [.data], laidTests := true, laidLooks := .later }
def GranulesNextCardSaid : Prop := Claim7.holds Tryd.pinned (.plain (OpenSpec.ofChange granulesNextSpec)) granulesNextCard

/-- THE TIED CARD OF 'palimpsestlaw19.GranulesSize'. -/
def granulesSizeCard : Claim7 := { stood := { row := granulesSizeRow, standIns := [], harness := (true, "4bc33c3775f8abc132950a847bc1daa30a353f247cece732f80f24c265e7f5ca"), looks := false }, kinds := [], alts := [], laidByText := true, laidKinds := [.data], laidTests := true, laidLooks := .later }
def GranulesSizeCardSaid : Prop := Claim7.holds Tryd.pinned (.plain (OpenSpec.ofChange granulesSizeSpec)) granulesSizeCard

/-- THE TIED CARD OF 'palimpsestlaw19.GranulesOpen'. -/
def granulesOpenCard : Claim7 := { stood := { row := granulesOpenRow, standIns := [], harness := (true, "4bc33c3775f8abc132950a847bc1daa30a353f247cece732f80f24c265e7f5ca"), looks := false }, kinds := [], alts := [], laidByText := true, laidKinds := [.data], laidTests := true, laidLooks := .later }
def GranulesOpenCardSaid : Prop := Claim7.holds Tryd.pinned (.plain (OpenSpec.ofChange granulesOpenSpec)) granulesOpenCard

/-- THE TIED CARD OF 'palimpsestlaw19.GranulesHold'. -/
def granulesHoldCard : Claim7 := { stood := { row := granulesHoldRow, standIns := [], harness := (true, "4bc33c3775f8abc132950a847bc1daa30a353f247cece732f80f24c265e7f5ca"), looks := false }, kinds := [], alts := [], laidByText := true, laidKinds := [.data], laidTests := true, laidLooks := .later }
def GranulesHoldCardSaid : Prop := Claim7.holds Tryd.pinned (.plain (OpenSpec.ofChange granulesHoldSpec)) granulesHoldCard

/-- THE TIED CARD OF 'palimpsestlaw19.GranulesPlay'. -/
def granulesPlayCard : Claim7 := { stood := { row := granulesPlayRow, standIns := [], harness := (true, "4bc33c3775f8abc132950a847bc1daa30a353f247cece732f80f24c265e7f5ca"), looks := false }, kinds := [], alts := [], laidByText := true, laidKinds := [.data], laidTests := true, laidLooks := .later }
def GranulesPlayCardSaid : Prop := Claim7.holds Tryd.pinned (.plain (OpenSpec.ofChange granulesPlaySpec)) granulesPlayCard

/-- THE SECOND FORM's CARD OF 'palimpsestlaw19.GranulesNext'. -/
def granulesNextUptoCard : Claim7 := { stood := { row := granulesNextUptoRow, standIns := [], harness := (true, "4bc33c3775f8abc132950a847bc1daa30a353f247cece732f80f24c265e7f5ca"), looks := false }, kinds := [], alts := [], laidByText := true, laidKinds := [.data], laidTests := true, laidLooks := .later }
def GranulesNextUptoCardSaid : Prop := Claim7.holds Tryd.pinned (.plain (OpenSpec.upto granulesNextSpec)) granulesNextUptoCard

/-- THE SECOND FORM's CARD OF 'palimpsestlaw19.GranulesSize'. -/
def granulesSizeUptoCard : Claim7 := { stood := { row := granulesSizeUptoRow, standIns := [], harness := (true, "4bc33c3775f8abc132950a847bc1daa30a353f247cece732f80f24c265e7f5ca"), looks := false }, kinds := [], alts := [], laidByText := true, laidKinds := [.data], laidTests := true, laidLooks := .later }
def GranulesSizeUptoCardSaid : Prop := Claim7.holds Tryd.pinned (.plain (OpenSpec.upto granulesSizeSpec)) granulesSizeUptoCard

/-- THE SECOND FORM's CARD OF 'palimpsestlaw19.GranulesOpen'. -/
def granulesOpenUptoCard : Claim7 := { stood := { row := granulesOpenUptoRow, standIns := [], harness := (true, "4bc33c3775f8abc132950a847bc1daa30a353f247cece732f80f24c265e7f5ca"), looks := false }, kinds := [], alts := [], laidByText := true, laidKinds := [.data], laidTests := true, laidLooks := .later }
def GranulesOpenUptoCardSaid : Prop := Claim7.holds Tryd.pinned (.plain (OpenSpec.upto granulesOpenSpec)) granulesOpenUptoCard

/-- THE SECOND FORM's CARD OF 'palimpsestlaw19.GranulesHold'. -/
def granulesHoldUptoCard : Claim7 := { stood := { row := granulesHoldUptoRow, standIns := [], harness := (true, "4bc33c3775f8abc132950a847bc1daa30a353f247cece732f80f24c265e7f5ca"), looks := false }, kinds := [], alts := [], laidByText := true, laidKinds := [.data], laidTests := true, laidLooks := .later }
def GranulesHoldUptoCardSaid : Prop := Claim7.holds Tryd.pinned (.plain (OpenSpec.upto granulesHoldSpec)) granulesHoldUptoCard

/-- THE SECOND FORM's CARD OF 'palimpsestlaw19.GranulesPlay'. -/
def granulesPlayUptoCard : Claim7 := { stood := { row := granulesPlayUptoRow, standIns := [], harness := (true, "4bc33c3775f8abc132950a847bc1daa30a353f247cece732f80f24c265e7f5ca"), looks := false }, kinds := [], alts := [], laidByText := true, laidKinds := [.data], laidTests := true, laidLooks := .later }
def GranulesPlayUptoCardSaid : Prop := Claim7.holds Tryd.pinned (.plain (OpenSpec.upto granulesPlaySpec)) granulesPlayUptoCard
end Rows
end Go.Proofs.YtbedjjillioaaaaDoor
