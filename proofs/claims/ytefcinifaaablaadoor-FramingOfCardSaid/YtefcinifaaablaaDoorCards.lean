/-
  DERIVED. GIVEN WITH THE SEED: THE CARDS: each row of YtefcinifaaablaaDoorRows.lean that lists a variable, with what it lists TIED to the program's text (the seventh form; the later family's looks); each row that meets fmt, with fmt's text TOLD by the authors' own Lean function (tested against real Go, not proved from fmt's source: count such statements apart). THE CARD IS WHAT COUNTS. Prove the row's statement (the work); the ties are given (YtefcinifaaablaaDoorTie.lean); close each card by the builder's one call (the guide's Derived/Test/ToyasCard.lean, 'card_holds'). Laid BY PROGRAM, IN A SANDBOX (cutbox-door.mjs). By AI agents, Wed Nov 11 2026. No macro, syntax, notation, axiom, sorry.
-/
import Derived.Test.YtefcinifaaablaaDoorRows
import GoSem.ClaimSeven
namespace Go.Proofs.YtefcinifaaablaaDoor
namespace Rows

/-- THE TIED CARD OF 'gatepostlaw06.FramingChunks'. -/
def framingChunksCard : Claim7 := { stood := { row := framingChunksRow, standIns := [], harness := (true, "d51983223a3c3ef5f45946a58e9804a8989f8ff4ec2f3a73eb9d2b03b044cba1"), looks := false }, kinds := [], alts := [], laidByText := true, laidKinds := [.data, .data, .data], laidTests := true, laidLooks := .later }
def FramingChunksCardSaid : Prop := Claim7.holds Tryd.pinned (.plain (OpenSpec.ofChange framingChunksSpec)) framingChunksCard

/-- THE TIED CARD OF 'gatepostlaw06.FramingSame'. -/
def framingSameCard : Claim7 := { stood := { row := framingSameRow, standIns := [], harness := (true, "d51983223a3c3ef5f45946a58e9804a8989f8ff4ec2f3a73eb9d2b03b044cba1"), looks := false }, kinds := [], alts := [], laidByText := true, laidKinds := [.data, .pinned], laidTests := true, laidLooks := .later }
def FramingSameCardSaid : Prop := Claim7.holds Tryd.pinned (.plain (OpenSpec.ofChange framingSameSpec)) framingSameCard

/-- THE TIED CARD OF 'gatepostlaw06.FramingOf'. -/
def framingOfCard : Claim7 := { stood := { row := framingOfRow, standIns := [], harness := (true, "d51983223a3c3ef5f45946a58e9804a8989f8ff4ec2f3a73eb9d2b03b044cba1"), looks := false }, kinds := [], alts := [], laidByText := true, laidKinds := [.data, .pinned], laidTests := true, laidLooks := .later }
def FramingOfCardSaid : Prop := Claim7.holds Tryd.pinned (.plain (OpenSpec.ofChange framingOfSpec)) framingOfCard

/-- THE SECOND FORM's CARD OF 'gatepostlaw06.FramingChunks'. -/
def framingChunksUptoCard : Claim7 := { stood := { row := framingChunksUptoRow, standIns := [], harness := (true, "d51983223a3c3ef5f45946a58e9804a8989f8ff4ec2f3a73eb9d2b03b044cba1"), looks := false }, kinds := [], alts := [], laidByText := true, laidKinds := [.data, .data, .data], laidTests := true, laidLooks := .later }
def FramingChunksUptoCardSaid : Prop := Claim7.holds Tryd.pinned (.plain (OpenSpec.upto framingChunksSpec)) framingChunksUptoCard

/-- THE SECOND FORM's CARD OF 'gatepostlaw06.FramingSame'. -/
def framingSameUptoCard : Claim7 := { stood := { row := framingSameUptoRow, standIns := [], harness := (true, "d51983223a3c3ef5f45946a58e9804a8989f8ff4ec2f3a73eb9d2b03b044cba1"), looks := false }, kinds := [], alts := [], laidByText := true, laidKinds := [.data, .pinned], laidTests := true, laidLooks := .later }
def FramingSameUptoCardSaid : Prop := Claim7.holds Tryd.pinned (.plain (OpenSpec.upto framingSameSpec)) framingSameUptoCard

/-- THE SECOND FORM's CARD OF 'gatepostlaw06.FramingOf'. -/
def framingOfUptoCard : Claim7 := { stood := { row := framingOfUptoRow, standIns := [], harness := (true, "d51983223a3c3ef5f45946a58e9804a8989f8ff4ec2f3a73eb9d2b03b044cba1"), looks := false }, kinds := [], alts := [], laidByText := true, laidKinds := [.data, .pinned], laidTests := true, laidLooks := .later }
def FramingOfUptoCardSaid : Prop := Claim7.holds Tryd.pinned (.plain (OpenSpec.upto framingOfSpec)) framingOfUptoCard
end Rows
end Go.Proofs.YtefcinifaaablaaDoor
