/-
  DERIVED. GIVEN WITH THE SEED: THE CARDS: each row of YtibhnkkfaochhaaDoorRows.lean that lists a variable, with what it lists TIED to the program's text (the seventh form; the later family's looks); each row that meets fmt, with fmt's text TOLD by the authors' own Lean function (tested against real Go, not proved from fmt's source: count such statements apart). THE CARD IS WHAT COUNTS. Prove the row's statement (the work); the ties are given (YtibhnkkfaochhaaDoorTie.lean); close each card by the builder's one call (the guide's Derived/Test/ToyasCard.lean, 'card_holds'). Laid BY PROGRAM, IN A SANDBOX (cutbox-door.mjs). By AI agents, Wed Nov 11 2026. No macro, syntax, notation, axiom, sorry.
-/
import Derived.Test.YtibhnkkfaochhaaDoorRows
import GoSem.ClaimSeven
namespace Go.Proofs.YtibhnkkfaochhaaDoor
namespace Rows

/-- THE TIED CARD OF 'gatepostlaw06.FramingCuts'. -/
def framingCutsCard : Claim7 := { stood := { row := framingCutsRow, standIns := [], harness := (true, "0cdf43f9359f30bbe40c0fd9f98c5cd9b2ca4b986e69793bf548b5f7601741f1"), looks := true }, kinds := [], alts := [], laidByText := true, laidKinds := [.data, .data, .data, .data, .sentinel, .sentinel, .pinned], laidTests := true, laidLooks := .later }
def FramingCutsCardSaid : Prop := Claim7.holds Tryd.pinned (.plain (OpenSpec.ofChange framingCutsSpec)) framingCutsCard

/-- THE TIED CARD OF 'gatepostlaw06.FramingReads'. -/
def framingReadsCard : Claim7 := { stood := { row := framingReadsRow, standIns := [], harness := (true, "0cdf43f9359f30bbe40c0fd9f98c5cd9b2ca4b986e69793bf548b5f7601741f1"), looks := true }, kinds := [], alts := [], laidByText := true, laidKinds := [.data, .data, .data, .data, .sentinel, .sentinel, .pinned], laidTests := true, laidLooks := .later }
def FramingReadsCardSaid : Prop := Claim7.holds Tryd.pinned (.plain (OpenSpec.ofChange framingReadsSpec)) framingReadsCard

/-- THE TIED CARD OF 'gatepostlaw06.FramingBack'. -/
def framingBackCard : Claim7 := { stood := { row := framingBackRow, standIns := [], harness := (true, "0cdf43f9359f30bbe40c0fd9f98c5cd9b2ca4b986e69793bf548b5f7601741f1"), looks := true }, kinds := [], alts := [], laidByText := true, laidKinds := [.data, .data, .data, .data, .sentinel, .sentinel, .pinned], laidTests := true, laidLooks := .later }
def FramingBackCardSaid : Prop := Claim7.holds Tryd.pinned (.plain (OpenSpec.ofChange framingBackSpec)) framingBackCard

/-- THE SECOND FORM's CARD OF 'gatepostlaw06.FramingCuts'. -/
def framingCutsUptoCard : Claim7 := { stood := { row := framingCutsUptoRow, standIns := [], harness := (true, "0cdf43f9359f30bbe40c0fd9f98c5cd9b2ca4b986e69793bf548b5f7601741f1"), looks := true }, kinds := [], alts := [], laidByText := true, laidKinds := [.data, .data, .data, .data, .sentinel, .sentinel, .pinned], laidTests := true, laidLooks := .later }
def FramingCutsUptoCardSaid : Prop := Claim7.holds Tryd.pinned (.plain (OpenSpec.upto framingCutsSpec)) framingCutsUptoCard

/-- THE SECOND FORM's CARD OF 'gatepostlaw06.FramingReads'. -/
def framingReadsUptoCard : Claim7 := { stood := { row := framingReadsUptoRow, standIns := [], harness := (true, "0cdf43f9359f30bbe40c0fd9f98c5cd9b2ca4b986e69793bf548b5f7601741f1"), looks := true }, kinds := [], alts := [], laidByText := true, laidKinds := [.data, .data, .data, .data, .sentinel, .sentinel, .pinned], laidTests := true, laidLooks := .later }
def FramingReadsUptoCardSaid : Prop := Claim7.holds Tryd.pinned (.plain (OpenSpec.upto framingReadsSpec)) framingReadsUptoCard

/-- THE SECOND FORM's CARD OF 'gatepostlaw06.FramingBack'. -/
def framingBackUptoCard : Claim7 := { stood := { row := framingBackUptoRow, standIns := [], harness := (true, "0cdf43f9359f30bbe40c0fd9f98c5cd9b2ca4b986e69793bf548b5f7601741f1"), looks := true }, kinds := [], alts := [], laidByText := true, laidKinds := [.data, .data, .data, .data, .sentinel, .sentinel, .pinned], laidTests := true, laidLooks := .later }
def FramingBackUptoCardSaid : Prop := Claim7.holds Tryd.pinned (.plain (OpenSpec.upto framingBackSpec)) framingBackUptoCard
end Rows
end Go.Proofs.YtibhnkkfaochhaaDoor
