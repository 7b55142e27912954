/-
  DERIVED. GIVEN WITH THE SEED: THE CARDS: each row of YtocabpimljfpkaaDoorRows.lean that lists a variable, with what it lists TIED to the program's text (the seventh form; the later family's looks); each row that meets fmt, with fmt's text TOLD by the authors' own Lean function (tested against real Go, not proved from fmt's source: count such statements apart). THE CARD IS WHAT COUNTS. Prove the row's statement (the work); the ties are given (YtocabpimljfpkaaDoorTie.lean); close each card by the builder's one call (the guide's Derived/Test/ToyasCard.lean, 'card_holds'). Laid BY PROGRAM, IN A SANDBOX (cutbox-door.mjs). By AI agents, Wed Nov 11 2026. No macro, syntax, notation, axiom, sorry.
-/
import Derived.Test.YtocabpimljfpkaaDoorRows
import GoSem.ClaimSeven
namespace Go.Proofs.YtocabpimljfpkaaDoor
namespace Rows

/-- THE TIED CARD OF 'gatepostlaw06.FramingChunks'. -/
def framingChunksCard : Claim7 := { stood := { row := framingChunksRow, standIns := [], harness := (true, "f94eba54d51a5d37e0c2ee7708e0a0d2473d1be1a01f4026badf39a8fe8341ec"), looks := true }, kinds := [], alts := [], laidByText := true, laidKinds := [.data, .data, .data], laidTests := true, laidLooks := .later }
def FramingChunksCardSaid : Prop := Claim7.holds Tryd.pinned (.plain (OpenSpec.ofChange framingChunksSpec)) framingChunksCard

/-- THE TIED CARD OF 'gatepostlaw06.FramingSame'. -/
def framingSameCard : Claim7 := { stood := { row := framingSameRow, standIns := [], harness := (true, "f94eba54d51a5d37e0c2ee7708e0a0d2473d1be1a01f4026badf39a8fe8341ec"), looks := true }, kinds := [], alts := [], laidByText := true, laidKinds := [.data, .pinned], laidTests := true, laidLooks := .later }
def FramingSameCardSaid : Prop := Claim7.holds Tryd.pinned (.plain (OpenSpec.ofChange framingSameSpec)) framingSameCard

/-- THE TIED CARD OF 'gatepostlaw06.FramingNobody'. -/
def framingNobodyCard : Claim7 := { stood := { row := framingNobodyRow, standIns := [], harness := (true, "f94eba54d51a5d37e0c2ee7708e0a0d2473d1be1a01f4026badf39a8fe8341ec"), looks := true }, kinds := [], alts := [], laidByText := true, laidKinds := [.data, .data, .data, .data, .sentinel, .sentinel, .pinned], laidTests := true, laidLooks := .later }
def FramingNobodyCardSaid : Prop := Claim7.holds Tryd.pinned (.plain (OpenSpec.ofChange framingNobodySpec)) framingNobodyCard

/-- THE SECOND FORM's CARD OF 'gatepostlaw06.FramingChunks'. -/
def framingChunksUptoCard : Claim7 := { stood := { row := framingChunksUptoRow, standIns := [], harness := (true, "f94eba54d51a5d37e0c2ee7708e0a0d2473d1be1a01f4026badf39a8fe8341ec"), looks := true }, kinds := [], alts := [], laidByText := true, laidKinds := [.data, .data, .data], laidTests := true, laidLooks := .later }
def FramingChunksUptoCardSaid : Prop := Claim7.holds Tryd.pinned (.plain (OpenSpec.upto framingChunksSpec)) framingChunksUptoCard

/-- THE SECOND FORM's CARD OF 'gatepostlaw06.FramingSame'. -/
def framingSameUptoCard : Claim7 := { stood := { row := framingSameUptoRow, standIns := [], harness := (true, "f94eba54d51a5d37e0c2ee7708e0a0d2473d1be1a01f4026badf39a8fe8341ec"), looks := true }, kinds := [], alts := [], laidByText := true, laidKinds := [.data, .pinned], laidTests := true, laidLooks := .later }
def FramingSameUptoCardSaid : Prop := Claim7.holds Tryd.pinned (.plain (OpenSpec.upto framingSameSpec)) framingSameUptoCard

/-- THE SECOND FORM's CARD OF 'gatepostlaw06.FramingNobody'. -/
def framingNobodyUptoCard : Claim7 := { stood := { row := framingNobodyUptoRow, standIns := [], harness := (true, "f94eba54d51a5d37e0c2ee7708e0a0d2473d1be1a01f4026badf39a8fe8341ec"), looks := true }, kinds := [], alts := [], laidByText := true, laidKinds := [.data, .data, .data, .data, .sentinel, .sentinel, .pinned], laidTests := true, laidLooks := .later }
def FramingNobodyUptoCardSaid : Prop := Claim7.holds Tryd.pinned (.plain (OpenSpec.upto framingNobodySpec)) framingNobodyUptoCard
end Rows
end Go.Proofs.YtocabpimljfpkaaDoor
