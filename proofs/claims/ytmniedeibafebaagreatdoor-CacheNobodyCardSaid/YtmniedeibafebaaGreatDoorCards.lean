/-
  DERIVED. GIVEN WITH THE SEED: THE CARDS: each row of YtmniedeibafebaaGreatDoorRows.lean that lists a variable, with what it lists TIED to the program's text (the seventh form; the later family's looks); each row that meets fmt, with fmt's text TOLD by the authors' own Lean function (tested against real Go, not proved from fmt's source: count such statements apart). THE CARD IS WHAT COUNTS. Prove the row's statement (the work); the ties are given (YtmniedeibafebaaGreatDoorTie.lean); close each card by the builder's one call (the guide's Derived/Test/ToyasCard.lean, 'card_holds'). Laid BY PROGRAM, IN A SANDBOX (cutbox-door.mjs). By AI agents, Wed Nov 11 2026. No macro, syntax, notation, axiom, sorry.
-/
import Derived.Test.YtmniedeibafebaaGreatDoorRows
import GoSem.ClaimSeven
namespace Go.Proofs.YtmniedeibafebaaGreatDoor
namespace Rows

/-- THE TIED CARD OF 'gatepostlaw21.CacheNobody'. -/
def cacheNobodyCard : Claim7 := { stood := { row := cacheNobodyRow, standIns := [], harness := (true, "07fdd7e9a6cb57cc4e30049d904d19b1d947f861efa9bd16d65e3cdb6c5477f3"), looks := false }, kinds := [], alts := [], laidByText := true, laidKinds := [.data, .data, .data], laidTests := true, laidLooks := .later }
def CacheNobodyCardSaid : Prop := Claim7.holds Tryz.pinned (.plain (OpenSpec.ofChange cacheNobodySpec)) cacheNobodyCard

/-- THE TIED CARD OF 'gatepostlaw24.OriginNobody'. -/
def originNobodyCard : Claim7 := { stood := { row := originNobodyRow, standIns := [], harness := (true, "07fdd7e9a6cb57cc4e30049d904d19b1d947f861efa9bd16d65e3cdb6c5477f3"), looks := false }, kinds := [], alts := [], laidByText := true, laidKinds := [.data, .data, .data, .data, .pinned], laidTests := true, laidLooks := .later }
def OriginNobodyCardSaid : Prop := Claim7.holds Tryz.pinned (.plain (OpenSpec.ofChange originNobodySpec)) originNobodyCard

/-- THE SECOND FORM's CARD OF 'gatepostlaw21.CacheNobody'. -/
def cacheNobodyUptoCard : Claim7 := { stood := { row := cacheNobodyUptoRow, standIns := [], harness := (true, "07fdd7e9a6cb57cc4e30049d904d19b1d947f861efa9bd16d65e3cdb6c5477f3"), looks := false }, kinds := [], alts := [], laidByText := true, laidKinds := [.data, .data, .data], laidTests := true, laidLooks := .later }
def CacheNobodyUptoCardSaid : Prop := Claim7.holds Tryz.pinned (.plain (OpenSpec.upto cacheNobodySpec)) cacheNobodyUptoCard

/-- THE SECOND FORM's CARD OF 'gatepostlaw24.OriginNobody'. -/
def originNobodyUptoCard : Claim7 := { stood := { row := originNobodyUptoRow, standIns := [], harness := (true, "07fdd7e9a6cb57cc4e30049d904d19b1d947f861efa9bd16d65e3cdb6c5477f3"), looks := false }, kinds := [], alts := [], laidByText := true, laidKinds := [.data, .data, .data, .data, .pinned], laidTests := true, laidLooks := .later }
def OriginNobodyUptoCardSaid : Prop := Claim7.holds Tryz.pinned (.plain (OpenSpec.upto originNobodySpec)) originNobodyUptoCard
end Rows
end Go.Proofs.YtmniedeibafebaaGreatDoor
