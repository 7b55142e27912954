/-
  No cell of these rows narrows 'for every input' (looked for: loops, veiled, ifaces, maps, wideKeys, modest, calm, conditions, laid).
  DERIVED. THE GIVEN ROWS OF THIS SEAT. 11 by the template 'for every input the law returns true; each argument reads behind the call as it read before'; 0 by the template 'total and deterministic' (their statements: YtbmcfmcolhgibaaTotals.lean).
  GIVEN WITH THE SEED: the statements are not yours to turn. If you find one false, say at which input.
  Laid BY PROGRAM, IN A SANDBOX (cutbox-rows.mjs): the forced cells as the released guide's own fill.sh prints them over the translation e7432536bc5e8f53… (all of the seat's roots in one cut). By AI agents, Wed Nov 11 2026. No macro, syntax, notation, axiom, sorry.
-/
import Derived.Test.YtbmcfmcolhgibaaChecked
import GoSem.Claim
import GoSem.ClaimJoined
import GoSem.ClaimMapViews
import Derived.JoinedTies
import Derived.KernelRfl
namespace Go.Proofs.Ytbmcfmcolhgibaa
/- THE CELL 'sum', in the pinned program and in every row, IS THE sha256 OF THE DUMP (.gsa) THAT YtbmcfmcolhgibaaProg.lean LOADS. Nothing in Lean hashes anything: it is a label: what it is worth is what the hold of that sum in a sandbox is worth. -/
noncomputable def Try.pinned : Pinned := { name := "ytbmcfmcolhgibaa", sum := "e7432536bc5e8f530b89bc7cc1e50540c2a471b31c2ab7c79bba0b9a54c0bf2b", checked := Try.checked }
namespace Rows
def none {H : Type} : Left H := { results := [], args := [] }

/-- 'gatepostlaw17.StripeHashes': WHATEVER THE INPUT: true; the input reads as it did. -/
def stripeHashesSpec : ChangeSpec := { name := "stripeHashes", fn := fun _ => fun
  | [d] => { results := [.lit (.bool true)], args := [d] }
  | _ => none }
def stripeHashesRow : OpenClaim := { program := "ytbmcfmcolhgibaa", sum := "e7432536bc5e8f530b89bc7cc1e50540c2a471b31c2ab7c79bba0b9a54c0bf2b", func := "gatepost/gatepostlaw17.StripeHashes", spec := "stripeHashes", apart := false }
def StripeHashesSaid : Prop := stripeHashesRow.holds Try.pinned (OpenSpec.ofChange stripeHashesSpec)

/-- ITS FALSE NEIGHBOUR: 'it returns false'. Refute it at one input. -/
def stripeHashesWrong : ChangeSpec := { name := "stripeHashes", fn := fun _ => fun
  | [d] => { results := [.lit (.bool false)], args := [d] }
  | _ => none }
def StripeHashesWrongFalsely : Prop := stripeHashesRow.holds Try.pinned (OpenSpec.ofChange stripeHashesWrong)

/-- 'gatepostlaw15.SlabFills': WHATEVER THE INPUT: true; the input reads as it did. -/
def slabFillsSpec : ChangeSpec := { name := "slabFills", fn := fun _ => fun
  | [d1, d2, d3] => { results := [.lit (.bool true)], args := [d1, d2, d3] }
  | _ => none }
def slabFillsRow : OpenClaim := { program := "ytbmcfmcolhgibaa", sum := "e7432536bc5e8f530b89bc7cc1e50540c2a471b31c2ab7c79bba0b9a54c0bf2b", func := "gatepost/gatepostlaw15.SlabFills", spec := "slabFills", unfollowed := true, recurses := true, apart := false }
def SlabFillsSaid : Prop := slabFillsRow.holds Try.pinned (OpenSpec.ofChange slabFillsSpec)

/-- ITS FALSE NEIGHBOUR: 'it returns false'. Refute it at one input. -/
def slabFillsWrong : ChangeSpec := { name := "slabFills", fn := fun _ => fun
  | [d1, d2, d3] => { results := [.lit (.bool false)], args := [d1, d2, d3] }
  | _ => none }
def SlabFillsWrongFalsely : Prop := slabFillsRow.holds Try.pinned (OpenSpec.ofChange slabFillsWrong)

/-- 'gatepostlaw15.SlabGens': WHATEVER THE INPUT: true; the input reads as it did. -/
def slabGensSpec : ChangeSpec := { name := "slabGens", fn := fun _ => fun
  | [d1, d2] => { results := [.lit (.bool true)], args := [d1, d2] }
  | _ => none }
def slabGensRow : OpenClaim := { program := "ytbmcfmcolhgibaa", sum := "e7432536bc5e8f530b89bc7cc1e50540c2a471b31c2ab7c79bba0b9a54c0bf2b", func := "gatepost/gatepostlaw15.SlabGens", spec := "slabGens", unfollowed := true, recurses := true, apart := false }
def SlabGensSaid : Prop := slabGensRow.holds Try.pinned (OpenSpec.ofChange slabGensSpec)

/-- ITS FALSE NEIGHBOUR: 'it returns false'. Refute it at one input. -/
def slabGensWrong : ChangeSpec := { name := "slabGens", fn := fun _ => fun
  | [d1, d2] => { results := [.lit (.bool false)], args := [d1, d2] }
  | _ => none }
def SlabGensWrongFalsely : Prop := slabGensRow.holds Try.pinned (OpenSpec.ofChange slabGensWrong)

/-- 'gatepostlaw15.SlabNobody': WHATEVER THE INPUT: true; the input reads as it did. -/
def slabNobodySpec : ChangeSpec := { name := "slabNobody", fn := fun _ => fun
  | [d] => { results := [.lit (.bool true)], args := [d] }
  | _ => none }
def slabNobodyRow : OpenClaim := { program := "ytbmcfmcolhgibaa", sum := "e7432536bc5e8f530b89bc7cc1e50540c2a471b31c2ab7c79bba0b9a54c0bf2b", func := "gatepost/gatepostlaw15.SlabNobody", spec := "slabNobody", unfollowed := true, recurses := true, apart := false }
def SlabNobodySaid : Prop := slabNobodyRow.holds Try.pinned (OpenSpec.ofChange slabNobodySpec)

/-- ITS FALSE NEIGHBOUR: 'it returns false'. Refute it at one input. -/
def slabNobodyWrong : ChangeSpec := { name := "slabNobody", fn := fun _ => fun
  | [d] => { results := [.lit (.bool false)], args := [d] }
  | _ => none }
def SlabNobodyWrongFalsely : Prop := slabNobodyRow.holds Try.pinned (OpenSpec.ofChange slabNobodyWrong)

/-- 'gatepostlaw19.ClockproTests': WHATEVER THE INPUT: true; the input reads as it did. -/
def clockproTestsSpec : ChangeSpec := { name := "clockproTests", fn := fun _ => fun
  | [d1, d2] => { results := [.lit (.bool true)], args := [d1, d2] }
  | _ => none }
def clockproTestsRow : OpenClaim := { program := "ytbmcfmcolhgibaa", sum := "e7432536bc5e8f530b89bc7cc1e50540c2a471b31c2ab7c79bba0b9a54c0bf2b", func := "gatepost/gatepostlaw19.ClockproTests", spec := "clockproTests", unfollowed := true, recurses := true, apart := false }
def ClockproTestsSaid : Prop := clockproTestsRow.holds Try.pinned (OpenSpec.ofChange clockproTestsSpec)

/-- ITS FALSE NEIGHBOUR: 'it returns false'. Refute it at one input. -/
def clockproTestsWrong : ChangeSpec := { name := "clockproTests", fn := fun _ => fun
  | [d1, d2] => { results := [.lit (.bool false)], args := [d1, d2] }
  | _ => none }
def ClockproTestsWrongFalsely : Prop := clockproTestsRow.holds Try.pinned (OpenSpec.ofChange clockproTestsWrong)

/-- 'gatepostlaw15.SlabBack': WHATEVER THE INPUT: true; the input reads as it did. -/
def slabBackSpec : ChangeSpec := { name := "slabBack", fn := fun _ => fun
  | [d1, d2, d3] => { results := [.lit (.bool true)], args := [d1, d2, d3] }
  | _ => none }
def slabBackRow : OpenClaim := { program := "ytbmcfmcolhgibaa", sum := "e7432536bc5e8f530b89bc7cc1e50540c2a471b31c2ab7c79bba0b9a54c0bf2b", func := "gatepost/gatepostlaw15.SlabBack", spec := "slabBack", unfollowed := true, recurses := true, apart := false }
def SlabBackSaid : Prop := slabBackRow.holds Try.pinned (OpenSpec.ofChange slabBackSpec)

/-- ITS FALSE NEIGHBOUR: 'it returns false'. Refute it at one input. -/
def slabBackWrong : ChangeSpec := { name := "slabBack", fn := fun _ => fun
  | [d1, d2, d3] => { results := [.lit (.bool false)], args := [d1, d2, d3] }
  | _ => none }
def SlabBackWrongFalsely : Prop := slabBackRow.holds Try.pinned (OpenSpec.ofChange slabBackWrong)

/-- 'gatepostlaw19.ClockproScans': WHATEVER THE INPUT: true; the input reads as it did. -/
def clockproScansSpec : ChangeSpec := { name := "clockproScans", fn := fun _ => fun
  | [d1, d2, d3] => { results := [.lit (.bool true)], args := [d1, d2, d3] }
  | _ => none }
def clockproScansRow : OpenClaim := { program := "ytbmcfmcolhgibaa", sum := "e7432536bc5e8f530b89bc7cc1e50540c2a471b31c2ab7c79bba0b9a54c0bf2b", func := "gatepost/gatepostlaw19.ClockproScans", spec := "clockproScans", unfollowed := true, recurses := true, apart := false }
def ClockproScansSaid : Prop := clockproScansRow.holds Try.pinned (OpenSpec.ofChange clockproScansSpec)

/-- ITS FALSE NEIGHBOUR: 'it returns false'. Refute it at one input. -/
def clockproScansWrong : ChangeSpec := { name := "clockproScans", fn := fun _ => fun
  | [d1, d2, d3] => { results := [.lit (.bool false)], args := [d1, d2, d3] }
  | _ => none }
def ClockproScansWrongFalsely : Prop := clockproScansRow.holds Try.pinned (OpenSpec.ofChange clockproScansWrong)

/-- 'gatepostlaw15.SlabPlays': WHATEVER THE INPUT: true; the input reads as it did. -/
def slabPlaysSpec : ChangeSpec := { name := "slabPlays", fn := fun _ => fun
  | [d1, d2] => { results := [.lit (.bool true)], args := [d1, d2] }
  | _ => none }
def slabPlaysRow : OpenClaim := { program := "ytbmcfmcolhgibaa", sum := "e7432536bc5e8f530b89bc7cc1e50540c2a471b31c2ab7c79bba0b9a54c0bf2b", func := "gatepost/gatepostlaw15.SlabPlays", spec := "slabPlays", unfollowed := true, recurses := true, apart := false }
def SlabPlaysSaid : Prop := slabPlaysRow.holds Try.pinned (OpenSpec.ofChange slabPlaysSpec)

/-- ITS FALSE NEIGHBOUR: 'it returns false'. Refute it at one input. -/
def slabPlaysWrong : ChangeSpec := { name := "slabPlays", fn := fun _ => fun
  | [d1, d2] => { results := [.lit (.bool false)], args := [d1, d2] }
  | _ => none }
def SlabPlaysWrongFalsely : Prop := slabPlaysRow.holds Try.pinned (OpenSpec.ofChange slabPlaysWrong)

/-- 'gatepostlaw19.ClockproNobody': WHATEVER THE INPUT: true; the input reads as it did. -/
def clockproNobodySpec : ChangeSpec := { name := "clockproNobody", fn := fun _ => fun
  | [d] => { results := [.lit (.bool true)], args := [d] }
  | _ => none }
def clockproNobodyRow : OpenClaim := { program := "ytbmcfmcolhgibaa", sum := "e7432536bc5e8f530b89bc7cc1e50540c2a471b31c2ab7c79bba0b9a54c0bf2b", func := "gatepost/gatepostlaw19.ClockproNobody", spec := "clockproNobody", unfollowed := true, recurses := true, apart := false }
def ClockproNobodySaid : Prop := clockproNobodyRow.holds Try.pinned (OpenSpec.ofChange clockproNobodySpec)

/-- ITS FALSE NEIGHBOUR: 'it returns false'. Refute it at one input. -/
def clockproNobodyWrong : ChangeSpec := { name := "clockproNobody", fn := fun _ => fun
  | [d] => { results := [.lit (.bool false)], args := [d] }
  | _ => none }
def ClockproNobodyWrongFalsely : Prop := clockproNobodyRow.holds Try.pinned (OpenSpec.ofChange clockproNobodyWrong)

/-- 'gatepostlaw19.ClockproPlays': WHATEVER THE INPUT: true; the input reads as it did. -/
def clockproPlaysSpec : ChangeSpec := { name := "clockproPlays", fn := fun _ => fun
  | [d1, d2] => { results := [.lit (.bool true)], args := [d1, d2] }
  | _ => none }
def clockproPlaysRow : OpenClaim := { program := "ytbmcfmcolhgibaa", sum := "e7432536bc5e8f530b89bc7cc1e50540c2a471b31c2ab7c79bba0b9a54c0bf2b", func := "gatepost/gatepostlaw19.ClockproPlays", spec := "clockproPlays", unfollowed := true, recurses := true, apart := false }
def ClockproPlaysSaid : Prop := clockproPlaysRow.holds Try.pinned (OpenSpec.ofChange clockproPlaysSpec)

/-- ITS FALSE NEIGHBOUR: 'it returns false'. Refute it at one input. -/
def clockproPlaysWrong : ChangeSpec := { name := "clockproPlays", fn := fun _ => fun
  | [d1, d2] => { results := [.lit (.bool false)], args := [d1, d2] }
  | _ => none }
def ClockproPlaysWrongFalsely : Prop := clockproPlaysRow.holds Try.pinned (OpenSpec.ofChange clockproPlaysWrong)

/-- 'gatepostlaw19.ClockproKeeps': WHATEVER THE INPUT: true; the input reads as it did. -/
def clockproKeepsSpec : ChangeSpec := { name := "clockproKeeps", fn := fun _ => fun
  | [d1, d2] => { results := [.lit (.bool true)], args := [d1, d2] }
  | _ => none }
def clockproKeepsRow : OpenClaim := { program := "ytbmcfmcolhgibaa", sum := "e7432536bc5e8f530b89bc7cc1e50540c2a471b31c2ab7c79bba0b9a54c0bf2b", func := "gatepost/gatepostlaw19.ClockproKeeps", spec := "clockproKeeps", unfollowed := true, recurses := true, apart := false }
def ClockproKeepsSaid : Prop := clockproKeepsRow.holds Try.pinned (OpenSpec.ofChange clockproKeepsSpec)

/-- ITS FALSE NEIGHBOUR: 'it returns false'. Refute it at one input. -/
def clockproKeepsWrong : ChangeSpec := { name := "clockproKeeps", fn := fun _ => fun
  | [d1, d2] => { results := [.lit (.bool false)], args := [d1, d2] }
  | _ => none }
def ClockproKeepsWrongFalsely : Prop := clockproKeepsRow.holds Try.pinned (OpenSpec.ofChange clockproKeepsWrong)

/- THE SECOND FORM. 'bulk': how many values and letters a reading holds, each counted each time it is reached (what is shared counts as often as it is met; a slice's spare places count too). A statement '..UptoSaid' is the law's where the arguments, and the package variables that the reading takes, are together of bulk at most 1048576: NARROWER than '..Said'. Prove '..Said' where nothing that the law and all that it calls make is longer than what came in: it says more and counts as full. Else prove '..UptoSaid'. A law counts once. -/
mutual
def uptoBulk {H : Type} : DataW H → Nat
  | .lit (.string bytes) => bytes.length + 1
  | .lit _ => 1
  | .nil => 1
  | .ptr d => uptoBulk d + 1
  | .slice elems spare => uptoBulkAll elems + uptoBulkAll spare + 1
  | .agg parts => uptoBulkAll parts + 1
  | .iface _ d => uptoBulk d + 1
  | .map entries => uptoBulkEntries entries + 1
  | .held _ => 1
def uptoBulkAll {H : Type} : List (DataW H) → Nat
  | [] => 0
  | d :: r => uptoBulk d + uptoBulkAll r
def uptoBulkEntries {H : Type} : List (Lit × DataW H) → Nat
  | [] => 0
  | x :: r => uptoBulkEntry x + uptoBulkEntries r
def uptoBulkEntry {H : Type} : Lit × DataW H → Nat
  | (.string bytes, d) => bytes.length + uptoBulk d + 1
  | (_, d) => uptoBulk d + 1
 end
def uptoSmall : (H : Type) → List (DataW H) → Bool := fun _ ds => decide (uptoBulkAll ds ≤ 1048576)
def OpenSpec.upto (s : _root_.Go.ChangeSpec) : _root_.Go.OpenSpec := { _root_.Go.OpenSpec.ofChange s with cond := some uptoSmall }

/-- 'gatepostlaw17.StripeHashes', WHERE WHAT IT READS IS OF BULK AT MOST 1048576: true; the input reads as it did. -/
def stripeHashesUptoRow : OpenClaim := { program := "ytbmcfmcolhgibaa", sum := "e7432536bc5e8f530b89bc7cc1e50540c2a471b31c2ab7c79bba0b9a54c0bf2b", func := "gatepost/gatepostlaw17.StripeHashes", spec := "stripeHashes", apart := false, narrowed := true }
def StripeHashesUptoSaid : Prop := stripeHashesUptoRow.holds Try.pinned (OpenSpec.upto stripeHashesSpec)

/-- 'gatepostlaw15.SlabFills', WHERE WHAT IT READS IS OF BULK AT MOST 1048576: true; the input reads as it did. -/
def slabFillsUptoRow : OpenClaim := { program := "ytbmcfmcolhgibaa", sum := "e7432536bc5e8f530b89bc7cc1e50540c2a471b31c2ab7c79bba0b9a54c0bf2b", func := "gatepost/gatepostlaw15.SlabFills", spec := "slabFills", unfollowed := true, recurses := true, apart := false, narrowed := true }
def SlabFillsUptoSaid : Prop := slabFillsUptoRow.holds Try.pinned (OpenSpec.upto slabFillsSpec)

/-- 'gatepostlaw15.SlabGens', WHERE WHAT IT READS IS OF BULK AT MOST 1048576: true; the input reads as it did. -/
def slabGensUptoRow : OpenClaim := { program := "ytbmcfmcolhgibaa", sum := "e7432536bc5e8f530b89bc7cc1e50540c2a471b31c2ab7c79bba0b9a54c0bf2b", func := "gatepost/gatepostlaw15.SlabGens", spec := "slabGens", unfollowed := true, recurses := true, apart := false, narrowed := true }
def SlabGensUptoSaid : Prop := slabGensUptoRow.holds Try.pinned (OpenSpec.upto slabGensSpec)

/-- 'gatepostlaw15.SlabNobody', WHERE WHAT IT READS IS OF BULK AT MOST 1048576: true; the input reads as it did. -/
def slabNobodyUptoRow : OpenClaim := { program := "ytbmcfmcolhgibaa", sum := "e7432536bc5e8f530b89bc7cc1e50540c2a471b31c2ab7c79bba0b9a54c0bf2b", func := "gatepost/gatepostlaw15.SlabNobody", spec := "slabNobody", unfollowed := true, recurses := true, apart := false, narrowed := true }
def SlabNobodyUptoSaid : Prop := slabNobodyUptoRow.holds Try.pinned (OpenSpec.upto slabNobodySpec)

/-- 'gatepostlaw19.ClockproTests', WHERE WHAT IT READS IS OF BULK AT MOST 1048576: true; the input reads as it did. -/
def clockproTestsUptoRow : OpenClaim := { program := "ytbmcfmcolhgibaa", sum := "e7432536bc5e8f530b89bc7cc1e50540c2a471b31c2ab7c79bba0b9a54c0bf2b", func := "gatepost/gatepostlaw19.ClockproTests", spec := "clockproTests", unfollowed := true, recurses := true, apart := false, narrowed := true }
def ClockproTestsUptoSaid : Prop := clockproTestsUptoRow.holds Try.pinned (OpenSpec.upto clockproTestsSpec)

/-- 'gatepostlaw15.SlabBack', WHERE WHAT IT READS IS OF BULK AT MOST 1048576: true; the input reads as it did. -/
def slabBackUptoRow : OpenClaim := { program := "ytbmcfmcolhgibaa", sum := "e7432536bc5e8f530b89bc7cc1e50540c2a471b31c2ab7c79bba0b9a54c0bf2b", func := "gatepost/gatepostlaw15.SlabBack", spec := "slabBack", unfollowed := true, recurses := true, apart := false, narrowed := true }
def SlabBackUptoSaid : Prop := slabBackUptoRow.holds Try.pinned (OpenSpec.upto slabBackSpec)

/-- 'gatepostlaw19.ClockproScans', WHERE WHAT IT READS IS OF BULK AT MOST 1048576: true; the input reads as it did. -/
def clockproScansUptoRow : OpenClaim := { program := "ytbmcfmcolhgibaa", sum := "e7432536bc5e8f530b89bc7cc1e50540c2a471b31c2ab7c79bba0b9a54c0bf2b", func := "gatepost/gatepostlaw19.ClockproScans", spec := "clockproScans", unfollowed := true, recurses := true, apart := false, narrowed := true }
def ClockproScansUptoSaid : Prop := clockproScansUptoRow.holds Try.pinned (OpenSpec.upto clockproScansSpec)

/-- 'gatepostlaw15.SlabPlays', WHERE WHAT IT READS IS OF BULK AT MOST 1048576: true; the input reads as it did. -/
def slabPlaysUptoRow : OpenClaim := { program := "ytbmcfmcolhgibaa", sum := "e7432536bc5e8f530b89bc7cc1e50540c2a471b31c2ab7c79bba0b9a54c0bf2b", func := "gatepost/gatepostlaw15.SlabPlays", spec := "slabPlays", unfollowed := true, recurses := true, apart := false, narrowed := true }
def SlabPlaysUptoSaid : Prop := slabPlaysUptoRow.holds Try.pinned (OpenSpec.upto slabPlaysSpec)

/-- 'gatepostlaw19.ClockproNobody', WHERE WHAT IT READS IS OF BULK AT MOST 1048576: true; the input reads as it did. -/
def clockproNobodyUptoRow : OpenClaim := { program := "ytbmcfmcolhgibaa", sum := "e7432536bc5e8f530b89bc7cc1e50540c2a471b31c2ab7c79bba0b9a54c0bf2b", func := "gatepost/gatepostlaw19.ClockproNobody", spec := "clockproNobody", unfollowed := true, recurses := true, apart := false, narrowed := true }
def ClockproNobodyUptoSaid : Prop := clockproNobodyUptoRow.holds Try.pinned (OpenSpec.upto clockproNobodySpec)

/-- 'gatepostlaw19.ClockproPlays', WHERE WHAT IT READS IS OF BULK AT MOST 1048576: true; the input reads as it did. -/
def clockproPlaysUptoRow : OpenClaim := { program := "ytbmcfmcolhgibaa", sum := "e7432536bc5e8f530b89bc7cc1e50540c2a471b31c2ab7c79bba0b9a54c0bf2b", func := "gatepost/gatepostlaw19.ClockproPlays", spec := "clockproPlays", unfollowed := true, recurses := true, apart := false, narrowed := true }
def ClockproPlaysUptoSaid : Prop := clockproPlaysUptoRow.holds Try.pinned (OpenSpec.upto clockproPlaysSpec)

/-- 'gatepostlaw19.ClockproKeeps', WHERE WHAT IT READS IS OF BULK AT MOST 1048576: true; the input reads as it did. -/
def clockproKeepsUptoRow : OpenClaim := { program := "ytbmcfmcolhgibaa", sum := "e7432536bc5e8f530b89bc7cc1e50540c2a471b31c2ab7c79bba0b9a54c0bf2b", func := "gatepost/gatepostlaw19.ClockproKeeps", spec := "clockproKeeps", unfollowed := true, recurses := true, apart := false, narrowed := true }
def ClockproKeepsUptoSaid : Prop := clockproKeepsUptoRow.holds Try.pinned (OpenSpec.upto clockproKeepsSpec)

end Rows
end Go.Proofs.Ytbmcfmcolhgibaa
