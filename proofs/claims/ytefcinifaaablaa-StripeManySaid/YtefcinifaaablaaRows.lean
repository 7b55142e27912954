/-
  No cell of these rows narrows 'for every input' (looked for: loops, veiled, ifaces, maps, wideKeys, modest, calm, conditions, laid).
  DERIVED. THE GIVEN ROWS OF THIS SEAT. 7 by the template 'for every input the law returns true; each argument reads behind the call as it read before'; 0 by the template 'total and deterministic' (their statements: YtefcinifaaablaaTotals.lean).
  GIVEN WITH THE SEED: the statements are not yours to turn. If you find one false, say at which input.
  Laid BY PROGRAM, IN A SANDBOX (cutbox-rows.mjs): the forced cells as the released guide's own fill.sh prints them over the translation eeed4a179240c5db… (all of the seat's roots in one cut). By AI agents, Wed Nov 11 2026. No macro, syntax, notation, axiom, sorry.
-/
import Derived.Test.YtefcinifaaablaaChecked
import GoSem.Claim
import GoSem.ClaimJoined
import GoSem.ClaimMapViews
import Derived.JoinedTies
import Derived.KernelRfl
namespace Go.Proofs.Ytefcinifaaablaa
/- THE CELL 'sum', in the pinned program and in every row, IS THE sha256 OF THE DUMP (.gsa) THAT YtefcinifaaablaaProg.lean LOADS. Nothing in Lean hashes anything: it is a label: what it is worth is what the hold of that sum in a sandbox is worth. -/
noncomputable def Try.pinned : Pinned := { name := "ytefcinifaaablaa", sum := "eeed4a179240c5db97962a41936079065bbe8e5c23576d004c5d25a76c85af09", checked := Try.checked }
namespace Rows
def none {H : Type} : Left H := { results := [], args := [] }

/-- 'gatepostlaw16.ChainNone': WHATEVER THE INPUT: true; the input reads as it did. -/
def chainNoneSpec : ChangeSpec := { name := "chainNone", fn := fun _ => fun
  | [d1, d2] => { results := [.lit (.bool true)], args := [d1, d2] }
  | _ => none }
def chainNoneRow : OpenClaim := { program := "ytefcinifaaablaa", sum := "eeed4a179240c5db97962a41936079065bbe8e5c23576d004c5d25a76c85af09", func := "gatepost/gatepostlaw16.ChainNone", spec := "chainNone", unfollowed := true, recurses := true, plainKeys := false, apart := false }
def ChainNoneSaid : Prop := chainNoneRow.holds Try.pinned (OpenSpec.ofChange chainNoneSpec)

/-- ITS FALSE NEIGHBOUR: 'it returns false'. Refute it at one input. -/
def chainNoneWrong : ChangeSpec := { name := "chainNone", fn := fun _ => fun
  | [d1, d2] => { results := [.lit (.bool false)], args := [d1, d2] }
  | _ => none }
def ChainNoneWrongFalsely : Prop := chainNoneRow.holds Try.pinned (OpenSpec.ofChange chainNoneWrong)

/-- 'gatepostlaw16.ChainCharge': WHATEVER THE INPUT: true; the input reads as it did. -/
def chainChargeSpec : ChangeSpec := { name := "chainCharge", fn := fun _ => fun
  | [d] => { results := [.lit (.bool true)], args := [d] }
  | _ => none }
def chainChargeRow : OpenClaim := { program := "ytefcinifaaablaa", sum := "eeed4a179240c5db97962a41936079065bbe8e5c23576d004c5d25a76c85af09", func := "gatepost/gatepostlaw16.ChainCharge", spec := "chainCharge", unfollowed := true, recurses := true, plainKeys := false, apart := false }
def ChainChargeSaid : Prop := chainChargeRow.holds Try.pinned (OpenSpec.ofChange chainChargeSpec)

/-- ITS FALSE NEIGHBOUR: 'it returns false'. Refute it at one input. -/
def chainChargeWrong : ChangeSpec := { name := "chainCharge", fn := fun _ => fun
  | [d] => { results := [.lit (.bool false)], args := [d] }
  | _ => none }
def ChainChargeWrongFalsely : Prop := chainChargeRow.holds Try.pinned (OpenSpec.ofChange chainChargeWrong)

/-- 'gatepostlaw16.ChainPlays': WHATEVER THE INPUT: true; the input reads as it did. -/
def chainPlaysSpec : ChangeSpec := { name := "chainPlays", fn := fun _ => fun
  | [d1, d2] => { results := [.lit (.bool true)], args := [d1, d2] }
  | _ => none }
def chainPlaysRow : OpenClaim := { program := "ytefcinifaaablaa", sum := "eeed4a179240c5db97962a41936079065bbe8e5c23576d004c5d25a76c85af09", func := "gatepost/gatepostlaw16.ChainPlays", spec := "chainPlays", unfollowed := true, recurses := true, plainKeys := false, apart := false }
def ChainPlaysSaid : Prop := chainPlaysRow.holds Try.pinned (OpenSpec.ofChange chainPlaysSpec)

/-- ITS FALSE NEIGHBOUR: 'it returns false'. Refute it at one input. -/
def chainPlaysWrong : ChangeSpec := { name := "chainPlays", fn := fun _ => fun
  | [d1, d2] => { results := [.lit (.bool false)], args := [d1, d2] }
  | _ => none }
def ChainPlaysWrongFalsely : Prop := chainPlaysRow.holds Try.pinned (OpenSpec.ofChange chainPlaysWrong)

/-- 'gatepostlaw27.OrderGone': WHATEVER THE INPUT: true; the input reads as it did. -/
def orderGoneSpec : ChangeSpec := { name := "orderGone", fn := fun _ => fun
  | [d1, d2] => { results := [.lit (.bool true)], args := [d1, d2] }
  | _ => none }
def orderGoneRow : OpenClaim := { program := "ytefcinifaaablaa", sum := "eeed4a179240c5db97962a41936079065bbe8e5c23576d004c5d25a76c85af09", func := "gatepost/gatepostlaw27.OrderGone", spec := "orderGone", unfollowed := true, recurses := true, plainKeys := false, apart := false }
def OrderGoneSaid : Prop := orderGoneRow.holds Try.pinned (OpenSpec.ofChange orderGoneSpec)

/-- ITS FALSE NEIGHBOUR: 'it returns false'. Refute it at one input. -/
def orderGoneWrong : ChangeSpec := { name := "orderGone", fn := fun _ => fun
  | [d1, d2] => { results := [.lit (.bool false)], args := [d1, d2] }
  | _ => none }
def OrderGoneWrongFalsely : Prop := orderGoneRow.holds Try.pinned (OpenSpec.ofChange orderGoneWrong)

/-- 'gatepostlaw17.StripeMany': WHATEVER THE INPUT: true; the input reads as it did. -/
def stripeManySpec : ChangeSpec := { name := "stripeMany", fn := fun _ => fun
  | [d1, d2, d3] => { results := [.lit (.bool true)], args := [d1, d2, d3] }
  | _ => none }
def stripeManyRow : OpenClaim := { program := "ytefcinifaaablaa", sum := "eeed4a179240c5db97962a41936079065bbe8e5c23576d004c5d25a76c85af09", func := "gatepost/gatepostlaw17.StripeMany", spec := "stripeMany", inPlace := ["internal/bytealg.abigen_runtime_cmpstring"], unfollowed := true, recurses := true, plainKeys := false, apart := false }
def StripeManySaid : Prop := stripeManyRow.holds Try.pinned (OpenSpec.ofChange stripeManySpec)

/-- ITS FALSE NEIGHBOUR: 'it returns false'. Refute it at one input. -/
def stripeManyWrong : ChangeSpec := { name := "stripeMany", fn := fun _ => fun
  | [d1, d2, d3] => { results := [.lit (.bool false)], args := [d1, d2, d3] }
  | _ => none }
def StripeManyWrongFalsely : Prop := stripeManyRow.holds Try.pinned (OpenSpec.ofChange stripeManyWrong)

/-- 'gatepostlaw17.StripeTenants': WHATEVER THE INPUT: true; the input reads as it did. -/
def stripeTenantsSpec : ChangeSpec := { name := "stripeTenants", fn := fun _ => fun
  | [d1, d2] => { results := [.lit (.bool true)], args := [d1, d2] }
  | _ => none }
def stripeTenantsRow : OpenClaim := { program := "ytefcinifaaablaa", sum := "eeed4a179240c5db97962a41936079065bbe8e5c23576d004c5d25a76c85af09", func := "gatepost/gatepostlaw17.StripeTenants", spec := "stripeTenants", inPlace := ["internal/bytealg.abigen_runtime_cmpstring"], unfollowed := true, recurses := true, plainKeys := false, apart := false }
def StripeTenantsSaid : Prop := stripeTenantsRow.holds Try.pinned (OpenSpec.ofChange stripeTenantsSpec)

/-- ITS FALSE NEIGHBOUR: 'it returns false'. Refute it at one input. -/
def stripeTenantsWrong : ChangeSpec := { name := "stripeTenants", fn := fun _ => fun
  | [d1, d2] => { results := [.lit (.bool false)], args := [d1, d2] }
  | _ => none }
def StripeTenantsWrongFalsely : Prop := stripeTenantsRow.holds Try.pinned (OpenSpec.ofChange stripeTenantsWrong)

/-- 'gatepostlaw17.StripePlays': WHATEVER THE INPUT: true; the input reads as it did. -/
def stripePlaysSpec : ChangeSpec := { name := "stripePlays", fn := fun _ => fun
  | [d1, d2, d3] => { results := [.lit (.bool true)], args := [d1, d2, d3] }
  | _ => none }
def stripePlaysRow : OpenClaim := { program := "ytefcinifaaablaa", sum := "eeed4a179240c5db97962a41936079065bbe8e5c23576d004c5d25a76c85af09", func := "gatepost/gatepostlaw17.StripePlays", spec := "stripePlays", inPlace := ["internal/bytealg.abigen_runtime_cmpstring"], unfollowed := true, recurses := true, plainKeys := false, apart := false }
def StripePlaysSaid : Prop := stripePlaysRow.holds Try.pinned (OpenSpec.ofChange stripePlaysSpec)

/-- ITS FALSE NEIGHBOUR: 'it returns false'. Refute it at one input. -/
def stripePlaysWrong : ChangeSpec := { name := "stripePlays", fn := fun _ => fun
  | [d1, d2, d3] => { results := [.lit (.bool false)], args := [d1, d2, d3] }
  | _ => none }
def StripePlaysWrongFalsely : Prop := stripePlaysRow.holds Try.pinned (OpenSpec.ofChange stripePlaysWrong)

/- THE SECOND FORM. 'bulk': how many values and letters a reading holds, each counted each time it is reached (what is shared counts as often as it is met; a slice's spare places count too). A statement '..UptoSaid' is the law's where the arguments, and the package variables that the reading takes, are together of bulk at most 1048576: NARROWER than '..Said'. Prove '..Said' where nothing that the law and all that it calls make is longer than what came in: it says more and counts as full. Else prove '..UptoSaid'. A law counts once. -/
mutual
def uptoBulk {H : Type} : DataW H → Nat
  | .lit (.string bytes) => bytes.length + 1
  | .lit _ => 1
  | .nil => 1
  | .ptr d => uptoBulk d + 1
  | .slice elems spare => uptoBulkAll elems + uptoBulkAll spare + 1
  | .agg parts => uptoBulkAll parts + 1
  | .iface _ d => uptoBulk d + 1
  | .map entries => uptoBulkEntries entries + 1
  | .held _ => 1
def uptoBulkAll {H : Type} : List (DataW H) → Nat
  | [] => 0
  | d :: r => uptoBulk d + uptoBulkAll r
def uptoBulkEntries {H : Type} : List (Lit × DataW H) → Nat
  | [] => 0
  | x :: r => uptoBulkEntry x + uptoBulkEntries r
def uptoBulkEntry {H : Type} : Lit × DataW H → Nat
  | (.string bytes, d) => bytes.length + uptoBulk d + 1
  | (_, d) => uptoBulk d + 1
 end
def uptoSmall : (H : Type) → List (DataW H) → Bool := fun _ ds => decide (uptoBulkAll ds ≤ 1048576)
def OpenSpec.upto (s : _root_.Go.ChangeSpec) : _root_.Go.OpenSpec := { _root_.Go.OpenSpec.ofChange s with cond := some uptoSmall }

/-- 'gatepostlaw16.ChainNone', WHERE WHAT IT READS IS OF BULK AT MOST 1048576: true; the input reads as it did. -/
def chainNoneUptoRow : OpenClaim := { program := "ytefcinifaaablaa", sum := "eeed4a179240c5db97962a41936079065bbe8e5c23576d004c5d25a76c85af09", func := "gatepost/gatepostlaw16.ChainNone", spec := "chainNone", unfollowed := true, recurses := true, plainKeys := false, apart := false, narrowed := true }
def ChainNoneUptoSaid : Prop := chainNoneUptoRow.holds Try.pinned (OpenSpec.upto chainNoneSpec)

/-- 'gatepostlaw16.ChainCharge', WHERE WHAT IT READS IS OF BULK AT MOST 1048576: true; the input reads as it did. -/
def chainChargeUptoRow : OpenClaim := { program := "ytefcinifaaablaa", sum := "eeed4a179240c5db97962a41936079065bbe8e5c23576d004c5d25a76c85af09", func := "gatepost/gatepostlaw16.ChainCharge", spec := "chainCharge", unfollowed := true, recurses := true, plainKeys := false, apart := false, narrowed := true }
def ChainChargeUptoSaid : Prop := chainChargeUptoRow.holds Try.pinned (OpenSpec.upto chainChargeSpec)

/-- 'gatepostlaw16.ChainPlays', WHERE WHAT IT READS IS OF BULK AT MOST 1048576: true; the input reads as it did. -/
def chainPlaysUptoRow : OpenClaim := { program := "ytefcinifaaablaa", sum := "eeed4a179240c5db97962a41936079065bbe8e5c23576d004c5d25a76c85af09", func := "gatepost/gatepostlaw16.ChainPlays", spec := "chainPlays", unfollowed := true, recurses := true, plainKeys := false, apart := false, narrowed := true }
def ChainPlaysUptoSaid : Prop := chainPlaysUptoRow.holds Try.pinned (OpenSpec.upto chainPlaysSpec)

/-- 'gatepostlaw27.OrderGone', WHERE WHAT IT READS IS OF BULK AT MOST 1048576: true; the input reads as it did. -/
def orderGoneUptoRow : OpenClaim := { program := "ytefcinifaaablaa", sum := "eeed4a179240c5db97962a41936079065bbe8e5c23576d004c5d25a76c85af09", func := "gatepost/gatepostlaw27.OrderGone", spec := "orderGone", unfollowed := true, recurses := true, plainKeys := false, apart := false, narrowed := true }
def OrderGoneUptoSaid : Prop := orderGoneUptoRow.holds Try.pinned (OpenSpec.upto orderGoneSpec)

/-- 'gatepostlaw17.StripeMany', WHERE WHAT IT READS IS OF BULK AT MOST 1048576: true; the input reads as it did. -/
def stripeManyUptoRow : OpenClaim := { program := "ytefcinifaaablaa", sum := "eeed4a179240c5db97962a41936079065bbe8e5c23576d004c5d25a76c85af09", func := "gatepost/gatepostlaw17.StripeMany", spec := "stripeMany", inPlace := ["internal/bytealg.abigen_runtime_cmpstring"], unfollowed := true, recurses := true, plainKeys := false, apart := false, narrowed := true }
def StripeManyUptoSaid : Prop := stripeManyUptoRow.holds Try.pinned (OpenSpec.upto stripeManySpec)

/-- 'gatepostlaw17.StripeTenants', WHERE WHAT IT READS IS OF BULK AT MOST 1048576: true; the input reads as it did. -/
def stripeTenantsUptoRow : OpenClaim := { program := "ytefcinifaaablaa", sum := "eeed4a179240c5db97962a41936079065bbe8e5c23576d004c5d25a76c85af09", func := "gatepost/gatepostlaw17.StripeTenants", spec := "stripeTenants", inPlace := ["internal/bytealg.abigen_runtime_cmpstring"], unfollowed := true, recurses := true, plainKeys := false, apart := false, narrowed := true }
def StripeTenantsUptoSaid : Prop := stripeTenantsUptoRow.holds Try.pinned (OpenSpec.upto stripeTenantsSpec)

/-- 'gatepostlaw17.StripePlays', WHERE WHAT IT READS IS OF BULK AT MOST 1048576: true; the input reads as it did. -/
def stripePlaysUptoRow : OpenClaim := { program := "ytefcinifaaablaa", sum := "eeed4a179240c5db97962a41936079065bbe8e5c23576d004c5d25a76c85af09", func := "gatepost/gatepostlaw17.StripePlays", spec := "stripePlays", inPlace := ["internal/bytealg.abigen_runtime_cmpstring"], unfollowed := true, recurses := true, plainKeys := false, apart := false, narrowed := true }
def StripePlaysUptoSaid : Prop := stripePlaysUptoRow.holds Try.pinned (OpenSpec.upto stripePlaysSpec)

end Rows
end Go.Proofs.Ytefcinifaaablaa
