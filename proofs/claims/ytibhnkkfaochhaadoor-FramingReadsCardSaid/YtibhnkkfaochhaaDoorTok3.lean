/-
  Layer 1: Number.
-/
import Derived.Test.YtibhnkkfaochhaaDoorTok2
namespace Go.Proofs.YtibhnkkfaochhaaDoor.Tok
open Go.RowKit Go.Sep
set_option maxRecDepth 100000
set_option linter.unusedVariables false
set_option linter.unusedSimpArgs false

/-- a number of digits, at most M -/
def numR (M : Nat) : List UInt8 → Nat → Nat
  | [], n => n
  | b :: r, n => if M < b.toNat - 48 ∨ (M - (b.toNat - 48)) / 10 < n then M else numR M r (10 * n + (b.toNat - 48))
def digL (l : List UInt8) : Bool := !l.isEmpty && l.all fun b => digK b.toNat
structure Num where
  n : Nat
  ok : Bool
def numL (M : Nat) (l : List UInt8) : Num := if digL l = true then ⟨numR M l 0, true⟩ else ⟨0, false⟩
end Go.Proofs.YtibhnkkfaochhaaDoor.Tok
