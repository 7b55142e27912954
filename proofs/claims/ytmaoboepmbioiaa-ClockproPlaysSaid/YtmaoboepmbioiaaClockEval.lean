/-
  Layer 19: two statements on the abstract clock, by running it.
-/
import Derived.Test.YtmaoboepmbioiaaClockAdd2
namespace Go.Proofs.Ytmaoboepmbioiaa.Clock
set_option linter.unusedVariables false
set_option linter.unusedSimpArgs false

def addN (base : Int) : Nat → CS → CS
  | 0, S => S
  | n + 1, S => (addS (addN base n S) (base + n)).S
theorem bnd_add {S : CS} (h : Bnd S) (id : Int) (htot : S.cold.length + S.hot.length + S.test.length ≤ 8400) : True := trivial
/-- ClockproTests: m blocks -/
def testsOk (m : Nat) : Bool :=
  let S0 := addN 0 m (newS m)
  let r := addS S0 100
  let S1 := r.S
  let S2 := addN 200 m S1
  let a := addS S1 0
  let b := addS S2 0
  r.e == 0 && r.l == [0] && kindS S1 0 == 3 && kindS S2 0 == 0 && a.e == 0 && b.e == 0 && kindS a.S 0 == 2 && a.S.target == S1.target + 1 && kindS b.S 0 == 1 && decide (b.S.target ≤ S2.target)
theorem tests_ok : ∀ m, m < 8 → testsOk (m + 2) = true := by decide +kernel
/-- ClockproScans: after i of the others -/
def scanN (m : Nat) (t : Bool) : CS := let S := (addS (newS m) 0).S; if t then touchS S 0 else S
def hereB (S : CS) (id : Int) : Bool := isHere (kindS S id)
def scanGo (m : Nat) (t : Bool) : Nat → Nat → CS → Bool
  | 0, _, _ => true
  | k + 1, i, S =>
    let r := addS S i
    (r.e == 0 && decide (r.l.length ≤ 1) && (decide (i < m) || r.l.length != 0) && (decide (i < m + 1) || hereB r.S 0 == t)) && scanGo m t k (i + 1) r.S
theorem scans_ok : ∀ m, m < 16 → ∀ t : Bool, scanGo (m + 2) t 81 1 (scanN (m + 2) t) = true := by decide +kernel
end Go.Proofs.Ytmaoboepmbioiaa.Clock
