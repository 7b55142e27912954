/-
  Layer 6: the decoder (plain).
-/
import Derived.Test.YtibhnkkfaochhaaDoorTok2
namespace Go.Proofs.YtibhnkkfaochhaaDoor.Dec
open Go.RowKit Go.Sep
open Go.Proofs.YtibhnkkfaochhaaDoor.Tok
set_option maxRecDepth 100000
set_option linter.unusedVariables false
set_option linter.unusedSimpArgs false

def hexV (c : UInt8) : Option Nat := if 48 ≤ c.toNat ∧ c.toNat ≤ 57 then some (c.toNat - 48) else if 97 ≤ c.toNat ∧ c.toNat ≤ 102 then some (c.toNat - 87) else if 65 ≤ c.toNat ∧ c.toNat ≤ 70 then some (c.toNat - 55) else none
def isHex (c : UInt8) : Bool := (hexV c).isSome
def hexN (l : List UInt8) : Nat := l.foldl (fun n c => n * 16 + (hexV c).getD 0) 0
def hexK (l : List UInt8) : Nat := (l.takeWhile isHex).length
def sizeL (l : List UInt8) : Option Nat :=
  if hexK l = 0 ∨ 8 < hexK l then none
  else if trimL (l.drop (hexK l)) ≠ [] ∧ (trimL (l.drop (hexK l))).head? ≠ some 59 then none
  else if (l.all fun c => decide (9 ≤ c.toNat ∧ c.toNat ≠ 127)) = true then some (hexN (l.take (hexK l))) else none
def valB (l : List UInt8) : Bool := l.all fun c => decide (c.toNat = 32 ∨ c.toNat = 9 ∨ (33 ≤ c.toNat ∧ c.toNat ≠ 127))
def colK (l : List UInt8) : Nat := (l.takeWhile fun c => c != 58).length
def parseL (l : List UInt8) : Bool := decide (colK l < l.length) && (isL (l.take (colK l)) && valB (trimL (l.drop (colK l + 1))))
structure DS where
  st : Nat
  left : Nat
  sum : Nat
  own : List UInt8
  done : Bool
  e : Nat
def stripL (l : List UInt8) : List UInt8 := if l.dropLast.getLast? = some 13 then l.dropLast.dropLast else l.dropLast
def dline (S : DS) (c : UInt8) : DS × Option (List UInt8) :=
  if 1025 < (S.own ++ [c]).length then ({ S with own := S.own ++ [c], e := 3 }, none)
  else if c ≠ 10 then ({ S with own := S.own ++ [c] }, none)
  else ({ S with own := [] }, some (stripL (S.own ++ [c])))
def dsize (S : DS) (s : List UInt8) : DS := match sizeL s with
  | none => { S with e := 32 }
  | some n => if 1048576 - S.sum < n then { S with e := 3 } else if n = 0 then { S with st := 3 } else { S with sum := S.sum + n, left := n, st := 1 }
def dbehind (S : DS) (s : List UInt8) : DS := if s ≠ [] then { S with e := 32, st := 0 } else { S with st := 0 }
def dfields (S : DS) (s : List UInt8) : DS := if s = [] then { S with done := true } else { S with e := if parseL s = true then 0 else 31 }
def onLine (S : DS) (c : UInt8) (f : DS → List UInt8 → DS) : DS × List UInt8 := match dline S c with
  | (S1, none) => (S1, [])
  | (S1, some s) => (f S1 s, [])
def dstep (S : DS) (c : UInt8) : DS × List UInt8 :=
  if S.st = 0 then onLine S c dsize
  else if S.st = 1 then ({ S with left := S.left - 1, st := if S.left - 1 = 0 then 2 else 1 }, [c])
  else if S.st = 2 then onLine S c dbehind
  else if S.st = 3 then onLine S c dfields
  else if S.st = 4 then ({ S with left := S.left - 1, done := decide (S.left - 1 = 0) }, [c])
  else if S.sum = 1048576 then ({ S with e := 3 }, []) else ({ S with sum := S.sum + 1 }, [c])
def stopped (S : DS) : Bool := S.done || decide (S.e ≠ 0)
def feedL : DS → List UInt8 → DS × List UInt8 × Nat
  | S, [] => (S, [], 0)
  | S, c :: r => if stopped S = true then (S, [], 0) else ((feedL (dstep S c).1 r).1, (dstep S c).2 ++ (feedL (dstep S c).1 r).2.1, (feedL (dstep S c).1 r).2.2 + 1)
theorem feed_stop {S : DS} (h : stopped S = true) : ∀ b, feedL S b = (S, [], 0)
  | [] => rfl
  | c :: r => by rw [feedL, if_pos h]
theorem feed_app : ∀ (a : List UInt8) (S : DS) (b : List UInt8), feedL S (a ++ b) = ((feedL (feedL S a).1 b).1, (feedL S a).2.1 ++ (feedL (feedL S a).1 b).2.1, (feedL S a).2.2 + (feedL (feedL S a).1 b).2.2)
  | [], S, b => by simp [feedL]
  | c :: r, S, b => by
    by_cases h : stopped S = true
    · rw [feed_stop h, feed_stop h]
      simp only
      rw [feed_stop h]; rfl
    · rw [List.cons_append, feedL, if_neg h, feed_app r]
      rw [feedL, if_neg h]
      simp only [List.append_assoc]
      congr 2
      omega
theorem feed_used : ∀ (b : List UInt8) (S : DS), (feedL S b).2.2 ≤ b.length
  | [], S => Nat.le_refl _
  | c :: r, S => by
    rw [feedL]
    split
    · exact Nat.zero_le _
    · have := feed_used r (dstep S c).1
      simp only [List.length_cons]
      omega
theorem feed_all : ∀ (b : List UInt8) (S : DS), stopped (feedL S b).1 = false → (feedL S b).2.2 = b.length
  | [], S, _ => rfl
  | c :: r, S, h => by
    rw [feedL] at h ⊢
    split at h
    · rename_i hs; rw [hs] at h; cases h
    · rename_i hs
      rw [if_neg hs]
      have := feed_all r (dstep S c).1 h
      simp only [List.length_cons]
      omega
def newD (kind n : Nat) : DS := ⟨if kind = 0 then 4 else if kind = 1 then 4 else if kind = 2 then 0 else 5, n, 0, [], decide (n = 0 ∧ kind ≤ 1), 0⟩
#print axioms feed_app
#print axioms feed_all
end Go.Proofs.YtibhnkkfaochhaaDoor.Dec
