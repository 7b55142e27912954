/-
  Layer 19: a clock as its callers see it: three lists of pages, the first of each is where its hand is.
-/
import Derived.Test.YtmaoboepmbioiaaLib
namespace Go.Proofs.Ytmaoboepmbioiaa.Clock
set_option linter.unusedVariables false
set_option linter.unusedSimpArgs false

structure Pg where
  id : Int
  mark : Bool
  deriving DecidableEq
structure CS where
  most : Int
  target : Int
  cold : List Pg
  hot : List Pg
  test : List Pg
  deriving DecidableEq

def has (l : List Pg) (id : Int) : Bool := l.any fun p => p.id == id
def unmark (p : Pg) : Pg := ⟨p.id, false⟩
def markIn (l : List Pg) (id : Int) : List Pg := l.map fun p => if p.id == id then ⟨p.id, true⟩ else p
def outOf (l : List Pg) (id : Int) : List Pg := l.filter fun p => p.id != id
def marks (l : List Pg) : Nat := l.countP fun p => p.mark
def kindS (S : CS) (id : Int) : Int := if has S.cold id then 1 else if has S.hot id then 2 else if has S.test id then 3 else 0
def touchS (S : CS) (id : Int) : CS := { S with cold := markIn S.cold id, hot := markIn S.hot id }
def turnHotS (S : CS) : CS := match S.hot with
  | [] => S
  | p :: t => if p.mark then { S with hot := t ++ [unmark p] } else { S with hot := t, cold := S.cold ++ [p] }
def coolF : Nat → Int → CS → CS
  | 0, _, S => S
  | n + 1, least, S => if max (S.most - S.target) least < (S.hot.length : Int) then coolF n least (turnHotS S) else S
def coolM (S : CS) : Nat := marks S.hot + S.hot.length
def coolS (least : Int) (S : CS) : CS := coolF (coolM S) least S
def chillF : Nat → CS → CS
  | 0, S => S
  | n + 1, S => if S.cold.length = 0 then chillF n (turnHotS S) else S
def chillM (S : CS) : Nat := if S.cold.length = 0 then marks S.hot + S.hot.length else 0
structure Went where
  S : CS
  id : Int
  ok : Bool
/-- the cold hand, where a cold page is -/
def coldS (S : CS) : Went := match S.cold with
  | [] => ⟨S, 0, false⟩
  | p :: t =>
    if p.mark then ⟨coolS 0 { S with cold := t, hot := S.hot ++ [unmark p] }, 0, false⟩
    else if S.most < ((S.test.length + 1 : Nat) : Int) then ⟨{ S with cold := t, test := (S.test ++ [p]).tail, target := max 1 (S.target - 1) }, p.id, true⟩
    else ⟨{ S with cold := t, test := S.test ++ [p] }, p.id, true⟩
def turnColdS (S : CS) : Went := coldS (chillF (chillM S) S)
def thereS (S : CS) : Nat := S.cold.length + S.hot.length
def evictF : Nat → CS → Went
  | 0, S => ⟨S, 0, false⟩
  | n + 1, S => if 0 < thereS S then (let r := turnColdS S; if r.ok then r else evictF n r.S) else ⟨S, 0, false⟩
def evictM (S : CS) : Nat := marks S.cold + marks S.hot + 1
def evictS (S : CS) : Went := evictF (evictM S) S
structure Gone where
  S : CS
  l : List Int
def roomF : Nat → CS → List Int → Gone
  | 0, S, l => ⟨S, l⟩
  | n + 1, S, l => if S.most ≤ (thereS S : Int) then (let r := evictS S; roomF n r.S (l ++ [r.id])) else ⟨S, l⟩
def roomS (S : CS) : Gone := roomF (thereS S) S []
structure Added where
  S : CS
  l : List Int
  e : Int
def addS (S : CS) (id : Int) : Added :=
  if has S.cold id || has S.hot id then ⟨S, [], 13⟩
  else if has S.test id then
    let r := roomS { S with test := outOf S.test id, target := min S.most (S.target + 1) }
    ⟨coolS 1 { r.S with hot := r.S.hot ++ [⟨id, false⟩] }, r.l, 0⟩
  else
    let r := roomS S
    ⟨{ r.S with cold := r.S.cold ++ [⟨id, false⟩] }, r.l, 0⟩
def removeS (S : CS) (id : Int) : CS := { S with cold := outOf S.cold id, hot := outOf S.hot id, test := outOf S.test id }
def newS (most : Int) : CS := ⟨most, 1, [], [], []⟩

/-- what is true of every clock -/
structure OkS (S : CS) : Prop where
  m1 : 1 ≤ S.most
  m2 : S.most ≤ 4096
  t1 : 1 ≤ S.target
  t2 : S.target ≤ S.most
  nd : ((S.cold ++ S.hot ++ S.test).map Pg.id).Nodup
  there : (thereS S : Int) ≤ S.most
  test : (S.test.length : Int) ≤ S.most
  tm : ∀ p ∈ S.test, p.mark = false
end Go.Proofs.Ytmaoboepmbioiaa.Clock
