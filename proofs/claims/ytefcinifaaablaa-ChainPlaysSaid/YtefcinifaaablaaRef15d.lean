/-
  The document's arena (ref15): Write.
-/
import Derived.Test.YtefcinifaaablaaRef15c
import Derived.Test.YtefcinifaaablaaSlabRW
namespace Go.Proofs.Ytefcinifaaablaa.Ref15
open Go.RowKit Go.Sep
open Go.Proofs.Ytefcinifaaablaa.Slab (szOf Src)
set_option maxRecDepth 100000
set_option linter.unusedVariables false
set_option linter.unusedSimpArgs false

def putB (b : RBlk) (A : Nat) (bs : List Int) : RBlk := { b with bytes := b.bytes.take A ++ bs ++ b.bytes.drop (A + bs.length) }
theorem putB_len (b : RBlk) (A : Nat) (bs : List Int) (h : A + bs.length ≤ b.bytes.length) : (putB b A bs).bytes.length = b.bytes.length := by
  simp [putB]; omega
theorem putB_snoc (b : RBlk) (A : Nat) (bs : List Int) (z : Int) (h : A + bs.length < b.bytes.length) : (putB b A (bs ++ [z])).bytes = (putB b A bs).bytes.set (A + bs.length) z := by
  unfold putB
  simp only
  have e1 : b.bytes.drop (A + bs.length) = b.bytes[A + bs.length] :: b.bytes.drop (A + bs.length + 1) := List.drop_eq_getElem_cons h
  have hl : (b.bytes.take A ++ bs).length = A + bs.length := by simp; omega
  rw [e1, List.set_append_right _ _ (by omega), hl, Nat.sub_self, List.set_cons_zero]
  simp [Nat.add_assoc]
theorem putB_nil (b : RBlk) (A : Nat) : putB b A [] = b := by simp [putB]
def writeL (L : List RBlk) (c i g at_ : Int) (bs : List Int) : RDid := match rightI L c i g with
  | none => ⟨L, 15⟩
  | some k => if at_ < 0 ∨ szOf c < at_ ∨ szOf c - at_ < bs.length then ⟨L, 2⟩ else ⟨L.set k (putB (L.getD k ⟨0, 0, 0, 0, none, []⟩) at_.toNat bs), 0⟩

theorem ref_bfz {w : World} {a : Nat} {B : Nat → Int} {L : List RBlk} {F : Asr} (h : Holds w (refA a B L * F)) (k : Nat) (hk : k < L.length) (x : Nat) (hx : L[k].loc = some x) (j : Nat) : w.frozen? ⟨x, j, none⟩ = false := by
  obtain ⟨v, hv⟩ := ref_open h
  have ho : L[k].own = pts x (.cells (L[k].bytes.map (Value.int .i64)).toArray 3 (0, 0)) := by simp [RBlk.own, hx]
  have hb : Holds w (pts x (.cells (L[k].bytes.map (Value.int .i64)).toArray 3 (0, 0)) * (big RBlk.own (L.eraseIdx k) * (hd a B v * (rowL 120 5 RBlk.enc v L * F)))) := by
    refine hv.eqv ?_
    rw [big_at _ _ _ hk, ho]
    ac_rfl
  exact hb.frozen j
/-- a byte of a block is stored -/
theorem ref_put {w : World} {a : Nat} {B : Nat → Int} {L : List RBlk} {F : Asr} (k : Nat) (hk : k < L.length) (b : RBlk) (x : Nat) (hx : b.loc = some x) (h : Holds w (refA a B (L.set k b) * F)) (o : Nat) (z : Int) (b' : RBlk) (hb : b' = { b with bytes := b.bytes.set o z }) :
    Holds (w.setCell ⟨x, o, none⟩ (.int .i64 z)) (refA a B (L.set k b') * F) := by
  obtain ⟨v, hv⟩ := ref_open h
  have hk' : k < (L.set k b).length := by simpa using hk
  have ho : b.own = pts x (.cells (b.bytes.map (Value.int .i64)).toArray 3 (0, 0)) := by simp [RBlk.own, hx]
  have ho' : b'.own = pts x (.cells ((b.bytes.set o z).map (Value.int .i64)).toArray 3 (0, 0)) := by simp [hb, RBlk.own, hx]
  have he : b'.enc = b.enc := by simp [hb, RBlk.enc, RBlk.sl, hx]
  have e0 : (L.set k b).flatMap RBlk.enc = (L.set k b').flatMap RBlk.enc := by
    rw [List.flatMap_def, List.flatMap_def, List.map_set, List.map_set, he]
  have hb1 : Holds w (pts x (.cells (b.bytes.map (Value.int .i64)).toArray 3 (0, 0)) * (big RBlk.own (L.eraseIdx k) * (hd a B v * (rowL 120 5 RBlk.enc v (L.set k b) * F)))) := by
    refine hv.eqv ?_
    rw [big_set _ _ _ _ hk, ho]
    ac_rfl
  have hb2 := hb1.store o (.int .i64 z)
  have e1 : (b.bytes.map (Value.int .i64)).toArray.setIfInBounds o (.int .i64 z) = ((b.bytes.set o z).map (Value.int .i64)).toArray := by
    simp [List.map_set]
  rw [e1] at hb2
  refine ref_shut (v := v) (hb2.eqv ?_)
  rw [big_set _ _ _ _ hk, ho']
  have e2 : rowL 120 5 RBlk.enc v (L.set k b) = rowL 120 5 RBlk.enc v (L.set k b') := by
    unfold rowL; rw [e0]; simp
  rw [e2]
  ac_rfl
#print axioms ref_put

end Go.Proofs.Ytefcinifaaablaa.Ref15
