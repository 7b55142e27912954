/-
  The document's arena (ref15): Read.
-/
import Derived.Test.YtefcinifaaablaaRef15b
namespace Go.Proofs.Ytefcinifaaablaa.Ref15
open Go.RowKit Go.Sep
open Go.Proofs.Ytefcinifaaablaa.Slab (szOf)
set_option maxRecDepth 100000
set_option linter.unusedVariables false
set_option linter.unusedSimpArgs false

def OkL (L : List RBlk) : Prop := ∀ b ∈ L, b.h ≠ 0 → (∃ x, b.loc = some x) ∧ (b.bytes.length : Int) = szOf b.c
theorem rightI_is {L : List RBlk} {c i g : Int} {k : Nat} (h : rightI L c i g = some k) (hk : k < L.length) : L[k].c = c ∧ L[k].i = i ∧ L[k].h ≠ 0 ∧ L[k].g = g := by
  obtain ⟨h1, h2⟩ := Option.filter_eq_some_iff.1 h
  obtain ⟨_, h3, _⟩ := List.findIdx?_eq_some_iff_getElem.1 h1
  simp only [List.getElem?_eq_getElem hk] at h2
  simp at h2 h3
  exact ⟨h3.1, h3.2, h2.1, h2.2⟩
theorem szOf_le (c : Int) : 0 ≤ szOf c ∧ szOf c ≤ 4096 := by
  unfold szOf; (repeat' split) <;> omega
def iEnc (x : Int) : List Value := [.int .i64 x]
theorem iEnc_len (x : Int) : (iEnc x).length = 1 := rfl
theorem infoI : (Try.prog.info? 3).map (fun i => (i.zero, i.size, i.bytes)) = some (some (.int .i64 0), 1, 8) := by kernel_rfl

structure RGot where
  b : List Int
  e : Int
def readL (L : List RBlk) (c i g at_ n : Int) : RGot := match rightI L c i g with
  | none => ⟨[], 15⟩
  | some k => if at_ < 0 ∨ n < 0 ∨ szOf c < at_ ∨ szOf c - at_ < n then ⟨[], 2⟩ else ⟨((L.getD k ⟨0, 0, 0, 0, none, []⟩).bytes.drop at_.toNat).take n.toNat, 0⟩
def ReadL (b : List Int) (er : Int) (F : Asr) (w : World) (e : Ending) (w' : World) : Prop :=
  ∃ v, e = .returned (.tuple #[v, .int .i64 er]) ∧ Holds w' (rowL 3 1 iEnc v b * F) ∧ Sm w w'

theorem ref_byte {w : World} {a : Nat} {B : Nat → Int} {L : List RBlk} {F : Asr} (h : Holds w (refA a B L * F)) (k : Nat) (hk : k < L.length) (x : Nat) (hx : L[k].loc = some x) :
    x < w.heap.size ∧ ∀ j, j < L[k].bytes.length → w.cell? ⟨x, j, none⟩ = some (.int .i64 (L[k].bytes.getD j 0)) := by
  obtain ⟨v, hv⟩ := ref_open h
  have ho : L[k].own = pts x (.cells (L[k].bytes.map (Value.int .i64)).toArray 3 (0, 0)) := by simp [RBlk.own, hx]
  have hb : Holds w (pts x (.cells (L[k].bytes.map (Value.int .i64)).toArray 3 (0, 0)) * (big RBlk.own (L.eraseIdx k) * (hd a B v * (rowL 120 5 RBlk.enc v L * F)))) := by
    refine hv.eqv ?_
    rw [big_at _ _ _ hk, ho]
    ac_rfl
  refine ⟨hb.lt, fun j hj => ?_⟩
  rw [hb.cell j]
  simp [List.getD, hj]

end Go.Proofs.Ytefcinifaaablaa.Ref15
