/-
  Layer 15: what the calls do, as laws meet them.
-/
import Derived.Test.YtefcinifaaablaaSlabLive
namespace Go.Proofs.Ytefcinifaaablaa.Slab
open Go.RowKit Go.Sep
set_option maxRecDepth 100000
set_option linter.unusedVariables false
set_option linter.unusedSimpArgs false

/-- a free block, taken -/
def alloced (loc n : Nat) (b : Blk) : Blk := taken (if b.made then b else made loc n b)
def AllocOk (a : Nat) (m : List Cls) (c i : Nat) (b : Blk) (F : Asr) (w : World) (e : Ending) (w' : World) : Prop :=
  ∃ loc, e = .returned (.tuple #[hdl c i (wrap64 (b.gen + 1)), .int .i64 0]) ∧ Holds w' (arenaA a (setBlk m c i (alloced loc (szOf c).toNat b)) * F) ∧ Sm w w'

theorem alloc_ok (a : Nat) (m : List Cls) (F : Asr) (n : Int) (w : World) (hf : Fit m) (hw : Holds w (arenaA a m * F)) (h0 : 0 ≤ n) (hn : n ≤ 4096) (c i : Nat) (hc : c < m.length) (hcn : clsFor n = c) (hi : i < m[c].l.length) (hfree : freeAt m[c].l = i) :
    Calls Try.prog 71 #[.pointer (some ⟨a, 0, none⟩), .int .i64 n] w (AllocOk a m c i m[c].l[i] F w) := by
  cases hm : m[c].l[i].made with
  | true => exact (alloc_made a m F n w hf hw h0 hn c i hc hcn hi hfree hm).mono fun e w' ⟨h1, h2, h3⟩ => ⟨0, h1, by unfold alloced; rw [if_pos hm]; exact h2, h3⟩
  | false => exact (alloc_new a m F n w hf hw h0 hn c i hc hcn hi hfree hm).mono fun e w' ⟨h1, h2, h3⟩ => ⟨_, h1, by unfold alloced; rw [if_neg (by simp [hm])]; exact h2, h3⟩

theorem Holds.snoc {w : World} {A B : Asr} (h : Holds w B) (e : B = A) : Holds w A := e ▸ h
end Go.Proofs.Ytefcinifaaablaa.Slab
