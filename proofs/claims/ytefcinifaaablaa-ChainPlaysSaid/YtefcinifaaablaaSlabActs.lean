/-
  SlabPlays: its acts; the bytes of an act.
-/
import Derived.Test.YtefcinifaaablaaRecs
import Derived.Test.YtefcinifaaablaaSlabRW
namespace Go.Proofs.Ytefcinifaaablaa.Ref15
open Go.RowKit Go.Sep Go.ChangeShapes Go.WideShapes Go.Deep
open Go.Proofs.Ytefcinifaaablaa.Slab (Src)
set_option linter.unusedSimpArgs false
set_option linter.unusedVariables false
set_option maxRecDepth 100000

structure Act9 where
  (kd n k at_ h0 h1 h2 : Int)
  own : Bool
  so : Option Addr
  (sl sc : Nat)
  bs : List Int
def Act9.cells (a : Act9) : List Value := [.int .i64 a.kd, .int .i64 a.n, .int .i64 a.k, .int .i64 a.at_, .int .i64 a.h0, .int .i64 a.h1, .int .i64 a.h2, .bool a.own, .slice a.so a.sl a.sc]
structure OkAct (w : World) (a : Act9) : Prop where
  src : Src w a.so a.sl a.bs
  cap : a.sl ≤ a.sc
  big : a.sc ≤ maxLen
  byte : ∀ x ∈ a.bs, 0 ≤ x ∧ x < 256
def QAct (w : World) (cs : List Value) : Prop := ∃ a : Act9, cs = a.cells ∧ OkAct w a
section
variable {H : Type} {enc : TypeId × Value → H} {w : World} {base : Nat} {spare : Nat → Bool} {held : Bool}
theorem src_open {fuel : Nat} {cs : List Value} {x : DataW H × List MemPlace} (h : DataW.trod enc Try.prog w base spare held fuel 30 cs = some x) :
    ∃ so sl sc bs, cs = [.slice so sl sc] ∧ Src w so sl bs ∧ sl ≤ sc ∧ sc ≤ maxLen ∧ ∀ x ∈ bs, 0 ≤ x ∧ x < 256 := by
  rcases open_ints Try.underlying30 Try.underlying5 (by kernel_rfl) h with ⟨hcs, -⟩ | ⟨a, len, cap, zs, hcs, -, hl, hm, hz, -, hcell, hwz⟩
  · exact ⟨none, 0, 0, [], hcs, Slab.Src.zero, Nat.le_refl _, by unfold maxLen; omega, by simp⟩
  · have hle : len ≤ zs.length := by rw [hz]; split <;> omega
    refine ⟨some a, len, cap, zs.take len, hcs, ⟨by simp; omega, fun hpos => ?_⟩, hl, hm, fun x hx => ?_⟩
    · obtain ⟨b, off, sp⟩ := a
      have c0 := hcell 0 (by omega)
      have hs : sp = none := by
        cases sp with
        | none => rfl
        | some s => simp only [Addr.add, if_pos rfl] at c0; unfold World.cell? at c0; split at c0 <;> simp at c0
      subst hs
      refine ⟨b, off, rfl, ?_, fun j hj => ?_⟩
      · have := World.block_lt_of_cell? _ _ c0; simpa [Addr.add] using this
      · have := hcell j (by omega)
        rw [Addr.add_lit] at this
        rw [this]
        simp [List.getD, List.getElem?_take, hj]
    · have := hwz x (List.mem_of_mem_take hx)
      have := bounds_u8 this
      omega
end
end Go.Proofs.Ytefcinifaaablaa.Ref15
