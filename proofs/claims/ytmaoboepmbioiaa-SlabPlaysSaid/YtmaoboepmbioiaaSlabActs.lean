/-
  SlabPlays: its acts; the bytes of an act.
-/
import Derived.Test.YtmaoboepmbioiaaRecs
import Derived.Test.YtmaoboepmbioiaaSlabRW
namespace Go.Proofs.Ytmaoboepmbioiaa.Ref15
open Go.RowKit Go.Sep Go.ChangeShapes Go.WideShapes Go.Deep
open Go.Proofs.Ytmaoboepmbioiaa.Slab (Src)
set_option linter.unusedSimpArgs false
set_option linter.unusedVariables false
set_option maxRecDepth 100000

structure Act9 where
  (kd n k at_ h0 h1 h2 : Int)
  own : Bool
  so : Option Addr
  (sl sc : Nat)
  bs : List Int
def Act9.cells (a : Act9) : List Value := [.int .i64 a.kd, .int .i64 a.n, .int .i64 a.k, .int .i64 a.at_, .int .i64 a.h0, .int .i64 a.h1, .int .i64 a.h2, .bool a.own, .slice a.so a.sl a.sc]
structure OkAct (w : World) (a : Act9) : Prop where
  src : Src w a.so a.sl a.bs
  cap : a.sl ≤ a.sc
  big : a.sc ≤ maxLen
  byte : ∀ x ∈ a.bs, 0 ≤ x ∧ x < 256
def QAct (w : World) (cs : List Value) : Prop := ∃ a : Act9, cs = a.cells ∧ OkAct w a
section
variable {H : Type} {enc : TypeId × Value → H} {w : World} {base : Nat} {spare : Nat → Bool} {held : Bool}
theorem src_open {fuel : Nat} {cs : List Value} {x : DataW H × List MemPlace} (h : DataW.trod enc Try.prog w base spare held fuel 35 cs = some x) :
    ∃ so sl sc bs, cs = [.slice so sl sc] ∧ Src w so sl bs ∧ sl ≤ sc ∧ sc ≤ maxLen ∧ ∀ x ∈ bs, 0 ≤ x ∧ x < 256 := by
  rcases open_ints Try.underlying35 Try.underlying5 (by kernel_rfl) h with ⟨hcs, -⟩ | ⟨a, len, cap, zs, hcs, -, hl, hm, hz, -, hcell, hwz⟩
  · exact ⟨none, 0, 0, [], hcs, Slab.Src.zero, Nat.le_refl _, by unfold maxLen; omega, by simp⟩
  · have hle : len ≤ zs.length := by rw [hz]; split <;> omega
    refine ⟨some a, len, cap, zs.take len, hcs, ⟨by simp; omega, fun hpos => ?_⟩, hl, hm, fun x hx => ?_⟩
    · obtain ⟨b, off, sp⟩ := a
      have c0 := hcell 0 (by omega)
      have hs : sp = none := by
        cases sp with
        | none => rfl
        | some s => simp only [Addr.add, if_pos rfl] at c0; unfold World.cell? at c0; split at c0 <;> simp at c0
      subst hs
      refine ⟨b, off, rfl, ?_, fun j hj => ?_⟩
      · have := World.block_lt_of_cell? _ _ c0; simpa [Addr.add] using this
      · have := hcell j (by omega)
        rw [Addr.add_lit] at this
        rw [this]
        simp [List.getD, List.getElem?_take, hj]
    · have := hwz x (List.mem_of_mem_take hx)
      have := bounds_u8 this
      omega
theorem qact {n : Nat} {cs : List Value} {x : DataW H × List MemPlace} (h : DataW.trod enc Try.prog w base spare held n 37 cs = some x) (hl : cs.length = 9) : QAct w cs := by
  obtain ⟨xs, m, -, -, -, hxl, hf⟩ := DataW.trod_struct Try.underlying37 h
  have sm : ∀ i, i < 7 → xs[i]?.isSome = true := fun i hi => by rw [List.getElem?_eq_getElem (by rw [hxl]; exact hi)]; rfl
  have ci : Try.prog.cellsOf 3 = 1 := by kernel_rfl
  have cb : Try.prog.cellsOf 4 = 1 := by kernel_rfl
  have ch : Try.prog.cellsOf 34 = 3 := by kernel_rfl
  have cs1 : Try.prog.cellsOf 35 = 1 := by kernel_rfl
  obtain ⟨kd, e0, -⟩ := fld_int Try.underlying3 ci (hf 0 _ rfl) (sm 0 (by omega))
  obtain ⟨nn, e1, -⟩ := fld_int Try.underlying3 ci (hf 1 _ rfl) (sm 1 (by omega))
  obtain ⟨kk, e2, -⟩ := fld_int Try.underlying3 ci (hf 2 _ rfl) (sm 2 (by omega))
  obtain ⟨aa, e3, -⟩ := fld_int Try.underlying3 ci (hf 3 _ rfl) (sm 3 (by omega))
  obtain ⟨own, e7⟩ := fld_bool Try.underlying4 cb (hf 5 _ rfl) (sm 5 (by omega))
  have hh : DataW.trod enc Try.prog w base spare held m 34 ((cs.drop 4).take (Try.prog.cellsOf 34)) = xs[4]? := hf 4 _ rfl
  obtain ⟨y, hy⟩ := Option.isSome_iff_exists.1 (sm 4 (by omega))
  rw [hy] at hh
  obtain ⟨ys, m2, -, -, -, hyl, hg⟩ := DataW.trod_struct Try.underlying34 hh
  have sm2 : ∀ i, i < 3 → ys[i]?.isSome = true := fun i hi => by rw [List.getElem?_eq_getElem (by rw [hyl]; exact hi)]; rfl
  obtain ⟨h0, g0, -⟩ := fld_int Try.underlying3 ci (hg 0 _ rfl) (sm2 0 (by omega))
  obtain ⟨h1, g1, -⟩ := fld_int Try.underlying3 ci (hg 1 _ rfl) (sm2 1 (by omega))
  obtain ⟨h2, g2, -⟩ := fld_int Try.underlying3 ci (hg 2 _ rfl) (sm2 2 (by omega))
  have hb : DataW.trod enc Try.prog w base spare held m 35 ((cs.drop 8).take (Try.prog.cellsOf 35)) = xs[6]? := hf 6 _ rfl
  obtain ⟨z, hz⟩ := Option.isSome_iff_exists.1 (sm 6 (by omega))
  rw [hz] at hb
  obtain ⟨so, sl, sc, bs, hcs, s1, s2, s3, s4⟩ := src_open hb
  rw [cs1] at hcs
  rw [ch] at g0 g1 g2
  have e8 := congrArg (fun l : List Value => l[0]?) hcs
  match cs, hl with
  | [c0, c1, c2, c3, c4, c5, c6, c7, c8], _ =>
    simp at e0 e1 e2 e3 e7 e8 g0 g1 g2
    subst e0 e1 e2 e3 e7 e8 g0 g1 g2
    exact ⟨⟨kd, nn, kk, aa, h0, h1, h2, own, so, sl, sc, bs⟩, rfl, s1, s2, s3, s4⟩
end
#print axioms qact
end Go.Proofs.Ytmaoboepmbioiaa.Ref15
