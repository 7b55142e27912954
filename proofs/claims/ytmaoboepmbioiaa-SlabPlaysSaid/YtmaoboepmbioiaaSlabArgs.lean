/-
  SlabPlays: the arguments of the statement.
-/
import Derived.Test.YtmaoboepmbioiaaLawSlabPlays
namespace Go.Proofs.Ytmaoboepmbioiaa.Ref15
open Go.RowKit Go.Sep
set_option maxRecDepth 100000
set_option linter.unusedVariables false
set_option linter.unusedSimpArgs false
section
open Go.ChangeShapes Go.WideShapes
theorem open_arr4b {H : Type} {enc : TypeId × Value → H} {P : Program} {w : World} {base b2 : Nat} {spare : Nat → Bool} {held : Bool} {t e : TypeId} {fuel : Nat} {v : Value} {x : DataW H × List MemPlace} (ht : P.underlying t = some (.array 4 e)) (he : P.underlying e = some (.int .i64)) (hc : P.cellsOf e = 1) (hct : P.cellsOf t = 4)
    (hok : Value.okWide P w .any b2 t v) (h : DataW.trod enc P w base spare held fuel t v.cells.toList = some x) : ∃ x0 x1 x2 x3 : Int, v = .agg #[.int .i64 x0, .int .i64 x1, .int .i64 x2, .int .i64 x3] := by
  have hv : ∃ cs, v = .agg cs := by
    simp only [Value.okWide, ht] at hok
    obtain ⟨cs, h1, -⟩ := hok
    exact ⟨cs, h1⟩
  obtain ⟨cs, rfl⟩ := hv
  obtain ⟨xs, m, -, -, hl, hxl, hf⟩ := DataW.trod_array ht h
  have one : ∀ i, i < 4 → ∃ z, (Value.agg cs).cells.toList[i]? = some (.int .i64 z) := by
    intro i hi
    have h1 := hf i hi
    rw [hc, Nat.mul_one] at h1
    rw [← hc] at h1
    obtain ⟨z, hz, -⟩ := fld_int he hc h1 (by rw [List.getElem?_eq_getElem (by omega)]; rfl)
    exact ⟨z, hz⟩
  obtain ⟨x0, e0⟩ := one 0 (by omega)
  obtain ⟨x1, e1⟩ := one 1 (by omega)
  obtain ⟨x2, e2⟩ := one 2 (by omega)
  obtain ⟨x3, e3⟩ := one 3 (by omega)
  have hcs : (Value.agg cs).cells.toList = cs.toList := rfl
  rw [hct, hcs] at hl
  rw [hcs] at e0 e1 e2 e3
  refine ⟨x0, x1, x2, x3, ?_⟩
  congr 1
  apply Array.ext'
  match h : cs.toList, hl with
  | [a, b, c, d], _ =>
    rw [h] at e0 e1 e2 e3
    simp at e0 e1 e2 e3
    subst e0 e1 e2 e3
    rfl
theorem plays_row {H : Type} {enc : TypeId × Value → H} {base base1 : Nat} {d0 d1 : DataW H} {p0 p1 : List MemPlace} (v0 v1 : Value) (W : World) (ok0 : Value.okWide Try.prog W .any base 22 v0) (k0 : DataW.Trod enc Try.prog W 0 (fun _ => true) true 22 v0 d0 p0)
    (ok1 : Value.okWide Try.prog W .any base1 23 v1) (k1 : DataW.Trod enc Try.prog W 0 (fun _ => true) true 23 v1 d1 p1) :
    Calls Try.prog 3 #[v0, v1] W fun e w' => e = .returned (.bool true) ∧ Below W.heap.size W w' := by
  obtain ⟨f0, k0⟩ := k0
  obtain ⟨f1, k1⟩ := k1
  obtain ⟨x0, x1, x2, x3, rfl⟩ := open_arr4b Try.underlying22 Try.underlying3 (by kernel_rfl) (by kernel_rfl) ok0 k0
  obtain ⟨a1, len1, cap1, rfl⟩ := okWide_slice Try.underlying23 ok1
  obtain ⟨ao, len, cap, hcs, hz⟩ := open_recs (C := 9) (Q := QAct W) Try.underlying23 (by kernel_rfl) (by omega) (fun n cs' x' h hl => qact h hl) k1
  simp [Value.cells] at hcs
  obtain ⟨rfl, rfl, rfl⟩ := hcs
  exact plays_walk x0 x1 x2 x3 _ _ _ W hz
end
#print axioms plays_row
end Go.Proofs.Ytmaoboepmbioiaa.Ref15
