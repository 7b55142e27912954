/-
  Arguments that are slices of records, and arrays of four integers.
-/
import Derived.Test.YtibhnkkfaochhaaDoorReg
import Derived.Deep.Slices
import Derived.Deep.Fields
import Derived.ChangeSame
import Derived.OpenShut
namespace Go.Sep
open Go.RowKit Go.ChangeShapes Go.WideShapes Go.Deep
set_option linter.unusedSimpArgs false
set_option linter.unusedVariables false

/-- A slice of records of C cells, each of which is as Q says. -/
def IsRecs (w : World) (C : Nat) (Q : List Value → Prop) (ao : Option Addr) (len cap : Nat) : Prop :=
  0 < len → ∃ b off, ao = some ⟨b, off, none⟩ ∧ len ≤ cap ∧ b < w.heap.size ∧ ∀ i, i < len → ∃ cs, cs.length = C ∧ Q cs ∧ ∀ j v, cs[j]? = some v → w.cell? ⟨b, off + i * C + j, none⟩ = some v
section
variable {H : Type} {enc : TypeId × Value → H} {P : Program} {w : World} {base : Nat} {spare : Nat → Bool} {held : Bool}
theorem open_recs {t e : TypeId} {fuel C : Nat} {Q : List Value → Prop} {cs : List Value} {x : DataW H × List MemPlace} (ht : P.underlying t = some (.slice e)) (hC : P.cellsOf e = C) (hC0 : 0 < C)
    (hQ : ∀ n cs' x', DataW.trod enc P w base spare held n e cs' = some x' → cs'.length = C → Q cs') (h : DataW.trod enc P w base spare held fuel t cs = some x) :
    ∃ ao len cap, cs = [.slice ao len cap] ∧ IsRecs w C Q ao len cap := by
  rcases open_slice ht h with h0 | ⟨a, len, cap, m, n, D, Pl, hcs, hb, hl, hm, hmm, hx, hi⟩
  · exact ⟨none, 0, 0, h0.1, fun h => by omega⟩
  · refine ⟨some a, len, cap, hcs, fun hpos => ?_⟩
    have hlm : len ≤ m := by rw [hmm]; split <;> omega
    have key : ∀ i, i < len → ∃ cs', cs'.length = C ∧ Q cs' ∧ ∀ j v, cs'[j]? = some v → w.cell? ((a.add (i * C)).add j) = some v := by
      intro i him
      obtain ⟨cs', hc, ht'⟩ := hi i (by omega)
      rw [hC] at hc
      obtain ⟨_, hcl, hat⟩ := World.cells?_some hc
      refine ⟨cs', hcl, hQ _ _ _ ht' hcl, fun j v hv => ?_⟩
      have hj : j < C := by have := (List.getElem?_eq_some_iff.1 hv).1; omega
      rw [hat j hj]; exact hv
    obtain ⟨b, off, sp⟩ := a
    obtain ⟨cs0, hl0, -, hc0⟩ := key 0 hpos
    have hv0 : cs0[0]? = some (cs0[0]'(by omega)) := List.getElem?_eq_getElem (by omega)
    have c0 := hc0 0 _ hv0
    have hs : sp = none := by
      cases sp with
      | none => rfl
      | some s => rw [Go.Deep.add_add] at c0; simp only [Addr.add, Nat.zero_mul, Nat.add_zero, if_pos rfl] at c0; unfold World.cell? at c0; split at c0 <;> simp at c0
    subst hs
    refine ⟨b, off, rfl, hl, ?_, fun i hi' => ?_⟩
    · have := World.block_lt_of_cell? _ _ c0; simpa [Addr.add] using this
    · obtain ⟨cs', h1, h2, h3⟩ := key i hi'
      refine ⟨cs', h1, h2, fun j v hv => ?_⟩
      have := h3 j v hv
      rw [Addr.add_lit, Addr.add_lit] at this
      exact this
/-- one of a record's fields is an integer -/
theorem fld_int {ti : TypeId} {k : IntKind} {n o : Nat} {cs : List Value} {x : Option (DataW H × List MemPlace)} (hk : P.underlying ti = some (.int k)) (hc : P.cellsOf ti = 1) (h : DataW.trod enc P w base spare held n ti ((cs.drop o).take (P.cellsOf ti)) = x) (hx : x.isSome = true) : ∃ z, cs[o]? = some (.int k z) ∧ (Lit.int k z).wf = true := by
  obtain ⟨y, rfl⟩ := Option.isSome_iff_exists.1 hx
  obtain ⟨z, e, -, hw⟩ := DataW.trod_int hk h
  rw [hc] at e
  refine ⟨z, ?_, hw⟩
  have := congrArg (fun l : List Value => l[0]?) e
  simp at this
  exact this
theorem fld_bool {ti : TypeId} {n o : Nat} {cs : List Value} {x : Option (DataW H × List MemPlace)} (hk : P.underlying ti = some .bool) (hc : P.cellsOf ti = 1) (h : DataW.trod enc P w base spare held n ti ((cs.drop o).take (P.cellsOf ti)) = x) (hx : x.isSome = true) : ∃ z, cs[o]? = some (.bool z) := by
  obtain ⟨y, rfl⟩ := Option.isSome_iff_exists.1 hx
  obtain ⟨z, e, -⟩ := DataW.trod_bool hk h
  rw [hc] at e
  refine ⟨z, ?_⟩
  have := congrArg (fun l : List Value => l[0]?) e
  simp at this
  exact this
theorem fld_string {ti : TypeId} {n o : Nat} {cs : List Value} {x : Option (DataW H × List MemPlace)} (hk : P.underlying ti = some .string) (hc : P.cellsOf ti = 1) (h : DataW.trod enc P w base spare held n ti ((cs.drop o).take (P.cellsOf ti)) = x) (hx : x.isSome = true) : ∃ z, cs[o]? = some (.string z) ∧ z.size ≤ maxLen := by
  obtain ⟨y, rfl⟩ := Option.isSome_iff_exists.1 hx
  obtain ⟨z, e, -, hw⟩ := DataW.trod_string hk h
  rw [hc] at e
  refine ⟨z, ?_, by simpa using hw⟩
  have := congrArg (fun l : List Value => l[0]?) e
  simp at this
  exact this
/-- an array of four integers -/
theorem open_arr4 {t e : TypeId} {fuel : Nat} {v : Value} {x : DataW H × List MemPlace} (ht : P.underlying t = some (.array 4 e)) (he : P.underlying e = some (.int .i64)) (hc : P.cellsOf e = 1) (hct : P.cellsOf t = 4)
    (hok : Value.okWide P w .any base t v) (h : DataW.trod enc P w base spare held fuel t v.cells.toList = some x) : ∃ x0 x1 x2 x3 : Int, v = .agg #[.int .i64 x0, .int .i64 x1, .int .i64 x2, .int .i64 x3] := by
  have hv : ∃ cs, v = .agg cs := by
    simp only [Value.okWide, ht] at hok
    obtain ⟨cs, h1, -⟩ := hok
    exact ⟨cs, h1⟩
  obtain ⟨cs, rfl⟩ := hv
  obtain ⟨xs, m, -, -, hl, hxl, hf⟩ := DataW.trod_array ht h
  have one : ∀ i, i < 4 → ∃ z, (Value.agg cs).cells.toList[i]? = some (.int .i64 z) := by
    intro i hi
    have h1 := hf i hi
    rw [hc, Nat.mul_one] at h1
    rw [← hc] at h1
    obtain ⟨z, hz, -⟩ := fld_int he hc h1 (by rw [List.getElem?_eq_getElem (by omega)]; rfl)
    exact ⟨z, hz⟩
  obtain ⟨x0, e0⟩ := one 0 (by omega)
  obtain ⟨x1, e1⟩ := one 1 (by omega)
  obtain ⟨x2, e2⟩ := one 2 (by omega)
  obtain ⟨x3, e3⟩ := one 3 (by omega)
  have hcs : (Value.agg cs).cells.toList = cs.toList := rfl
  rw [hct, hcs] at hl
  rw [hcs] at e0 e1 e2 e3
  refine ⟨x0, x1, x2, x3, ?_⟩
  congr 1
  apply Array.ext'
  match h : cs.toList, hl with
  | [a, b, c, d], _ =>
    rw [h] at e0 e1 e2 e3
    simp at e0 e1 e2 e3
    subst e0 e1 e2 e3
    rfl
end
#print axioms open_recs
#print axioms open_arr4
end Go.Sep
