/-
  append of a row onto the empty slice made last: at a step of a region that draws its order. The row may be nil.
-/
import Derived.Test.YtefcinifaaablaaReg
namespace Go.Sep
open Go.RowKit
set_option linter.unusedSimpArgs false
set_option linter.unusedVariables false
section
variable {P : Program} {ops : Array Oper} {o : Oper} {a : Act} {w : World} {K : Act → World → Prop} {Q : Exit → Act → World → Prop} {E : Prop}

theorem run_append_dup {T t : TypeId} (ty : TypeId) {i : TypeInfo} {z : Value} (ht : P.underlying t = some (.slice T)) (hi : P.info? T = some i) (hz : i.zero = some z) (hzs : z.cells.size = i.size)
    {g m cap : Nat} {ao : Option Addr} {ys : List Value} {F : Asr} (h : Holds w (rowA T i.size (.slice (some ⟨g, 0, none⟩) 0 0) 0 [] * (rowA T i.size (.slice ao m cap) m ys * F)))
    (h1 : ∀ u ∈ ys, u.oneCell' = true) (h63 : m ≤ maxLen) (hbytes : m * i.bytes ≤ 140737488355328) :
    ∃ ao' cap' w', (Builtin.append_ #[t, t] ty #[.slice (some ⟨g, 0, none⟩) 0 0, .slice ao m cap]).run P w = .ok (.slice ao' m cap') w' ∧ Holds w' (rowA T i.size (.slice ao' m cap') m ys * (rowA T i.size (.slice ao m cap) m ys * F)) ∧ Sm w w' := by
  have hq := h.eqv (star_left_comm _ _ _)
  rcases (rowA_cases hq).2 with ⟨e, hm, hF⟩ | ⟨g2, cp, cur, e, k1, k2, k3, k4, k5⟩
  · simp only [Value.slice.injEq] at e
    obtain ⟨rfl, -, rfl⟩ := e
    subst hm
    have hys : ys = [] := by have := (rowA_cases hq).1; simpa using this
    subst hys
    refine ⟨some ⟨g, 0, none⟩, 0, w, ?_, h, Sm.refl w⟩
    simp [Builtin.append_, run_underlying ht, sizeOf, typeInfo, hi, Builtin.lenOf, Builtin.firstCells, loadCells, loadCellsFrom, storeCells]
  · simp only [Value.slice.injEq] at e
    obtain ⟨rfl, -, rfl⟩ := e
    have hl := (rowA_cases hq).1
    have hn : ∀ j u, ys[j]? = some u → w.cell? ((⟨g2, 0, none⟩ : Addr).add j) = some u := by
      intro j u hu
      have hj := (List.getElem?_eq_some_iff.1 hu).1
      rcases Nat.eq_zero_or_pos m with hm | hm
      · subst hm; simp at hl; subst hl; simp at hj
      obtain ⟨g3, cap3, e3, -, -, hc, -⟩ := rowA_cell hq hm
      simp at e3
      obtain ⟨rfl, -⟩ := e3
      rw [Addr.add_lit, Nat.zero_add, hc j (by rw [← hl]; exact hj)]
      exact hu
    obtain ⟨v', w', hr, q1, q2, q3⟩ := run_append_sep (P := P) ty ht hi hz hzs h ⟨g2, 0, none⟩ m cap ys hl hn h1 (by omega) (by simpa using hbytes)
    simp only [Nat.zero_add, List.nil_append] at q1
    obtain ⟨ao', cap', rfl, -⟩ := rowA_slice q1
    exact ⟨ao', cap', w', hr, q1, q2⟩

theorem step_append_dup (hgd : o.guard = none) (s x : Operand) (t : TypeId) (ho : o.op = .call { callee := .builtin .append, args := #[s, x], argTypes := #[t, t] })
    (T : TypeId) (z : Value) (size bytes : Nat) (ht : P.underlying t = some (.slice T)) (hinfo : (P.info? T).map (fun i => (i.zero, i.size, i.bytes)) = some (some z, size, bytes)) (hzs : z.cells.size = size)
    {g m cap : Nat} {ao : Option Addr} {ys : List Value} {F : Asr} (hs : a.eval s = .slice (some ⟨g, 0, none⟩) 0 0) (hx : a.eval x = .slice ao m cap)
    (h : Holds w (rowA T size (.slice (some ⟨g, 0, none⟩) 0 0) 0 [] * (rowA T size (.slice ao m cap) m ys * F)))
    (h1 : ∀ u ∈ ys, u.oneCell' = true) (h63 : m ≤ maxLen) (hbytes : m * bytes ≤ 140737488355328)
    (hk : ∀ ao' cap' w', Holds w' (rowA T size (.slice ao' m cap') m ys * (rowA T size (.slice ao m cap) m ys * F)) → Sm w w' → K (a.put o.dst (.slice ao' m cap')) w') :
    if Region.wanted o (yielded ops a.tmps) = true then Oper.wp P o a w K Q else E := by
  have hw : Region.wanted o (yielded ops a.tmps) = true := by simp [Region.wanted, hgd]
  rw [if_pos hw]
  obtain ⟨i, hi, hz, rfl, rfl⟩ := info_parts hinfo
  obtain ⟨ao', cap', w', hr, k1, k2⟩ := run_append_dup (P := P) o.type ht hi hz hzs h h1 h63 hbytes
  rw [← hs, ← hx] at hr
  unfold Oper.wp execOp
  simp only [ho, resolve, invoke, builtin, Sem.run_bind, Sem.run_pure, Result.andThen_ok, List.map_toArray, List.map_cons, List.map_nil, hr]
  exact hk ao' cap' w' k1 k2
end
#print axioms run_append_dup
#print axioms step_append_dup
end Go.Sep
