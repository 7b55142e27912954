/-
  append in a region that draws its order; what is left of the start heap.
-/
import Derived.Test.YtefcinifaaablaaMem
import Derived.Deep.RegionLaw
namespace Go.Sep
open Go.RowKit
set_option linter.unusedSimpArgs false
set_option linter.unusedVariables false
section
variable {P : Program} {ops : Array Oper} {o : Oper} {a : Act} {w : World} {K : Act → World → Prop} {Q : Exit → Act → World → Prop} {E : Prop}

theorem step_append_sep (hgd : o.guard = none) (s x : Operand) (t : TypeId) (ho : o.op = .call { callee := .builtin .append, args := #[s, x], argTypes := #[t, t] })
    (T : TypeId) (z : Value) (size bytes : Nat) (ht : P.underlying t = some (.slice T)) (hinfo : (P.info? T).map (fun i => (i.zero, i.size, i.bytes)) = some (some z, size, bytes)) (hzs : z.cells.size = size)
    {v : Value} {n : Nat} {xs : List Value} {F : Asr} (hs : a.eval s = v) (h : Holds w (rowA T size v n xs * F))
    (ad : Addr) (m c : Nat) (news : List Value) (hx : a.eval x = .slice (some ad) m c) (hl : news.length = m * size) (hnews : ∀ j u, news[j]? = some u → w.cell? (ad.add j) = some u) (h1 : ∀ u ∈ news, u.oneCell' = true)
    (h63 : n + m ≤ maxLen) (hbytes : (n + m) * bytes ≤ 140737488355328)
    (hk : ∀ v' w', Holds w' (rowA T size v' (n + m) (xs ++ news) * F) → Sm w w' → (v' = .slice none 0 0 ↔ v = .slice none 0 0 ∧ m = 0) → K (a.put o.dst v') w') :
    if Region.wanted o (yielded ops a.tmps) = true then Oper.wp P o a w K Q else E := by
  have hw : Region.wanted o (yielded ops a.tmps) = true := by simp [Region.wanted, hgd]
  rw [if_pos hw]
  obtain ⟨i, hi, hz, rfl, rfl⟩ := info_parts hinfo
  obtain ⟨v', w', hr, k1, k2, k3⟩ := run_append_sep (P := P) o.type ht hi hz hzs h ad m c news hl hnews h1 h63 hbytes
  subst hs
  rw [← hx] at hr
  unfold Oper.wp execOp
  simp only [ho, resolve, invoke, builtin, Sem.run_bind, Sem.run_pure, Result.andThen_ok, List.map_toArray, List.map_cons, List.map_nil, hr]
  exact hk v' w' k1 k2 k3

/-- what the start heap had is there -/
theorem all_cell {w wr : World} {A : Asr} (h : Holds wr (A * all w)) {p : Addr} {v : Value} (hc : w.cell? p = some v) : wr.cell? p = some v := by
  obtain ⟨x, rfl, k⟩ := h.right
  unfold World.cell? at hc ⊢
  cases hb : w.heap[p.block]? with
  | none => simp [hb] at hc
  | some o => rw [k _ _ hb]; rw [hb] at hc; exact hc
end
#print axioms step_append_sep
#print axioms all_cell
end Go.Sep
