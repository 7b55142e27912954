/-
  Arguments that are slices of fields: opened, with the bounds of their sizes.
-/
import Derived.Test.YtefcinifaaablaaDoorLawFramingOf
import Derived.Test.YtefcinifaaablaaDoorRecs
import Derived.SizedLaws
namespace Go.Proofs.YtefcinifaaablaaDoor.Tok
open Go.RowKit Go.Sep Go.ChangeShapes Go.WideShapes Go.Deep
set_option maxRecDepth 100000
set_option linter.unusedVariables false
set_option linter.unusedSimpArgs false

theorem weightsAll_mem {H : Type} (P : Program) (e : TypeId) : ∀ (l : List (DataW H)) (d : DataW H) (k : Nat), d ∈ l → k ∈ d.weights P e → k ∈ DataW.weightsAll P e l
  | x :: r, d, k, h, hk => by
    rw [DataW.weightsAll]
    rcases List.mem_cons.1 h with rfl | h
    · exact List.mem_append_left _ hk
    · exact List.mem_append_right _ (weightsAll_mem P e r d k h hk)
section
variable {H : Type} {enc : TypeId × Value → H} {w : World} {base : Nat} {spare : Nat → Bool} {held : Bool}
theorem open_fields {fuel : Nat} {cs : List Value} {x : DataW H × List MemPlace} (h : DataW.trod enc Tryd.prog w base spare held fuel 29 cs = some x) (hw : ∀ k ∈ x.1.weights Tryd.prog 29, k ≤ reachBytes) :
    ∃ ao n cap fs, cs = [.slice ao n cap] ∧ ArgF w ao n fs := by
  rcases open_slice Tryd.underlying29 h with h0 | ⟨a, len, cap, m, n, D, Pl, hcs, hb, hl, hm, hmm, hx, hi⟩
  · exact ⟨none, 0, 0, [], h0.1, ⟨rfl, fun h => by omega⟩, fun f hf => (by cases hf), by omega⟩
  · have hlm : len ≤ m := by rw [hmm]; split <;> omega
    have hC : Tryd.prog.cellsOf 28 = 2 := by kernel_rfl
    have hcs1 : Tryd.prog.cellsOf 9 = 1 := by kernel_rfl
    have hby : Tryd.prog.bytesOf 28 = 32 := by kernel_rfl
    have hwx : ∀ k ∈ DataW.weights Tryd.prog 29 (DataW.slice ((List.range len).map D) ((List.range (m - len)).map fun j => D (len + j))), k ≤ reachBytes := by rw [hx] at hw; exact hw
    have hlen : len ≤ 140737488351232 := by
      have := hwx ((((List.range len).map D).length + ((List.range (m - len)).map fun j => D (len + j)).length) * Tryd.prog.bytesOf 28) (by simp [DataW.weights, Tryd.underlying29])
      rw [hby] at this
      simp at this
      have hr : reachBytes = 140737488351232 := by decide
      omega
    have key : ∀ i, i < len → ∃ q : ByteArray × ByteArray, (w.cell? ((a.add (i * 2)).add 0) = some (.string q.1) ∧ w.cell? ((a.add (i * 2)).add 1) = some (.string q.2)) ∧ q.1.size ≤ 140737488351232 ∧ q.2.size ≤ 140737488351232 := by
      intro i him
      obtain ⟨cs', hc, ht'⟩ := hi i (by omega)
      rw [hC] at hc
      obtain ⟨_, hcl, hat⟩ := World.cells?_some hc
      obtain ⟨y0, y1, n2, hD, -, t0, t1⟩ := trod_struct2 Tryd.underlying28 ht'
      obtain ⟨s0, e0, hy0, -⟩ := DataW.trod_string Tryd.underlying9 t0
      obtain ⟨s1, e1, hy1, -⟩ := DataW.trod_string Tryd.underlying9 t1
      have hDi : D i = .agg [.lit (.string s0.data.toList), .lit (.string s1.data.toList)] := by
        have := congrArg Prod.fst hD
        simp only at this
        rw [this, hy0, hy1]
      have hmem : ∀ k ∈ (D i).weights Tryd.prog 28, k ≤ reachBytes := by
        intro k hk
        refine hwx k ?_
        have : D i ∈ (List.range len).map D := List.mem_map.2 ⟨i, List.mem_range.2 him, rfl⟩
        have h2 := weightsAll_mem Tryd.prog 28 _ _ k this hk
        simp only [DataW.weights, Tryd.underlying29]
        exact List.mem_cons_of_mem _ (List.mem_append_left _ h2)
      rw [hDi] at hmem
      have hr : reachBytes = 140737488351232 := by decide
      have m0 := hmem s0.data.toList.length (by simp [DataW.weights, DataW.weightsEach, Tryd.underlying28])
      have m1 := hmem s1.data.toList.length (by simp [DataW.weights, DataW.weightsEach, Tryd.underlying28])
      rw [hr] at m0 m1
      match cs', hcl with
      | [c0, c1], _ =>
        rw [hcs1] at e0 e1
        simp at e0 e1
        subst e0 e1
        refine ⟨(s0, s1), ⟨?_, ?_⟩, by simpa using m0, by simpa using m1⟩
        · exact hat 0 (by omega)
        · exact hat 1 (by omega)
    obtain ⟨V, hV⟩ := choose_lt key
    refine ⟨some a, len, cap, (List.range len).map V, hcs, ⟨by simp, fun hpos => ?_⟩, fun f hf => ?_, hlen⟩
    · obtain ⟨b, off, sp⟩ := a
      have c0 := (hV 0 hpos).1.1
      have hs : sp = none := by
        cases sp with
        | none => rfl
        | some s => rw [Go.Deep.add_add] at c0; simp only [Addr.add, Nat.zero_mul, Nat.add_zero, if_pos rfl] at c0; unfold World.cell? at c0; split at c0 <;> simp at c0
      subst hs
      refine ⟨b, off, rfl, ?_, fun i hi' => ?_⟩
      · have := World.block_lt_of_cell? _ _ c0; simpa [Addr.add] using this
      · have hil : i < len := by simpa using hi'
        obtain ⟨⟨d0, d1⟩, -, -⟩ := hV i hil
        rw [Addr.add_lit, Addr.add_lit, Nat.add_zero] at d0
        rw [Addr.add_lit, Addr.add_lit] at d1
        simp only [List.getElem_map, List.getElem_range]
        exact ⟨d0, d1⟩
    · obtain ⟨i, hi', rfl⟩ := List.mem_map.1 hf
      exact (hV i (List.mem_range.1 hi')).2
end
#print axioms open_fields
end Go.Proofs.YtefcinifaaablaaDoor.Tok
