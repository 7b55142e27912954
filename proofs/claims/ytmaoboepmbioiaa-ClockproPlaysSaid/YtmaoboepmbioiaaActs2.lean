/-
  An argument that is a slice of records of two integers.
-/
import Derived.Test.YtmaoboepmbioiaaReg
import Derived.Deep.Slices
import Derived.Deep.Fields
import Derived.ChangeSame
namespace Go.Sep
open Go.RowKit Go.ChangeShapes Go.WideShapes Go.Deep
set_option linter.unusedSimpArgs false
set_option linter.unusedVariables false

def IsActs2 (w : World) (ao : Option Addr) (len cap : Nat) (zs : List (Int × Int)) : Prop :=
  (ao = none ∧ len = 0 ∧ cap = 0 ∧ zs = []) ∨
  ∃ x, ao = some x ∧ len ≤ cap ∧ cap ≤ maxLen ∧ zs.length = len ∧ ∀ i (h : i < zs.length), w.cell? (x.add (i * 2)) = some (.int .i64 zs[i].1) ∧ w.cell? (x.add (i * 2 + 1)) = some (.int .i64 zs[i].2) ∧ (Lit.int .i64 zs[i].1).wf = true ∧ (Lit.int .i64 zs[i].2).wf = true
theorem acts2_at {w : World} {a : Option Addr} {len cap : Nat} {zs : List (Int × Int)} (h : IsActs2 w a len cap zs) (hl : 0 < len) :
    ∃ b off, a = some ⟨b, off, none⟩ ∧ len ≤ cap ∧ zs.length = len ∧ b < w.heap.size ∧ (∀ i (h : i < zs.length), w.cell? ⟨b, off + i * 2, none⟩ = some (.int .i64 zs[i].1) ∧ w.cell? ⟨b, off + i * 2 + 1, none⟩ = some (.int .i64 zs[i].2)) ∧ ∀ i (h : i < zs.length), (Lit.int .i64 zs[i].1).wf = true ∧ (Lit.int .i64 zs[i].2).wf = true := by
  rcases h with ⟨rfl, rfl, _⟩ | ⟨x, rfl, h1, h2, h3, h4⟩
  · omega
  · obtain ⟨b, off, sp⟩ := x
    obtain ⟨c0, -, -, -⟩ := h4 0 (by omega)
    have hs : sp = none := by
      cases sp with
      | none => rfl
      | some s => simp only [Addr.add, if_pos rfl] at c0; unfold World.cell? at c0; split at c0 <;> simp at c0
    subst hs
    refine ⟨b, off, rfl, h1, h3, ?_, fun i hi => ?_, fun i hi => (h4 i hi).2.2⟩
    · have := World.block_lt_of_cell? _ _ c0; simpa [Addr.add] using this
    · obtain ⟨k0, k1, -, -⟩ := h4 i hi
      rw [Addr.add_lit] at k0 k1
      exact ⟨k0, by rw [Nat.add_assoc]; exact k1⟩
section
variable {H : Type} {enc : TypeId × Value → H} {P : Program} {w : World} {base : Nat} {spare : Nat → Bool} {held : Bool}
theorem open_acts2 {t e ti : TypeId} {f0 f1 : Field} {fuel : Nat} {cs : List Value} {x : DataW H × List MemPlace} (ht : P.underlying t = some (.slice e)) (he : P.underlying e = some (.struct #[f0, f1])) (h0 : P.underlying f0.type = some (.int .i64)) (h1 : P.underlying f1.type = some (.int .i64))
    (hone : oneCellFields P #[f0, f1] = true) (hC : P.cellsOf e = 2) (h : DataW.trod enc P w base spare held fuel t cs = some x) :
    (cs = [.slice none 0 0]) ∨ ∃ (a : Addr) (len cap : Nat) (zs : List (Int × Int)), cs = [.slice (some a) len cap] ∧ IsActs2 w (some a) len cap zs := by
  rcases open_slice ht h with h0 | ⟨a, len, cap, m, n, D, Pl, hcs, hb, hl, hm, hmm, hx, hi⟩
  · exact .inl h0.1
  · right
    have hlm : len ≤ m := by rw [hmm]; split <;> omega
    have key : ∀ i, i < len → ∃ z : Int × Int, w.cell? (a.add (i * 2)) = some (.int .i64 z.1) ∧ w.cell? (a.add (i * 2 + 1)) = some (.int .i64 z.2) ∧ (Lit.int .i64 z.1).wf = true ∧ (Lit.int .i64 z.2).wf = true := by
      intro i him
      obtain ⟨cs', hc, ht'⟩ := hi i (by omega)
      rw [hC] at hc
      obtain ⟨ys, n', hn', hy, hlen, hyl, hf⟩ := DataW.trod_struct he ht'
      obtain ⟨_, hcl, hat⟩ := World.cells?_some hc
      have hlen2 : cs'.length = 2 := by rw [hcl]
      have one : ∀ (j : Nat) (f : Field), j < 2 → #[f0, f1][j]? = some f → P.underlying f.type = some (.int .i64) → ∃ z : Int, w.cell? (a.add (i * 2 + j)) = some (.int .i64 z) ∧ (Lit.int .i64 z).wf = true := by
        intro j f hj hjf hu
        obtain ⟨ho, hk⟩ := hone_of hone j f hjf
        have hcell := hat j hj
        have hv : cs'[j]? = some (cs'[j]'(by omega)) := List.getElem?_eq_getElem (by omega)
        have h1 := hf j f hjf
        rw [ho, hk] at h1
        have hone' : (cs'.drop j).take 1 = [cs'[j]'(by omega)] := by
          rw [List.drop_eq_getElem_cons (by omega)]; rfl
        rw [hone'] at h1
        have hys : ys[j]? = some (ys[j]'(by have : ys.length = 2 := hyl; omega)) := List.getElem?_eq_getElem _
        obtain ⟨z, e1, -, hw⟩ := DataW.trod_int hu (h1.trans hys)
        simp at e1
        refine ⟨z, ?_, hw⟩
        rw [← Go.Deep.add_add, hcell, hv, e1]
      obtain ⟨z0, c0, w0⟩ := one 0 f0 (by omega) rfl h0
      obtain ⟨z1, c1, w1⟩ := one 1 f1 (by omega) rfl h1
      exact ⟨(z0, z1), c0, c1, w0, w1⟩
    have build : ∀ k, k ≤ len → ∃ zs : List (Int × Int), zs.length = k ∧ ∀ i (h : i < zs.length), w.cell? (a.add (i * 2)) = some (.int .i64 zs[i].1) ∧ w.cell? (a.add (i * 2 + 1)) = some (.int .i64 zs[i].2) ∧ (Lit.int .i64 zs[i].1).wf = true ∧ (Lit.int .i64 zs[i].2).wf = true := by
      intro k
      induction k with
      | zero => exact fun _ => ⟨[], rfl, fun i h => by simp at h⟩
      | succ k ih =>
        intro hk
        obtain ⟨zs, hz, hh⟩ := ih (by omega)
        obtain ⟨z, hz'⟩ := key k (by omega)
        refine ⟨zs ++ [z], by simp [hz], fun i hi => ?_⟩
        by_cases e : i < zs.length
        · rw [List.getElem_append_left e]; exact hh i e
        · obtain rfl : i = k := by simp at hi; omega
          rw [List.getElem_append_right (by omega)]
          simpa [hz] using hz'
    obtain ⟨zs, hz, hh⟩ := build len (Nat.le_refl _)
    exact ⟨a, len, cap, zs, hcs, .inr ⟨a, rfl, hl, hm, hz, hh⟩⟩
end
#print axioms open_acts2
end Go.Sep
