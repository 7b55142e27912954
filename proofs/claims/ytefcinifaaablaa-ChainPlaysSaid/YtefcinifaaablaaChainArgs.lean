/-
  ChainPlays: its arguments.
-/
import Derived.Test.YtefcinifaaablaaLawChainPlays
namespace Go.Proofs.Ytefcinifaaablaa.Chain
open Go.RowKit Go.Sep Go.ChangeShapes Go.WideShapes Go.Deep
set_option linter.unusedSimpArgs false
set_option linter.unusedVariables false
set_option maxRecDepth 100000
section
theorem plays_crow {H : Type} {enc : TypeId × Value → H} {base base1 : Nat} {d0 d1 : DataW H} {p0 p1 : List MemPlace} (v0 v1 : Value) (W : World) (ok0 : Value.okWide Try.prog W .any base 26 v0) (k0 : DataW.Trod enc Try.prog W 0 (fun _ => true) true 26 v0 d0 p0)
    (ok1 : Value.okWide Try.prog W .any base1 38 v1) (k1 : DataW.Trod enc Try.prog W 0 (fun _ => true) true 38 v1 d1 p1) :
    Calls Try.prog 5 #[v0, v1] W fun e w' => e = .returned (.bool true) ∧ Below W.heap.size W w' := by
  obtain ⟨f0, k0⟩ := k0
  obtain ⟨f1, k1⟩ := k1
  obtain ⟨x0, x1, x2, x3, rfl⟩ := arr4b Try.underlying26 Try.underlying3 (by kernel_rfl) (by kernel_rfl) ok0 k0
  obtain ⟨a1, len1, cap1, rfl⟩ := okWide_slice Try.underlying38 ok1
  obtain ⟨ao, len, cap, hcs, hz⟩ := open_recs (C := 5) (Q := QAct5 W) Try.underlying38 (by kernel_rfl) (by omega) (fun n cs' x' h hl => qact5 h hl) k1
  simp [Value.cells] at hcs
  obtain ⟨rfl, rfl, rfl⟩ := hcs
  exact cplays_walk x0 x1 x2 x3 _ _ _ W hz
end
#print axioms plays_crow
end Go.Proofs.Ytefcinifaaablaa.Chain
