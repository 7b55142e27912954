/-
  FramingBack: its arguments.
-/
import Derived.Test.YtibhnkkfaochhaaDoorLawFramingBack
import Derived.Test.YtibhnkkfaochhaaDoorRecs
import Derived.Lib.LaidTab
import Derived.Stop.LaidErr
namespace Go.Proofs.YtibhnkkfaochhaaDoor.Dec
open Go.RowKit Go.Sep Go.ChangeShapes Go.WideShapes Go.Deep
set_option linter.unusedSimpArgs false
set_option linter.unusedVariables false
set_option maxRecDepth 100000

section
variable {H : Type} {enc : TypeId × Value → H} {w : World} {base : Nat} {held : Bool}
theorem open_bytes {fuel : Nat} {cs : List Value} {x : DataW H × List MemPlace} (h : DataW.trod enc Tryd.prog w base (fun _ => true) held fuel 22 cs = some x) : ∃ a n c zs, cs = [.slice a n c] ∧ IsRow .u8 w a n c zs := by
  rcases open_ints Tryd.underlying22 Tryd.underlying5 (by kernel_rfl) h with ⟨hcs, _⟩ | ⟨x, l, c, zs, hcs, _, hl, hm, hz, _, hcell, hwz⟩
  · exact ⟨none, 0, 0, [], hcs, .inl ⟨rfl, rfl, rfl, rfl⟩⟩
  · exact ⟨some x, l, c, zs, hcs, .inr ⟨_, rfl, hl, hm, by simpa using hz, hcell, hwz⟩⟩
theorem open_longs {fuel : Nat} {cs : List Value} {x : DataW H × List MemPlace} (h : DataW.trod enc Tryd.prog w base (fun _ => true) held fuel 40 cs = some x) (hw : ∀ k ∈ x.1.weights Tryd.prog 40, k ≤ reachBytes) : ∃ a n c zs, cs = [.slice a n c] ∧ IsRow .i64 w a n c zs ∧ n ≤ 140737488355328 := by
  rcases open_ints Tryd.underlying40 Tryd.underlying3 (by kernel_rfl) h with ⟨hcs, _⟩ | ⟨a, l, c, zs, hcs, _, hl, hm, hz, hx, hcell, hwz⟩
  · exact ⟨none, 0, 0, [], hcs, .inl ⟨rfl, rfl, rfl, rfl⟩, by omega⟩
  · refine ⟨some a, l, c, zs, hcs, .inr ⟨_, rfl, hl, hm, by simpa using hz, hcell, hwz⟩, ?_⟩
    have hby : Tryd.prog.bytesOf 3 = 8 := by kernel_rfl
    have h1 := hw (((lits (H := H) .i64 (zs.take l)).length + (lits (H := H) .i64 (zs.drop l)).length) * Tryd.prog.bytesOf 3) (by rw [hx]; simp [DataW.weights, Tryd.underlying40])
    rw [hby] at h1
    simp [lits] at h1
    have hr : reachBytes = 140737488351232 := by decide
    simp at hz
    omega
theorem open_pieces {fuel : Nat} {cs : List Value} {x : DataW H × List MemPlace} (h : DataW.trod enc Tryd.prog w base (fun _ => true) held fuel 39 cs = some x) : ∃ a n c pl, cs = [.slice a n c] ∧ Pcs w a n c pl := by
  obtain ⟨ao, n, c, hcs, hr⟩ := open_recs (P := Tryd.prog) (C := 1) (Q := fun cs => ∃ ai li ci b, cs = [.slice ai li ci] ∧ ByS w ai li ci b) Tryd.underlying39 (by kernel_rfl) (by omega) (fun m cs' x' ht hl => by
    obtain ⟨a, l, c, zs, e, hz⟩ := open_bytes ht
    obtain ⟨b, hb⟩ := bys_row hz
    exact ⟨a, l, c, b, e, hb⟩) h
  rcases Nat.eq_zero_or_pos n with h0 | h0
  · subst h0
    exact ⟨ao, 0, c, [], hcs, rfl, fun h => absurd h (by omega)⟩
  · obtain ⟨g, o, rfl, hle, -, hi⟩ := hr h0
    have key : ∀ i, i < n → ∃ p : List UInt8, ∃ ai li ci, w.cell? ⟨g, o + i, none⟩ = some (.slice ai li ci) ∧ ByS w ai li ci p := by
      intro i hin
      obtain ⟨cs, -, ⟨ai, li, ci, b, rfl, hb⟩, hc⟩ := hi i hin
      have := hc 0 _ rfl
      simp only [Nat.mul_one, Nat.add_zero] at this
      exact ⟨b, ai, li, ci, this, hb⟩
    have key2 : ∀ i : Nat, ∃ p : List UInt8, i < n → ∃ ai li ci, w.cell? ⟨g, o + i, none⟩ = some (.slice ai li ci) ∧ ByS w ai li ci p := by
      intro i
      by_cases hin : i < n
      · obtain ⟨p, hp⟩ := key i hin
        exact ⟨p, fun _ => hp⟩
      · exact ⟨[], fun h => absurd h hin⟩
    obtain ⟨V, hV⟩ := Classical.axiomOfChoice key2
    refine ⟨some ⟨g, o, none⟩, n, c, (List.range n).map V, hcs, by simp, fun _ => ⟨g, o, rfl, fun i hi' => ?_⟩⟩
    have hin : i < n := by simpa using hi'
    simpa using hV i hin
end
theorem tab_of_laid {x1 x3 : String × DataW Unit} {r : List (String × DataW Unit)} {W : World} (h : laidMet Tryd.prog (x1 :: ("math/bits.deBruijn64tab", Lib.tabData .u8 [0, 1, 56, 2, 57, 49, 28, 3, 61, 58, 42, 50, 38, 29, 17, 4, 62, 47, 59, 36, 45, 43, 51, 22, 53, 39, 33, 30, 24, 18, 12, 5, 63, 55, 48, 27, 60, 41, 37, 16, 46, 35, 44, 21, 52, 32, 23, 11, 54, 26, 40, 15, 34, 20, 31, 10, 25, 14, 19, 9, 13, 8, 7, 6]) :: x3 :: r) W) : W.cell? ⟨5, 15, none⟩ = some (.int .u8 4) := by
  have hg : Tryd.prog.globalNamed "math/bits.deBruijn64tab" = some 5 := by kernel_rfl
  have h3 := Lib.tabIs_of_head hg (by kernel_rfl) Tryd.underlying120 Tryd.underlying5 (by kernel_rfl) (by kernel_rfl) h.tail
  exact (h3.cell hg 15 (by decide)).trans (by rfl)
#print axioms open_longs
#print axioms open_pieces
#print axioms tab_of_laid
end Go.Proofs.YtibhnkkfaochhaaDoor.Dec
