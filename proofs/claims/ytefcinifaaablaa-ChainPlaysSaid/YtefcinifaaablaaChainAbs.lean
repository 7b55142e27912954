/-
  Layer 16, as plain data: what Alloc, Drop and Write do to the blocks in use.
-/
import Derived.Test.YtefcinifaaablaaSlabRel
import Derived.Test.YtefcinifaaablaaChain2
namespace Go.Proofs.Ytefcinifaaablaa.Chain
open Go.RowKit Go.Sep
open Go.Proofs.Ytefcinifaaablaa.Slab (szOf szN szN_val clsFor ABlk allocA dropA dropB writeA liveA freeA setA blkA rightA zeros Took)
open Go.Proofs.Ytefcinifaaablaa.Ref15 (WfA WfB ar_wf setA_len setA_row setA_get blkA_in)
set_option linter.unusedVariables false
set_option linter.unusedSimpArgs false

theorem free_lt {l : List ABlk} (hh : ∀ b ∈ l, 0 ≤ b.held) (h : l.countP (fun b => decide (0 < b.held)) < l.length) : freeA l < l.length := by
  unfold freeA
  refine List.findIdx_lt_length_of_exists ?_
  refine Classical.byContradiction fun hno => ?_
  have : l.countP (fun b => decide (0 < b.held)) = l.length := by
    rw [List.countP_eq_length]
    intro b hb
    have h0 := hh b hb
    have h1 : ¬ (b.held == 0) = true := fun e => hno ⟨b, hb, e⟩
    simp at h1 ⊢
    omega
  omega
theorem alloc_free {A : List (List ABlk)} {j : Nat} (hj : j < A.length) (hj4 : j < 4) (hf : freeA A[j] < A[j].length) :
    ∃ (i : Nat) (hi : i < A[j].length), A[j][i].held = 0 ∧ allocA A (szOf j) = ⟨setA A j i ⟨1, wrap64 (A[j][i].gen + 1), A[j][i].bytes⟩, ((j : Int), (i : Int), wrap64 (A[j][i].gen + 1)), 0⟩ := by
  have hs := szOf_64 j hj4
  refine ⟨freeA A[j], hf, ?_, ?_⟩
  · have := List.findIdx_getElem (xs := A[j]) (p := fun b : ABlk => b.held == 0) (w := hf)
    have : (A[j][freeA A[j]].held == 0) = true := this
    simpa using this
  · unfold allocA
    rw [if_neg (by omega)]
    have eA : A.getD j [] = A[j] := by simp [List.getD, hj]
    simp only [clsFor_sz j hj4, Int.toNat_natCast, eA]
    rw [if_neg (by omega)]
    have eD : A[j].getD (freeA A[j]) default = A[j][freeA A[j]] := by simp [List.getD, hf]
    rw [eD]
theorem alloc_full {A : List (List ABlk)} {j : Nat} (hj : j < A.length) (hj4 : j < 4) (hf : ¬ freeA A[j] < A[j].length) : allocA A (szOf j) = ⟨A, (0, 0, 0), 14⟩ := by
  have hs := szOf_64 j hj4
  unfold allocA
  rw [if_neg (by omega)]
  have eA : A.getD j [] = A[j] := by simp [List.getD, hj]
  simp only [clsFor_sz j hj4, Int.toNat_natCast, eA]
  have : freeA A[j] ≤ A[j].length := List.findIdx_le_length
  rw [if_pos (by omega)]
theorem WfA.set {A : List (List ABlk)} (W : WfA A) {c i : Nat} {b : ABlk} (hb : WfB (szN c) b) : WfA (setA A c i b) := by
  refine ⟨by rw [setA_len]; exact W.len, fun c2 i2 q1 q2 => ?_⟩
  have p1 : c2 < A.length := by rw [setA_len] at q1; exact q1
  have p2 : i2 < A[c2].length := by rw [setA_row q1 p1] at q2; exact q2
  rw [setA_get q1 q2 p1 p2]
  by_cases e : c = c2 ∧ i = i2
  · rw [if_pos e]; obtain ⟨rfl, rfl⟩ := e; exact hb
  · rw [if_neg e]; exact W.at_ c2 i2 p1 p2
theorem live_row {A : List (List ABlk)} {c : Nat} (h : c < A.length) : liveA A c = A[c].countP fun b => decide (0 < b.held) := by
  unfold liveA
  rw [if_pos (by omega), Int.toNat_natCast]
  simp [List.getD, h]
theorem live_set {A : List (List ABlk)} {c i : Nat} {b : ABlk} (h : c < A.length) (hi : i < A[c].length) (d : Nat) (hd : d < A.length) :
    liveA (setA A c i b) d + (if c = d ∧ 0 < A[c][i].held then 1 else 0) = liveA A d + (if c = d ∧ 0 < b.held then 1 else 0) := by
  rw [live_row hd, live_row (by rw [setA_len]; exact hd)]
  by_cases e : c = d
  · subst e
    have er : (setA A c i b)[c]'(by rw [setA_len]; exact hd) = A[c].set i b := by simp [setA, List.getElem_modify]
    rw [er, List.countP_set (h := hi)]
    have hle : (if decide (0 < A[c][i].held) = true then 1 else 0) ≤ A[c].countP fun b => decide (0 < b.held) := by
      split
      · rename_i hp
        exact List.countP_pos_iff.2 ⟨A[c][i], List.getElem_mem _, hp⟩
      · omega
    obtain ⟨n, hn⟩ : ∃ n, A[c].countP (fun b => decide (0 < b.held)) = n := ⟨_, rfl⟩
    rw [hn] at hle ⊢
    by_cases h1 : 0 < A[c][i].held <;> by_cases h2 : 0 < b.held <;> simp [h1, h2] at hle ⊢ <;> omega
  · have er : (setA A c i b)[d]'(by rw [setA_len]; exact hd) = A[d] := by
      simp only [setA, List.getElem_modify]
      rw [if_neg (by simpa using e)]
    rw [er]
    simp [e]
end Go.Proofs.Ytefcinifaaablaa.Chain
