/-
  Layer 16, as plain data: what a chain's blocks hold, and what reading tells of it.
-/
import Derived.Test.YtefcinifaaablaaChainInv
import Derived.Test.YtefcinifaaablaaChain6
import Derived.Test.YtefcinifaaablaaChain7
namespace Go.Proofs.Ytefcinifaaablaa.Chain
open Go.RowKit Go.Sep
open Go.Proofs.Ytefcinifaaablaa.Slab (szOf szN szN_val clsFor ABlk allocA dropA dropB holdA writeA readA liveA freeA setA blkA rightA zeros Took)
open Go.Proofs.Ytefcinifaaablaa.Ref15 (WfA WfB ar_wf setA_len setA_row setA_get blkA_in blkA_cases)
set_option maxRecDepth 100000
set_option linter.unusedVariables false
set_option linter.unusedSimpArgs false

def blkB (A : List (List ABlk)) (h : Hd) : List Int := ((blkA A h.1 h.2.1).getD ⟨0, 0, []⟩).bytes
def cat (A : List (List ABlk)) (l : List Hd) : List Int := l.flatMap (blkB A)
/-- a right handle -/
def Rt (A : List (List ABlk)) (h : Hd) : Prop := ∃ (c i : Nat) (hc : c < A.length) (hi : i < A[c].length), h.1 = c ∧ h.2.1 = i ∧ A[c][i].held ≠ 0 ∧ A[c][i].gen = h.2.2
theorem Tk.rt {A : List (List ABlk)} {h : Hd} (T : Tk A h) : Rt A h := by
  obtain ⟨c, i, hc, hi, e1, e2, e3, e4⟩ := T
  exact ⟨c, i, hc, hi, e1, e2, by omega, e4⟩
theorem Rt.get {A : List (List ABlk)} {h : Hd} (R : Rt A h) (W : WfA A) : rightA A h.1 h.2.1 h.2.2 = true ∧ (blkA A h.1 h.2.1).getD default = (blkA A h.1 h.2.1).getD ⟨0, 0, []⟩ ∧ ((blkB A h).length : Int) = szOf h.1 ∧ (blkB A h).length ≤ 4096 ∧ ∃ j : Nat, j < 4 ∧ h.1 = j := by
  obtain ⟨c, i, hc, hi, e1, e2, e3, e4⟩ := R
  have hc4 : c < 4 := by have := W.len; omega
  have hb := blkA_in A c i hc hi
  unfold blkB rightA
  rw [e1, e2, hb]
  refine ⟨by simp [e3, e4], rfl, ?_, ?_, c, hc4, rfl⟩
  · have h1 := (W.at_ c i hc hi).len
    have h2 := szN_val c hc4
    simp only [Option.getD_some]
    rw [h1, h2.1]
  · have h1 := (W.at_ c i hc hi).len
    have h2 := szN_val c hc4
    simp only [Option.getD_some]
    rw [h1]; exact h2.2.2
theorem cat_len {A : List (List ABlk)} (W : WfA A) : ∀ (l : List Hd), (∀ h ∈ l, Rt A h) → ((cat A l).length : Int) = sizes l
  | [], _ => rfl
  | h :: l, hl => by
    have h1 := ((hl h (List.mem_cons_self ..)).get W).2.2.1
    have h2 := cat_len W l fun g hg => hl g (List.mem_cons_of_mem _ hg)
    have e1 : cat A (h :: l) = blkB A h ++ cat A l := rfl
    have e2 : sizes (h :: l) = szOf h.1 + sizes l := by simp [sizes]
    rw [e1, e2, List.length_append]
    omega
theorem read_rt {A : List (List ABlk)} (W : WfA A) {h : Hd} (R : Rt A h) (x n : Nat) (hh : x + n ≤ (blkB A h).length) (x' n' : Int) (hx : x' = x) (hn : n' = n) : (readA A h.1 h.2.1 h.2.2 x' n').b = ((blkB A h).drop x).take n := by
  subst hx
  subst hn
  obtain ⟨r1, r2, -⟩ := R.get W
  have e : ((blkA A h.1 h.2.1).getD default).bytes = blkB A h := by rw [r2]; rfl
  unfold readA
  rw [if_pos r1]
  simp only [e]
  rw [if_neg (by omega)]
  rfl
theorem rd_step {A : List (List ABlk)} (W : WfA A) {h : Hd} (R : Rt A h) (p n : Nat) (X : List Int) (s : Rd) (h1 : s.frm = X.length) (h2 : s.done = min n (X.length - p)) (h3 : s.out = (X.drop p).take n ++ List.replicate (n - s.done) 0) :
    (rdS A p n s h).frm = ((X ++ blkB A h).length : Nat) ∧ (rdS A p n s h).done = min n ((X ++ blkB A h).length - p) ∧ (rdS A p n s h).out = ((X ++ blkB A h).drop p).take n ++ List.replicate (n - (rdS A p n s h).done) 0 := by
  obtain ⟨-, -, hz, h9, -⟩ := R.get W
  obtain ⟨out, dn, fr⟩ := s
  simp only at h1 h2 h3
  obtain ⟨bb, hbb⟩ : ∃ q, blkB A h = q := ⟨_, rfl⟩
  have hrd := fun x m hh x' m' hx hm => read_rt W R x m hh x' m' hx hm
  rw [hbb] at hz h9 hrd ⊢
  have ha : (X ++ bb).drop p = X.drop p ++ bb.drop (p - X.length) := List.drop_append
  have hY : ((X.drop p).take n).length = dn := by simp; omega
  have hT : ((X ++ bb).drop p).take n = (X.drop p).take n ++ (bb.drop (p - X.length)).take (n - (X.drop p).length) := by rw [ha, List.take_append]
  unfold rdS
  by_cases hc : dn < n ∧ (p : Int) + dn - fr < szOf h.1
  · rw [if_pos hc]
    have hb : bit A p n ⟨out, dn, fr⟩ h = (bb.drop (p - X.length)).take (min (n - dn) (bb.length - (p - X.length))) := by
      unfold bit
      simp only
      refine hrd (p - X.length) (min (n - dn) (bb.length - (p - X.length))) (by omega) _ _ (by omega) ?_
      split <;> omega
    have hl : (bit A p n ⟨out, dn, fr⟩ h).length = min (n - dn) (bb.length - (p - X.length)) := by rw [hb]; simp
    simp only [hl]
    refine ⟨by rw [List.length_append]; omega, by rw [List.length_append]; omega, ?_⟩
    rw [hb, h3, hT]
    have e1 : ((X.drop p).take n ++ List.replicate (n - dn) (0 : Int)).take dn = (X.drop p).take n := by
      rw [List.take_append_of_le_length (by omega), List.take_of_length_le (by omega)]
    have e2 : ((X.drop p).take n ++ List.replicate (n - dn) (0 : Int)).drop (dn + min (n - dn) (bb.length - (p - X.length))) = List.replicate (n - (dn + min (n - dn) (bb.length - (p - X.length)))) 0 := by
      rw [List.drop_append, hY, List.drop_of_length_le (by omega), List.nil_append, List.drop_replicate]
      congr 1
      omega
    rw [e1, e2]
    congr 2
    have e3 : (X.drop p).length = dn := by simp; omega
    rw [e3]
    by_cases hle : n - dn ≤ bb.length - (p - X.length)
    · rw [Nat.min_eq_left hle]
    · rw [Nat.min_eq_right (by omega), List.take_of_length_le (by simp), List.take_of_length_le (by simp; omega)]
  · rw [if_neg hc]
    have hd : min n ((X ++ bb).length - p) = dn := by
      rw [List.length_append]
      omega
    refine ⟨by show fr + _ = _; rw [List.length_append]; omega, by show dn = _; rw [hd], ?_⟩
    show out = _
    rw [h3, hT]
    have e4 : (bb.drop (p - X.length)).take (n - (X.drop p).length) = [] := by
      by_cases hn : n ≤ (X.drop p).length
      · rw [Nat.sub_eq_zero_of_le hn, List.take_zero]
      · have e5 : bb.drop (p - X.length) = [] := List.drop_of_length_le (by rw [List.length_drop] at hn; omega)
        rw [e5, List.take_nil]
    rw [e4, List.append_nil]
theorem rd_all {A : List (List ABlk)} (W : WfA A) (l : List Hd) (hl : ∀ h ∈ l, Rt A h) (p n : Nat) (hn : p + n ≤ (cat A l).length) : (rdL A p n l).out = ((cat A l).drop p).take n := by
  have key : ∀ k, k ≤ l.length → (rdL A p n (l.take k)).frm = ((cat A (l.take k)).length : Nat) ∧ (rdL A p n (l.take k)).done = min n ((cat A (l.take k)).length - p) ∧ (rdL A p n (l.take k)).out = ((cat A (l.take k)).drop p).take n ++ List.replicate (n - (rdL A p n (l.take k)).done) 0 := by
    intro k
    induction k with
    | zero => intro _; simp [rdL, cat]
    | succ k ih =>
      intro hk
      obtain ⟨i1, i2, i3⟩ := ih (by omega)
      have hkl : k < l.length := by omega
      have e1 : rdL A p n (l.take (k + 1)) = rdS A p n (rdL A p n (l.take k)) l[k] := by
        rw [List.take_succ_eq_append_getElem hkl]
        unfold rdL
        rw [List.foldl_append]; rfl
      have e2 : cat A (l.take (k + 1)) = cat A (l.take k) ++ blkB A l[k] := by
        rw [List.take_succ_eq_append_getElem hkl]
        unfold cat
        rw [List.flatMap_append]
        simp only [List.flatMap_cons, List.flatMap_nil, List.append_nil]
      rw [e1, e2]
      exact rd_step W (hl _ (List.getElem_mem _)) p n _ _ i1 i2 i3
  obtain ⟨-, k2, k3⟩ := key l.length (Nat.le_refl _)
  rw [List.take_length] at k2 k3
  rw [k3, k2, Nat.min_eq_left (by omega)]
  simp
#print axioms rd_all
end Go.Proofs.Ytefcinifaaablaa.Chain
