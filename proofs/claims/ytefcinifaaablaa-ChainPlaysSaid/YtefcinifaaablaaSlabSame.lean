/-
  SlabPlays: 'same'; the calls as the statement uses them.
-/
import Derived.Test.YtefcinifaaablaaRef15f
import Derived.Test.YtefcinifaaablaaSlabActs
namespace Go.Proofs.Ytefcinifaaablaa.Ref15
open Go.RowKit Go.Sep
open Go.Proofs.Ytefcinifaaablaa.Slab (szOf szN szN_val zeros clsFor Ar hdl Src u8s ReadA ABlk)
set_option maxRecDepth 100000
set_option linter.unusedVariables false
set_option linter.unusedSimpArgs false

def hEnc (h : Int × Int × Int) : List Value := [.int .i64 h.1, .int .i64 h.2.1, .int .i64 h.2.2]
theorem hEnc_len (h : Int × Int × Int) : (hEnc h).length = 3 := rfl
theorem infoH : (Try.prog.info? 106).map (fun i => (i.zero, i.size, i.bytes)) = some (some (.agg #[.int .i64 0, .int .i64 0, .int .i64 0]), 3, 24) := by kernel_rfl

theorem src_all {w wq : World} {G : Asr} (h : Holds wq (G * all w)) {so : Option Addr} {sl : Nat} {bs : List Int} (hs : Src w so sl bs) : Src wq so sl bs := by
  refine ⟨hs.len, fun hp => ?_⟩
  obtain ⟨b, o, h1, h2, h3⟩ := hs.cell hp
  refine ⟨b, o, h1, ?_, fun j hj => all_cell h (h3 j hj)⟩
  exact World.block_lt_of_cell? _ _ (all_cell h (h3 0 hp))
theorem src_take {w : World} {so : Option Addr} {sl : Nat} {bs : List Int} (hs : Src w so sl bs) (m : Nat) (hm : m ≤ sl) : Src w so m (bs.take m) := by
  refine ⟨by rw [List.length_take, hs.len]; omega, fun hp => ?_⟩
  obtain ⟨b, o, h1, h2, h3⟩ := hs.cell (by omega)
  refine ⟨b, o, h1, h2, fun j hj => ?_⟩
  rw [h3 j (by omega)]
  simp [List.getD, List.getElem?_take, hj]

def SameC (w : World) (e : Ending) (w' : World) : Prop := e = .returned (.bool true) ∧ ∃ m, w' = w.drewN m

theorem allocL_len (X : Nat → Int) (L : List RBlk) (n : Int) (loc : Nat) : (allocL X L n loc).L.length ≤ L.length + 1 := by
  unfold allocL
  split
  · simp
  · simp only
    split
    · simp
    · split <;> simp [takeL]
theorem holdL_len (L : List RBlk) (c i g : Int) : (holdL L c i g).L.length = L.length := by
  unfold holdL; split
  · simp only; split <;> simp
  · rfl
theorem dropL_len (L : List RBlk) (c i g : Int) : (dropL L c i g).L.length = L.length := by
  unfold dropL; split
  · simp
  · rfl
theorem writeL_len (L : List RBlk) (c i g at_ : Int) (bs : List Int) : (writeL L c i g at_ bs).L.length = L.length := by
  unfold writeL; split
  · rfl
  · split
    · rfl
    · simp

/-! ### how many blocks of a class are in use -/
theorem countP_flip (l : List Nat) (hn : l.Nodup) (p q : Nat → Bool) (i0 : Nat) (hm : i0 ∈ l) (hp : p i0 = false) (hq : q i0 = true) (he : ∀ i ∈ l, i ≠ i0 → p i = q i) : l.countP q = l.countP p + 1 := by
  induction l with
  | nil => simp at hm
  | cons x l ih =>
    obtain ⟨h1, h2⟩ := List.nodup_cons.1 hn
    rw [List.countP_cons, List.countP_cons]
    by_cases e : x = i0
    · subst e
      have : l.countP q = l.countP p := by
        refine List.countP_congr fun y hy => ?_
        rw [he y (List.mem_cons_of_mem _ hy) (by rintro rfl; exact h1 hy)]
      rw [this, hp, hq]; simp
    · have hm' : i0 ∈ l := by
        rcases List.mem_cons.1 hm with h | h
        · exact absurd h.symm e
        · exact h
      rw [ih h2 hm' fun i hi hne => he i (List.mem_cons_of_mem _ hi) hne, he x (by simp) e]
      omega
def usedAt (L : List RBlk) (c : Int) (i : Nat) : Bool := L.any fun b => b.c == c && (b.i == (i : Int) && decide (0 < b.h))
theorem live_range (L : List RBlk) (c : Int) (n : Nat) (nd : L.Pairwise fun a b => a.c = b.c → a.i = b.i → False) (hr : ∀ b ∈ L, b.c = c → ∃ i : Nat, i < n ∧ b.i = i) :
    L.countP (liveP c) = (List.range n).countP (usedAt L c) := by
  induction L with
  | nil =>
    rw [List.countP_nil]
    symm
    rw [List.countP_eq_zero]
    intro i _
    simp [usedAt]
  | cons b L ih =>
    obtain ⟨n1, n2⟩ := List.pairwise_cons.1 nd
    have ih' := ih n2 fun b' hb' => hr b' (List.mem_cons_of_mem _ hb')
    rw [List.countP_cons, ih']
    cases hP : liveP c b with
    | false =>
      simp only [Bool.false_eq_true, if_false, Nat.add_zero]
      refine List.countP_congr fun i _ => ?_
      have : (b.c == c && (b.i == (i : Int) && decide (0 < b.h))) = false := by
        unfold liveP at hP
        cases e1 : b.c == c <;> cases e2 : decide (0 < b.h) <;> simp [e1, e2] at hP ⊢
      simp [usedAt, this]
    | true =>
      simp only [if_true]
      have hc : b.c = c := by unfold liveP at hP; simp at hP; exact hP.1
      have hh : 0 < b.h := by unfold liveP at hP; simp at hP; exact hP.2
      obtain ⟨i0, hi0, hbi⟩ := hr b (by simp) hc
      refine (countP_flip _ List.nodup_range _ _ i0 (List.mem_range.2 hi0) ?_ ?_ fun i _ hne => ?_).symm
      · unfold usedAt
        rw [List.any_eq_false]
        intro b' hb'
        have := n1 b' hb'
        simp only [Bool.and_eq_true, beq_iff_eq, decide_eq_true_eq, not_and]
        intro q1 q2
        exact (this (hc.trans q1.symm) (hbi.trans q2.symm)).elim
      · simp [usedAt, hc, hbi, hh]
      · have : (b.c == c && (b.i == (i : Int) && decide (0 < b.h))) = false := by
          have : (b.i == (i : Int)) = false := by simp [hbi]; omega
          simp [this]
        simp [usedAt, this]
theorem rel_live {A : List (List ABlk)} {L : List RBlk} (h : RelS A L) (c : Int) : liveL L c = Slab.liveA A c := by
  have nd : L.Pairwise fun a b => a.c = b.c → a.i = b.i → False := by
    rw [List.pairwise_iff_getElem]
    intro i j hi hj hij e1 e2
    have := h.nd i j hi hj e1 e2
    omega
  unfold liveL Slab.liveA
  by_cases hin : ∃ c' : Nat, c' < A.length ∧ c = c'
  · obtain ⟨c', hc', rfl⟩ := hin
    rw [if_pos (by omega), Int.toNat_natCast]
    have eA : A.getD c' [] = A[c'] := by simp [List.getD, hc']
    rw [eA, live_range L c' A[c'].length nd fun b hb hbc => by
      obtain ⟨k, hk, rfl⟩ := List.getElem_of_mem hb
      obtain ⟨c2, i2, p1, p2, d1, d2⟩ := h.dom k hk
      have : c2 = c' := by have := d1.symm.trans hbc; omega
      subst this
      exact ⟨i2, p2, d2⟩]
    have er : A[c'] = (List.range A[c'].length).map fun i => A[c'].getD i default := by
      apply List.ext_getElem
      · simp
      · intro i h1 h2; simp [List.getD, h1]
    conv => rhs; rw [er]
    rw [List.countP_map]
    refine List.countP_congr fun i hi => ?_
    have hi' : i < A[c'].length := List.mem_range.1 hi
    have eg : A[c'].getD i default = A[c'][i] := by simp [List.getD, hi']
    simp only [Function.comp, eg]
    have R := h.at_ c' i hc' hi'
    have W := h.wf.at_ c' i hc' hi'
    have e : usedAt L c' i = decide (0 < A[c'][i].held) := by
      unfold usedAt
      rw [Bool.eq_iff_iff, List.any_eq_true]
      constructor
      · rintro ⟨b, hb, hh⟩
        obtain ⟨k, hk, rfl⟩ := List.getElem_of_mem hb
        simp only [Bool.and_eq_true, beq_iff_eq, decide_eq_true_eq] at hh
        have hf := findI_key h.nd hk hh.1 hh.2.1
        have := (R.yes k hf hk).1
        simp only [decide_eq_true_eq]
        omega
      · intro hp
        simp only [decide_eq_true_eq] at hp
        cases hf : findI L c' i with
        | none => have := (R.no hf).1; omega
        | some k =>
          obtain ⟨hk, e1, e2⟩ := findI_is hf
          have := (R.yes k hf hk).1
          refine ⟨L[k], List.getElem_mem _, ?_⟩
          simp only [Bool.and_eq_true, beq_iff_eq, decide_eq_true_eq]
          exact ⟨e1, e2, by omega⟩
    rw [e]
  · have e1 : L.countP (liveP c) = 0 := by
      rw [List.countP_eq_zero]
      intro b hb hP
      obtain ⟨k, hk, rfl⟩ := List.getElem_of_mem hb
      obtain ⟨c2, i2, p1, p2, d1, -⟩ := h.dom k hk
      unfold liveP at hP
      simp at hP
      exact hin ⟨c2, p1, hP.1.symm.trans d1⟩
    rw [e1]
    split
    · have : A.getD c.toNat [] = [] := by
        rw [List.getD, List.getElem?_eq_none]
        · rfl
        · refine Nat.le_of_not_lt fun hlt => hin ⟨c.toNat, hlt, by omega⟩
      rw [this]; rfl
    · rfl
end Go.Proofs.Ytefcinifaaablaa.Ref15
