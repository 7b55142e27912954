/-
  Layer 17 (plain): a stripe under its operations.
-/
import Derived.Test.YtefcinifaaablaaStrP1
import Derived.Test.YtefcinifaaablaaStr9
namespace Go.Proofs.Ytefcinifaaablaa.Stripe
open Go.RowKit Go.Sep
set_option maxRecDepth 100000
set_option linter.unusedVariables false
set_option linter.unusedSimpArgs false

def entB (B : Bd) : List En := ents B.l ++ ents B.el
structure WC (nb i : Nat) (B : Bd) : Prop where
  l8 : 8 ≤ B.l.length
  lm : B.l.length ≤ 16384
  l4 : B.l.length % 4 = 0
  el : B.el.length ≤ B.l.length
  e4 : B.el.length % 4 = 0
  mv : B.moved ≤ B.el.length
  gone : ∀ j (hj : j < B.el.length), j < B.moved → B.el[j].st ≠ 1
  used : B.used = us B.l
  cnt : B.count = (entB B).length
  cm : B.count ≤ 4096
  rl : Reach B.l
  re : Reach B.el
  uq : ((entB B).map nmE).Nodup
  ky : ∀ s ∈ B.l ++ B.el, s.k.length ≤ 512
  hs : ∀ e ∈ entB B, hN e.1 e.2.1 % nb = i
theorem WC.bas {nb i : Nat} {B : Bd} (h : WC nb i B) : Bas B := by
  have h1 := h.l8
  have h2 := h.lm
  have h3 := h.el
  have h4 := us_le B.l
  have h5 := h.used
  exact ⟨by omega, by omega, by omega, by omega, h.mv, by have := h.cm; omega, fun s hs => by have := h.ky s (List.mem_append.2 (.inr hs)); omega⟩
theorem WC.ul {nb i : Nat} {B : Bd} (h : WC nb i B) : Uq B.l := by
  have := h.uq
  unfold entB at this
  rw [List.map_append] at this
  exact (List.nodup_append.1 this).1
theorem WC.ue {nb i : Nat} {B : Bd} (h : WC nb i B) : Uq B.el := by
  have := h.uq
  unfold entB at this
  rw [List.map_append] at this
  exact (List.nodup_append.1 this).2.1
theorem WC.apart {nb i : Nat} {B : Bd} (h : WC nb i B) {e e' : En} (h1 : e ∈ ents B.l) (h2 : e' ∈ ents B.el) : nmE e ≠ nmE e' := by
  have := h.uq
  unfold entB at this
  rw [List.map_append] at this
  exact (List.nodup_append.1 this).2.2 _ (List.mem_map.2 ⟨e, h1, rfl⟩) _ (List.mem_map.2 ⟨e', h2, rfl⟩)
theorem find_in {nb i : Nat} {B : Bd} (h : WC nb i B) {t : Int} {k : List UInt8} {v : Int} (hm : (t, k, v) ∈ entB B) : ∃ b j, findB B t k = some (b, j) ∧ slotAt B b j = ⟨1, t, k, v⟩ := by
  unfold entB at hm
  rcases List.mem_append.1 hm with h1 | h1
  · obtain ⟨j, hj, hst, e⟩ := mem_ents.1 h1
    simp only [Prod.mk.injEq] at e
    obtain ⟨e1, e2, e3⟩ := e
    have hs := seek_some h.rl h.ul hj hst
    rw [← e1, ← e2] at hs
    refine ⟨false, j, by unfold findB; rw [hs], ?_⟩
    unfold slotAt
    rw [if_neg (by simp), getD_at hj, e1, e2, e3, ← hst]
  · obtain ⟨j, hj, hst, e⟩ := mem_ents.1 h1
    simp only [Prod.mk.injEq] at e
    obtain ⟨e1, e2, e3⟩ := e
    have hs := seek_some h.re h.ue hj hst
    rw [← e1, ← e2] at hs
    have hn : seekL B.l t k = none := seek_none fun j2 hj2 q1 q2 q3 => h.apart (mem_ents.2 ⟨j2, hj2, q1, rfl⟩) h1 (by simp [nmE, q2, q3])
    refine ⟨true, j, by unfold findB; rw [hn, hs], ?_⟩
    unfold slotAt
    rw [if_pos rfl, getD_at hj, e1, e2, e3, ← hst]
theorem find_out {B : Bd} {t : Int} {k : List UInt8} (hm : ∀ v, (t, k, v) ∉ entB B) : findB B t k = none := by
  have h1 : seekL B.l t k = none := seek_none fun j hj q1 q2 q3 => hm B.l[j].v (List.mem_append.2 (.inl (mem_ents.2 ⟨j, hj, q1, by rw [q2, q3]⟩)))
  have h2 : seekL B.el t k = none := seek_none fun j hj q1 q2 q3 => hm B.el[j].v (List.mem_append.2 (.inr (mem_ents.2 ⟨j, hj, q1, by rw [q2, q3]⟩)))
  unfold findB
  rw [h1, h2]
theorem perm_mid {a b c : List En} : (a ++ (b ++ c)).Perm (b ++ (a ++ c)) := by
  rw [← List.append_assoc, ← List.append_assoc]
  exact List.Perm.append_right c List.perm_append_comm
theorem ent_setAt {B : Bd} {b : Bool} {j : Nat} (hp : PlOk B b j) (x : Sl) : ∃ rest, (entB B).Perm (ent1 (slotAt B b j) ++ rest) ∧ (entB (setAt B b j x)).Perm (ent1 x ++ rest) := by
  cases b with
  | false =>
    have hj : j < B.l.length := hp
    refine ⟨ents (B.l.take j) ++ (ents (B.l.drop (j + 1)) ++ ents B.el), ?_, ?_⟩
    · unfold entB slotAt
      rw [if_neg (by simp), getD_at hj, ents_at B.l j hj, List.append_assoc, List.append_assoc]
      exact perm_mid
    · unfold entB setAt
      simp only [Bool.false_eq_true, if_false]
      rw [ents_set B.l j hj x, List.append_assoc, List.append_assoc]
      exact perm_mid
  | true =>
    have hj : j < B.el.length := hp
    refine ⟨ents B.l ++ (ents (B.el.take j) ++ ents (B.el.drop (j + 1))), ?_, ?_⟩
    · unfold entB slotAt
      rw [if_pos rfl, getD_at hj, ents_at B.el j hj]
      refine (List.Perm.append_left _ perm_mid).trans ?_
      exact perm_mid
    · unfold entB setAt
      simp only [if_true]
      rw [ents_set B.el j hj x]
      refine (List.Perm.append_left _ perm_mid).trans ?_
      exact perm_mid
theorem u1_one {s : Sl} (h : s.st ≠ 0) : u1 s = 1 := by unfold u1; rw [if_neg h]
theorem us_same {l : List Sl} {j : Nat} (hj : j < l.length) {x : Sl} (h1 : l[j].st ≠ 0) (h2 : x.st ≠ 0) : us (l.set j x) = us l := by
  rw [us_set l j hj x, us_at l j hj, u1_one h1, u1_one h2]
theorem mem_setS {l : List Sl} {j : Nat} {x s : Sl} (h : s ∈ l.set j x) : s = x ∨ s ∈ l := by
  rcases List.mem_or_eq_of_mem_set h with h | h
  · exact .inr h
  · exact .inl h
/-- an entry's slot is changed: to another value, or to one that is gone -/
theorem wc_setAt {nb i : Nat} {B : Bd} (h : WC nb i B) {b : Bool} {j : Nat} (hp : PlOk B b j) (hs1 : (slotAt B b j).st = 1) (x : Sl) (hx0 : x.st ≠ 0) (hx : x.st = 1 → x.t = (slotAt B b j).t ∧ x.k = (slotAt B b j).k) (hk : x.k.length ≤ 512) : WC nb i { setAt B b j x with count := B.count - 1 + (ent1 x).length } := by
  obtain ⟨rest, p1, p2⟩ := ent_setAt hp x
  have hc1 : (ent1 (slotAt B b j)) = [((slotAt B b j).t, (slotAt B b j).k, (slotAt B b j).v)] := by unfold ent1; rw [if_pos hs1]
  have hlen : B.count = rest.length + 1 := by rw [h.cnt, p1.length_eq, hc1]; simp
  have hx1 : (ent1 x).length ≤ 1 := by unfold ent1; split <;> simp
  have hu : ((entB B).map nmE).Perm ((ent1 (slotAt B b j) ++ rest).map nmE) := p1.map nmE
  have hu2 := hu.nodup_iff.1 h.uq
  rw [hc1] at hu2
  simp only [List.singleton_append, List.map_cons, List.nodup_cons] at hu2
  have hnd : ((ent1 x ++ rest).map nmE).Nodup := by
    unfold ent1
    split
    · rename_i h1
      obtain ⟨e1, e2⟩ := hx h1
      simp only [List.singleton_append, List.map_cons, List.nodup_cons]
      refine ⟨?_, hu2.2⟩
      have := hu2.1
      simp only [nmE, e1, e2] at this ⊢
      exact this
    · simpa using hu2.2
  have hhs : ∀ e ∈ ent1 x ++ rest, hN e.1 e.2.1 % nb = i := by
    intro e he
    rcases List.mem_append.1 he with he | he
    · unfold ent1 at he
      split at he
      · rename_i h1
        obtain ⟨e1, e2⟩ := hx h1
        simp only [List.mem_singleton] at he
        subst he
        have := h.hs ((slotAt B b j).t, (slotAt B b j).k, (slotAt B b j).v) (p1.mem_iff.2 (by rw [hc1]; simp))
        simpa [e1, e2] using this
      · simp at he
    · exact h.hs e (p1.mem_iff.2 (List.mem_append.2 (.inr he)))
  have hcm := h.cm
  have HC : (entB { setAt B b j x with count := B.count - 1 + (ent1 x).length }) = entB (setAt B b j x) := rfl
  cases b with
  | false =>
    have hj : j < B.l.length := hp
    have hst : B.l[j].st = 1 := by have := hs1; unfold slotAt at this; rw [if_neg (by simp), getD_at hj] at this; exact this
    have hsl : slotAt B false j = B.l[j] := by unfold slotAt; rw [if_neg (by simp), getD_at hj]
    refine ⟨?_, ?_, ?_, ?_, h.e4, h.mv, h.gone, ?_, ?_, ?_, ?_, h.re, ?_, ?_, ?_⟩
    · simp only [setAt, Bool.false_eq_true, if_false, List.length_set]; exact h.l8
    · simp only [setAt, Bool.false_eq_true, if_false, List.length_set]; exact h.lm
    · simp only [setAt, Bool.false_eq_true, if_false, List.length_set]; exact h.l4
    · simp only [setAt, Bool.false_eq_true, if_false, List.length_set]; exact h.el
    · simp only [setAt, Bool.false_eq_true, if_false]; rw [us_same hj (by omega) hx0]; exact h.used
    · show _ = (entB (setAt B false j x)).length
      rw [p2.length_eq, List.length_append]; simp only; omega
    · simp only; omega
    · simp only [setAt, Bool.false_eq_true, if_false]
      refine reach_set h.rl j hj x hx0 fun h1 d hd e i2 hi2 => ?_
      obtain ⟨e1, e2⟩ := hx h1
      rw [hsl] at e1 e2
      rw [e1, e2] at e ⊢
      exact h.rl j hj hst d hd e i2 hi2
    · show ((entB (setAt B false j x)).map nmE).Nodup
      exact (p2.map nmE).nodup_iff.2 hnd
    · intro s hs
      simp only [setAt, Bool.false_eq_true, if_false] at hs
      rcases List.mem_append.1 hs with hs | hs
      · rcases mem_setS hs with rfl | hs
        · exact hk
        · exact h.ky s (List.mem_append.2 (.inl hs))
      · exact h.ky s (List.mem_append.2 (.inr hs))
    · intro e he
      exact hhs e (p2.mem_iff.1 he)
  | true =>
    have hj : j < B.el.length := hp
    have hst : B.el[j].st = 1 := by have := hs1; unfold slotAt at this; rw [if_pos rfl, getD_at hj] at this; exact this
    have hsl : slotAt B true j = B.el[j] := by unfold slotAt; rw [if_pos rfl, getD_at hj]
    refine ⟨h.l8, h.lm, h.l4, ?_, ?_, ?_, ?_, h.used, ?_, ?_, h.rl, ?_, ?_, ?_, ?_⟩
    · simp only [setAt, if_true, List.length_set]; exact h.el
    · simp only [setAt, if_true, List.length_set]; exact h.e4
    · simp only [setAt, if_true, List.length_set]; exact h.mv
    · intro j2 hj2 hm
      simp only [setAt, if_true] at hj2 hm ⊢
      by_cases e : j2 = j
      · subst e
        exact absurd hst (h.gone j2 hj hm)
      · rw [List.getElem_set_ne (Ne.symm e)]
        rw [List.length_set] at hj2
        exact h.gone j2 hj2 hm
    · show _ = (entB (setAt B true j x)).length
      rw [p2.length_eq, List.length_append]; simp only; omega
    · simp only; omega
    · simp only [setAt, if_true]
      refine reach_set h.re j hj x hx0 fun h1 d hd e i2 hi2 => ?_
      obtain ⟨e1, e2⟩ := hx h1
      rw [hsl] at e1 e2
      rw [e1, e2] at e ⊢
      exact h.re j hj hst d hd e i2 hi2
    · show ((entB (setAt B true j x)).map nmE).Nodup
      exact (p2.map nmE).nodup_iff.2 hnd
    · intro s hs
      simp only [setAt, if_true] at hs
      rcases List.mem_append.1 hs with hs | hs
      · exact h.ky s (List.mem_append.2 (.inl hs))
      · rcases mem_setS hs with rfl | hs
        · exact hk
        · exact h.ky s (List.mem_append.2 (.inr hs))
    · intro e he
      exact hhs e (p2.mem_iff.1 he)
/-- an entry is laid into a row -/
theorem lay_list {l : List Sl} (hr : Reach l) {t : Int} {k : List UInt8} {j : Nat} (v : Int) (hp : prb l t k pL = some j) : j < l.length ∧ Reach (l.set j ⟨1, t, k, v⟩) ∧ (ents (l.set j ⟨1, t, k, v⟩)).Perm ((t, k, v) :: ents l) ∧ us (l.set j ⟨1, t, k, v⟩) = us l + (if (l.getD j e0).st = 0 then 1 else 0) := by
  obtain ⟨hj, hpj⟩ := prb_lt hp
  have hs := prb_spec l t k pL
  rw [hp] at hs
  obtain ⟨d, hd, e, -, q⟩ := hs
  rw [getD_at hj] at hpj ⊢
  have hst : l[j].st ≠ 1 := by unfold pL at hpj; exact of_decide_eq_true hpj
  refine ⟨hj, reach_set hr j hj _ (by simp) fun _ d2 hd2 e2 i hi => ?_, ?_, ?_⟩
  · have : d2 = d := mod_inj hd2 hd (by rw [e2, e])
    subst this
    have h3 := q i hi
    unfold pL at h3
    have h4 := of_decide_eq_false h3
    intro h0
    exact h4 (by rw [h0]; simp)
  · rw [ents_set l j hj, ents_at l j hj]
    have h1 : ent1 l[j] = [] := by unfold ent1; rw [if_neg hst]
    have h2 : ent1 ⟨1, t, k, v⟩ = [(t, k, v)] := rfl
    rw [h1, h2, List.nil_append, List.singleton_append]
    exact List.perm_middle
  · rw [us_set l j hj, us_at l j hj]
    have h2 : u1 ⟨1, t, k, v⟩ = 1 := rfl
    rw [h2]
    by_cases h : l[j].st = 0
    · rw [if_pos h]; unfold u1; rw [if_pos h]; omega
    · rw [if_neg h, u1_one h]; omega
#print axioms wc_setAt
#print axioms lay_list
end Go.Proofs.Ytefcinifaaablaa.Stripe
