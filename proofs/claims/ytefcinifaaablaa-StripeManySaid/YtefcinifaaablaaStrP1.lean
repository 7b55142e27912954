/-
  Layer 17 (plain): rows of slots: entries, what a probe finds.
-/
import Derived.Test.YtefcinifaaablaaStr5
namespace Go.Proofs.Ytefcinifaaablaa.Stripe
open Go.RowKit Go.Sep
set_option maxRecDepth 100000
set_option linter.unusedVariables false
set_option linter.unusedSimpArgs false

abbrev En := Int × List UInt8 × Int
def ent1 (s : Sl) : List En := if s.st = 1 then [(s.t, s.k, s.v)] else []
def ents (l : List Sl) : List En := l.flatMap ent1
def u1 (s : Sl) : Nat := if s.st = 0 then 0 else 1
def us (l : List Sl) : Nat := (l.map u1).sum
def nmE (e : En) : Int × List UInt8 := (e.1, e.2.1)
theorem split_at (l : List Sl) (j : Nat) (hj : j < l.length) : l = l.take j ++ l[j] :: l.drop (j + 1) := by
  rw [← List.drop_eq_getElem_cons hj, List.take_append_drop]
theorem set_at (l : List Sl) (j : Nat) (hj : j < l.length) (x : Sl) : l.set j x = l.take j ++ x :: l.drop (j + 1) := List.set_eq_take_append_cons_drop ▸ by rw [if_pos hj]
theorem ents_app (a b : List Sl) : ents (a ++ b) = ents a ++ ents b := by simp [ents]
theorem ents_cons (s : Sl) (l : List Sl) : ents (s :: l) = ent1 s ++ ents l := by simp [ents]
theorem ents_at (l : List Sl) (j : Nat) (hj : j < l.length) : ents l = ents (l.take j) ++ (ent1 l[j] ++ ents (l.drop (j + 1))) := by
  conv => lhs; rw [split_at l j hj]
  rw [ents_app, ents_cons]
theorem ents_set (l : List Sl) (j : Nat) (hj : j < l.length) (x : Sl) : ents (l.set j x) = ents (l.take j) ++ (ent1 x ++ ents (l.drop (j + 1))) := by
  rw [set_at l j hj x, ents_app, ents_cons]
theorem us_cons (s : Sl) (l : List Sl) : us (s :: l) = u1 s + us l := by simp [us]
theorem us_app (a b : List Sl) : us (a ++ b) = us a + us b := by simp [us]
theorem u1_le (s : Sl) : u1 s ≤ 1 := by unfold u1; split <;> omega
theorem us_at (l : List Sl) (j : Nat) (hj : j < l.length) : us l = us (l.take j) + (u1 l[j] + us (l.drop (j + 1))) := by
  conv => lhs; rw [split_at l j hj]
  rw [us_app, us_cons]
theorem us_set (l : List Sl) (j : Nat) (hj : j < l.length) (x : Sl) : us (l.set j x) = us (l.take j) + (u1 x + us (l.drop (j + 1))) := by
  rw [set_at l j hj x, us_app, us_cons]
theorem us_le : ∀ l : List Sl, us l ≤ l.length
  | [] => Nat.le_refl _
  | s :: l => by
    have h1 := us_le l
    have h2 := u1_le s
    rw [us_cons, List.length_cons]
    omega
theorem us_empty : ∀ l : List Sl, us l < l.length → ∃ j, j < l.length ∧ (l.getD j e0).st = 0
  | [], h => absurd h (by simp [us])
  | s :: l, h => by
    by_cases hs : s.st = 0
    · exact ⟨0, by simp, hs⟩
    · have h1 : u1 s = 1 := by unfold u1; rw [if_neg hs]
      rw [us_cons, h1, List.length_cons] at h
      obtain ⟨j, hj, h2⟩ := us_empty l (by omega)
      exact ⟨j + 1, by simpa using hj, h2⟩
theorem mem_ents {l : List Sl} {e : En} : e ∈ ents l ↔ ∃ j, ∃ (hj : j < l.length), l[j].st = 1 ∧ e = (l[j].t, l[j].k, l[j].v) := by
  unfold ents
  rw [List.mem_flatMap]
  constructor
  · rintro ⟨s, hs, he⟩
    obtain ⟨j, hj, rfl⟩ := List.getElem_of_mem hs
    unfold ent1 at he
    split at he
    · rename_i h1
      exact ⟨j, hj, h1, by simpa using he⟩
    · simp at he
  · rintro ⟨j, hj, h1, rfl⟩
    exact ⟨l[j], List.getElem_mem hj, by unfold ent1; rw [if_pos h1]; simp⟩
theorem getD_at {l : List Sl} {j : Nat} (hj : j < l.length) : l.getD j e0 = l[j] := by rw [List.getD_eq_getElem?_getD, List.getElem?_eq_getElem hj, Option.getD_some]
theorem getD_set (l : List Sl) (j i : Nat) (x : Sl) (hj : j < l.length) : (l.set j x).getD i e0 = if i = j then x else l.getD i e0 := by
  by_cases h : i = j
  · subst h
    rw [if_pos rfl, getD_at (by rw [List.length_set]; exact hj), List.getElem_set_self]
  · rw [if_neg h, List.getD_eq_getElem?_getD, List.getElem?_set_ne (by omega), ← List.getD_eq_getElem?_getD]
/-- what a probe finds -/
theorem prbF_spec (l : List Sl) (a : Nat) (p : Sl → Bool) : ∀ m i, match prbF l a p i m with
    | none => ∀ d, i ≤ d → d < i + m → p (l.getD ((a + d) % l.length) e0) = false
    | some j => ∃ d, i ≤ d ∧ d < i + m ∧ j = (a + d) % l.length ∧ p (l.getD j e0) = true ∧ ∀ d', i ≤ d' → d' < d → p (l.getD ((a + d') % l.length) e0) = false
  | 0, i => by
    show ∀ d, _
    intro d h1 h2
    omega
  | m + 1, i => by
    rw [prbF]
    by_cases hp : p (l.getD ((a + i) % l.length) e0) = true
    · rw [if_pos hp]
      exact ⟨i, Nat.le_refl _, by omega, rfl, hp, fun d' h1 h2 => by omega⟩
    · rw [if_neg hp]
      have ih := prbF_spec l a p m (i + 1)
      cases h : prbF l a p (i + 1) m with
      | none =>
        rw [h] at ih
        intro d h1 h2
        by_cases e : d = i
        · subst e; simpa using hp
        · exact ih d (by omega) (by omega)
      | some j =>
        rw [h] at ih
        obtain ⟨d, q1, q2, q3, q4, q5⟩ := ih
        refine ⟨d, by omega, by omega, q3, q4, fun d' h1 h2 => ?_⟩
        by_cases e : d' = i
        · subst e; simpa using hp
        · exact q5 d' (by omega) h2
theorem prb_spec (l : List Sl) (t : Int) (k : List UInt8) (p : Sl → Bool) : match prb l t k p with
    | none => ∀ d, d < l.length → p (l.getD ((at0 l t k + d) % l.length) e0) = false
    | some j => ∃ d, d < l.length ∧ j = (at0 l t k + d) % l.length ∧ p (l.getD j e0) = true ∧ ∀ d', d' < d → p (l.getD ((at0 l t k + d') % l.length) e0) = false := by
  have h := prbF_spec l (at0 l t k) p l.length 0
  unfold prb
  cases hh : prbF l (at0 l t k) p 0 l.length with
  | none =>
    rw [hh] at h
    exact fun d hd => h d (Nat.zero_le _) (by omega)
  | some j =>
    rw [hh] at h
    obtain ⟨d, -, q2, q3, q4, q5⟩ := h
    exact ⟨d, by omega, q3, q4, fun d' hd => q5 d' (Nat.zero_le _) hd⟩
theorem reach_all (n a j : Nat) (hj : j < n) (ha : a < n) : ∃ d, d < n ∧ (a + d) % n = j := by
  by_cases h : a ≤ j
  · exact ⟨j - a, by omega, by rw [show a + (j - a) = j by omega]; exact Nat.mod_eq_of_lt hj⟩
  · exact ⟨n + j - a, by omega, by rw [show a + (n + j - a) = n + j by omega, Nat.add_mod_left]; exact Nat.mod_eq_of_lt hj⟩
theorem mod_inj {n a d d' : Nat} (hd : d < n) (hd' : d' < n) (h : (a + d) % n = (a + d') % n) : d = d' := by
  have h1 := Nat.div_add_mod (a + d) n
  have h2 := Nat.div_add_mod (a + d') n
  rw [h] at h1
  have h3 : n * ((a + d) / n) + d' = n * ((a + d') / n) + d := by omega
  by_cases hlt : (a + d) / n = (a + d') / n
  · rw [hlt] at h3; omega
  · rcases Nat.lt_or_gt_of_ne hlt with h4 | h4
    · have : n * ((a + d) / n + 1) ≤ n * ((a + d') / n) := Nat.mul_le_mul_left _ h4
      rw [Nat.mul_add, Nat.mul_one] at this
      omega
    · have : n * ((a + d') / n + 1) ≤ n * ((a + d) / n) := Nat.mul_le_mul_left _ h4
      rw [Nat.mul_add, Nat.mul_one] at this
      omega
theorem at0_lt {l : List Sl} (h0 : 0 < l.length) (t : Int) (k : List UInt8) : at0 l t k < l.length := by
  unfold at0
  rw [Nat.max_eq_left h0]
  exact Nat.mod_lt _ h0
theorem prb_room {l : List Sl} (h : us l < l.length) (t : Int) (k : List UInt8) : prb l t k pL ≠ none := by
  intro hn
  obtain ⟨j, hj, h0⟩ := us_empty l h
  have hs := prb_spec l t k pL
  rw [hn] at hs
  obtain ⟨d, hd, e⟩ := reach_all l.length (at0 l t k) j hj (at0_lt (by omega) t k)
  have := hs d hd
  rw [e] at this
  unfold pL at this
  have h2 := of_decide_eq_false this
  omega
/-- no empty slot stands ahead of an entry -/
def Reach (l : List Sl) : Prop := ∀ j (hj : j < l.length), l[j].st = 1 → ∀ d, d < l.length → (at0 l l[j].t l[j].k + d) % l.length = j → ∀ i, i < d → (l.getD ((at0 l l[j].t l[j].k + i) % l.length) e0).st ≠ 0
theorem at0_set (l : List Sl) (j : Nat) (x : Sl) (t : Int) (k : List UInt8) : at0 (l.set j x) t k = at0 l t k := by unfold at0; rw [List.length_set]
/-- a slot that is changed, and not to empty -/
theorem reach_set {l : List Sl} (h : Reach l) (j : Nat) (hj : j < l.length) (x : Sl) (hx0 : x.st ≠ 0) (hx : x.st = 1 → ∀ d, d < l.length → (at0 l x.t x.k + d) % l.length = j → ∀ i, i < d → (l.getD ((at0 l x.t x.k + i) % l.length) e0).st ≠ 0) : Reach (l.set j x) := by
  intro j2 hj2 h1 d hd e i hi
  rw [List.length_set] at hj2 hd e ⊢
  rw [at0_set] at e ⊢
  rw [getD_set l j _ x hj]
  split
  · exact hx0
  · by_cases hjj : j2 = j
    · subst hjj
      simp only [List.getElem_set_self] at h1 e ⊢
      exact hx h1 d hd e i hi
    · simp only [List.getElem_set_ne (Ne.symm hjj)] at h1 e ⊢
      exact h j2 hj2 h1 d hd e i hi
/-- one name, one entry -/
def Uq (l : List Sl) : Prop := ((ents l).map nmE).Nodup
theorem nodup_mem {α β : Type _} (f : α → β) : ∀ (l : List α), (l.map f).Nodup → ∀ {x y}, x ∈ l → y ∈ l → f x = f y → x = y
  | [], _, x, y, hx, _, _ => by cases hx
  | a :: l, h, x, y, hx, hy, e => by
    rw [List.map_cons, List.nodup_cons] at h
    rcases List.mem_cons.1 hx with h1 | h1
    · rcases List.mem_cons.1 hy with h2 | h2
      · rw [h1, h2]
      · exact absurd (List.mem_map.2 ⟨y, h2, by rw [← e, h1]⟩) h.1
    · rcases List.mem_cons.1 hy with h2 | h2
      · exact absurd (List.mem_map.2 ⟨x, h1, by rw [e, h2]⟩) h.1
      · exact nodup_mem f l h.2 h1 h2 e
theorem uq_slot : ∀ {l : List Sl}, Uq l → ∀ {i j : Nat} (hi : i < l.length) (hj : j < l.length), l[i].st = 1 → l[j].st = 1 → l[i].t = l[j].t → l[i].k = l[j].k → i = j
  | [], _, i, j, hi, _, _, _, _, _ => by simp at hi
  | s :: l, h, i, j, hi, hj, h1, h2, e1, e2 => by
    unfold Uq at h
    rw [ents_cons, List.map_append] at h
    have hl : Uq l := (List.nodup_append.1 h).2.1
    have hx := (List.nodup_append.1 h).2.2
    cases i with
    | zero =>
      cases j with
      | zero => rfl
      | succ j =>
        simp only [List.getElem_cons_zero, List.getElem_cons_succ] at h1 h2 e1 e2
        have hj' : j < l.length := by simpa using hj
        exact absurd (show (s.t, s.k) = (s.t, s.k) from rfl) (hx (s.t, s.k) (by unfold ent1; rw [if_pos h1]; simp [nmE]) (s.t, s.k) (List.mem_map.2 ⟨(l[j].t, l[j].k, l[j].v), mem_ents.2 ⟨j, hj', h2, rfl⟩, by simp [nmE, e1, e2]⟩))
    | succ i =>
      have hi' : i < l.length := by simpa using hi
      cases j with
      | zero =>
        simp only [List.getElem_cons_zero, List.getElem_cons_succ] at h1 h2 e1 e2
        exact absurd (show (s.t, s.k) = (s.t, s.k) from rfl) (hx (s.t, s.k) (by unfold ent1; rw [if_pos h2]; simp [nmE]) (s.t, s.k) (List.mem_map.2 ⟨(l[i].t, l[i].k, l[i].v), mem_ents.2 ⟨i, hi', h1, rfl⟩, by simp [nmE, e1, e2]⟩))
      | succ j =>
        have hj' : j < l.length := by simpa using hj
        simp only [List.getElem_cons_succ] at h1 h2 e1 e2
        rw [uq_slot hl hi' hj' h1 h2 e1 e2]
/-- what seek finds -/
theorem seek_some {l : List Sl} (hr : Reach l) (hu : Uq l) {j : Nat} (hj : j < l.length) (h1 : l[j].st = 1) : seekL l l[j].t l[j].k = some j := by
  have hs := prb_spec l l[j].t l[j].k (pS l[j].t l[j].k)
  obtain ⟨d, hd, e⟩ := reach_all l.length (at0 l l[j].t l[j].k) j hj (at0_lt (by omega) _ _)
  unfold seekL
  cases hp : prb l l[j].t l[j].k (pS l[j].t l[j].k) with
  | none =>
    rw [hp] at hs
    have := hs d hd
    rw [e, getD_at hj] at this
    unfold pS at this
    have := of_decide_eq_false this
    exact absurd (.inr ⟨h1, rfl, rfl⟩) this
  | some j2 =>
    rw [hp] at hs
    obtain ⟨d2, hd2, e2, q, qq⟩ := hs
    simp only
    have hj2 : j2 < l.length := by rw [e2]; exact Nat.mod_lt _ (by omega)
    rw [getD_at hj2] at q ⊢
    unfold pS at q
    have q2 := of_decide_eq_true q
    have hle : d2 ≤ d := by
      rcases Nat.lt_or_ge d d2 with h | h
      · have := qq d h
        rw [e, getD_at hj] at this
        unfold pS at this
        have := of_decide_eq_false this
        exact absurd (.inr ⟨h1, rfl, rfl⟩) this
      · exact h
    have hst : l[j2].st ≠ 0 := by
      by_cases h : d2 = d
      · have e3 : j2 = j := by rw [e2, h, e]
        subst e3; omega
      · have := hr j hj h1 d hd e d2 (by omega)
        rw [← e2, getD_at hj2] at this
        exact this
    rw [if_neg hst]
    rcases q2 with q2 | ⟨q2, q3, q4⟩
    · exact absurd q2 hst
    · rw [uq_slot hu hj2 hj q2 h1 q3 q4]
theorem seek_none {l : List Sl} {t : Int} {k : List UInt8} (h : ∀ j (hj : j < l.length), l[j].st = 1 → l[j].t = t → l[j].k = k → False) : seekL l t k = none := by
  have hs := prb_spec l t k (pS t k)
  unfold seekL
  cases hp : prb l t k (pS t k) with
  | none => rfl
  | some j2 =>
    rw [hp] at hs
    obtain ⟨d2, hd2, e2, q, qq⟩ := hs
    simp only
    have hj2 : j2 < l.length := by rw [e2]; exact Nat.mod_lt _ (by omega)
    rw [getD_at hj2] at q ⊢
    unfold pS at q
    have q2 := of_decide_eq_true q
    rcases q2 with q2 | ⟨q2, q3, q4⟩
    · rw [if_pos q2]
    · exact (h j2 hj2 q2 q3 q4).elim
#print axioms seek_some
#print axioms seek_none
#print axioms reach_set
end Go.Proofs.Ytefcinifaaablaa.Stripe
