/-
  Layer 19: laws of the abstract clock.
-/
import Derived.Test.YtmaoboepmbioiaaClockCool
namespace Go.Proofs.Ytmaoboepmbioiaa.Clock
set_option linter.unusedVariables false
set_option linter.unusedSimpArgs false

def allMarks (S : CS) : Nat := marks S.cold + marks S.hot
theorem turnHot_most (S : CS) : (turnHotS S).most = S.most ∧ (turnHotS S).target = S.target ∧ (turnHotS S).test = S.test ∧ thereS (turnHotS S) = thereS S ∧ allMarks (turnHotS S) ≤ allMarks S := by
  unfold turnHotS thereS allMarks
  cases h : S.hot with
  | nil => simp [h]
  | cons p t =>
    simp only
    split
    · rename_i hm; simp [marks_append, marks_cons, hm]; simp [marks, unmark]
    · rename_i hm; simp [marks_append, marks_cons, hm]; simp [marks, hm]; omega
def chillS (S : CS) : CS := chillF (chillM S) S
theorem chill_m {S : CS} (h : S.hot ≠ []) (hc : S.cold.length = 0) : chillM (turnHotS S) < chillM S := by
  unfold chillM turnHotS
  rw [if_pos hc]
  cases e : S.hot with
  | nil => exact absurd e h
  | cons p t =>
    simp only
    split
    · rename_i hm; simp only [hc, if_true, marks_append, marks_cons, hm, List.length_append, List.length_cons, List.length_nil]; simp [marks, unmark]
    · rename_i hm; simp [marks_cons, hm]; omega
theorem chillF_more (n k : Nat) (S : CS) (h : chillM S ≤ n) (hk : chillM S ≤ k) : chillF n S = chillF k S := by
  have z : ∀ S : CS, chillM S = 0 → ∀ k, chillF k S = S := by
    intro S h0 k
    induction k with
    | zero => rfl
    | succ k ih =>
      simp only [chillF]
      split
      · rename_i hc
        have hh : S.hot = [] := by
          unfold chillM at h0; rw [if_pos hc] at h0
          exact List.eq_nil_of_length_eq_zero (by omega)
        have : turnHotS S = S := by unfold turnHotS; rw [hh]
        rw [this, ih]
      · rfl
  induction n generalizing S k with
  | zero => rw [z S (by omega), z S (by omega)]
  | succ n ih =>
    cases k with
    | zero => rw [z S (by omega), z S (by omega)]
    | succ k =>
      simp only [chillF]
      split
      · rename_i hc
        by_cases hne : S.hot = []
        · have : turnHotS S = S := by unfold turnHotS; rw [hne]
          have h0 : chillM S = 0 := by unfold chillM; rw [if_pos hc, hne]; rfl
          rw [this, z S h0, z S h0]
        · have := chill_m hne hc
          exact ih k _ (by omega) (by omega)
      · rfl
theorem chill_step {S : CS} (hc : S.cold.length = 0) (hne : S.hot ≠ []) : chillS S = chillS (turnHotS S) := by
  have hm := chill_m hne hc
  unfold chillS
  obtain ⟨n, hn⟩ : ∃ n, chillM S = n + 1 := ⟨chillM S - 1, by omega⟩
  rw [hn]
  simp only [chillF]
  rw [if_pos hc]
  exact chillF_more _ _ _ (by omega) (by omega)
theorem chill_stop {S : CS} (h : S.cold.length ≠ 0) : chillS S = S := by
  unfold chillS
  cases chillM S with
  | zero => rfl
  | succ n => simp only [chillF]; rw [if_neg h]
theorem turnColdS_eq (S : CS) : turnColdS S = coldS (chillS S) := rfl
/-- what stays of a clock while the cold hand looks for a cold page -/
theorem chill_keeps (n : Nat) : ∀ S : CS, chillM S ≤ n → 0 < thereS S → (chillS S).cold ≠ [] ∧ (chillS S).most = S.most ∧ (chillS S).target = S.target ∧ (chillS S).test = S.test ∧ thereS (chillS S) = thereS S ∧ allMarks (chillS S) ≤ allMarks S := by
  induction n with
  | zero =>
    intro S h h0
    by_cases hc : S.cold.length = 0
    · exfalso
      unfold chillM at h; rw [if_pos hc] at h
      unfold thereS at h0; omega
    · rw [chill_stop hc]
      exact ⟨fun e => hc (by rw [e]; rfl), rfl, rfl, rfl, rfl, Nat.le_refl _⟩
  | succ n ih =>
    intro S h h0
    by_cases hc : S.cold.length = 0
    · have hne : S.hot ≠ [] := by rintro e; unfold thereS at h0; rw [e] at h0; simp at h0; omega
      rw [chill_step hc hne]
      have hm := chill_m hne hc
      obtain ⟨k1, k2, k3, k4, k5⟩ := turnHot_most S
      obtain ⟨j0, j1, j2, j3, j4, j5⟩ := ih (turnHotS S) (by omega) (by rw [k4]; exact h0)
      exact ⟨j0, j1.trans k1, j2.trans k2, j3.trans k3, j4.trans k4, Nat.le_trans j5 k5⟩
    · rw [chill_stop hc]
      exact ⟨fun e => hc (by rw [e]; rfl), rfl, rfl, rfl, rfl, Nat.le_refl _⟩
theorem cool_keeps (least : Int) (h0 : 0 ≤ least) (n : Nat) : ∀ S : CS, coolM S ≤ n → (coolS least S).most = S.most ∧ (coolS least S).target = S.target ∧ (coolS least S).test = S.test ∧ thereS (coolS least S) = thereS S ∧ allMarks (coolS least S) ≤ allMarks S := by
  have stop : ∀ S : CS, ¬ max (S.most - S.target) least < (S.hot.length : Int) → (coolS least S).most = S.most ∧ (coolS least S).target = S.target ∧ (coolS least S).test = S.test ∧ thereS (coolS least S) = thereS S ∧ allMarks (coolS least S) ≤ allMarks S :=
    fun S h => by rw [cool_stop h]; exact ⟨rfl, rfl, rfl, rfl, Nat.le_refl _⟩
  induction n with
  | zero =>
    intro S h
    refine stop S ?_
    unfold coolM at h
    have : S.hot.length = 0 := by omega
    rw [this]; simp; omega
  | succ n ih =>
    intro S h
    by_cases hc : max (S.most - S.target) least < (S.hot.length : Int)
    · have hne : S.hot ≠ [] := by rintro e; rw [e] at hc; simp at hc; omega
      have hm := turnHot_m hne
      rw [cool_step h0 hc]
      obtain ⟨k1, k2, k3, k4, k5⟩ := turnHot_most S
      obtain ⟨j1, j2, j3, j4, j5⟩ := ih (turnHotS S) (by omega)
      exact ⟨j1.trans k1, j2.trans k2, j3.trans k3, j4.trans k4, Nat.le_trans j5 k5⟩
    · exact stop S hc
structure ColdKeeps (S : CS) (r : Went) : Prop where
  most : r.S.most = S.most
  t1 : 1 ≤ S.target → 1 ≤ r.S.target
  t2 : r.S.target ≤ max 1 S.target
  no : r.ok = false → thereS r.S = thereS S ∧ r.S.test = S.test ∧ allMarks r.S < allMarks S ∧ r.id = 0
  yes : r.ok = true → thereS r.S + 1 = thereS S ∧ allMarks r.S ≤ allMarks S
  tl : (S.test.length : Int) ≤ S.most → (r.S.test.length : Int) ≤ S.most
  tot : r.S.cold.length + r.S.hot.length + r.S.test.length ≤ S.cold.length + S.hot.length + S.test.length
theorem turnCold_keeps (S : CS) (h0 : 0 < thereS S) : ColdKeeps S (turnColdS S) := by
  obtain ⟨j0, j1, j2, j3, j4, j5⟩ := chill_keeps _ S (Nat.le_refl _) h0
  rw [turnColdS_eq]
  generalize chillS S = T at *
  have hth : T.cold.length + T.hot.length = S.cold.length + S.hot.length := j4
  cases hc : T.cold with
  | nil => exact absurd hc j0
  | cons p t =>
    have hl : T.cold.length = t.length + 1 := by rw [hc]; rfl
    have hmk : marks T.cold = (if p.mark then 1 else 0) + marks t := by rw [hc, marks_cons]
    unfold allMarks at *
    unfold coldS
    rw [hc]
    simp only
    split
    · rename_i hm
      obtain ⟨k1, k2, k3, k4, k5⟩ := cool_keeps 0 (by omega) _ { T with cold := t, hot := T.hot ++ [unmark p] } (Nat.le_refl _)
      obtain ⟨U, hU⟩ : ∃ U, coolS 0 { T with cold := t, hot := T.hot ++ [unmark p] } = U := ⟨_, rfl⟩
      rw [hU] at k1 k2 k3 k4 k5 ⊢
      have k1 : U.most = T.most := k1
      have k2 : U.target = T.target := k2
      have k3 : U.test = T.test := k3
      have k4 : U.cold.length + U.hot.length = t.length + (T.hot ++ [unmark p]).length := k4
      have k5 : marks U.cold + marks U.hot ≤ marks t + marks (T.hot ++ [unmark p]) := k5
      rw [hm, if_pos rfl] at hmk
      have e0 : marks [unmark p] = 0 := by simp [marks, unmark]
      rw [marks_append, e0] at k5
      simp only [List.length_append, List.length_cons, List.length_nil] at k4
      unfold thereS at h0
      refine ⟨k1.trans j1, fun h => by simp only [k2, j2]; exact h, by simp only [k2, j2]; omega, fun _ => ⟨by unfold thereS; simp only; omega, k3.trans j3, by unfold allMarks; simp only; omega, rfl⟩, fun h => by simp at h, fun h => by simp only [k3, j3]; exact h, by simp only [k3, j3]; omega⟩
    · rename_i hm
      rw [if_neg hm] at hmk
      split
      · rename_i hg
        refine ⟨j1, fun h => by simp only; omega, by simp only [j2]; omega, fun h => by simp at h, fun _ => ⟨by unfold thereS; simp only; omega, by unfold allMarks; simp only; omega⟩, fun h => by simp [j3]; omega, by simp [j3]; omega⟩
      · rename_i hg
        refine ⟨j1, fun h => by simp only [j2]; exact h, by simp only [j2]; omega, fun h => by simp at h, fun _ => ⟨by unfold thereS; simp only; omega, by unfold allMarks; simp only; omega⟩, fun h => by simp [j3, j1] at hg ⊢; omega, by simp [j3]; omega⟩
theorem evictF_more (n k : Nat) : ∀ S : CS, allMarks S + 1 ≤ n → allMarks S + 1 ≤ k → evictF n S = evictF k S := by
  induction n generalizing k with
  | zero => intro S h; omega
  | succ n ih =>
    intro S h hk
    cases k with
    | zero => omega
    | succ k =>
      simp only [evictF]
      split
      · rename_i h0
        have K := turnCold_keeps S h0
        split
        · rfl
        · rename_i hok
          have := (K.no (by simpa using hok)).2.2.1
          exact ih k _ (by omega) (by omega)
      · rfl
theorem evict_step (S : CS) : evictS S = if 0 < thereS S then (if (turnColdS S).ok then turnColdS S else evictS (turnColdS S).S) else ⟨S, 0, false⟩ := by
  unfold evictS evictM
  rw [show evictF (marks S.cold + marks S.hot + 1) S = if 0 < thereS S then (if (turnColdS S).ok then turnColdS S else evictF (marks S.cold + marks S.hot) (turnColdS S).S) else ⟨S, 0, false⟩ from rfl]
  split
  · rename_i h0
    have K := turnCold_keeps S h0
    split
    · rfl
    · rename_i hok
      have := (K.no (by simpa using hok)).2.2.1
      unfold allMarks at this
      exact evictF_more _ _ _ (by unfold allMarks; omega) (by unfold allMarks; omega)
  · rfl
structure EvictKeeps (S : CS) (r : Went) : Prop where
  most : r.S.most = S.most
  t1 : 1 ≤ S.target → 1 ≤ r.S.target
  t2 : r.S.target ≤ max 1 S.target
  ok : r.ok = decide (0 < thereS S)
  there : thereS r.S = thereS S - 1
  marks : allMarks r.S ≤ allMarks S
  tl : (S.test.length : Int) ≤ S.most → (r.S.test.length : Int) ≤ S.most
  tot : r.S.cold.length + r.S.hot.length + r.S.test.length ≤ S.cold.length + S.hot.length + S.test.length
theorem evict_keeps (n : Nat) : ∀ S : CS, allMarks S ≤ n → EvictKeeps S (evictS S) := by
  have main : ∀ S : CS, (∀ T, allMarks T < allMarks S → EvictKeeps T (evictS T)) → EvictKeeps S (evictS S) := by
    intro S ih
    rw [evict_step]
    split
    · rename_i h0
      have K := turnCold_keeps S h0
      split
      · rename_i hok
        obtain ⟨y1, y2⟩ := K.yes hok
        exact ⟨K.most, K.t1, K.t2, by rw [hok]; simp [h0], by omega, y2, K.tl, K.tot⟩
      · rename_i hok
        obtain ⟨n1, n2, n3, n4⟩ := K.no (by simpa using hok)
        have I := ih _ n3
        have hm := K.most
        have t2 := K.t2
        have i2 := I.t2
        refine ⟨I.most.trans K.most, fun h => I.t1 (K.t1 h), by omega, by rw [I.ok, n1], by rw [I.there, n1], Nat.le_trans I.marks (Nat.le_of_lt n3), fun h => ?_, Nat.le_trans I.tot K.tot⟩
        rw [← hm]
        exact I.tl (by rw [hm]; exact K.tl h)
    · rename_i h0
      exact ⟨rfl, fun h => h, by simp only; omega, by simp [h0], by simp only; omega, Nat.le_refl _, fun h => h, Nat.le_refl _⟩
  induction n with
  | zero => intro S h; exact main S fun T hT => by omega
  | succ n ih => intro S h; exact main S fun T hT => ih T (by omega)
theorem evict_ok (S : CS) : EvictKeeps S (evictS S) := evict_keeps _ S (Nat.le_refl _)
end Go.Proofs.Ytmaoboepmbioiaa.Clock
