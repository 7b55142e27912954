/-
  Layer 19: which pages are there, as the calls go by.
-/
import Derived.Test.YtmaoboepmbioiaaClockGood
namespace Go.Proofs.Ytmaoboepmbioiaa.Clock
open Go.RowKit Go.Sep
set_option linter.unusedVariables false
set_option linter.unusedSimpArgs false

def hereIds (S : CS) : List Int := (S.cold ++ S.hot).map Pg.id
theorem here_len (S : CS) : (hereIds S).length = thereS S := by simp [hereIds, thereS]
theorem has_mem (l : List Pg) (i : Int) : has l i = true ↔ i ∈ l.map Pg.id := by
  simp only [has, List.any_eq_true, beq_iff_eq, List.mem_map]
theorem mem_here (S : CS) (i : Int) : i ∈ hereIds S ↔ has S.cold i = true ∨ has S.hot i = true := by
  rw [has_mem, has_mem, hereIds, List.map_append, List.mem_append]
theorem here_turnHot (S : CS) : (hereIds (turnHotS S)).Perm (hereIds S) := by
  unfold turnHotS hereIds
  cases e : S.hot with
  | nil => simp [e]
  | cons p t =>
    simp only
    split
    · simp only [List.map_append, List.map_cons, List.map_nil, unmark]
      refine List.Perm.append_left _ ?_
      exact List.perm_append_comm (l₁ := t.map Pg.id) (l₂ := [p.id])
    · simp only [List.map_append, List.map_cons, List.map_nil, List.append_assoc]
      exact List.Perm.refl _
theorem here_cool {least : Int} (h0 : 0 ≤ least) (n : Nat) : ∀ S : CS, coolM S ≤ n → (hereIds (coolS least S)).Perm (hereIds S) := by
  induction n with
  | zero =>
    intro S h
    rw [cool_stop]
    have : S.hot.length = 0 := by unfold coolM at h; omega
    rw [this]; simp; omega
  | succ n ih =>
    intro S h
    by_cases hc : max (S.most - S.target) least < (S.hot.length : Int)
    · have hne : S.hot ≠ [] := by rintro e; rw [e] at hc; simp at hc; omega
      have hm := turnHot_m hne
      rw [cool_step h0 hc]
      exact (ih _ (by omega)).trans (here_turnHot S)
    · rw [cool_stop hc]
theorem here_chill (n : Nat) : ∀ S : CS, chillM S ≤ n → 0 < thereS S → (hereIds (chillS S)).Perm (hereIds S) := by
  have stop : ∀ S : CS, S.cold.length ≠ 0 → (hereIds (chillS S)).Perm (hereIds S) := fun S h => by rw [chill_stop h]
  induction n with
  | zero =>
    intro S h h0
    by_cases hc : S.cold.length = 0
    · exfalso; unfold chillM at h; rw [if_pos hc] at h; unfold thereS at h0; omega
    · exact stop S hc
  | succ n ih =>
    intro S h h0
    by_cases hc : S.cold.length = 0
    · have hne : S.hot ≠ [] := by rintro e; unfold thereS at h0; rw [e] at h0; simp at h0; omega
      rw [chill_step hc hne]
      have hm := chill_m hne hc
      exact (ih _ (by omega) (by rw [(turnHot_most S).2.2.2.1]; exact h0)).trans (here_turnHot S)
    · exact stop S hc
def went (r : Went) : List Int := if r.ok then [r.id] else []
theorem here_cold {S : CS} (h : S.cold ≠ []) : (hereIds S).Perm (went (coldS S) ++ hereIds (coldS S).S) := by
  unfold coldS
  cases e : S.cold with
  | nil => exact absurd e h
  | cons p t =>
    simp only
    split
    · simp only [went, Bool.false_eq_true, if_false, List.nil_append]
      refine (List.Perm.trans ?_ (here_cool (by omega) _ _ (Nat.le_refl _)).symm)
      unfold hereIds
      simp only [e, List.map_append, List.map_cons, List.map_nil, unmark, List.cons_append]
      rw [← List.append_assoc]
      exact (List.perm_append_singleton p.id _).symm
    · split
      · simp only [went, if_true, hereIds, e, List.cons_append, List.map_cons, List.nil_append]; exact List.Perm.refl _
      · simp only [went, if_true, hereIds, e, List.cons_append, List.map_cons, List.nil_append]; exact List.Perm.refl _
theorem here_turnCold {S : CS} (h0 : 0 < thereS S) : (hereIds S).Perm (went (turnColdS S) ++ hereIds (turnColdS S).S) := by
  rw [turnColdS_eq]
  exact (here_chill _ S (Nat.le_refl _) h0).symm.trans (here_cold (chill_keeps _ S (Nat.le_refl _) h0).1)
theorem here_evict (n : Nat) : ∀ S : CS, allMarks S ≤ n → (hereIds S).Perm (went (evictS S) ++ hereIds (evictS S).S) := by
  have main : ∀ S : CS, (∀ T, allMarks T < allMarks S → (hereIds T).Perm (went (evictS T) ++ hereIds (evictS T).S)) → (hereIds S).Perm (went (evictS S) ++ hereIds (evictS S).S) := by
    intro S ih
    rw [evict_step]
    split
    · rename_i h0
      have hc := here_turnCold h0
      split
      · exact hc
      · rename_i hok
        have hok' : (turnColdS S).ok = false := by simpa using hok
        rw [show went (turnColdS S) = [] by simp [went, hok'], List.nil_append] at hc
        exact hc.trans (ih _ ((turnCold_keeps S h0).no hok').2.2.1)
    · simp [went]
  induction n with
  | zero => intro S h; exact main S fun T hT => by omega
  | succ n ih => intro S h; exact main S fun T hT => ih T (by omega)
theorem here_room (n : Nat) : ∀ (S : CS) (l : List Int), Bnd S → thereS S ≤ n → ∃ g, (roomL S l).l = l ++ g ∧ (hereIds S).Perm (g ++ hereIds (roomL S l).S) := by
  have stop : ∀ (S : CS) (l : List Int), ¬ S.most ≤ (thereS S : Int) → ∃ g, (roomL S l).l = l ++ g ∧ (hereIds S).Perm (g ++ hereIds (roomL S l).S) := fun S l h => by
    rw [room_stop h]; exact ⟨[], by simp, by simp⟩
  induction n with
  | zero => intro S l hb h; exact stop S l (by have := hb.m1; omega)
  | succ n ih =>
    intro S l hb h
    by_cases hc : S.most ≤ (thereS S : Int)
    · rw [room_step hc hb.m1]
      have E := evict_ok S
      obtain ⟨g, h1, h2⟩ := ih (evictS S).S (l ++ [(evictS S).id]) (E.bnd hb) (by rw [E.there]; omega)
      refine ⟨(evictS S).id :: g, by rw [h1]; simp, ?_⟩
      have h3 := here_evict _ S (Nat.le_refl _)
      have hok : (evictS S).ok = true := by
        rw [E.ok]
        have := hb.m1
        simp; omega
      rw [show went (evictS S) = [(evictS S).id] by simp [went, hok]] at h3
      exact h3.trans (by simpa using h2)
    · exact stop S l hc
theorem here_add {S : CS} (h : Good S) (id : Int) (hn : (hereIds S).Nodup) :
    ((addS S id).e = 0 ∧ (hereIds S ++ [id]).Perm ((addS S id).l ++ hereIds (addS S id).S) ∧ (hereIds (addS S id).S).Nodup ∧ id ∉ hereIds S) ∨ ((addS S id).e ≠ 0 ∧ (addS S id).l = [] ∧ (addS S id).S = S) := by
  unfold addS
  by_cases hb : has S.cold id || has S.hot id
  · rw [if_pos hb]
    exact .inr ⟨by simp, rfl, rfl⟩
  · rw [if_neg hb]
    have hni : id ∉ hereIds S := by
      rw [mem_here]; simpa using hb
    left
    have fin : ∀ (T : CS) (g : List Int) (U : CS), Good T → hereIds T = hereIds S → (hereIds T).Perm (g ++ hereIds (roomS T).S) → (hereIds U).Perm (hereIds (roomS T).S ++ [id]) → (hereIds S ++ [id]).Perm (g ++ hereIds U) ∧ (hereIds U).Nodup := by
      intro T g U hT e h1 h2
      rw [e] at h1
      have h3 : (hereIds S ++ [id]).Perm (g ++ hereIds U) := by
        refine (List.Perm.append_right [id] h1).trans ?_
        rw [List.append_assoc]
        exact List.Perm.append_left _ h2.symm
      refine ⟨h3, ?_⟩
      have h4 : (hereIds S ++ [id]).Nodup := List.nodup_append.2 ⟨hn, by simp, fun a ha b hb' => by
        simp only [List.mem_singleton] at hb'; subst hb'; rintro rfl; exact hni ha⟩
      exact (List.nodup_append.1 ((h3.nodup_iff).1 h4)).2.1
    split
    · have hg : Good { S with test := outOf S.test id, target := min S.most (S.target + 1) } := by
        have h1 := h.t1
        have h2 := h.t2
        have h3 := h.m1
        refine ⟨h.m1, h.m2, by simp only; omega, by simp only; omega, h.there, ?_⟩
        have := List.length_filter_le (fun p : Pg => p.id != id) S.test
        have := h.test
        simp only [outOf]; omega
      obtain ⟨g, h1, h2⟩ := here_room _ { S with test := outOf S.test id, target := min S.most (S.target + 1) } [] hg.bnd (Nat.le_refl _)
      rw [List.nil_append] at h1
      have hl : (roomS { S with test := outOf S.test id, target := min S.most (S.target + 1) }).l = g := h1
      simp only
      rw [hl]
      obtain ⟨f1, f2⟩ := fin _ g (coolS 1 { (roomS { S with test := outOf S.test id, target := min S.most (S.target + 1) }).S with hot := (roomS { S with test := outOf S.test id, target := min S.most (S.target + 1) }).S.hot ++ [⟨id, false⟩] }) hg rfl h2 (by
        refine (here_cool (by omega) _ _ (Nat.le_refl _)).trans ?_
        simp [hereIds])
      exact ⟨trivial, f1, f2, hni⟩
    · obtain ⟨g, h1, h2⟩ := here_room _ S [] h.bnd (Nat.le_refl _)
      rw [List.nil_append] at h1
      have hl : (roomS S).l = g := h1
      simp only
      rw [hl]
      obtain ⟨f1, f2⟩ := fin S g { (roomS S).S with cold := (roomS S).S.cold ++ [⟨id, false⟩] } h rfl h2 (by
        simp only [hereIds, List.map_append, List.map_cons, List.map_nil, List.append_assoc]
        exact List.Perm.append_left _ List.perm_append_comm)
      exact ⟨trivial, f1, f2, hni⟩
theorem here_add2 {S : CS} (h : Good S) (id : Int) (hn : (hereIds S).Nodup) :
    ((addS S id).e = 0 ∧ id ∉ hereIds S ∧ ∃ rest, (hereIds S).Perm ((addS S id).l ++ rest) ∧ (hereIds (addS S id).S).Perm (rest ++ [id])) ∨ ((addS S id).e ≠ 0 ∧ (addS S id).l = [] ∧ (addS S id).S = S) := by
  unfold addS
  by_cases hb : has S.cold id || has S.hot id
  · rw [if_pos hb]
    exact .inr ⟨by simp, rfl, rfl⟩
  · rw [if_neg hb]
    have hni : id ∉ hereIds S := by
      rw [mem_here]; simpa using hb
    left
    split
    · have hg : Good { S with test := outOf S.test id, target := min S.most (S.target + 1) } := by
        have h1 := h.t1
        have h2 := h.t2
        have h3 := h.m1
        refine ⟨h.m1, h.m2, by simp only; omega, by simp only; omega, h.there, ?_⟩
        have := List.length_filter_le (fun p : Pg => p.id != id) S.test
        have := h.test
        simp only [outOf]; omega
      obtain ⟨g, h1, h2⟩ := here_room _ { S with test := outOf S.test id, target := min S.most (S.target + 1) } [] hg.bnd (Nat.le_refl _)
      rw [List.nil_append] at h1
      have hl : (roomS { S with test := outOf S.test id, target := min S.most (S.target + 1) }).l = g := h1
      simp only
      rw [hl]
      refine ⟨trivial, hni, hereIds (roomS { S with test := outOf S.test id, target := min S.most (S.target + 1) }).S, h2, ?_⟩
      refine (here_cool (by omega) _ _ (Nat.le_refl _)).trans ?_
      simp [hereIds]
    · obtain ⟨g, h1, h2⟩ := here_room _ S [] h.bnd (Nat.le_refl _)
      rw [List.nil_append] at h1
      have hl : (roomS S).l = g := h1
      simp only
      rw [hl]
      refine ⟨trivial, hni, hereIds (roomS S).S, h2, ?_⟩
      simp only [hereIds, List.map_append, List.map_cons, List.map_nil, List.append_assoc]
      exact List.Perm.append_left _ List.perm_append_comm
theorem add_len (S : CS) (id : Int) (h : Good S) : (addS S id).l.length ≤ 8500 := by
  unfold addS
  have key : ∀ T : CS, Good T → thereS T ≤ 8400 → (roomL T []).l.length ≤ 8500 := by
    intro T hT ht
    obtain ⟨g, h1, h2⟩ := here_room _ T [] hT.bnd (Nat.le_refl _)
    have := h2.length_eq
    rw [List.length_append, here_len, here_len] at this
    rw [h1]; simp; omega
  have ht : thereS S ≤ 8400 := by have := h.tot; unfold thereS; omega
  split
  · simp
  · split
    · refine key { S with test := outOf S.test id, target := min S.most (S.target + 1) } ?_ ht
      have h1 := h.t1
      have h2 := h.t2
      have h3 := h.m1
      refine ⟨h.m1, h.m2, by simp only; omega, by simp only; omega, h.there, ?_⟩
      have := List.length_filter_le (fun p : Pg => p.id != id) S.test
      have := h.test
      simp only [outOf]; omega
    · exact key S h ht
theorem here_touch (S : CS) (id : Int) : hereIds (touchS S id) = hereIds S := by
  have : ∀ l : List Pg, (markIn l id).map Pg.id = l.map Pg.id := by
    intro l
    unfold markIn
    rw [List.map_map]
    refine List.map_congr_left fun p _ => ?_
    simp only [Function.comp]
    split <;> rfl
  simp [hereIds, touchS, List.map_append, this]
theorem here_remove (S : CS) (id : Int) : hereIds (removeS S id) = (hereIds S).filter (· != id) := by
  simp only [hereIds, removeS, outOf, List.map_append, List.filter_append, List.filter_map]
  rfl
theorem erase_filter {l : List Int} (h : l.Nodup) (a : Int) : l.erase a = l.filter (· != a) := h.erase_eq_filter a
end Go.Proofs.Ytmaoboepmbioiaa.Clock
