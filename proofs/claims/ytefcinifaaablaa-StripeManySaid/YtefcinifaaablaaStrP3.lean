/-
  Layer 17 (plain): lay, grow; Put, Del, Replace, Get by the entries.
-/
import Derived.Test.YtefcinifaaablaaStrP2
namespace Go.Proofs.Ytefcinifaaablaa.Stripe
open Go.RowKit Go.Sep
set_option maxRecDepth 100000
set_option linter.unusedVariables false
set_option linter.unusedSimpArgs false

theorem layB_some {B : Bd} {t : Int} {k : List UInt8} {v : Int} {j : Nat} (h : prb B.l t k pL = some j) : layB B t k v = { B with l := B.l.set j ⟨1, t, k, v⟩, used := B.used + if (B.l.getD j e0).st = 0 then 1 else 0 } := by unfold layB; rw [h]
theorem wc_lay {nb i : Nat} {B : Bd} (h : WC nb i B) {t : Int} {k : List UInt8} (v : Int) (hr : us B.l < B.l.length) (hn : ∀ v, (t, k, v) ∉ entB B) (hk : k.length ≤ 512) (hh : hN t k % nb = i) (hc : B.count < 4096) :
    WC nb i { layB B t k v with count := B.count + 1 } ∧ (entB (layB B t k v)).Perm ((t, k, v) :: entB B) ∧ (layB B t k v).l.length = B.l.length ∧ (layB B t k v).used ≤ B.used + 1 := by
  obtain ⟨j, hj⟩ := Option.ne_none_iff_exists'.1 (prb_room hr t k)
  obtain ⟨hjl, q1, q2, q3⟩ := lay_list h.rl v hj
  rw [layB_some hj]
  have pe : (ents (B.l.set j ⟨1, t, k, v⟩) ++ ents B.el).Perm ((t, k, v) :: (ents B.l ++ ents B.el)) := (List.Perm.append_right _ q2)
  refine ⟨⟨?_, ?_, ?_, ?_, h.e4, h.mv, h.gone, ?_, ?_, ?_, q1, h.re, ?_, ?_, ?_⟩, pe, by simp, by simp only; split <;> omega⟩
  · simp only [List.length_set]; exact h.l8
  · simp only [List.length_set]; exact h.lm
  · simp only [List.length_set]; exact h.l4
  · simp only [List.length_set]; exact h.el
  · simp only; rw [q3, h.used]
  · show B.count + 1 = (ents (B.l.set j ⟨1, t, k, v⟩) ++ ents B.el).length
    rw [pe.length_eq, List.length_cons, h.cnt]; rfl
  · simp only; omega
  · show ((ents (B.l.set j ⟨1, t, k, v⟩) ++ ents B.el).map nmE).Nodup
    refine (pe.map nmE).nodup_iff.2 ?_
    rw [List.map_cons, List.nodup_cons]
    refine ⟨fun hm => ?_, h.uq⟩
    obtain ⟨⟨t2, k2, v2⟩, he, e⟩ := List.mem_map.1 hm
    simp only [nmE, Prod.mk.injEq] at e
    obtain ⟨rfl, rfl⟩ := e
    exact hn v2 he
  · intro s hs
    simp only at hs
    rcases List.mem_append.1 hs with hs | hs
    · rcases mem_setS hs with rfl | hs
      · exact hk
      · exact h.ky s (List.mem_append.2 (.inl hs))
    · exact h.ky s (List.mem_append.2 (.inr hs))
  · intro e he
    rcases List.mem_cons.1 (pe.mem_iff.1 he) with rfl | he
    · exact hh
    · exact h.hs e he
theorem mv1_eq (B : Bd) (hm : B.moved < B.el.length) : mv1 B = if (B.el[B.moved]).st = 1 then { layB B (B.el[B.moved]).t (B.el[B.moved]).k (B.el[B.moved]).v with el := B.el.set B.moved { B.el[B.moved] with st := 2 }, moved := B.moved + 1 } else { B with moved := B.moved + 1 } := by unfold mv1; rw [getD_at hm]
theorem wc_mv1 {nb i : Nat} {B : Bd} (h : WC nb i B) (hm : B.moved < B.el.length) (hC : 4 * (B.used + (ents B.el).length) ≤ 2 * B.l.length) :
    WC nb i (mv1 B) ∧ (entB (mv1 B)).Perm (entB B) ∧ (mv1 B).l.length = B.l.length ∧ (mv1 B).el.length = B.el.length ∧ (mv1 B).moved = B.moved + 1 ∧ (mv1 B).count = B.count ∧ (mv1 B).used + (ents (mv1 B).el).length ≤ B.used + (ents B.el).length ∧ ((B.el.getD B.moved e0).st = 1 → prb B.l (B.el.getD B.moved e0).t (B.el.getD B.moved e0).k pL ≠ none) := by
  rw [mv1_eq B hm, getD_at hm]
  by_cases hst : (B.el[B.moved]).st = 1
  · rw [if_pos hst]
    obtain ⟨s, hs⟩ : ∃ s, B.el[B.moved] = s := ⟨_, rfl⟩
    rw [hs] at hst ⊢
    have hin : (s.t, s.k, s.v) ∈ ents B.el := mem_ents.2 ⟨B.moved, hm, by rw [hs]; exact hst, by rw [hs]⟩
    have hpos : 0 < (ents B.el).length := List.length_pos_of_mem hin
    have hroom : us B.l < B.l.length := by have := h.used; have := h.l8; omega
    have hpr := prb_room hroom s.t s.k
    obtain ⟨j, hj⟩ := Option.ne_none_iff_exists'.1 hpr
    obtain ⟨hjl, q1, q2, q3⟩ := lay_list h.rl s.v hj
    rw [layB_some hj]
    have ee : ents B.el = ents (B.el.take B.moved) ++ ([(s.t, s.k, s.v)] ++ ents (B.el.drop (B.moved + 1))) := by
      rw [ents_at B.el B.moved hm, hs]
      have : ent1 s = [(s.t, s.k, s.v)] := by unfold ent1; rw [if_pos hst]
      rw [this]
    have ee2 : ents (B.el.set B.moved { s with st := 2 }) = ents (B.el.take B.moved) ++ ents (B.el.drop (B.moved + 1)) := by
      rw [ents_set B.el B.moved hm]
      have : ent1 { s with st := 2 } = [] := by unfold ent1; rw [if_neg (by simp)]
      rw [this, List.nil_append]
    have pe : (ents (B.l.set j ⟨1, s.t, s.k, s.v⟩) ++ ents (B.el.set B.moved { s with st := 2 })).Perm (ents B.l ++ ents B.el) := by
      rw [ee, ee2]
      refine (List.Perm.append_right _ q2).trans ?_
      rw [List.cons_append]
      refine List.Perm.trans ?_ (List.Perm.append_left _ perm_mid.symm)
      rw [List.singleton_append]
      exact List.perm_middle.symm
    have hlen2 : (ents B.el).length = (ents (B.el.set B.moved { s with st := 2 })).length + 1 := by rw [ee, ee2]; simp; omega
    refine ⟨⟨?_, ?_, ?_, ?_, ?_, ?_, ?_, ?_, ?_, h.cm, q1, ?_, ?_, ?_, ?_⟩, pe, by simp, by simp, rfl, rfl, ?_, fun _ => hpr⟩
    · simp only [List.length_set]; exact h.l8
    · simp only [List.length_set]; exact h.lm
    · simp only [List.length_set]; exact h.l4
    · simp only [List.length_set]; exact h.el
    · simp only [List.length_set]; exact h.e4
    · simp only [List.length_set]; omega
    · intro j2 hj2 hm2
      simp only [List.length_set] at hj2 hm2 ⊢
      by_cases e : j2 = B.moved
      · subst e; rw [List.getElem_set_self]; simp
      · rw [List.getElem_set_ne (Ne.symm e)]
        exact h.gone j2 hj2 (by omega)
    · simp only; rw [q3, h.used]
    · show B.count = (ents (B.l.set j ⟨1, s.t, s.k, s.v⟩) ++ ents (B.el.set B.moved { s with st := 2 })).length
      rw [pe.length_eq, h.cnt]; rfl
    · simp only
      exact reach_set h.re B.moved hm _ (by simp) (fun h1 => by simp at h1)
    · exact (pe.map nmE).nodup_iff.2 h.uq
    · intro s2 hs2
      simp only at hs2
      have hks := h.ky s (List.mem_append.2 (.inr (by rw [← hs]; exact List.getElem_mem hm)))
      rcases List.mem_append.1 hs2 with hs2 | hs2
      · rcases mem_setS hs2 with rfl | hs2
        · exact hks
        · exact h.ky s2 (List.mem_append.2 (.inl hs2))
      · rcases mem_setS hs2 with rfl | hs2
        · exact hks
        · exact h.ky s2 (List.mem_append.2 (.inr hs2))
    · intro e he
      exact h.hs e (pe.mem_iff.1 he)
    · simp only
      split <;> omega
  · rw [if_neg hst]
    refine ⟨⟨h.l8, h.lm, h.l4, h.el, h.e4, by simp only; omega, ?_, h.used, h.cnt, h.cm, h.rl, h.re, h.uq, h.ky, h.hs⟩, List.Perm.refl _, rfl, rfl, rfl, rfl, Nat.le_refl _, fun h1 => absurd h1 hst⟩
    intro j2 hj2 hm2
    simp only at hj2 hm2 ⊢
    by_cases e : j2 = B.moved
    · subst e; exact hst
    · exact h.gone j2 hj2 (by omega)
theorem mvF_run {nb i : Nat} : ∀ (m : Nat) {B : Bd}, WC nb i B → B.moved + m ≤ B.el.length → 4 * (B.used + (ents B.el).length) ≤ 2 * B.l.length →
    OkM m B ∧ WC nb i (mvF m B) ∧ (entB (mvF m B)).Perm (entB B) ∧ (mvF m B).l.length = B.l.length ∧ (mvF m B).el.length = B.el.length ∧ (mvF m B).moved = B.moved + m ∧ (mvF m B).count = B.count ∧ (mvF m B).used + (ents (mvF m B).el).length ≤ B.used + (ents B.el).length
  | 0, B, h, _, _ => ⟨h.bas, h, List.Perm.refl _, rfl, rfl, rfl, rfl, Nat.le_refl _⟩
  | m + 1, B, h, hm, hC => by
    have hlt : B.moved < B.el.length := by omega
    obtain ⟨w1, w2, w3, w4, w5, w6, w7, w8⟩ := wc_mv1 h hlt hC
    obtain ⟨r0, r1, r2, r3, r4, r5, r6, r7⟩ := mvF_run m w1 (by omega) (by omega)
    rw [mvF, if_neg (by omega)]
    refine ⟨⟨h.bas, fun e => by omega, fun _ => ⟨w8, r0⟩⟩, r1, r2.trans w2, by omega, by omega, by omega, by omega, by omega⟩
theorem ents_gone {l : List Sl} (h : ∀ j (hj : j < l.length), l[j].st ≠ 1) : ents l = [] := by
  cases he : ents l with
  | nil => rfl
  | cons e r =>
    obtain ⟨j, hj, h1, -⟩ := mem_ents.1 (show e ∈ ents l by rw [he]; simp)
    exact absurd h1 (h j hj)
theorem wc_stop {nb i : Nat} {B : Bd} (h : WC nb i B) (hm : B.moved = B.el.length) : WC nb i (stopM B) ∧ entB (stopM B) = entB B := by
  have hg : ents B.el = [] := ents_gone fun j hj => h.gone j hj (by omega)
  have he : entB (stopM B) = entB B := by unfold entB; rw [hg]; rfl
  refine ⟨⟨h.l8, h.lm, h.l4, Nat.zero_le _, rfl, Nat.le_refl _, fun j hj => by simp [stopM] at hj, h.used, by rw [he]; exact h.cnt, h.cm, h.rl, fun j hj => by simp [stopM] at hj, by rw [he]; exact h.uq, fun s hs => h.ky s (by simp [stopM] at hs; exact List.mem_append.2 (.inl hs)), by rw [he]; exact h.hs⟩, he⟩
theorem ents_rep (n : Nat) : ents (List.replicate n e0) = [] := ents_gone fun j hj => by rw [List.getElem_replicate]; simp [e0]
theorem us_rep : ∀ n : Nat, us (List.replicate n e0) = 0
  | 0 => rfl
  | n + 1 => by rw [List.replicate_succ, us_cons, us_rep n]; rfl
theorem wc_grow {nb i : Nat} {B : Bd} (h : WC nb i B) (hel : B.el = []) (g : Nat) : WC nb i (growN g B) ∧ entB (growN g B) = entB B ∧ 4 * (growN g B).count ≤ (growN g B).l.length := by
  have he : entB (growN g B) = entB B := by
    unfold entB growN
    simp only
    rw [ents_rep, hel]
    simp [ents]
  have hcm := h.cm
  have hl8 := h.l8
  have hlm := h.lm
  have hl4 := h.l4
  refine ⟨⟨?_, ?_, ?_, ?_, h.l4, Nat.zero_le _, fun j hj hm => by simp [growN] at hm, ?_, by rw [he]; exact h.cnt, h.cm, ?_, h.rl, by rw [he]; exact h.uq, ?_, by rw [he]; exact h.hs⟩, he, ?_⟩
  · simp only [growN, List.length_replicate]; omega
  · simp only [growN, List.length_replicate]; omega
  · simp only [growN, List.length_replicate]; omega
  · simp only [growN, List.length_replicate]; omega
  · simp only [growN]; rw [us_rep]
  · intro j hj h1
    simp only [growN, List.getElem_replicate] at h1
    simp [e0] at h1
  · intro s hs
    simp only [growN] at hs
    rcases List.mem_append.1 hs with hs | hs
    · rw [(List.mem_replicate.1 hs).2]; simp [e0]
    · exact h.ky s (List.mem_append.2 (.inl hs))
  · simp only [growN, List.length_replicate]; omega
/-- a stripe between calls -/
structure WB (nb i : Nat) (B : Bd) : Prop where
  c : WC nb i B
  m4 : B.moved % 4 = 0
  rm : B.el ≠ [] → 4 * (B.used + (ents B.el).length) ≤ B.l.length + B.moved + 4
theorem wb_grown {nb i : Nat} {B : Bd} (h : WB nb i B) (g : Nat) : OkM 4 B ∧ WC nb i (growB g B) ∧ (entB (growB g B)).Perm (entB B) ∧ (growB g B).count = B.count ∧ us (growB g B).l < (growB g B).l.length ∧ (growB g B).moved % 4 = 0 ∧ ((growB g B).el ≠ [] → 4 * ((growB g B).used + (ents (growB g B).el).length) ≤ (growB g B).l.length + (growB g B).moved) := by
  have hc := h.c
  have hm4 := h.m4
  have he4 := hc.e4
  have hmv := hc.mv
  by_cases hm : B.moved = B.el.length
  · obtain ⟨s1, s2⟩ := wc_stop hc hm
    have hF : mvF 4 B = stopM B := by rw [mvF, if_pos hm]
    have hok : OkM 4 B := ⟨hc.bas, fun _ => s1.bas, fun h2 => by omega⟩
    unfold growB
    rw [hF]
    by_cases hu : (stopM B).el.length = 0 ∧ (stopM B).l.length ≤ 2 * (stopM B).used
    · rw [if_pos hu]
      obtain ⟨g1, g2, g3⟩ := wc_grow s1 rfl g
      refine ⟨hok, g1, by rw [g2, s2], rfl, ?_, rfl, fun _ => ?_⟩
      · have := g1.l8
        show us (List.replicate _ e0) < _
        rw [us_rep]
        omega
      · have h1 : (growN g (stopM B)).used = 0 := rfl
        have h2 : (growN g (stopM B)).el = (stopM B).l := rfl
        have h3 : (growN g (stopM B)).count = (entB (stopM B)).length := by rw [g1.cnt, g2]
        have h4 : (entB (stopM B)).length = (ents (stopM B).l).length := by unfold entB; simp [stopM, ents]
        rw [h1, h2]
        omega
    · rw [if_neg hu]
      refine ⟨hok, s1, by rw [s2], rfl, ?_, rfl, fun h => absurd rfl h⟩
      have h1 : ¬ (stopM B).l.length ≤ 2 * (stopM B).used := fun h => hu ⟨rfl, h⟩
      have := s1.used
      omega
  · have hrun : B.moved + 4 ≤ B.el.length := by omega
    have hne : B.el ≠ [] := fun e => by rw [e] at hrun; simp at hrun
    have hrm := h.rm hne
    have hle := hc.el
    obtain ⟨r0, r1, r2, r3, r4, r5, r6, r7⟩ := mvF_run 4 hc hrun (by omega)
    unfold growB
    rw [if_neg (fun h => by omega)]
    refine ⟨r0, r1, r2, r6, ?_, by omega, fun _ => by omega⟩
    have := r1.used
    have := r1.l8
    have := r1.el
    omega
#print axioms wb_grown
end Go.Proofs.Ytefcinifaaablaa.Stripe
