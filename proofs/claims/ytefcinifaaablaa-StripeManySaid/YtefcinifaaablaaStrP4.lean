/-
  Layer 17 (plain): the table by one list of entries.
-/
import Derived.Test.YtefcinifaaablaaStrP3
import Derived.Test.YtefcinifaaablaaStr10
namespace Go.Proofs.Ytefcinifaaablaa.Stripe
open Go.RowKit Go.Sep
set_option maxRecDepth 100000
set_option linter.unusedVariables false
set_option linter.unusedSimpArgs false

def entT (Bs : List Bd) : List En := Bs.flatMap entB
theorem entT_cons (B : Bd) (Bs : List Bd) : entT (B :: Bs) = entB B ++ entT Bs := by simp [entT]
theorem entT_at : ∀ (Bs : List Bd) (i : Nat) (hi : i < Bs.length), (entT Bs).Perm (entB Bs[i] ++ entT (Bs.eraseIdx i))
  | [], i, hi => by simp at hi
  | B :: Bs, 0, _ => by simp [entT_cons]
  | B :: Bs, i + 1, hi => by
    rw [List.eraseIdx_cons_succ, entT_cons, entT_cons, List.getElem_cons_succ]
    exact (List.Perm.append_left _ (entT_at Bs i (by simpa using hi))).trans perm_mid
theorem entT_set (Bs : List Bd) (i : Nat) (hi : i < Bs.length) (B : Bd) : (entT (Bs.set i B)).Perm (entB B ++ entT (Bs.eraseIdx i)) := by
  have h := entT_at (Bs.set i B) i (by rw [List.length_set]; exact hi)
  rw [List.getElem_set_self, List.eraseIdx_set_eq] at h
  exact h
structure WT (nb : Nat) (Bs : List Bd) : Prop where
  len : Bs.length = nb
  pos : 0 < nb
  le : nb ≤ 64
  wb : ∀ i (hi : i < Bs.length), WB nb i Bs[i]
theorem wt_set {nb : Nat} {Bs : List Bd} (h : WT nb Bs) {i : Nat} (hi : i < Bs.length) {B : Bd} (hB : WB nb i B) : WT nb (Bs.set i B) := by
  refine ⟨by rw [List.length_set]; exact h.len, h.pos, h.le, fun j hj => ?_⟩
  rw [List.length_set] at hj
  by_cases e : j = i
  · subst e; rw [List.getElem_set_self]; exact hB
  · rw [List.getElem_set_ne (Ne.symm e)]; exact h.wb j hj
structure TR (nb : Nat) (Bs : List Bd) (L : List En) : Prop where
  wt : WT nb Bs
  pm : (entT Bs).Perm L
  nd : (L.map nmE).Nodup
theorem ix_lt {nb : Nat} {Bs : List Bd} (h : WT nb Bs) (t : Int) (k : List UInt8) : ixT Bs.length t k < Bs.length := Nat.mod_lt _ (by rw [h.len]; exact h.pos)
theorem mem_band {nb : Nat} {Bs : List Bd} {L : List En} (h : TR nb Bs L) {t : Int} {k : List UInt8} {v : Int} : (t, k, v) ∈ L ↔ (t, k, v) ∈ entB (Bs[ixT Bs.length t k]'(ix_lt h.wt t k)) := by
  rw [← h.pm.mem_iff]
  unfold entT
  rw [List.mem_flatMap]
  constructor
  · rintro ⟨B, hB, he⟩
    obtain ⟨j, hj, rfl⟩ := List.getElem_of_mem hB
    have := (h.wt.wb j hj).c.hs _ he
    simp only at this
    have e : ixT Bs.length t k = j := by unfold ixT; rw [h.wt.len]; exact this
    simp only [e]
    exact he
  · intro he
    exact ⟨_, List.getElem_mem _, he⟩
def fnd (L : List En) (t : Int) (k : List UInt8) : Option En := L.find? fun e => decide (e.1 = t ∧ e.2.1 = k)
theorem fnd_some {L : List En} (hn : (L.map nmE).Nodup) {t : Int} {k : List UInt8} {v : Int} (h : (t, k, v) ∈ L) : fnd L t k = some (t, k, v) := by
  unfold fnd
  cases hf : L.find? fun e => decide (e.1 = t ∧ e.2.1 = k) with
  | none =>
    have := List.find?_eq_none.1 hf _ h
    simp at this
  | some e =>
    have h1 := List.find?_some hf
    have h2 := List.mem_of_find?_eq_some hf
    have h3 := of_decide_eq_true h1
    rw [nodup_mem nmE L hn h2 h (by simp [nmE, h3.1, h3.2])]
theorem fnd_none {L : List En} {t : Int} {k : List UInt8} (h : ∀ v, (t, k, v) ∉ L) : fnd L t k = none := by
  unfold fnd
  rw [List.find?_eq_none]
  rintro ⟨t2, k2, v⟩ he hd
  have := of_decide_eq_true hd
  simp only at this
  exact h v (by rw [← this.1, ← this.2]; exact he)
theorem fnd_cases {L : List En} (hn : (L.map nmE).Nodup) (t : Int) (k : List UInt8) : (∃ v, (t, k, v) ∈ L ∧ fnd L t k = some (t, k, v)) ∨ ((∀ v, (t, k, v) ∉ L) ∧ fnd L t k = none) := by
  by_cases h : ∃ v, (t, k, v) ∈ L
  · obtain ⟨v, hv⟩ := h
    exact .inl ⟨v, hv, fnd_some hn hv⟩
  · have h2 : ∀ v, (t, k, v) ∉ L := fun v hv => h ⟨v, hv⟩
    exact .inr ⟨h2, fnd_none h2⟩
def getL (L : List En) (t : Int) (k : List UInt8) : Int × Bool := match fnd L t k with
  | some e => (e.2.2, true)
  | none => (0, false)
def updL (L : List En) (t : Int) (k : List UInt8) (v : Int) : List En := L.map fun e => if e.1 = t ∧ e.2.1 = k then (t, k, v) else e
def delL (L : List En) (t : Int) (k : List UInt8) : List En := L.filter fun e => !decide (e.1 = t ∧ e.2.1 = k)
def stL (L : List En) (nb i : Nat) : Nat := L.countP fun e => decide (hN e.1 e.2.1 % nb = i)
def putL (L : List En) (nb : Nat) (t : Int) (k : List UInt8) (v : Int) : (Int × Bool × Nat) × List En :=
  if t < 0 ∨ 16 ≤ t ∨ 512 < k.length then ((0, false, 2), L) else match fnd L t k with
  | some e => ((e.2.2, true, 0), updL L t k v)
  | none => if stL L nb (hN t k % nb) = 4096 then ((0, false, 14), L) else ((0, false, 0), L ++ [(t, k, v)])
def delR (L : List En) (t : Int) (k : List UInt8) : (Int × Bool) × List En := match fnd L t k with
  | some e => ((e.2.2, true), delL L t k)
  | none => ((0, false), L)
def repR (L : List En) (t : Int) (k : List UInt8) (old v : Int) : Bool × List En := match fnd L t k with
  | some e => if e.2.2 = old then (true, updL L t k v) else (false, L)
  | none => (false, L)
theorem upd_perm {L R : List En} (hn : (L.map nmE).Nodup) {t : Int} {k : List UInt8} {v0 : Int} (v : Int) (h : L.Perm ((t, k, v0) :: R)) : (updL L t k v).Perm ((t, k, v) :: R) := by
  have h2 := h.map (fun e : En => if e.1 = t ∧ e.2.1 = k then (t, k, v) else e)
  refine (show (updL L t k v).Perm _ from h2).trans ?_
  rw [List.map_cons, if_pos ⟨rfl, rfl⟩]
  have hr : R.map (fun e : En => if e.1 = t ∧ e.2.1 = k then (t, k, v) else e) = R := by
    conv => rhs; rw [← List.map_id R]
    apply List.map_congr_left
    intro e he
    rw [if_neg]
    · rfl
    · rintro ⟨e1, e2⟩
      have hn2 := (h.map nmE).nodup_iff.1 hn
      rw [List.map_cons, List.nodup_cons] at hn2
      exact hn2.1 (List.mem_map.2 ⟨e, he, by simp [nmE, e1, e2]⟩)
  rw [hr]
theorem del_perm {L R : List En} (hn : (L.map nmE).Nodup) {t : Int} {k : List UInt8} {v0 : Int} (h : L.Perm ((t, k, v0) :: R)) : (delL L t k).Perm R := by
  have h2 := h.filter (fun e : En => !decide (e.1 = t ∧ e.2.1 = k))
  refine (show (delL L t k).Perm _ from h2).trans ?_
  rw [List.filter_cons_of_neg (by simp)]
  have hr : R.filter (fun e : En => !decide (e.1 = t ∧ e.2.1 = k)) = R := by
    rw [List.filter_eq_self]
    intro e he
    simp only [Bool.not_eq_eq_eq_not, Bool.not_true, decide_eq_false_iff_not]
    rintro ⟨e1, e2⟩
    have hn2 := (h.map nmE).nodup_iff.1 hn
    rw [List.map_cons, List.nodup_cons] at hn2
    exact hn2.1 (List.mem_map.2 ⟨e, he, by simp [nmE, e1, e2]⟩)
  rw [hr]
theorem upd_names (L : List En) (t : Int) (k : List UInt8) (v : Int) : (updL L t k v).map nmE = L.map nmE := by
  unfold updL
  rw [List.map_map]
  apply List.map_congr_left
  intro e _
  simp only [Function.comp]
  split
  · rename_i h; simp [nmE, h.1, h.2]
  · rfl
theorem del_nodup {L : List En} (hn : (L.map nmE).Nodup) (t : Int) (k : List UInt8) : ((delL L t k).map nmE).Nodup := hn.sublist ((List.filter_sublist).map nmE)
theorem get_spec {nb : Nat} {Bs : List Bd} {L : List En} (h : TR nb Bs L) (t : Int) (k : List UInt8) : getB (Bs[ixT Bs.length t k]'(ix_lt h.wt t k)) t k = getL L t k := by
  unfold getB getL
  rcases fnd_cases h.nd t k with ⟨v, hv, hf⟩ | ⟨hv, hf⟩
  · obtain ⟨b, j, q1, q2⟩ := find_in ((h.wt.wb _ (ix_lt h.wt t k)).c) ((mem_band h).1 hv)
    rw [hf, q1]
    simp only [q2]
  · rw [hf, find_out fun v hm => hv v ((mem_band h).2 hm)]
/-- an entry's slot -/
theorem place_in {nb i : Nat} {B : Bd} (h : WB nb i B) {t : Int} {k : List UInt8} {v : Int} {b : Bool} {j : Nat} (hf : findB B t k = some (b, j)) (hs : slotAt B b j = ⟨1, t, k, v⟩) (hk : k.length ≤ 512) : (∀ v', WB nb i (setAt B b j { slotAt B b j with v := v' }) ∧ ∃ rest, (entB B).Perm ((t, k, v) :: rest) ∧ (entB (setAt B b j { slotAt B b j with v := v' })).Perm ((t, k, v') :: rest)) ∧ (WB nb i { setAt B b j ⟨2, 0, [], 0⟩ with count := B.count - 1 } ∧ 0 < B.count ∧ ∃ rest, (entB B).Perm ((t, k, v) :: rest) ∧ (entB { setAt B b j ⟨2, 0, [], 0⟩ with count := B.count - 1 }).Perm rest) := by
  have hp := find_ok hf
  have hs1 : (slotAt B b j).st = 1 := by rw [hs]
  have hE : ent1 (slotAt B b j) = [(t, k, v)] := by rw [hs]; rfl
  have hcnt : 0 < B.count := by
    obtain ⟨rest, p1, -⟩ := ent_setAt hp (⟨2, 0, [], 0⟩ : Sl)
    rw [h.c.cnt, p1.length_eq, hE]
    simp
  have hmv : ∀ x, (setAt B b j x).moved = B.moved := fun x => by cases b <;> rfl
  have hll : ∀ x, (setAt B b j x).l.length = B.l.length := fun x => by cases b <;> simp [setAt]
  have hus : ∀ x, (setAt B b j x).used = B.used := fun x => by cases b <;> rfl
  have hel : ∀ x, x.st = 1 ∨ x.st = 2 → (setAt B b j x).el ≠ [] → B.el ≠ [] ∧ (ents (setAt B b j x).el).length ≤ (ents B.el).length := by
    intro x hx
    cases b with
    | false => exact fun h2 => ⟨h2, Nat.le_refl _⟩
    | true =>
      intro h2
      have hj : j < B.el.length := hp
      refine ⟨fun e => by rw [e] at hj; simp at hj, ?_⟩
      have hst : ent1 B.el[j] = [(t, k, v)] := by have := hE; unfold slotAt at this; rw [if_pos rfl, getD_at hj] at this; exact this
      show (ents (B.el.set j x)).length ≤ _
      rw [ents_set B.el j hj, ents_at B.el j hj, hst]
      have : (ent1 x).length ≤ 1 := by unfold ent1; split <;> simp
      simp only [List.length_append, List.length_singleton]
      omega
  constructor
  · intro v'
    have w := wc_setAt h.c hp hs1 { slotAt B b j with v := v' } (by simp [hs]) (fun _ => ⟨rfl, rfl⟩) (by simp [hs]; exact hk)
    have e1 : (ent1 { slotAt B b j with v := v' }).length = 1 := by rw [hs]; rfl
    rw [e1, Nat.sub_add_cancel hcnt] at w
    have e2 : ({ setAt B b j { slotAt B b j with v := v' } with count := B.count } : Bd) = setAt B b j { slotAt B b j with v := v' } := by cases b <;> rfl
    rw [e2] at w
    refine ⟨⟨w, by rw [hmv]; exact h.m4, fun hne => ?_⟩, ?_⟩
    · obtain ⟨q1, q2⟩ := hel _ (.inl (by simp [hs])) hne
      have := h.rm q1
      rw [hll, hmv, hus]
      omega
    · obtain ⟨rest, p1, p2⟩ := ent_setAt hp { slotAt B b j with v := v' }
      refine ⟨rest, by rw [hE] at p1; exact p1, ?_⟩
      have e3 : ent1 { slotAt B b j with v := v' } = [(t, k, v')] := by rw [hs]; rfl
      rw [e3] at p2
      exact p2
  · have w := wc_setAt h.c hp hs1 ⟨2, 0, [], 0⟩ (by simp) (fun e => by simp at e) (by simp)
    have e1 : (ent1 ⟨2, 0, [], 0⟩).length = 0 := rfl
    rw [e1, Nat.add_zero] at w
    refine ⟨⟨w, by show (setAt B b j _).moved % 4 = 0; rw [hmv]; exact h.m4, fun hne => ?_⟩, hcnt, ?_⟩
    · obtain ⟨q1, q2⟩ := hel ⟨2, 0, [], 0⟩ (.inr rfl) hne
      have := h.rm q1
      show 4 * ((setAt B b j _).used + (ents (setAt B b j _).el).length) ≤ (setAt B b j _).l.length + (setAt B b j _).moved + 4
      rw [hll, hmv, hus]
      omega
    · obtain ⟨rest, p1, p2⟩ := ent_setAt hp (⟨2, 0, [], 0⟩ : Sl)
      refine ⟨rest, by rw [hE] at p1; exact p1, p2⟩
theorem tr_set {nb : Nat} {Bs : List Bd} {L : List En} (h : TR nb Bs L) {i : Nat} (hi : i < Bs.length) {B : Bd} (hB : WB nb i B) {L' : List En} (hp : ∀ O, L.Perm (entB Bs[i] ++ O) → L'.Perm (entB B ++ O)) (hn : (L'.map nmE).Nodup) : TR nb (Bs.set i B) L' :=
  ⟨wt_set h.wt hi hB, (entT_set Bs i hi B).trans (hp _ (h.pm.symm.trans (entT_at Bs i hi))).symm, hn⟩
theorem key_le {nb i : Nat} {B : Bd} (h : WC nb i B) {t : Int} {k : List UInt8} {v : Int} (hm : (t, k, v) ∈ entB B) : k.length ≤ 512 := by
  unfold entB at hm
  rcases List.mem_append.1 hm with h1 | h1
  · obtain ⟨j, hj, -, e⟩ := mem_ents.1 h1
    simp only [Prod.mk.injEq] at e
    rw [e.2.1]
    exact h.ky _ (List.mem_append.2 (.inl (List.getElem_mem hj)))
  · obtain ⟨j, hj, -, e⟩ := mem_ents.1 h1
    simp only [Prod.mk.injEq] at e
    rw [e.2.1]
    exact h.ky _ (List.mem_append.2 (.inr (List.getElem_mem hj)))
theorem st_spec {nb : Nat} {Bs : List Bd} {L : List En} (h : TR nb Bs L) {i : Nat} (hi : i < Bs.length) : stL L nb i = Bs[i].count := by
  unfold stL
  rw [← h.pm.countP_eq, (entT_at Bs i hi).countP_eq, List.countP_append]
  have h1 : List.countP (fun e : En => decide (hN e.1 e.2.1 % nb = i)) (entB Bs[i]) = (entB Bs[i]).length := by
    rw [List.countP_eq_length]
    intro e he
    exact decide_eq_true ((h.wt.wb i hi).c.hs e he)
  have h2 : List.countP (fun e : En => decide (hN e.1 e.2.1 % nb = i)) (entT (Bs.eraseIdx i)) = 0 := by
    rw [List.countP_eq_zero]
    intro e he hd
    obtain ⟨B, hB, hm⟩ := List.mem_flatMap.1 he
    obtain ⟨j, hj, hne, rfl⟩ := List.mem_eraseIdx_iff_getElem.1 hB
    have := (h.wt.wb j hj).c.hs e hm
    have := of_decide_eq_true hd
    omega
  rw [h1, h2, Nat.add_zero, (h.wt.wb i hi).c.cnt]
theorem put_spec {nb : Nat} {Bs : List Bd} {L : List En} (h : TR nb Bs L) (t : Int) (k : List UInt8) (v : Int) (g : Nat) : (putB g (Bs[ixT Bs.length t k]'(ix_lt h.wt t k)) t k v).1 = (putL L nb t k v).1 ∧ TR nb (Bs.set (ixT Bs.length t k) (putB g (Bs[ixT Bs.length t k]'(ix_lt h.wt t k)) t k v).2) (putL L nb t k v).2 := by
  have hi := ix_lt h.wt t k
  have hix : ixT Bs.length t k = hN t k % nb := by unfold ixT; rw [h.wt.len]
  unfold putB putL
  by_cases hb : t < 0 ∨ 16 ≤ t ∨ 512 < k.length
  · rw [if_pos hb, if_pos hb]
    exact ⟨rfl, by rw [List.set_getElem_self]; exact h⟩
  · rw [if_neg hb, if_neg hb]
    have hwb := h.wt.wb _ hi
    rcases fnd_cases h.nd t k with ⟨v0, hv, hf⟩ | ⟨hv, hf⟩
    · obtain ⟨b, j, q1, q2⟩ := find_in hwb.c ((mem_band h).1 hv)
      rw [hf, q1]
      obtain ⟨w, rest, p1, p2⟩ := (place_in hwb q1 q2 (by omega)).1 v
      refine ⟨by simp [q2], tr_set h hi w (fun O hO => ?_) (by rw [upd_names]; exact h.nd)⟩
      have := upd_perm h.nd v (hO.trans (List.Perm.append_right O p1))
      exact this.trans (List.Perm.append_right O p2.symm)
    · have hnb : ∀ v, (t, k, v) ∉ entB (Bs[ixT Bs.length t k]) := fun v hm => hv v ((mem_band h).2 hm)
      rw [hf, find_out hnb]
      have hst : stL L nb (hN t k % nb) = (Bs[ixT Bs.length t k]).count := by rw [← hix]; exact st_spec h hi
      simp only [hst]
      by_cases hfull : (Bs[ixT Bs.length t k]).count = 4096
      · rw [if_pos hfull, if_pos hfull]
        exact ⟨rfl, by rw [List.set_getElem_self]; exact h⟩
      · rw [if_neg hfull, if_neg hfull]
        obtain ⟨-, g1, g2, g3, g4, g5, g6⟩ := wb_grown hwb g
        have hcm := hwb.c.cm
        obtain ⟨l1, l2, l3, l4⟩ := wc_lay g1 v g4 (fun v hm => hnb v (g2.mem_iff.1 hm)) (by omega) hix.symm (by omega)
        obtain ⟨e1, e2, e3, e4, e5⟩ := layB_g (growB g Bs[ixT Bs.length t k]) t k v
        refine ⟨rfl, tr_set h hi ⟨l1, by show (layB _ t k v).moved % 4 = 0; rw [e4]; exact g5, fun hne => ?_⟩ (fun O hO => ?_) ?_⟩
        · have hne2 : (growB g Bs[ixT Bs.length t k]).el ≠ [] := by rw [← e3]; exact hne
          have := g6 hne2
          show 4 * ((layB _ t k v).used + (ents (layB _ t k v).el).length) ≤ (layB _ t k v).l.length + (layB _ t k v).moved + 4
          rw [e3, e4, l3]
          omega
        · show (L ++ [(t, k, v)]).Perm (entB (layB _ t k v) ++ O)
          refine (List.perm_append_comm (l₁ := L) (l₂ := [(t, k, v)])).trans ?_
          refine List.Perm.trans ?_ (List.Perm.append_right O ((l2.trans (List.Perm.cons _ g2)).symm))
          exact List.Perm.cons _ hO
        · rw [List.map_append]
          refine (List.perm_append_comm (l₁ := L.map nmE) (l₂ := [(t, k, v)].map nmE)).nodup_iff.2 ?_
          simp only [List.map_cons, List.map_nil, List.singleton_append, List.nodup_cons]
          refine ⟨fun hm => ?_, h.nd⟩
          obtain ⟨⟨t2, k2, v2⟩, he, e⟩ := List.mem_map.1 hm
          simp only [nmE, Prod.mk.injEq] at e
          obtain ⟨rfl, rfl⟩ := e
          exact hv v2 he
theorem del_spec {nb : Nat} {Bs : List Bd} {L : List En} (h : TR nb Bs L) (t : Int) (k : List UInt8) : (delB (Bs[ixT Bs.length t k]'(ix_lt h.wt t k)) t k).1 = (delR L t k).1 ∧ TR nb (Bs.set (ixT Bs.length t k) (delB (Bs[ixT Bs.length t k]'(ix_lt h.wt t k)) t k).2) (delR L t k).2 ∧ (findB (Bs[ixT Bs.length t k]'(ix_lt h.wt t k)) t k ≠ none → 0 < (Bs[ixT Bs.length t k]'(ix_lt h.wt t k)).count) := by
  have hi := ix_lt h.wt t k
  unfold delB delR
  have hwb := h.wt.wb _ hi
  rcases fnd_cases h.nd t k with ⟨v0, hv, hf⟩ | ⟨hv, hf⟩
  · obtain ⟨b, j, q1, q2⟩ := find_in hwb.c ((mem_band h).1 hv)
    rw [hf, q1]
    obtain ⟨w, hc, rest, p1, p2⟩ := (place_in hwb q1 q2 (key_le hwb.c ((mem_band h).1 hv))).2
    refine ⟨by simp [q2], tr_set h hi w (fun O hO => ?_) (del_nodup h.nd t k), fun _ => hc⟩
    have := del_perm h.nd (hO.trans (List.Perm.append_right O p1))
    exact this.trans (List.Perm.append_right O p2.symm)
  · have hn := find_out (B := Bs[ixT Bs.length t k]) fun v hm => hv v ((mem_band h).2 hm)
    rw [hf, hn]
    exact ⟨rfl, by rw [List.set_getElem_self]; exact h, fun h2 => absurd rfl h2⟩
theorem rep_spec {nb : Nat} {Bs : List Bd} {L : List En} (h : TR nb Bs L) (t : Int) (k : List UInt8) (old v : Int) : (repB (Bs[ixT Bs.length t k]'(ix_lt h.wt t k)) t k old v).1 = (repR L t k old v).1 ∧ TR nb (Bs.set (ixT Bs.length t k) (repB (Bs[ixT Bs.length t k]'(ix_lt h.wt t k)) t k old v).2) (repR L t k old v).2 := by
  have hi := ix_lt h.wt t k
  unfold repB repR
  have hwb := h.wt.wb _ hi
  rcases fnd_cases h.nd t k with ⟨v0, hv, hf⟩ | ⟨hv, hf⟩
  · obtain ⟨b, j, q1, q2⟩ := find_in hwb.c ((mem_band h).1 hv)
    rw [hf, q1]
    simp only [q2]
    by_cases ho : v0 = old
    · rw [if_pos ho, if_pos ho]
      obtain ⟨w, rest, p1, p2⟩ := (place_in hwb q1 q2 (key_le hwb.c ((mem_band h).1 hv))).1 v
      rw [q2] at w p2
      refine ⟨rfl, tr_set h hi w (fun O hO => ?_) (by rw [upd_names]; exact h.nd)⟩
      have := upd_perm h.nd v (hO.trans (List.Perm.append_right O p1))
      exact this.trans (List.Perm.append_right O p2.symm)
    · rw [if_neg ho, if_neg ho]
      exact ⟨rfl, by rw [List.set_getElem_self]; exact h⟩
  · have hn := find_out (B := Bs[ixT Bs.length t k]) fun v hm => hv v ((mem_band h).2 hm)
    rw [hf, hn]
    exact ⟨rfl, by rw [List.set_getElem_self]; exact h⟩
theorem cnt_spec {nb : Nat} {Bs : List Bd} {L : List En} (h : TR nb Bs L) : cnt Bs = L.length := by
  rw [← h.pm.length_eq]
  unfold cnt entT
  rw [List.length_flatMap]
  congr 1
  apply List.map_congr_left
  intro B hB
  obtain ⟨j, hj, rfl⟩ := List.getElem_of_mem hB
  exact (h.wt.wb j hj).c.cnt
theorem new_wb (nb i g : Nat) : WB nb i (newBd g) := by
  have h1 : ents (List.replicate 8 e0) = [] := ents_rep 8
  have h2 : entB (newBd g) = [] := by unfold entB newBd; simp only; rw [h1]; rfl
  refine ⟨⟨by simp [newBd], by simp [newBd], by simp [newBd], by simp [newBd], rfl, Nat.le_refl _, fun j hj => by simp [newBd] at hj, ?_, by rw [h2]; rfl, by simp [newBd], ?_, fun j hj => by simp [newBd] at hj, by rw [h2]; simp, ?_, by rw [h2]; simp⟩, rfl, fun h => absurd rfl h⟩
  · show 0 = us (List.replicate 8 e0)
    rw [us_rep]
  · intro j hj h
    simp only [newBd, List.getElem_replicate] at h
    simp [e0] at h
  · intro s hs
    simp only [newBd, List.append_nil] at hs
    rw [(List.mem_replicate.1 hs).2]
    simp [e0]
theorem new_tr (gs : List Nat) (h1 : 0 < gs.length) (h2 : gs.length ≤ 64) : TR gs.length (gs.map newBd) [] := by
  refine ⟨⟨by simp, h1, h2, fun i hi => by rw [List.getElem_map]; exact new_wb _ _ _⟩, ?_, by simp⟩
  have : entT (gs.map newBd) = [] := by
    unfold entT
    rw [List.flatMap_eq_nil_iff]
    intro B hB
    obtain ⟨g, -, rfl⟩ := List.mem_map.1 hB
    unfold entB newBd
    simp only
    rw [ents_rep]
    rfl
  rw [this]
#print axioms put_spec
#print axioms del_spec
#print axioms rep_spec
#print axioms new_tr
end Go.Proofs.Ytefcinifaaablaa.Stripe
