/-
  OrderGone: the lists of operations (plain).
-/
import Derived.Test.YtefcinifaaablaaOrd8
namespace Go.Proofs.Ytefcinifaaablaa.Ord
open Go.RowKit Go.Sep
set_option maxRecDepth 100000
set_option linter.unusedVariables false
set_option linter.unusedSimpArgs false

def InstL (ops : List OpD) : Prop := ∀ (j : Nat) (o : OpD), ops[j]? = some o → o.kind = 1 ∧ o.key = ⟨#[47, 107]⟩ ∧ o.id = (j : Int) + 1 ∧ (j = 0 → o.ga = none ∧ o.gn = 0 ∧ o.gc = 0) ∧ (0 < j → ∃ g, o.ga = some ⟨g, 0, none⟩ ∧ o.gn = 1)
theorem instL_nil : InstL [] := fun j o h => by simp at h
theorem instL_snoc {ops : List OpD} (h : InstL ops) (x : OpD) (h1 : x.kind = 1 ∧ x.key = ⟨#[47, 107]⟩ ∧ x.id = (ops.length : Int) + 1 ∧ (ops.length = 0 → x.ga = none ∧ x.gn = 0 ∧ x.gc = 0) ∧ (0 < ops.length → ∃ g, x.ga = some ⟨g, 0, none⟩ ∧ x.gn = 1)) : InstL (ops ++ [x]) := by
  intro j o ho
  by_cases hj : j < ops.length
  · rw [List.getElem?_append_left hj] at ho
    exact h j o ho
  · have : j = ops.length := by have := (List.getElem?_eq_some_iff.1 ho).1; simp at this; omega
    subst this
    rw [List.getElem?_append_right (Nat.le_refl _), Nat.sub_self] at ho
    simp at ho
    subst ho
    exact h1
def Gone (w0 : World) (ops : List OpD) : Prop := ∀ o ∈ ops, ∀ g, o.ga = some ⟨g, 0, none⟩ → w0.cell? ⟨g, 0, none⟩ = some (.int .i64 (o.id - 1))
def stI (i : Nat) : St := if i = 0 then (none, 0) else (some (i : Int), (i : Int))
theorem run_inst {ops : List OpD} (t : List OpD) (hI : InstL ops) : ∀ i, i ≤ ops.length → runO (ops ++ t) i = stI i
  | 0, _ => by unfold runO stI; simp
  | i + 1, h => by
    have ih := run_inst t hI i (by omega)
    obtain ⟨o, ho⟩ : ∃ o, ops[i]? = some o := ⟨_, List.getElem?_eq_getElem (by omega)⟩
    have ho2 : (ops ++ t)[i]? = some o := by rw [List.getElem?_append_left (by omega)]; exact ho
    obtain ⟨h1, h2, h3, -, -⟩ := hI i o ho
    rw [runO_succ _ _ _ ho2]
    unfold stepO stI
    rw [if_pos h1, if_neg (by omega), h3]
    rfl
theorem ok_inst {w0 : World} {ops : List OpD} (t : List OpD) (hI : InstL ops) (hn : ops.length ≤ 16) (hg : Gone w0 ops) (i : Nat) (o : OpD) (hi : i < ops.length) (ho : (ops ++ t)[i]? = some o) : OkO w0 o (runO (ops ++ t) i) ∧ (stepO o (runO (ops ++ t) i)).2 = 0 := by
  rw [run_inst t hI i (by omega)]
  rw [List.getElem?_append_left hi] at ho
  obtain ⟨h1, h2, h3, h4, h5⟩ := hI i o ho
  refine ⟨?_, by unfold stepO; rw [if_pos h1]⟩
  refine .inst h1 h2 (by omega) ?_ ⟨by omega, by omega⟩ ?_
  · unfold stI
    split
    · rw [h3]; show (0 : Int) < _; omega
    · rw [h3]; show (i : Int) < _; omega
  · by_cases h0 : i = 0
    · subst h0
      obtain ⟨a, b, c⟩ := h4 rfl
      exact .inl ⟨rfl, a, b, c, h1⟩
    · obtain ⟨g, a, b⟩ := h5 (by omega)
      have hc := hg o (List.mem_of_getElem? ho) g a
      refine .inr ⟨g, i, by unfold stI; rw [if_neg h0], ⟨by omega, by omega⟩, a, b, ?_⟩
      rw [hc, h3]
      congr 2
      omega
def lkO (q : Int) : OpD := ⟨0, ⟨#[47, 107]⟩, q, none, 0, 0⟩
def puO (g gc : Nat) : OpD := ⟨3, ⟨#[47]⟩, 0, some ⟨g, 0, none⟩, 1, gc⟩
theorem last_get {ops t : List OpD} {o : OpD} (x : OpD) (h : (ops ++ x :: t)[ops.length]? = some o) : o = x := by
  rw [List.getElem?_append_right (Nat.le_refl _), Nat.sub_self] at h
  simpa using h.symm
theorem step_lk (q : Int) (st : St) : stepO (lkO q) st = if q = 0 then (st, if st.1.isSome = true then 13 else 0) else (st, if st.1 = some q then 0 else 12) := by
  unfold stepO lkO
  simp only
  rw [if_neg (by decide), if_neg (by decide)]
theorem runA {w0 : World} {ops : List OpD} (hI : InstL ops) (hn : ops.length ≤ 16) (h1 : 1 ≤ ops.length) (hg : Gone w0 ops) (q : Int) (hq : 0 < q) :
    ∃ m at' rr, RunOk w0 (ops ++ [lkO q]) m ∧ m ≤ (ops ++ [lkO q]).length ∧ ((m = (ops ++ [lkO q]).length ∧ at' = 0 ∧ rr = 0) ∨ ∃ o, (ops ++ [lkO q])[m]? = some o ∧ at' = (m : Int) ∧ rr = (stepO o (runO (ops ++ [lkO q]) m)).2 ∧ rr ≠ 0) ∧
      (if q = ops.length then at' = 0 ∧ rr = 0 else at' = ops.length ∧ rr = 12) := by
  have hst : runO (ops ++ [lkO q]) ops.length = (some (ops.length : Int), (ops.length : Int)) := by rw [run_inst _ hI _ (Nat.le_refl _)]; unfold stI; rw [if_neg (by omega)]
  have hs := step_lk q (some (ops.length : Int), (ops.length : Int))
  rw [if_neg (by omega)] at hs
  have hok : OkO w0 (lkO q) (some (ops.length : Int), (ops.length : Int)) := .look rfl rfl ⟨rfl, rfl, rfl⟩ (.inr ⟨hq, _, rfl⟩)
  by_cases e : q = ops.length
  · refine ⟨ops.length + 1, 0, 0, fun i o ho hi => ?_, by simp, .inl ⟨by simp, rfl, rfl⟩, by rw [if_pos e]; exact ⟨rfl, rfl⟩⟩
    by_cases hil : i < ops.length
    · have := ok_inst [lkO q] hI hn hg i o hil ho
      exact ⟨this.1, fun _ => this.2⟩
    · have : i = ops.length := by have := (List.getElem?_eq_some_iff.1 ho).1; simp at this; omega
      subst this
      obtain rfl := last_get _ ho
      rw [hst, hs]
      exact ⟨hok, fun _ => by simp [e]⟩
  · refine ⟨ops.length, ops.length, 12, fun i o ho hi => ?_, by simp, .inr ⟨lkO q, ?_, rfl, ?_, by decide⟩, by rw [if_neg e]; exact ⟨rfl, rfl⟩⟩
    · by_cases hil : i < ops.length
      · have := ok_inst [lkO q] hI hn hg i o hil ho
        exact ⟨this.1, fun _ => this.2⟩
      · have : i = ops.length := by omega
        subst this
        obtain rfl := last_get _ ho
        rw [hst]
        exact ⟨hok, fun h => absurd h (Nat.lt_irrefl _)⟩
    · rw [List.getElem?_append_right (Nat.le_refl _), Nat.sub_self]; rfl
    · rw [hst, hs]
      have : ¬ (some (ops.length : Int) = some q) := fun h => e (Option.some.inj h).symm
      simp only [if_neg this]
theorem runB {w0 : World} {ops : List OpD} (hI : InstL ops) (hn : ops.length ≤ 16) (h1 : 1 ≤ ops.length) (hg : Gone w0 ops) :
    RunOk w0 (ops ++ [lkO 0]) ops.length ∧ ops.length ≤ (ops ++ [lkO 0]).length ∧ ∃ o, (ops ++ [lkO 0])[ops.length]? = some o ∧ (13 : Int) = (stepO o (runO (ops ++ [lkO 0]) ops.length)).2 := by
  have hst : runO (ops ++ [lkO 0]) ops.length = (some (ops.length : Int), (ops.length : Int)) := by rw [run_inst _ hI _ (Nat.le_refl _)]; unfold stI; rw [if_neg (by omega)]
  refine ⟨fun i o ho hi => ?_, by simp, lkO 0, by rw [List.getElem?_append_right (Nat.le_refl _), Nat.sub_self]; rfl, ?_⟩
  · by_cases hil : i < ops.length
    · have := ok_inst [lkO 0] hI hn hg i o hil ho
      exact ⟨this.1, fun _ => this.2⟩
    · have : i = ops.length := by omega
      subst this
      obtain rfl := last_get _ ho
      rw [hst]
      exact ⟨.look rfl rfl ⟨rfl, rfl, rfl⟩ (.inl rfl), fun h => absurd h (Nat.lt_irrefl _)⟩
  · rw [hst, step_lk, if_pos rfl]; rfl
theorem runC {w0 : World} {ops : List OpD} (hI : InstL ops) (hn : ops.length ≤ 16) (h1 : 1 ≤ ops.length) (hg : Gone w0 ops) (g gc : Nat) (hc : w0.cell? ⟨g, 0, none⟩ = some (.int .i64 ops.length)) :
    RunOk w0 (ops ++ [puO g gc, lkO 0]) (ops.length + 2) ∧ (runO (ops ++ [puO g gc, lkO 0]) (ops.length + 2)).1 = none := by
  have hst : runO (ops ++ [puO g gc, lkO 0]) ops.length = (some (ops.length : Int), (ops.length : Int)) := by rw [run_inst _ hI _ (Nat.le_refl _)]; unfold stI; rw [if_neg (by omega)]
  have g0 : (ops ++ [puO g gc, lkO 0])[ops.length]? = some (puO g gc) := by rw [List.getElem?_append_right (Nat.le_refl _), Nat.sub_self]; rfl
  have g1 : (ops ++ [puO g gc, lkO 0])[ops.length + 1]? = some (lkO 0) := by rw [List.getElem?_append_right (by omega), Nat.add_sub_cancel_left]; rfl
  have hs1 : stepO (puO g gc) (some (ops.length : Int), (ops.length : Int)) = ((none, (ops.length : Int)), 0) := by simp [stepO, puO]
  have hr1 : runO (ops ++ [puO g gc, lkO 0]) (ops.length + 1) = (none, (ops.length : Int)) := by rw [runO_succ _ _ _ g0, hst, hs1]
  have hs2 : stepO (lkO 0) (none, (ops.length : Int)) = ((none, (ops.length : Int)), 0) := by simp [stepO, lkO]
  have hr2 : runO (ops ++ [puO g gc, lkO 0]) (ops.length + 2) = (none, (ops.length : Int)) := by rw [runO_succ _ _ _ g1, hr1, hs2]
  refine ⟨fun i o ho hi => ?_, by rw [hr2]⟩
  by_cases hil : i < ops.length
  · have := ok_inst [puO g gc, lkO 0] hI hn hg i o hil ho
    exact ⟨this.1, fun _ => this.2⟩
  · by_cases hi0 : i = ops.length
    · subst hi0
      obtain rfl := Option.some.inj (g0.symm.trans ho)
      rw [hst, hs1]
      exact ⟨.purge rfl rfl rfl (.inr ⟨g, ops.length, rfl, ⟨by omega, by omega⟩, rfl, rfl, hc⟩), fun _ => rfl⟩
    · have hi1 : i = ops.length + 1 := by have := (List.getElem?_eq_some_iff.1 ho).1; simp at this; omega
      subst hi1
      obtain rfl := Option.some.inj (g1.symm.trans ho)
      rw [hr1, hs2]
      exact ⟨.look rfl rfl ⟨rfl, rfl, rfl⟩ (.inl rfl), fun _ => rfl⟩
#print axioms runA
#print axioms runB
#print axioms runC
/-- the blocks of what goes -/
def goneA : List OpD → Asr
  | [] => emp
  | o :: r => (match o.ga with | some ⟨g, _, _⟩ => pts g (.cells #[.int .i64 (o.id - 1)] 3 (0, 0)) | none => emp) * goneA r
theorem goneA_app : ∀ a b : List OpD, goneA (a ++ b) = goneA a * goneA b
  | [], b => by simp [goneA, emp_star]
  | o :: r, b => by rw [List.cons_append, goneA, goneA, goneA_app r b, star_assoc]
theorem goneA_gone {w : World} : ∀ {ops : List OpD} {F : Asr}, Holds w (goneA ops * F) → Gone w ops
  | [], F, h => fun o ho => by cases ho
  | x :: r, F, h => by
    intro o ho g hga
    rw [goneA] at h
    rcases List.mem_cons.1 ho with e | ho
    · subst e
      rw [hga] at h
      have := (h.eqv (star_assoc _ _ _)).cell 0
      simpa using this
    · exact goneA_gone (F := F * (match x.ga with | some ⟨g, _, _⟩ => pts g (.cells #[.int .i64 (x.id - 1)] 3 (0, 0)) | none => emp)) (h.eqv (by ac_rfl)) o ho g hga
#print axioms goneA_gone
end Go.Proofs.Ytefcinifaaablaa.Ord
