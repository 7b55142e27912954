/-
  Layer 17: the tests of slots; seek.
-/
import Derived.Test.YtefcinifaaablaaStr1
import Derived.Lib.Strings
namespace Go.Proofs.Ytefcinifaaablaa.Stripe
open Go.RowKit Go.Sep
set_option maxRecDepth 100000
set_option linter.unusedVariables false
set_option linter.unusedSimpArgs false

def pS (t : Int) (k : List UInt8) (s : Sl) : Bool := decide (s.st = 0 ∨ (s.st = 1 ∧ s.t = t ∧ s.k = k))
def pL (s : Sl) : Bool := decide (s.st ≠ 1)
theorem layP_calls (g : Nat) (l : List Sl) (F : Asr) (j : Nat) (hj : j < l.length) (w : World) (hw : Holds w (slA g l * F)) : Calls Try.prog 84 #[.pointer (some ⟨g, j * 4, none⟩)] w fun e w' => e = .returned (.bool (pL l[j])) ∧ Below w.heap.size w w' := by
  obtain ⟨c0, c1, c2, c3, fz, lt⟩ := sl_f hw j hj
  unfold pL
  obtain ⟨s, hs⟩ : ∃ q, l[j] = q := ⟨_, rfl⟩
  rw [hs] at c0 ⊢
  by_cases h : s.st = 1
  · rw [decide_eq_false (by simpa using h)]
    rw [h] at c0
    clear h c1 c2 c3 hs
    go_enter Try.func84, Try.ntmps84
    go_wp2_with fail
    go_ret
    exact ⟨rfl, Below.refl _ _⟩
  · rw [decide_eq_true h]
    have t1 : ((s.st : Int) != 1) = true := by simp; omega
    have t2 : (s.st != 1) = true := by simpa using h
    clear h c1 c2 c3 hs
    go_enter Try.func84, Try.ntmps84
    go_wp2_with fail
    go_ret
    exact ⟨rfl, Below.refl _ _⟩
#print axioms layP_calls
theorem ks_eq (a b : List UInt8) : ((ks a).toList == (ks b).toList) = decide (a = b) := by
  rw [Go.Lib.toList_data, Go.Lib.toList_data]
  show (a == b) = _
  by_cases h : a = b
  · simp [h]
  · rw [decide_eq_false h]; exact beq_eq_false_iff_ne.2 h
theorem nam_cell {w : World} {bn : Nat} {t : Int} {k : List UInt8} {F : Asr} (h : Holds w (pts bn (.cells #[.int .i64 t, .string (ks k)] 74 (0, 0)) * F)) : w.cell? ⟨bn, 0, none⟩ = some (.int .i64 t) ∧ w.cell? ⟨bn, 1, none⟩ = some (.string (ks k)) := by
  have c := h.cell
  exact ⟨by rw [c]; rfl, by rw [c]; rfl⟩
theorem eqN (t1 t2 : Int) (k1 k2 : List UInt8) (w : World) : (Op.equalIn 10000 74 (.agg #[.int .i64 t1, .string (ks k1)]) (.agg #[.int .i64 t2, .string (ks k2)])).run Try.prog w = .ok (decide (t1 = t2 ∧ k1 = k2)) w := by
  have u3 := Try.underlying3
  have a3 := Try.isAgg3
  have z3 := Try.sizeOf3
  have u9 := Try.underlying9
  have a9 := Try.isAgg9
  have z9 := Try.sizeOf9
  have hS : Try.prog.underlying 74 = some (.struct (Try.prog.fieldsOf 74)) := by kernel_rfl
  have e1 := ks_eq k1 k2
  rw [show (10000 : Nat) = 9999 + 1 from rfl, run_equalIn_agg w 9999 74 _ _ hS (by kernel_rfl)]
  simp only [Program.fieldsOf, Try.underlying74]
  go_simp
  by_cases h1 : t1 = t2 <;> by_cases h2 : k1 = k2 <;> simp [h1, h2, e1]
set_option maxHeartbeats 4000000 in
theorem seekP_calls (g bn : Nat) (l : List Sl) (t : Int) (k : List UInt8) (F : Asr) (j : Nat) (hj : j < l.length) (w : World) (hw : Holds w (slA g l * (pts bn (.cells #[.int .i64 t, .string (ks k)] 74 (0, 0)) * F))) : Calls Try.prog 109 #[.pointer (some ⟨g, j * 4, none⟩), .pointer (some ⟨bn, 0, none⟩)] w fun e w' => e = .returned (.bool (pS t k l[j])) ∧ Below w.heap.size w w' := by
  obtain ⟨c0, c1, c2, c3, fz, lt⟩ := sl_f hw j hj
  obtain ⟨n0, n1⟩ := nam_cell (hw.eqv (star_left_comm _ _ _))
  unfold pS
  obtain ⟨s, hs⟩ : ∃ q, l[j] = q := ⟨_, rfl⟩
  rw [hs] at c0 c1 c2 c3 ⊢
  by_cases h0 : s.st = 0
  · rw [decide_eq_true (.inl h0)]
    rw [h0] at c0
    clear h0 c1 c2 c3 hs n0 n1 hw
    go_enter Try.func109, Try.ntmps109
    go_wp2_with fail
    go_quiet (fail)
    go_wp2_with fail
    go_ret
    exact ⟨rfl, below_drewN (Below.refl _ _) _⟩
  · have t1 : ((s.st : Int) == 0) = false := beq_eq_false_iff_ne.2 (by omega)
    have t1' : (s.st == 0) = false := beq_eq_false_iff_ne.2 h0
    by_cases h1 : s.st = 1
    · obtain ⟨r, hr⟩ : ∃ q, decide (s.st = 0 ∨ (s.st = 1 ∧ s.t = t ∧ s.k = k)) = q := ⟨_, rfl⟩
      rw [hr]
      rw [h1] at c0
      have EN := fun wq => eqN s.t t s.k k wq
      have er : decide (s.t = t ∧ s.k = k) = r := by rw [← hr]; by_cases ha : s.t = t <;> by_cases hb : s.k = k <;> simp [h1, ha, hb]
      rw [er] at EN
      clear h0 t1 t1' h1 hr er hs hw
      go_enter Try.func109, Try.ntmps109
      go_wp2_with fail
      go_quiet (fail)
      go_wp2_with fail
      go_ret
      exact ⟨rfl, below_drewN (Below.refl _ _) _⟩
    · rw [decide_eq_false (by omega)]
      have t2 : ((s.st : Int) == 1) = false := beq_eq_false_iff_ne.2 (by omega)
      have t2' : (s.st == 1) = false := beq_eq_false_iff_ne.2 h1
      clear h0 h1 hs c1 c2 c3 n0 n1 hw
      go_enter Try.func109, Try.ntmps109
      go_wp2_with fail
      go_quiet (fail)
      go_wp2_with fail
      go_ret
      exact ⟨rfl, below_drewN (Below.refl _ _) _⟩
#print axioms seekP_calls
end Go.Proofs.Ytefcinifaaablaa.Stripe
