/-
  Layer 6: New.
-/
import Derived.Test.YtibhnkkfaochhaaDoorDec12
namespace Go.Proofs.YtibhnkkfaochhaaDoor.Dec
open Go.RowKit Go.Sep
open Go.Proofs.YtibhnkkfaochhaaDoor.Tok
set_option maxRecDepth 100000
set_option linter.unusedVariables false
set_option linter.unusedSimpArgs false

def newR (k n : Int) : Nat := if k < 0 ∨ 3 < k ∨ n < 0 ∨ (0 < n ∧ k ≠ 1) then 2 else if 1048576 < n then 3 else 0
theorem newD_ok (k n : Nat) (hk : k ≤ 3) (hn : n ≤ 1048576) (h : n = 0 ∨ k = 1) : OkS (newD k n) := by
  unfold newD
  by_cases h0 : n = 0 ∧ k ≤ 1
  · exact .inl (stop_d (by simp [h0]))
  · refine .inr ⟨?_, Nat.zero_le _, by simp only; omega, by simp, ?_, ?_⟩
    · simp only; split <;> (try split) <;> (try split) <;> omega
    · simp only; intro e; split at e <;> (try split at e) <;> (try split at e) <;> omega
    · simp only; intro e; split at e <;> (try split at e) <;> (try split at e) <;> omega
def NewC (k n : Int) (F : Asr) (w : World) (e : Ending) (w' : World) : Prop :=
  (newR k n ≠ 0 ∧ e = .returned (.tuple #[.pointer none, .int .i64 (newR k n)]) ∧ Below w.heap.size w w') ∨
  (newR k n = 0 ∧ 0 ≤ k ∧ k ≤ 3 ∧ 0 ≤ n ∧ n ≤ 1048576 ∧ (n = 0 ∨ k = 1) ∧ ∃ d, e = .returned (.tuple #[.pointer (some ⟨d, 0, none⟩), .int .i64 0]) ∧ Holds w' (decA d (newD k.toNat n.toNat) [] * F) ∧ Sm w w')
set_option maxHeartbeats 4000000 in
theorem new_bad (k n : Int) (w : World) (h : k < 0 ∨ 3 < k ∨ n < 0 ∨ (0 < n ∧ k ≠ 1)) : Calls Tryd.prog 6 #[.int .i64 k, .int .i64 n] w fun e w' => e = .returned (.tuple #[.pointer none, .int .i64 2]) ∧ w' = w := by
  by_cases h1 : k < 0
  · have t1 : decide (k < 0) = true := decide_eq_true h1
    go_enter Tryd.func6, Tryd.ntmps6
    go_wp2_with fail
    go_ret2
    exact ⟨rfl, rfl⟩
  have t1 : decide (k < 0) = false := decide_eq_false h1
  by_cases h2 : 3 < k
  · have t2 : decide (3 < k) = true := decide_eq_true h2
    go_enter Tryd.func6, Tryd.ntmps6
    go_wp2_with fail
    go_ret2
    exact ⟨rfl, rfl⟩
  have t2 : decide (3 < k) = false := decide_eq_false h2
  by_cases h3 : n < 0
  · have t3 : decide (n < 0) = true := decide_eq_true h3
    go_enter Tryd.func6, Tryd.ntmps6
    go_wp2_with fail
    go_ret2
    exact ⟨rfl, rfl⟩
  have t3 : decide (n < 0) = false := decide_eq_false h3
  have t4 : decide (0 < n) = true := decide_eq_true (by omega)
  have t5 : (k != 1) = true := by simp; omega
  clear h1 h2 h3 h
  go_enter Tryd.func6, Tryd.ntmps6
  go_wp2_with fail
  go_ret2
  exact ⟨rfl, rfl⟩
#print axioms new_bad
set_option maxHeartbeats 4000000 in
theorem new_calls (k n : Int) (F : Asr) (w : World) (hw : Holds w F) : Calls Tryd.prog 6 #[.int .i64 k, .int .i64 n] w (NewC k n F w) := by
  by_cases hb : k < 0 ∨ 3 < k ∨ n < 0 ∨ (0 < n ∧ k ≠ 1)
  · have hr : newR k n = 2 := by unfold newR; rw [if_pos hb]
    refine (new_bad k n w hb).mono ?_
    rintro e w' ⟨rfl, rfl⟩
    exact .inl ⟨by rw [hr]; decide, by rw [hr]; rfl, Below.refl _ _⟩
  · have t1 : decide (k < 0) = false := decide_eq_false (by omega)
    have t2 : decide (3 < k) = false := decide_eq_false (by omega)
    have t3 : decide (n < 0) = false := decide_eq_false (by omega)
    have t45 : (decide (0 < n) = false) ∨ (decide (0 < n) = true ∧ (k != 1) = false) := by
      by_cases h : 0 < n
      · exact .inr ⟨decide_eq_true h, by have : k = 1 := by omega
                                         simp [this]⟩
      · exact .inl (decide_eq_false h)
    by_cases hn : 1048576 < n
    · have hr : newR k n = 3 := by unfold newR; rw [if_neg hb, if_pos hn]
      have t6 : decide (1048576 < n) = true := decide_eq_true hn
      have FIN : Hid (∀ e, e = .returned (.tuple #[.pointer none, .int .i64 3]) → NewC k n F w e w) := by
        rintro e rfl
        exact .inl ⟨by rw [hr]; decide, by rw [hr]; rfl, Below.refl _ _⟩
      clear hb hr hn
      rcases t45 with t4 | ⟨t4, t5⟩
      · go_enter Tryd.func6, Tryd.ntmps6
        go_wp2_with fail
        go_ret2
        exact FIN.out _ rfl
      · go_enter Tryd.func6, Tryd.ntmps6
        go_wp2_with fail
        go_ret2
        exact FIN.out _ rfl
    · have hr : newR k n = 0 := by unfold newR; rw [if_neg hb, if_neg hn]
      have t6 : decide (1048576 < n) = false := decide_eq_false hn
      obtain ⟨kk, rfl⟩ : ∃ m : Nat, k = m := ⟨k.toNat, by omega⟩
      obtain ⟨nn, rfl⟩ : ∃ m : Nat, n = m := ⟨n.toNat, by omega⟩
      have FIN : Hid (∀ d e w', e = .returned (.tuple #[.pointer (some ⟨d, 0, none⟩), .int .i64 0]) → Holds w' (decA d (newD kk nn) [] * F) → Sm w w' → NewC kk nn F w e w') := by
        intro d e w' he h1 h2
        exact .inr ⟨hr, by omega, by omega, by omega, by omega, by omega, d, he, by simpa using h1, h2⟩
      have hk3 : kk = 0 ∨ kk = 1 ∨ kk = 2 ∨ kk = 3 := by omega
      have hz : nn = 0 ∨ 0 < nn := by omega
      have HW := Lib.hid hw
      clear hw hr hn hb
      rcases hz with hz | hz
      · subst hz
        rcases hk3 with hkk | hkk | hkk | hkk
        · subst hkk
          have hA := (HW.out.alloc (.cells #[.int .i64 4, .int .i64 4, .int .i64 0, .int .i64 5] 45)).alloc (.cells #[.bool true, .int .i64 4, .int .i64 0, .int .i64 0, .slice none 0 0, .slice none 0 0, .bool true, .int .i64 0] 47)
          rw [World.size_alloc] at hA
          have HD : Hid (Holds ((w.alloc (.cells #[.int .i64 4, .int .i64 4, .int .i64 0, .int .i64 5] 45)).alloc (.cells #[.bool true, .int .i64 4, .int .i64 0, .int .i64 0, .slice none 0 0, .slice none 0 0, .bool true, .int .i64 0] 47)) (decA (w.heap.size + 1) (newD 0 0) [] * F)) := dec_shut (vo := .slice none 0 0) (vu := .slice none 0 0) ((rowA_nil (rowA_nil ((hA.eqv (star_left_comm _ _ _)).right))).eqv (by unfold newD cD; simp ; ac_rfl))
          have SD : Hid (Sm w ((w.alloc (.cells #[.int .i64 4, .int .i64 4, .int .i64 0, .int .i64 5] 45)).alloc (.cells #[.bool true, .int .i64 4, .int .i64 0, .int .i64 0, .slice none 0 0, .slice none 0 0, .bool true, .int .i64 0] 47))) := ((Sm.refl w).alloc _).alloc _
          clear hA HW
          go_enter Tryd.func6, Tryd.ntmps6
          go_wp2_with fail
          go_ret2
          exact FIN.out (w.heap.size + 1) _ _ rfl HD.out SD.out
        · subst hkk
          have hA := (HW.out.alloc (.cells #[.int .i64 4, .int .i64 4, .int .i64 0, .int .i64 5] 45)).alloc (.cells #[.bool true, .int .i64 4, .int .i64 0, .int .i64 0, .slice none 0 0, .slice none 0 0, .bool true, .int .i64 0] 47)
          rw [World.size_alloc] at hA
          have HD : Hid (Holds ((w.alloc (.cells #[.int .i64 4, .int .i64 4, .int .i64 0, .int .i64 5] 45)).alloc (.cells #[.bool true, .int .i64 4, .int .i64 0, .int .i64 0, .slice none 0 0, .slice none 0 0, .bool true, .int .i64 0] 47)) (decA (w.heap.size + 1) (newD 1 0) [] * F)) := dec_shut (vo := .slice none 0 0) (vu := .slice none 0 0) ((rowA_nil (rowA_nil ((hA.eqv (star_left_comm _ _ _)).right))).eqv (by unfold newD cD; simp ; ac_rfl))
          have SD : Hid (Sm w ((w.alloc (.cells #[.int .i64 4, .int .i64 4, .int .i64 0, .int .i64 5] 45)).alloc (.cells #[.bool true, .int .i64 4, .int .i64 0, .int .i64 0, .slice none 0 0, .slice none 0 0, .bool true, .int .i64 0] 47))) := ((Sm.refl w).alloc _).alloc _
          clear hA HW
          go_enter Tryd.func6, Tryd.ntmps6
          go_wp2_with fail
          go_ret2
          exact FIN.out (w.heap.size + 1) _ _ rfl HD.out SD.out
        · subst hkk
          have hA := (HW.out.alloc (.cells #[.int .i64 4, .int .i64 4, .int .i64 0, .int .i64 5] 45)).alloc (.cells #[.bool true, .int .i64 0, .int .i64 0, .int .i64 0, .slice none 0 0, .slice none 0 0, .bool false, .int .i64 0] 47)
          rw [World.size_alloc] at hA
          have HD : Hid (Holds ((w.alloc (.cells #[.int .i64 4, .int .i64 4, .int .i64 0, .int .i64 5] 45)).alloc (.cells #[.bool true, .int .i64 0, .int .i64 0, .int .i64 0, .slice none 0 0, .slice none 0 0, .bool false, .int .i64 0] 47)) (decA (w.heap.size + 1) (newD 2 0) [] * F)) := dec_shut (vo := .slice none 0 0) (vu := .slice none 0 0) ((rowA_nil (rowA_nil ((hA.eqv (star_left_comm _ _ _)).right))).eqv (by unfold newD cD; simp ; ac_rfl))
          have SD : Hid (Sm w ((w.alloc (.cells #[.int .i64 4, .int .i64 4, .int .i64 0, .int .i64 5] 45)).alloc (.cells #[.bool true, .int .i64 0, .int .i64 0, .int .i64 0, .slice none 0 0, .slice none 0 0, .bool false, .int .i64 0] 47))) := ((Sm.refl w).alloc _).alloc _
          clear hA HW
          go_enter Tryd.func6, Tryd.ntmps6
          go_wp2_with fail
          go_ret2
          exact FIN.out (w.heap.size + 1) _ _ rfl HD.out SD.out
        · subst hkk
          have hA := (HW.out.alloc (.cells #[.int .i64 4, .int .i64 4, .int .i64 0, .int .i64 5] 45)).alloc (.cells #[.bool true, .int .i64 5, .int .i64 0, .int .i64 0, .slice none 0 0, .slice none 0 0, .bool false, .int .i64 0] 47)
          rw [World.size_alloc] at hA
          have HD : Hid (Holds ((w.alloc (.cells #[.int .i64 4, .int .i64 4, .int .i64 0, .int .i64 5] 45)).alloc (.cells #[.bool true, .int .i64 5, .int .i64 0, .int .i64 0, .slice none 0 0, .slice none 0 0, .bool false, .int .i64 0] 47)) (decA (w.heap.size + 1) (newD 3 0) [] * F)) := dec_shut (vo := .slice none 0 0) (vu := .slice none 0 0) ((rowA_nil (rowA_nil ((hA.eqv (star_left_comm _ _ _)).right))).eqv (by unfold newD cD; simp ; ac_rfl))
          have SD : Hid (Sm w ((w.alloc (.cells #[.int .i64 4, .int .i64 4, .int .i64 0, .int .i64 5] 45)).alloc (.cells #[.bool true, .int .i64 5, .int .i64 0, .int .i64 0, .slice none 0 0, .slice none 0 0, .bool false, .int .i64 0] 47))) := ((Sm.refl w).alloc _).alloc _
          clear hA HW
          go_enter Tryd.func6, Tryd.ntmps6
          go_wp2_with fail
          go_ret2
          exact FIN.out (w.heap.size + 1) _ _ rfl HD.out SD.out
      · have hkk : kk = 1 := by
          rcases t45 with h | ⟨-, h⟩
          · have := of_decide_eq_false h; omega
          · have : ((kk : Int) = 1) := by simpa using h
            omega
        have t4 : decide ((0 : Int) < (nn : Int)) = true := decide_eq_true (by omega)
        subst hkk
        have hnz : ¬ nn = 0 := by omega
        have e1 : ((nn : Int) == 0) = false := beq_eq_false_iff_ne.2 (by omega)
        have e2 : (nn == 0) = false := beq_eq_false_iff_ne.2 hnz
        have hA := (HW.out.alloc (.cells #[.int .i64 4, .int .i64 4, .int .i64 0, .int .i64 5] 45)).alloc (.cells #[.bool true, .int .i64 4, .int .i64 (nn : Int), .int .i64 0, .slice none 0 0, .slice none 0 0, .bool false, .int .i64 0] 47)
        rw [World.size_alloc] at hA
        have HD : Hid (Holds ((w.alloc (.cells #[.int .i64 4, .int .i64 4, .int .i64 0, .int .i64 5] 45)).alloc (.cells #[.bool true, .int .i64 4, .int .i64 (nn : Int), .int .i64 0, .slice none 0 0, .slice none 0 0, .bool false, .int .i64 0] 47)) (decA (w.heap.size + 1) (newD 1 nn) [] * F)) := dec_shut (vo := .slice none 0 0) (vu := .slice none 0 0) ((rowA_nil (rowA_nil ((hA.eqv (star_left_comm _ _ _)).right))).eqv (by unfold newD cD; simp [hnz]; ac_rfl))
        have SD : Hid (Sm w ((w.alloc (.cells #[.int .i64 4, .int .i64 4, .int .i64 0, .int .i64 5] 45)).alloc (.cells #[.bool true, .int .i64 4, .int .i64 (nn : Int), .int .i64 0, .slice none 0 0, .slice none 0 0, .bool false, .int .i64 0] 47))) := ((Sm.refl w).alloc _).alloc _
        clear hA HW
        go_enter Tryd.func6, Tryd.ntmps6
        go_wp2_with fail
        go_ret2
        exact FIN.out (w.heap.size + 1) _ _ rfl HD.out SD.out
#print axioms new_calls
end Go.Proofs.YtibhnkkfaochhaaDoor.Dec
