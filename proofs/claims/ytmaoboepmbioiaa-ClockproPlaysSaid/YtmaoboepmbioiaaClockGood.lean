/-
  Layer 19: what is true of every clock; the calls as the statements use them.
-/
import Derived.Test.YtmaoboepmbioiaaClockNew
import Derived.Test.YtmaoboepmbioiaaClockEval
namespace Go.Proofs.Ytmaoboepmbioiaa.Clock
open Go.RowKit Go.Sep
set_option linter.unusedVariables false
set_option linter.unusedSimpArgs false

structure Good (S : CS) : Prop where
  m1 : 1 ≤ S.most
  m2 : S.most ≤ 4096
  t1 : 1 ≤ S.target
  t2 : S.target ≤ S.most
  there : (thereS S : Int) ≤ S.most
  test : (S.test.length : Int) ≤ S.most
theorem Good.tot {S : CS} (h : Good S) : S.cold.length + S.hot.length + S.test.length ≤ 8400 := by
  have h1 := h.m2
  have h2 := h.there
  have h3 := h.test
  unfold thereS at h2
  omega
theorem Good.bnd {S : CS} (h : Good S) : Bnd S := ⟨h.m1, h.m2, h.t1, h.t2, Nat.le_trans h.tot (by omega)⟩
theorem good_new {m : Int} (h1 : 1 ≤ m) (h2 : m ≤ 4096) : Good (newS m) := ⟨h1, h2, by simp [newS], by simp [newS]; exact h1, by simp [newS, thereS]; omega, by simp [newS]; omega⟩
theorem good_cool {S : CS} {least : Int} (h0 : 0 ≤ least) (h : Good S) : Good (coolS least S) := by
  obtain ⟨k1, k2, k3, k4, -⟩ := cool_keeps least h0 _ S (Nat.le_refl _)
  exact ⟨by rw [k1]; exact h.m1, by rw [k1]; exact h.m2, by rw [k2]; exact h.t1, by rw [k1, k2]; exact h.t2, by rw [k1, k4]; exact h.there, by rw [k1, k3]; exact h.test⟩
theorem good_evict {S : CS} (h : Good S) : Good (evictS S).S := by
  have E := evict_ok S
  have B := E.bnd h.bnd
  exact ⟨B.m1, B.m2, B.t1, B.t2, by rw [E.there, E.most]; have := h.there; omega, by rw [E.most]; exact E.tl h.test⟩
theorem good_room {S : CS} (h : Good S) : Good (roomL S []).S ∧ (thereS (roomL S []).S : Int) < S.most := by
  have K := room_keeps _ S [] h.bnd (Nat.le_refl _)
  have B := K.bnd h.bnd
  have t := K.there h.bnd
  exact ⟨⟨B.m1, B.m2, B.t1, B.t2, by rw [K.most]; omega, by rw [K.most]; exact K.tl h.test⟩, t⟩
theorem room_eq (S : CS) : roomS S = roomL S [] := rfl
theorem good_add {S : CS} (h : Good S) (id : Int) : Good (addS S id).S := by
  unfold addS
  split
  · exact h
  · split
    · have hg : Good { S with test := outOf S.test id, target := min S.most (S.target + 1) } := by
        have h1 := h.t1
        have h2 := h.t2
        have h3 := h.m1
        refine ⟨h.m1, h.m2, by simp only; omega, by simp only; omega, h.there, ?_⟩
        have := List.length_filter_le (fun p : Pg => p.id != id) S.test
        have := h.test
        simp only [outOf]; omega
      obtain ⟨g, t⟩ := good_room hg
      rw [room_eq]
      simp only
      refine good_cool (by omega) ⟨g.m1, g.m2, g.t1, g.t2, ?_, g.test⟩
      have := (room_keeps _ _ [] hg.bnd (Nat.le_refl _)).most
      unfold thereS at t ⊢
      simp only [List.length_append, List.length_cons, List.length_nil] at *
      omega
    · obtain ⟨g, t⟩ := good_room h
      rw [room_eq]
      simp only
      refine ⟨g.m1, g.m2, g.t1, g.t2, ?_, g.test⟩
      have := (room_keeps _ _ [] h.bnd (Nat.le_refl _)).most
      unfold thereS at t ⊢
      simp only [List.length_append, List.length_cons, List.length_nil] at *
      omega
theorem good_touch {S : CS} (h : Good S) (id : Int) : Good (touchS S id) :=
  ⟨h.m1, h.m2, h.t1, h.t2, by have := h.there; unfold thereS at *; simpa [touchS, markIn] using this, h.test⟩
theorem good_remove {S : CS} (h : Good S) (id : Int) : Good (removeS S id) := by
  have l := fun k : List Pg => List.length_filter_le (fun p : Pg => p.id != id) k
  have := l S.cold
  have := l S.hot
  have := l S.test
  have h1 := h.there
  have h2 := h.test
  refine ⟨h.m1, h.m2, h.t1, h.t2, ?_, ?_⟩
  · unfold thereS at *; simp only [removeS, outOf]; omega
  · simp only [removeS, outOf]; omega
theorem good_addN {base : Int} {S : CS} (h : Good S) (n : Nat) : Good (addN base n S) := by
  induction n with
  | zero => exact h
  | succ n ih => exact good_add ih _
theorem okK_of {i : Int} (h1 : -1000000 ≤ i) (h2 : i ≤ 1000000) : okK i := by
  show (decide (IntKind.i64.min ≤ i) && decide (i ≤ IntKind.i64.max)) = true
  have a : IntKind.i64.min = -9223372036854775808 := by decide
  have b : IntKind.i64.max = 9223372036854775807 := by decide
  rw [a, b]; simp; omega
theorem add_any (a : Nat) (F : Asr) {S : CS} (hg : Good S) {id : Int} (hid : okK id) {w : World} (hw : Holds w (ck a S * F)) : Calls Try.prog 33 #[.pointer (some ⟨a, 0, none⟩), .int .i64 id] w (AddC (addS S id) a F w) :=
  add_calls a S F w id hid hg.bnd hg.tot hw
end Go.Proofs.Ytmaoboepmbioiaa.Clock
