/-
  FramingReads: End of the code; New of the document.
-/
import Derived.Test.YtibhnkkfaochhaaDoorRDec4
namespace Go.Proofs.YtibhnkkfaochhaaDoor.Dec
open Go.RowKit Go.Sep
open Go.Proofs.YtibhnkkfaochhaaDoor.Tok
set_option maxRecDepth 100000
set_option linter.unusedVariables false
set_option linter.unusedSimpArgs false

def EndC (d : Nat) (S' : DS) (O : List UInt8) (F : Asr) (w : World) (e : Ending) (w' : World) : Prop := e = .returned (.tuple #[.bool S'.done, .int .i64 S'.e]) ∧ Holds w' (decA d S' O * F) ∧ Sm w w'
set_option maxHeartbeats 4000000 in
theorem end_calls (d : Nat) (S : DS) (O : List UInt8) (F : Asr) (w : World) (hw : Holds w (decA d S O * F)) : Calls Tryd.prog 10 #[.pointer (some ⟨d, 0, none⟩)] w (EndC d (endD S) O F w) := by
  obtain ⟨vo, vu, h1⟩ := dec_open hw
  have NC := Lib.hid (none_calls d S vo vu w (dec_f h1))
  have H1 := Lib.hid h1
  clear hw h1
  by_cases hs : stopped S = true
  · have hE : endD S = S := by unfold endD; rw [if_pos hs]
    rw [hE]
    rcases stop_yes hs with ⟨he, hd⟩ | he
    · clear hs hE
      obtain ⟨st, left, sum, own, done, e⟩ := S
      simp only at he hd
      subst he hd
      go_enter Tryd.func10, Tryd.ntmps10
      go_wp2_with fail
      refine (NC.out).mono ?_
      rintro e w1 ⟨rfl, b1⟩
      have h2 := H1.out.grow b1
      obtain ⟨c0, c1, c2, c3, c4, c5, c6, c7, fz, lt⟩ := dec_f h2
      have H2 := Lib.hid h2
      have S2 := Lib.hid (Sm.of_below b1)
      clear h2 b1 NC H1
      go_wp2_with fail
      go_quiet (fail)
      go_wp2_with fail
      go_ret2
      exact ⟨rfl, dec_shut (H2.out.drewN nq), S2.out.drewN nq⟩
    · clear hs hE
      obtain ⟨st, left, sum, own, done, e⟩ := S
      simp only at he
      have t1 : ((e : Int) != 0) = true := by simp; omega
      have t1' : (e != 0) = true := by simpa using he
      clear he
      cases done with
      | true =>
        go_enter Tryd.func10, Tryd.ntmps10
        go_wp2_with fail
        refine (NC.out).mono ?_
        rintro e w1 ⟨rfl, b1⟩
        have h2 := H1.out.grow b1
        obtain ⟨c0, c1, c2, c3, c4, c5, c6, c7, fz, lt⟩ := dec_f h2
        have H2 := Lib.hid h2
        have S2 := Lib.hid (Sm.of_below b1)
        clear h2 b1 NC H1
        go_wp2_with fail
        go_quiet (fail)
        go_wp2_with fail
        go_ret2
        exact ⟨rfl, dec_shut (H2.out.drewN nq), S2.out.drewN nq⟩
      | false =>
        go_enter Tryd.func10, Tryd.ntmps10
        go_wp2_with fail
        refine (NC.out).mono ?_
        rintro e w1 ⟨rfl, b1⟩
        have h2 := H1.out.grow b1
        obtain ⟨c0, c1, c2, c3, c4, c5, c6, c7, fz, lt⟩ := dec_f h2
        have H2 := Lib.hid h2
        have S2 := Lib.hid (Sm.of_below b1)
        clear h2 b1 NC H1
        go_wp2_with fail
        go_quiet (fail)
        go_wp2_with fail
        go_ret2
        exact ⟨rfl, dec_shut (H2.out.drewN nq), S2.out.drewN nq⟩
  · obtain ⟨hd, he⟩ := stop_no hs
    by_cases h5 : S.st = 5
    · have hE : endD S = { S with done := true } := by unfold endD; rw [if_neg hs, if_pos h5]
      rw [hE]
      clear hs hE
      obtain ⟨st, left, sum, own, done, e⟩ := S
      simp only at he hd h5
      subst he hd h5
      go_enter Tryd.func10, Tryd.ntmps10
      go_wp2_with fail
      refine (NC.out).mono ?_
      rintro e w1 ⟨rfl, b1⟩
      have h2 := H1.out.grow b1
      obtain ⟨c0, c1, c2, c3, c4, c5, c6, c7, fz, lt⟩ := dec_f h2
      have H2 := Lib.hid h2
      have S2 := Lib.hid (Sm.of_below b1)
      clear h2 b1 NC H1
      go_wp2_with fail
      go_quiet (fail)
      go_wp2_with fail
      go_ret2
      exact ⟨rfl, dec_shut (S := ⟨5, left, sum, own, true, 0⟩) (vo := vo) (vu := vu) ((H2.out.store 6 (.bool true)).drewN nq), (S2.out.setCell _ _).drewN nq⟩
    · have hE : endD S = { S with e := 20 } := by unfold endD; rw [if_neg hs, if_neg h5]
      rw [hE]
      clear hs hE
      obtain ⟨st, left, sum, own, done, e⟩ := S
      simp only at he hd h5
      subst he hd
      have t1 : ((st : Int) == 5) = false := beq_eq_false_iff_ne.2 (by omega)
      have t1' : (st == 5) = false := beq_eq_false_iff_ne.2 h5
      clear h5
      go_enter Tryd.func10, Tryd.ntmps10
      go_wp2_with fail
      refine (NC.out).mono ?_
      rintro e w1 ⟨rfl, b1⟩
      have h2 := H1.out.grow b1
      obtain ⟨c0, c1, c2, c3, c4, c5, c6, c7, fz, lt⟩ := dec_f h2
      have H2 := Lib.hid h2
      have S2 := Lib.hid (Sm.of_below b1)
      clear h2 b1 NC H1
      go_wp2_with fail
      go_quiet (fail)
      go_wp2_with fail
      go_ret2
      exact ⟨rfl, dec_shut (S := ⟨st, left, sum, own, false, 20⟩) (vo := vo) (vu := vu) ((H2.out.store 7 (.int .i64 20)).drewN nq), (S2.out.setCell _ _).drewN nq⟩
#print axioms end_calls
theorem rnew_err (k n : Int) (hr : newR k n ≠ 0) (w : World) : Calls Tryd.prog 8 #[.int .i64 k, .int .i64 n] w fun e w' => e = .returned (.tuple #[.pointer none, .int .i64 (newR k n)]) ∧ w' = w := by
  by_cases hb : k < 0 ∨ 3 < k ∨ n < 0 ∨ (0 < n ∧ k ≠ 1)
  · have h2 : newR k n = 2 := by unfold newR; rw [if_pos hb]
    rw [h2]
    clear hr h2
    by_cases h1 : k < 0
    · have t1 : decide (k < 0) = true := decide_eq_true h1
      go_enter Tryd.func8, Tryd.ntmps8
      go_wp2_with fail
      go_ret2
      exact ⟨rfl, rfl⟩
    have t1 : decide (k < 0) = false := decide_eq_false h1
    by_cases h2 : 3 < k
    · have t2 : decide (3 < k) = true := decide_eq_true h2
      go_enter Tryd.func8, Tryd.ntmps8
      go_wp2_with fail
      go_ret2
      exact ⟨rfl, rfl⟩
    have t2 : decide (3 < k) = false := decide_eq_false h2
    by_cases h3 : n < 0
    · have t3 : decide (n < 0) = true := decide_eq_true h3
      go_enter Tryd.func8, Tryd.ntmps8
      go_wp2_with fail
      go_ret2
      exact ⟨rfl, rfl⟩
    have t3 : decide (n < 0) = false := decide_eq_false h3
    have t4 : decide (0 < n) = true := decide_eq_true (by omega)
    have t5 : (k != 1) = true := by simp; omega
    clear h1 h2 h3 hb
    go_enter Tryd.func8, Tryd.ntmps8
    go_wp2_with fail
    go_ret2
    exact ⟨rfl, rfl⟩
  · by_cases hn : 1048576 < n
    · have h2 : newR k n = 3 := by unfold newR; rw [if_neg hb, if_pos hn]
      rw [h2]
      have t1 : decide (k < 0) = false := decide_eq_false (by omega)
      have t2 : decide (3 < k) = false := decide_eq_false (by omega)
      have t3 : decide (n < 0) = false := decide_eq_false (by omega)
      have t4 : decide (0 < n) = true := decide_eq_true (by omega)
      have t5 : (k != 1) = false := by have : k = 1 := by omega
                                       simp [this]
      have t6 : decide (1048576 < n) = true := decide_eq_true hn
      clear hb hr hn h2
      go_enter Tryd.func8, Tryd.ntmps8
      go_wp2_with fail
      go_ret2
      exact ⟨rfl, rfl⟩
    · exact absurd (by unfold newR; rw [if_neg hb, if_neg hn]) hr
#print axioms rnew_err
def RNewOk (K : Nat) (S : DS) (F : Asr) (w : World) (e : Ending) (w' : World) : Prop := ∃ d, e = .returned (.tuple #[.pointer (some ⟨d, 0, none⟩), .int .i64 0]) ∧ Holds w' (refA d K S * F) ∧ Sm w w'
theorem rnew_mem (K n : Nat) (hk : K ≤ 3) (h : n = 0 ∨ K = 1) (F : Asr) (w : World) (hw : Holds w F) (dn : Bool) (hdn : dn = decide (n = 0 ∧ K ≤ 1)) : RNewOk K (newD K n) F w (.returned (.tuple #[.pointer (some ⟨w.heap.size, 0, none⟩), .int .i64 0])) (w.alloc (.cells #[.int .i64 K, .int .i64 n, .int .i64 0, .int .i64 0, .string ⟨#[]⟩, .bool dn, .int .i64 0] 52)) := by
  subst hdn
  refine ⟨w.heap.size, rfl, ref_shut (S := newD K n) (L := n) (M := 0) (p := 0) (own := []) ?_ (hw.alloc _), (Sm.refl w).alloc _⟩
  unfold RelK newD stopped
  simp only
  by_cases h0 : n = 0 ∧ K ≤ 1
  · left; simp [h0]
  · rcases h with h | h
    · have : K = 2 ∨ K = 3 := by omega
      rcases this with rfl | rfl
      · right; right; right; simp
      · right; left; simp
    · subst h; right; right; left; simp
set_option maxHeartbeats 4000000 in
theorem rnew_fine (k n : Int) (hr : newR k n = 0) (F : Asr) (w : World) (hw : Holds w F) : Calls Tryd.prog 8 #[.int .i64 k, .int .i64 n] w (RNewOk k.toNat (newD k.toNat n.toNat) F w) := by
  have hb : ¬ (k < 0 ∨ 3 < k ∨ n < 0 ∨ (0 < n ∧ k ≠ 1)) := fun h => by unfold newR at hr; rw [if_pos h] at hr; cases hr
  have hn : ¬ 1048576 < n := fun h => by unfold newR at hr; rw [if_neg hb, if_pos h] at hr; cases hr
  obtain ⟨kk, rfl⟩ : ∃ m : Nat, k = m := ⟨k.toNat, by omega⟩
  obtain ⟨nn, rfl⟩ : ∃ m : Nat, n = m := ⟨n.toNat, by omega⟩
  have FIN := Lib.hid (rnew_mem kk nn (by omega) (by omega) F w hw)
  simp only [Int.toNat_natCast]
  have t1 : decide ((kk : Int) < 0) = false := decide_eq_false (by omega)
  have t2 : decide (3 < (kk : Int)) = false := decide_eq_false (by omega)
  have t3 : decide ((nn : Int) < 0) = false := decide_eq_false (by omega)
  have t6 : decide (1048576 < (nn : Int)) = false := decide_eq_false (by omega)
  have hk4 : kk = 0 ∨ kk = 1 ∨ kk = 2 ∨ kk = 3 := by omega
  have hn0 : nn = 0 ∨ kk = 1 := by omega
  clear hr hb hn hw
  rcases hn0 with rfl | rfl
  · rcases hk4 with rfl | rfl | rfl | rfl
    · go_enter Tryd.func8, Tryd.ntmps8
      go_wp2_with fail
      go_ret2
      exact FIN.out true rfl
    · go_enter Tryd.func8, Tryd.ntmps8
      go_wp2_with fail
      go_ret2
      exact FIN.out true rfl
    · go_enter Tryd.func8, Tryd.ntmps8
      go_wp2_with fail
      go_ret2
      exact FIN.out false rfl
    · go_enter Tryd.func8, Tryd.ntmps8
      go_wp2_with fail
      go_ret2
      exact FIN.out false rfl
  · by_cases hz : nn = 0
    · subst hz
      go_enter Tryd.func8, Tryd.ntmps8
      go_wp2_with fail
      go_ret2
      exact FIN.out true rfl
    · have t4 : decide ((0 : Int) < (nn : Int)) = true := decide_eq_true (by omega)
      have t4' : decide (0 < nn) = true := decide_eq_true (by omega)
      have t5 : ((nn : Int) == 0) = false := beq_eq_false_iff_ne.2 (by omega)
      have t5' : (nn == 0) = false := beq_eq_false_iff_ne.2 hz
      have FIN2 := Lib.hid (FIN.out false (by simp [hz]))
      clear hz hk4 FIN
      go_enter Tryd.func8, Tryd.ntmps8
      go_wp2_with fail
      go_ret2
      exact FIN2.out
#print axioms rnew_fine
end Go.Proofs.YtibhnkkfaochhaaDoor.Dec
