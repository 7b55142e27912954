/-
  Layer 17: Get, Replace.
-/
import Derived.Test.YtefcinifaaablaaStr6
namespace Go.Proofs.Ytefcinifaaablaa.Stripe
open Go.RowKit Go.Sep
set_option maxRecDepth 100000
set_option linter.unusedVariables false
set_option linter.unusedSimpArgs false

def getB (B : Bd) (t : Int) (k : List UInt8) : Int × Bool := match findB B t k with
  | none => (0, false)
  | some (b, j) => ((slotAt B b j).v, true)
theorem find_tab (tb gb : Nat) (Bs : List Bd) (i : Nat) (hi : i < Bs.length) (bas : Bas Bs[i]) (t : Int) (k : List UInt8) (hk : k.length ≤ 1000) (F : Asr) (w : World) (hw : Holds w (tabA tb gb Bs * F)) :
    Calls Try.prog 62 #[.pointer (some ⟨gb, i * 5, none⟩), .agg #[.int .i64 t, .string (ks k)]] w (FindC Bs[i] (findB Bs[i] t k) w) := by
  have h := tab_at hw i hi
  unfold rowsA at h
  exact find_calls gb i Bs hi Bs[i] rfl bas.l0 bas.l1 bas.e1 t k hk _ w (h.eqv (by rw [star_assoc]))
set_option maxHeartbeats 4000000 in
theorem get_calls (tb gb : Nat) (Bs : List Bd) (h0 : 0 < Bs.length) (h1 : Bs.length ≤ 64) (t : Int) (k : List UInt8) (hk : k.length ≤ 1000) (hi : ixT Bs.length t k < Bs.length) (bas : Bas Bs[ixT Bs.length t k]) (F : Asr) (w : World) (hw : Holds w (tabA tb gb Bs * F)) :
    Calls Try.prog 38 #[.pointer (some ⟨tb, 0, none⟩), .agg #[.int .i64 t, .string (ks k)]] w fun e w' => e = .returned (.tuple #[.int .i64 (getB Bs[ixT Bs.length t k] t k).1, .bool (getB Bs[ixT Bs.length t k] t k).2]) ∧ Below w.heap.size w w' := by
  have B0 : Hid (Below w.heap.size w (w.alloc (.cells #[.int .i64 t, .string (ks k)] 74))) := (Below.refl _ w).alloc (Nat.le_refl _) _
  have hA := hw.alloc (.cells #[.int .i64 t, .string (ks k)] 74)
  have hA2 := hw.grow B0.out
  obtain ⟨n0, n1⟩ := nam_cell hA
  have LT : w.heap.size < (w.alloc (.cells #[.int .i64 t, .string (ks k)] 74)).heap.size := by simp
  have NC := Lib.hid (none_calls tb gb Bs h0 F _ hA2)
  have OF : Hid (∀ wq, Below (w.alloc (.cells #[.int .i64 t, .string (ks k)] 74)).heap.size (w.alloc (.cells #[.int .i64 t, .string (ks k)] 74)) wq → Calls Try.prog 61 #[.pointer (some ⟨tb, 0, none⟩), .agg #[.int .i64 t, .string (ks k)]] wq fun e w' => e = .returned (.pointer (some ⟨gb, ixT Bs.length t k * 5, none⟩)) ∧ Below (w.alloc (.cells #[.int .i64 t, .string (ks k)] 74)).heap.size (w.alloc (.cells #[.int .i64 t, .string (ks k)] 74)) w') := fun wq hq => (of_calls tb gb Bs h0 h1 t k hk F wq (hA2.grow hq)).mono fun e w' ⟨q1, q2⟩ => ⟨q1, hq.trans (q2.mono hq.size)⟩
  have FI : Hid (∀ wq, Below (w.alloc (.cells #[.int .i64 t, .string (ks k)] 74)).heap.size (w.alloc (.cells #[.int .i64 t, .string (ks k)] 74)) wq → Calls Try.prog 62 #[.pointer (some ⟨gb, ixT Bs.length t k * 5, none⟩), .agg #[.int .i64 t, .string (ks k)]] wq fun e w' => e = .returned (fptr Bs[ixT Bs.length t k] (findB Bs[ixT Bs.length t k] t k)) ∧ Below (w.alloc (.cells #[.int .i64 t, .string (ks k)] 74)).heap.size (w.alloc (.cells #[.int .i64 t, .string (ks k)] 74)) w') := fun wq hq => (find_tab tb gb Bs _ hi bas t k hk F wq (hA2.grow hq)).mono fun e w' ⟨q1, q2⟩ => ⟨q1, hq.trans (q2.mono hq.size)⟩
  have HT := Lib.hid (fun wq (hq : Below w.heap.size w wq) => tab_at (hw.grow hq) _ hi)
  obtain ⟨i, hie⟩ : ∃ q, ixT Bs.length t k = q := ⟨_, rfl⟩
  simp only [hie] at OF FI HT ⊢
  obtain ⟨Bx, hBx⟩ : ∃ q, Bs[i]'(by rw [← hie]; exact hi) = q := ⟨_, rfl⟩
  rw [hBx] at FI HT ⊢
  unfold getB
  have HFO : Hid (∀ b j, findB Bx t k = some (b, j) → PlOk Bx b j) := fun b j h => find_ok h
  obtain ⟨R, hR⟩ : ∃ q, findB Bx t k = q := ⟨_, rfl⟩
  rw [hR] at FI HFO ⊢
  obtain ⟨W0, hW0⟩ : ∃ q, w.alloc (.cells #[.int .i64 t, .string (ks k)] 74) = q := ⟨_, rfl⟩
  have HW0 := Lib.hid hW0
  rw [hW0] at n0 n1 B0 LT NC OF FI
  obtain ⟨N, hN⟩ : ∃ q, ks k = q := ⟨_, rfl⟩
  rw [hN] at OF FI n1 HW0 ⊢
  have FQ : Hid (∀ wq, Below W0.heap.size W0 wq → wq.cell? ⟨w.heap.size, 0, none⟩ = some (.int .i64 t) ∧ wq.cell? ⟨w.heap.size, 1, none⟩ = some (.string N)) := fun wq hq => ⟨(hq.cell (p := ⟨w.heap.size, 0, none⟩) LT).trans n0, (hq.cell (p := ⟨w.heap.size, 1, none⟩) LT).trans n1⟩
  clear hw hA hA2 hR hW0 hN hBx hie hk LT bas hi n0 n1
  go_enter Try.func38, Try.ntmps38
  go_wp2_with fail
  rw [HW0.out]
  refine (NC.out).mono ?_
  rintro e w1 ⟨rfl, rfl⟩
  go_wp2_with fail
  refine quietS (B := w1.heap.size) (w0 := w1) (by kernel_rfl) (by kernel_rfl) (Below.refl _ _).drew ?_
  repeat (go_big_quiet_step ((intro hq; first | (go_at_call 61; with_reducible refine (OF.out _ hq).mono ?_; rintro e w'' ⟨rfl, hb'⟩; exact ⟨rfl, hb'⟩) | (go_at_call 62; with_reducible refine (FI.out _ hq).mono ?_; rintro e w'' ⟨rfl, hb'⟩; exact ⟨rfl, hb'⟩) | (obtain ⟨f1, f2⟩ := FQ.out _ hq; first | (go_simp; done) | (go_simp; rfl)))))
  refine wpQuiet_nil ?_
  intro w6 hq6
  have B6 : Hid (Below w.heap.size w w6) := B0.out.trans (hq6.mono B0.out.size)
  clear hq6 NC OF FI FQ B0
  cases R with
  | none =>
    unfold fptr
    go_wp2_with fail
    go_ret2
    exact ⟨rfl, B6.out⟩
  | some bj =>
    obtain ⟨b, j⟩ := bj
    rw [fptr_some]
    have h7 := (HT.out _ B6.out).eqv (star_left_comm _ _ _)
    obtain ⟨s0, s1, s2, s3, sz, st⟩ := place_f (HFO.out b j rfl) h7
    clear h7 s0 s1 s2 HT HFO
    go_wp2_with fail
    go_ret2
    exact ⟨rfl, B6.out⟩
#print axioms get_calls
end Go.Proofs.Ytefcinifaaablaa.Stripe
