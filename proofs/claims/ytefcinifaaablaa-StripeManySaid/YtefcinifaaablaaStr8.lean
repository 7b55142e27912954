/-
  Layer 17: Replace, Del, Put (printed by gen/str8.py).
-/
import Derived.Test.YtefcinifaaablaaStr7
namespace Go.Proofs.Ytefcinifaaablaa.Stripe
open Go.RowKit Go.Sep
set_option maxRecDepth 100000
set_option linter.unusedVariables false
set_option linter.unusedSimpArgs false

def repB (B : Bd) (t : Int) (k : List UInt8) (old v : Int) : Bool × Bd := match findB B t k with
  | none => (false, B)
  | some (b, j) => if (slotAt B b j).v = old then (true, setAt B b j { slotAt B b j with v := v }) else (false, B)
def delB (B : Bd) (t : Int) (k : List UInt8) : (Int × Bool) × Bd := match findB B t k with
  | none => ((0, false), B)
  | some (b, j) => (((slotAt B b j).v, true), { setAt B b j ⟨2, 0, [], 0⟩ with count := B.count - 1 })
def putB (g : Nat) (B : Bd) (t : Int) (k : List UInt8) (v : Int) : (Int × Bool × Nat) × Bd :=
  if t < 0 ∨ 16 ≤ t ∨ 512 < k.length then ((0, false, 2), B) else match findB B t k with
  | some (b, j) => (((slotAt B b j).v, true, 0), setAt B b j { slotAt B b j with v := v })
  | none => if B.count = 4096 then ((0, false, 14), B) else ((0, false, 0), { layB (growB g B) t k v with count := (growB g B).count + 1 })
def RepC (tb gb i : Nat) (Bs : List Bd) (r : Bool × Bd) (F : Asr) (w : World) (e : Ending) (w' : World) : Prop := e = .returned (.bool r.1) ∧ Holds w' (tabA tb gb (Bs.set i r.2) * F) ∧ Sm w w'
set_option maxHeartbeats 4000000 in
theorem rep_calls (tb gb : Nat) (Bs : List Bd) (h0 : 0 < Bs.length) (h1 : Bs.length ≤ 64) (t : Int) (k : List UInt8) (old v : Int) (hk : k.length ≤ 1000) (hi : ixT Bs.length t k < Bs.length) (bas : Bas Bs[ixT Bs.length t k]) (F : Asr) (w : World) (hw : Holds w (tabA tb gb Bs * F)) :
    Calls Try.prog 39 #[.pointer (some ⟨tb, 0, none⟩), .agg #[.int .i64 t, .string (ks k)], .int .i64 old, .int .i64 v] w (RepC tb gb (ixT Bs.length t k) Bs (repB Bs[ixT Bs.length t k] t k old v) F w) := by
  have B0 : Hid (Below w.heap.size w (w.alloc (.cells #[.int .i64 t, .string (ks k)] 74))) := (Below.refl _ w).alloc (Nat.le_refl _) _
  have hA := hw.alloc (.cells #[.int .i64 t, .string (ks k)] 74)
  have hA2 := hw.grow B0.out
  obtain ⟨n0, n1⟩ := nam_cell hA
  have LT : w.heap.size < (w.alloc (.cells #[.int .i64 t, .string (ks k)] 74)).heap.size := by simp
  have NC := Lib.hid (none_calls tb gb Bs h0 F _ hA2)
  have OF : Hid (∀ wq, Below (w.alloc (.cells #[.int .i64 t, .string (ks k)] 74)).heap.size (w.alloc (.cells #[.int .i64 t, .string (ks k)] 74)) wq → Calls Try.prog 61 #[.pointer (some ⟨tb, 0, none⟩), .agg #[.int .i64 t, .string (ks k)]] wq fun e w' => e = .returned (.pointer (some ⟨gb, ixT Bs.length t k * 5, none⟩)) ∧ Below (w.alloc (.cells #[.int .i64 t, .string (ks k)] 74)).heap.size (w.alloc (.cells #[.int .i64 t, .string (ks k)] 74)) w') := fun wq hq => (of_calls tb gb Bs h0 h1 t k hk F wq (hA2.grow hq)).mono fun e w' ⟨q1, q2⟩ => ⟨q1, hq.trans (q2.mono hq.size)⟩
  have FI : Hid (∀ wq, Below (w.alloc (.cells #[.int .i64 t, .string (ks k)] 74)).heap.size (w.alloc (.cells #[.int .i64 t, .string (ks k)] 74)) wq → Calls Try.prog 62 #[.pointer (some ⟨gb, ixT Bs.length t k * 5, none⟩), .agg #[.int .i64 t, .string (ks k)]] wq fun e w' => e = .returned (fptr Bs[ixT Bs.length t k] (findB Bs[ixT Bs.length t k] t k)) ∧ Below (w.alloc (.cells #[.int .i64 t, .string (ks k)] 74)).heap.size (w.alloc (.cells #[.int .i64 t, .string (ks k)] 74)) w') := fun wq hq => (find_tab tb gb Bs _ hi bas t k hk F wq (hA2.grow hq)).mono fun e w' ⟨q1, q2⟩ => ⟨q1, hq.trans (q2.mono hq.size)⟩
  have HT := Lib.hid (fun wq (hq : Below w.heap.size w wq) => tab_at (hw.grow hq) _ hi)
  have HM : Hid (∀ (Bx : Bd) wq, Holds wq (bdA gb (Bs.set (ixT Bs.length t k) Bx) * (rowsA Bx * (pts tb (.cells #[.slice (some ⟨gb, 0, none⟩) Bs.length Bs.length] 133 (0, 0)) * (big rowsA (Bs.eraseIdx (ixT Bs.length t k)) * F)))) → Holds wq (tabA tb gb (Bs.set (ixT Bs.length t k) Bx) * F)) := fun Bx wq hq => tab_mk _ hi Bx hq
  have HSAME : Hid (Bs.set (ixT Bs.length t k) Bs[ixT Bs.length t k] = Bs) := List.set_getElem_self hi
  have HBDS : Hid (∀ (G : Asr) wq (c : Nat) (v : Value) (x : Bd), Holds wq (bdA gb Bs * G) → c < 5 → bE x = (bE Bs[ixT Bs.length t k]).set c v → Holds (wq.setCell ⟨gb, ixT Bs.length t k * 5 + c, none⟩ v) (bdA gb (Bs.set (ixT Bs.length t k) x) * G)) := fun G wq c v x hq hc hx => bd_set hq _ c hi hc v x hx
  have HBDE : Hid (∀ x, bE x = bE Bs[ixT Bs.length t k] → bdA gb (Bs.set (ixT Bs.length t k) x) = bdA gb Bs) := fun x hx => bd_same hi hx
  have HBF := Lib.hid (fun wq (hq : Below w.heap.size w wq) => bd_f (tab_at (hw.grow hq) _ hi) _ hi)
  have HWW := Lib.hid (fun wq (hq : Below w.heap.size w wq) => hw.grow hq)
  have HT2 : Hid (∀ wq, Below (w.alloc (.cells #[.int .i64 t, .string (ks k)] 74)).heap.size (w.alloc (.cells #[.int .i64 t, .string (ks k)] 74)) wq → Holds wq (bdA gb Bs * (rowsA Bs[ixT Bs.length t k] * (pts w.heap.size (.cells #[.int .i64 t, .string (ks k)] 74 (0, 0)) * (pts tb (.cells #[.slice (some ⟨gb, 0, none⟩) Bs.length Bs.length] 133 (0, 0)) * (big rowsA (Bs.eraseIdx (ixT Bs.length t k)) * F)))))) := fun wq hq => (tab_at ((hA.grow hq).eqv (star_left_comm _ _ _)) _ hi).eqv (by ac_rfl)
  obtain ⟨i, hie⟩ : ∃ q, ixT Bs.length t k = q := ⟨_, rfl⟩
  simp only [hie] at OF FI HT HT2 HM HSAME HBDS HBDE HBF ⊢
  obtain ⟨Bx, hBx⟩ : ∃ q, Bs[i]'(by rw [← hie]; exact hi) = q := ⟨_, rfl⟩
  rw [hBx] at FI HT HT2 HSAME HBDS HBDE HBF ⊢
  have HFO : Hid (∀ b j, findB Bx t k = some (b, j) → PlOk Bx b j) := fun b j h => find_ok h
  have HZ : Hid (repB Bx t k old v = match findB Bx t k with
    | none => (false, Bx)
    | some (b, j) => if (slotAt Bx b j).v = old then (true, setAt Bx b j { slotAt Bx b j with v := v }) else (false, Bx)) := rfl
  obtain ⟨Z, hZ⟩ : ∃ q, repB Bx t k old v = q := ⟨_, rfl⟩
  rw [hZ] at HZ ⊢
  clear hZ
  obtain ⟨R, hR⟩ : ∃ q, findB Bx t k = q := ⟨_, rfl⟩
  rw [hR] at FI HFO HZ 
  obtain ⟨W0, hW0⟩ : ∃ q, (w.alloc (.cells #[.int .i64 t, .string (ks k)] 74)) = q := ⟨_, rfl⟩
  have HW0 := Lib.hid hW0
  rw [hW0] at n0 n1 B0 LT NC OF FI HT2
  obtain ⟨N, hN⟩ : ∃ q, ks k = q := ⟨_, rfl⟩
  rw [hN] at OF FI n1 HW0 HT2 ⊢
  have FQ : Hid (∀ wq, Below W0.heap.size W0 wq → wq.cell? ⟨w.heap.size, 0, none⟩ = some (.int .i64 t) ∧ wq.cell? ⟨w.heap.size, 1, none⟩ = some (.string N)) := fun wq hq => ⟨(hq.cell (p := ⟨w.heap.size, 0, none⟩) LT).trans n0, (hq.cell (p := ⟨w.heap.size, 1, none⟩) LT).trans n1⟩
  clear hw hA hA2 hR hW0 hN hBx hie hk LT bas hi n0 n1
  go_enter Try.func39, Try.ntmps39
  go_wp2_with fail
  rw [HW0.out]
  refine (NC.out).mono ?_
  rintro e w1 ⟨rfl, rfl⟩
  go_wp2_with fail
  refine quietS (B := w1.heap.size) (w0 := w1) (by kernel_rfl) (by kernel_rfl) (Below.refl _ _).drew ?_
  repeat (go_big_quiet_step ((intro hq; first | (go_at_call 61; with_reducible refine (OF.out _ hq).mono ?_; rintro e w'' ⟨rfl, hb'⟩; exact ⟨rfl, hb'⟩) | (go_at_call 62; with_reducible refine (FI.out _ hq).mono ?_; rintro e w'' ⟨rfl, hb'⟩; exact ⟨rfl, hb'⟩) | (obtain ⟨f1, f2⟩ := FQ.out _ hq; first | (go_simp; done) | (go_simp; rfl)))))
  refine wpQuiet_nil ?_
  intro w6 hq6
  have B6 : Hid (Below w.heap.size w w6) := B0.out.trans (hq6.mono B0.out.size)
  clear hq6 NC OF FI FQ B0
  cases R with
  | none =>
    unfold fptr
    have H9 := Lib.hid (HWW.out _ B6.out)
    have S9 := Lib.hid (Sm.of_below B6.out)
    go_wp2_with fail
    go_ret
    have hz := HZ.out
    try dsimp only at hz
    subst hz
    exact ⟨rfl, by rw [HSAME.out]; exact H9.out, S9.out⟩
  | some bj =>
    obtain ⟨b, j⟩ := bj
    rw [fptr_some]
    have hp := HFO.out b j rfl
    have h6 := HT.out _ B6.out
    have h7 := h6.eqv (star_left_comm _ _ _)
    obtain ⟨s0, s1, s2, s3, sz, st⟩ := place_f hp h7
    obtain ⟨s, hs⟩ : ∃ q, slotAt Bx b j = q := ⟨_, rfl⟩
    have H9 := Lib.hid (HWW.out _ B6.out)
    have S9 := Lib.hid (Sm.of_below B6.out)
    rw [hs] at s3
    by_cases hv : s.v = old
    · have HF2 := Lib.hid (place_set hp h7 3 (by omega) (.int .i64 v) { s with v := v } (by rw [hs]; rfl))
      have t1 : ((s.v : Int) != old) = false := by simp [hv]
      have E2 := Lib.hid (HBDE.out (setAt Bx b j { s with v := v }) (bE_setAt _ _ _ _))
      have hv9 := Lib.hid hv
      have hs9 := Lib.hid hs
      obtain ⟨pg, hpg⟩ : ∃ q, pgOf Bx b = q := ⟨_, rfl⟩
      rw [hpg] at s3 sz st HF2 ⊢
      clear h6 h7 hv hs s0 s1 s2 HT HFO hp HBF HBDS HBDE HSAME hpg
      go_wp2_with fail
      go_ret
      have hz := HZ.out
      try dsimp only at hz
      rw [hs9.out, if_pos hv9.out] at hz
      subst hz
      exact ⟨rfl, HM.out _ _ ((HF2.out.eqv (star_left_comm _ _ _)).eqv (by rw [E2.out])), S9.out.setCell _ _⟩
    · have t1 : ((s.v : Int) != old) = true := by simpa using hv
      have hv9 := Lib.hid hv
      have hs9 := Lib.hid hs
      clear h6 h7 hv hs s0 s1 s2 HT HFO hp HBF HBDS HBDE
      go_wp2_with fail
      go_ret
      have hz := HZ.out
      try dsimp only at hz
      rw [hs9.out, if_neg hv9.out] at hz
      subst hz
      exact ⟨rfl, by rw [HSAME.out]; exact H9.out, S9.out⟩
#print axioms rep_calls
theorem place_ne {B : Bd} {b : Bool} {j gb : Nat} {Bs : List Bd} (hp : PlOk B b j) {F : Asr} {w : World} (h : Holds w (rowsA B * (bdA gb Bs * F))) (e : gb = pgOf B b) : False := by
  obtain ⟨l, G, -, hj, -, h1, -⟩ := place_row hp h
  unfold rowsA at h
  cases b with
  | false =>
    have h2 := h.eqv (by ac_rfl : _ = slA B.g B.l * (bdA gb Bs * (elA B.eg B.el * F)))
    exact h2.ne e.symm
  | true =>
    have h2 := h.eqv (by ac_rfl : _ = elA B.eg B.el * (slA B.g B.l * (bdA gb Bs * F)))
    cases he : B.eg with
    | none =>
      rw [he] at h2
      have := (el_none h2).1
      have hp2 : j < B.el.length := hp
      rw [this] at hp2; simp at hp2
    | some eg =>
      rw [he] at h2
      obtain ⟨-, h3⟩ := el_some h2
      have h4 := h3.eqv (by ac_rfl : _ = slA eg B.el * (bdA gb Bs * (slA B.g B.l * F)))
      have e1 : pgOf B true = eg := by unfold pgOf; rw [he]; rfl
      rw [e1] at e
      exact h4.ne e.symm
def DelC (tb gb i : Nat) (Bs : List Bd) (r : (Int × Bool) × Bd) (F : Asr) (w : World) (e : Ending) (w' : World) : Prop := e = .returned (.tuple #[.int .i64 r.1.1, .bool r.1.2]) ∧ Holds w' (tabA tb gb (Bs.set i r.2) * F) ∧ Sm w w'
set_option maxHeartbeats 4000000 in
theorem del_calls (tb gb : Nat) (Bs : List Bd) (h0 : 0 < Bs.length) (h1 : Bs.length ≤ 64) (t : Int) (k : List UInt8) (hk : k.length ≤ 1000) (hi : ixT Bs.length t k < Bs.length) (bas : Bas Bs[ixT Bs.length t k]) (hc : findB Bs[ixT Bs.length t k] t k ≠ none → 0 < Bs[ixT Bs.length t k].count) (F : Asr) (w : World) (hw : Holds w (tabA tb gb Bs * F)) :
    Calls Try.prog 34 #[.pointer (some ⟨tb, 0, none⟩), .agg #[.int .i64 t, .string (ks k)]] w (DelC tb gb (ixT Bs.length t k) Bs (delB Bs[ixT Bs.length t k] t k) F w) := by
  have HCN := Lib.hid hc
  have HCB := Lib.hid bas.c
  have B0 : Hid (Below w.heap.size w (w.alloc (.cells #[.int .i64 t, .string (ks k)] 74))) := (Below.refl _ w).alloc (Nat.le_refl _) _
  have hA := hw.alloc (.cells #[.int .i64 t, .string (ks k)] 74)
  have hA2 := hw.grow B0.out
  obtain ⟨n0, n1⟩ := nam_cell hA
  have LT : w.heap.size < (w.alloc (.cells #[.int .i64 t, .string (ks k)] 74)).heap.size := by simp
  have NC := Lib.hid (none_calls tb gb Bs h0 F _ hA2)
  have OF : Hid (∀ wq, Below (w.alloc (.cells #[.int .i64 t, .string (ks k)] 74)).heap.size (w.alloc (.cells #[.int .i64 t, .string (ks k)] 74)) wq → Calls Try.prog 61 #[.pointer (some ⟨tb, 0, none⟩), .agg #[.int .i64 t, .string (ks k)]] wq fun e w' => e = .returned (.pointer (some ⟨gb, ixT Bs.length t k * 5, none⟩)) ∧ Below (w.alloc (.cells #[.int .i64 t, .string (ks k)] 74)).heap.size (w.alloc (.cells #[.int .i64 t, .string (ks k)] 74)) w') := fun wq hq => (of_calls tb gb Bs h0 h1 t k hk F wq (hA2.grow hq)).mono fun e w' ⟨q1, q2⟩ => ⟨q1, hq.trans (q2.mono hq.size)⟩
  have FI : Hid (∀ wq, Below (w.alloc (.cells #[.int .i64 t, .string (ks k)] 74)).heap.size (w.alloc (.cells #[.int .i64 t, .string (ks k)] 74)) wq → Calls Try.prog 62 #[.pointer (some ⟨gb, ixT Bs.length t k * 5, none⟩), .agg #[.int .i64 t, .string (ks k)]] wq fun e w' => e = .returned (fptr Bs[ixT Bs.length t k] (findB Bs[ixT Bs.length t k] t k)) ∧ Below (w.alloc (.cells #[.int .i64 t, .string (ks k)] 74)).heap.size (w.alloc (.cells #[.int .i64 t, .string (ks k)] 74)) w') := fun wq hq => (find_tab tb gb Bs _ hi bas t k hk F wq (hA2.grow hq)).mono fun e w' ⟨q1, q2⟩ => ⟨q1, hq.trans (q2.mono hq.size)⟩
  have HT := Lib.hid (fun wq (hq : Below w.heap.size w wq) => tab_at (hw.grow hq) _ hi)
  have HM : Hid (∀ (Bx : Bd) wq, Holds wq (bdA gb (Bs.set (ixT Bs.length t k) Bx) * (rowsA Bx * (pts tb (.cells #[.slice (some ⟨gb, 0, none⟩) Bs.length Bs.length] 133 (0, 0)) * (big rowsA (Bs.eraseIdx (ixT Bs.length t k)) * F)))) → Holds wq (tabA tb gb (Bs.set (ixT Bs.length t k) Bx) * F)) := fun Bx wq hq => tab_mk _ hi Bx hq
  have HSAME : Hid (Bs.set (ixT Bs.length t k) Bs[ixT Bs.length t k] = Bs) := List.set_getElem_self hi
  have HBDS : Hid (∀ (G : Asr) wq (c : Nat) (v : Value) (x : Bd), Holds wq (bdA gb Bs * G) → c < 5 → bE x = (bE Bs[ixT Bs.length t k]).set c v → Holds (wq.setCell ⟨gb, ixT Bs.length t k * 5 + c, none⟩ v) (bdA gb (Bs.set (ixT Bs.length t k) x) * G)) := fun G wq c v x hq hc hx => bd_set hq _ c hi hc v x hx
  have HBDE : Hid (∀ x, bE x = bE Bs[ixT Bs.length t k] → bdA gb (Bs.set (ixT Bs.length t k) x) = bdA gb Bs) := fun x hx => bd_same hi hx
  have HBF := Lib.hid (fun wq (hq : Below w.heap.size w wq) => bd_f (tab_at (hw.grow hq) _ hi) _ hi)
  have HWW := Lib.hid (fun wq (hq : Below w.heap.size w wq) => hw.grow hq)
  have HT2 : Hid (∀ wq, Below (w.alloc (.cells #[.int .i64 t, .string (ks k)] 74)).heap.size (w.alloc (.cells #[.int .i64 t, .string (ks k)] 74)) wq → Holds wq (bdA gb Bs * (rowsA Bs[ixT Bs.length t k] * (pts w.heap.size (.cells #[.int .i64 t, .string (ks k)] 74 (0, 0)) * (pts tb (.cells #[.slice (some ⟨gb, 0, none⟩) Bs.length Bs.length] 133 (0, 0)) * (big rowsA (Bs.eraseIdx (ixT Bs.length t k)) * F)))))) := fun wq hq => (tab_at ((hA.grow hq).eqv (star_left_comm _ _ _)) _ hi).eqv (by ac_rfl)
  obtain ⟨i, hie⟩ : ∃ q, ixT Bs.length t k = q := ⟨_, rfl⟩
  simp only [hie] at OF FI HT HT2 HM HSAME HBDS HBDE HBF HCN HCB ⊢
  obtain ⟨Bx, hBx⟩ : ∃ q, Bs[i]'(by rw [← hie]; exact hi) = q := ⟨_, rfl⟩
  rw [hBx] at FI HT HT2 HSAME HBDS HBDE HBF HCN HCB ⊢
  have HFO : Hid (∀ b j, findB Bx t k = some (b, j) → PlOk Bx b j) := fun b j h => find_ok h
  unfold delB
  obtain ⟨R, hR⟩ : ∃ q, findB Bx t k = q := ⟨_, rfl⟩
  rw [hR] at FI HFO HCN ⊢
  obtain ⟨W0, hW0⟩ : ∃ q, (w.alloc (.cells #[.int .i64 t, .string (ks k)] 74)) = q := ⟨_, rfl⟩
  have HW0 := Lib.hid hW0
  rw [hW0] at n0 n1 B0 LT NC OF FI HT2
  obtain ⟨N, hN⟩ : ∃ q, ks k = q := ⟨_, rfl⟩
  rw [hN] at OF FI n1 HW0 HT2 ⊢
  have FQ : Hid (∀ wq, Below W0.heap.size W0 wq → wq.cell? ⟨w.heap.size, 0, none⟩ = some (.int .i64 t) ∧ wq.cell? ⟨w.heap.size, 1, none⟩ = some (.string N)) := fun wq hq => ⟨(hq.cell (p := ⟨w.heap.size, 0, none⟩) LT).trans n0, (hq.cell (p := ⟨w.heap.size, 1, none⟩) LT).trans n1⟩
  clear hw hA hA2 hR hW0 hN hBx hie hk LT bas hi n0 n1 hc
  go_enter Try.func34, Try.ntmps34
  go_wp2_with fail
  rw [HW0.out]
  refine (NC.out).mono ?_
  rintro e w1 ⟨rfl, rfl⟩
  obtain ⟨n0, n1⟩ := FQ.out _ (Below.refl _ _)
  go_wp2_with fail
  refine (OF.out _ (Below.refl _ _)).mono ?_
  rintro e w2 ⟨rfl, b2⟩
  clear n0 n1
  obtain ⟨n0, n1⟩ := FQ.out _ b2
  have FI2 := Lib.hid (FI.out _ b2)
  clear b2
  go_wp2_with fail
  refine (FI2.out).mono ?_
  rintro e w6 ⟨rfl, hq6⟩
  have B6 : Hid (Below w.heap.size w w6) := B0.out.trans (hq6.mono B0.out.size)
  clear hq6 NC OF FI FI2 FQ B0 n0 n1
  cases R with
  | none =>
    unfold fptr
    have H9 := Lib.hid (HWW.out _ B6.out)
    have S9 := Lib.hid (Sm.of_below B6.out)
    go_wp2_with fail
    go_ret2
    exact ⟨rfl, by rw [HSAME.out]; exact H9.out, S9.out⟩
  | some bj =>
    obtain ⟨b, j⟩ := bj
    rw [fptr_some]
    have hp := HFO.out b j rfl
    have h6 := HT.out _ B6.out
    have h7 := h6.eqv (star_left_comm _ _ _)
    obtain ⟨s0, s1, s2, s3, sz, st⟩ := place_f hp h7
    obtain ⟨d0, d1, d2, d3, d4, dz, dt⟩ := HBF.out _ B6.out
    have S9 := Lib.hid (Sm.of_below B6.out)
    have HP := Lib.hid ((place_put hp h7 ⟨2, 0, [], 0⟩).eqv (star_left_comm _ _ _))
    have hne : gb ≠ pgOf Bx b := by
      obtain ⟨l, G, -, -, -, hx, -⟩ := place_row hp h7
      intro h
      have h8 := HT.out _ B6.out
      have h9 := h8.eqv (star_left_comm _ _ _)
      exact (place_ne hp h9 h).elim
    have hcn := HCN.out (by simp)
    have hcb := HCB.out
    obtain ⟨cc, hcc⟩ : ∃ cc, Bx.count = cc + 1 := ⟨Bx.count - 1, by omega⟩
    rw [hcc] at d4 hcb
    have a1 : IntKind.i64.wrap ((cc : Int) + 1 - 1) = (cc : Int) := by rw [IntWalk.i64_in _ (by omega)]; omega
    have a2 : IntKind.i64.wrap (cc : Int) = (cc : Int) := IntWalk.i64_in _ (by omega)
    obtain ⟨s, hs⟩ : ∃ q, slotAt Bx b j = q := ⟨_, rfl⟩
    rw [hs] at s0 s1 s2 s3
    have hs9 := Lib.hid hs
    have E3 : Hid (∀ (G : Asr) wq, Holds wq (bdA gb Bs * G) → Holds (wq.setCell ⟨gb, i * 5 + 4, none⟩ (.int .i64 (cc : Int))) (bdA gb (Bs.set i { setAt Bx b j ⟨2, 0, [], 0⟩ with count := Bx.count - 1 }) * G)) := fun G wq hq => HBDS.out G wq 4 (.int .i64 (cc : Int)) { setAt Bx b j ⟨2, 0, [], 0⟩ with count := Bx.count - 1 } hq (by omega) (by cases b <;> simp [bE, setAt, hcc])
    obtain ⟨B9, hB9⟩ : ∃ q, ({ setAt Bx b j ⟨2, 0, [], 0⟩ with count := Bx.count - 1 } : Bd) = q := ⟨_, rfl⟩
    have RE : Hid (rowsA (setAt Bx b j ⟨2, 0, [], 0⟩) = rowsA B9) := by rw [← hB9]; rfl
    rw [hB9] at E3
    have hB99 := Lib.hid hB9
    obtain ⟨pg, hpg⟩ : ∃ q, pgOf Bx b = q := ⟨_, rfl⟩
    rw [hpg] at s0 s1 s2 s3 sz st HP hne ⊢
    have e0 : ks [] = ⟨#[]⟩ := rfl
    simp only [e0] at HP
    clear h6 h7 hs HT HFO hp HBF HBDS HBDE HSAME hpg hcn hcb hcc hB9 d0 d1 d2 d3 e0 HWW HCN HCB
    go_wp2_with fail
    go_ret2
    unfold DelC
    dsimp only
    rw [hs9.out, hB99.out]
    refine ⟨rfl, HM.out _ _ ?_, ((((S9.out.setCell _ _).setCell _ _).setCell _ _).setCell _ _).setCell _ _⟩
    have := E3.out _ _ HP.out
    rw [RE.out] at this
    exact this
#print axioms del_calls
end Go.Proofs.Ytefcinifaaablaa.Stripe
