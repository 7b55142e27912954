/-
  Layer 17: Replace, Del, Put (printed by gen/str8.py).
-/
import Derived.Test.YtefcinifaaablaaStr8
namespace Go.Proofs.Ytefcinifaaablaa.Stripe
open Go.RowKit Go.Sep
set_option maxRecDepth 100000
set_option linter.unusedVariables false
set_option linter.unusedSimpArgs false

theorem nam_cellN {w : World} {bn : Nat} {t : Int} {N : ByteArray} {F : Asr} (h : Holds w (pts bn (.cells #[.int .i64 t, .string N] 74 (0, 0)) * F)) : w.cell? ⟨bn, 0, none⟩ = some (.int .i64 t) ∧ w.cell? ⟨bn, 1, none⟩ = some (.string N) := by
  have c := h.cell
  exact ⟨by rw [c]; rfl, by rw [c]; rfl⟩
def PutC (tb gb i : Nat) (Bs : List Bd) (B : Bd) (t : Int) (k : List UInt8) (v : Int) (F : Asr) (w : World) (e : Ending) (w' : World) : Prop := ∃ g, e = .returned (.tuple #[.int .i64 (putB g B t k v).1.1, .bool (putB g B t k v).1.2.1, .int .i64 (putB g B t k v).1.2.2]) ∧ Holds w' (tabA tb gb (Bs.set i (putB g B t k v).2) * F) ∧ Sm w w'
set_option maxHeartbeats 8000000 in
theorem put_calls (tb gb : Nat) (Bs : List Bd) (h0 : 0 < Bs.length) (h1 : Bs.length ≤ 64) (t : Int) (k : List UInt8) (v : Int) (hk : k.length ≤ 1000) (hi : ixT Bs.length t k < Bs.length) (bas : Bas Bs[ixT Bs.length t k]) (hP : findB Bs[ixT Bs.length t k] t k = none → Bs[ixT Bs.length t k].count ≠ 4096 → OkM 4 Bs[ixT Bs.length t k] ∧ ∀ g, Bas (growB g Bs[ixT Bs.length t k]) ∧ prb (growB g Bs[ixT Bs.length t k]).l t k pL ≠ none) (F : Asr) (w : World) (hw : Holds w (tabA tb gb Bs * F)) :
    Calls Try.prog 33 #[.pointer (some ⟨tb, 0, none⟩), .agg #[.int .i64 t, .string (ks k)], .int .i64 v] w (PutC tb gb (ixT Bs.length t k) Bs Bs[ixT Bs.length t k] t k v F w) := by
  have HPP := Lib.hid hP
  have HCB := Lib.hid bas.c
  have nsz : (ks k).size = k.length := ks_size k
  have B0 : Hid (Below w.heap.size w (w.alloc (.cells #[.int .i64 t, .string (ks k)] 74))) := (Below.refl _ w).alloc (Nat.le_refl _) _
  have hA := hw.alloc (.cells #[.int .i64 t, .string (ks k)] 74)
  have hA2 := hw.grow B0.out
  obtain ⟨n0, n1⟩ := nam_cell hA
  have LT : w.heap.size < (w.alloc (.cells #[.int .i64 t, .string (ks k)] 74)).heap.size := by simp
  have NC := Lib.hid (none_calls tb gb Bs h0 F _ hA2)
  have OF : Hid (∀ wq, Below (w.alloc (.cells #[.int .i64 t, .string (ks k)] 74)).heap.size (w.alloc (.cells #[.int .i64 t, .string (ks k)] 74)) wq → Calls Try.prog 61 #[.pointer (some ⟨tb, 0, none⟩), .agg #[.int .i64 t, .string (ks k)]] wq fun e w' => e = .returned (.pointer (some ⟨gb, ixT Bs.length t k * 5, none⟩)) ∧ Below (w.alloc (.cells #[.int .i64 t, .string (ks k)] 74)).heap.size (w.alloc (.cells #[.int .i64 t, .string (ks k)] 74)) w') := fun wq hq => (of_calls tb gb Bs h0 h1 t k hk F wq (hA2.grow hq)).mono fun e w' ⟨q1, q2⟩ => ⟨q1, hq.trans (q2.mono hq.size)⟩
  have FI : Hid (∀ wq, Below (w.alloc (.cells #[.int .i64 t, .string (ks k)] 74)).heap.size (w.alloc (.cells #[.int .i64 t, .string (ks k)] 74)) wq → Calls Try.prog 62 #[.pointer (some ⟨gb, ixT Bs.length t k * 5, none⟩), .agg #[.int .i64 t, .string (ks k)]] wq fun e w' => e = .returned (fptr Bs[ixT Bs.length t k] (findB Bs[ixT Bs.length t k] t k)) ∧ Below (w.alloc (.cells #[.int .i64 t, .string (ks k)] 74)).heap.size (w.alloc (.cells #[.int .i64 t, .string (ks k)] 74)) w') := fun wq hq => (find_tab tb gb Bs _ hi bas t k hk F wq (hA2.grow hq)).mono fun e w' ⟨q1, q2⟩ => ⟨q1, hq.trans (q2.mono hq.size)⟩
  have HT := Lib.hid (fun wq (hq : Below w.heap.size w wq) => tab_at (hw.grow hq) _ hi)
  have HM : Hid (∀ (Bx : Bd) wq, Holds wq (bdA gb (Bs.set (ixT Bs.length t k) Bx) * (rowsA Bx * (pts tb (.cells #[.slice (some ⟨gb, 0, none⟩) Bs.length Bs.length] 133 (0, 0)) * (big rowsA (Bs.eraseIdx (ixT Bs.length t k)) * F)))) → Holds wq (tabA tb gb (Bs.set (ixT Bs.length t k) Bx) * F)) := fun Bx wq hq => tab_mk _ hi Bx hq
  have HSAME : Hid (Bs.set (ixT Bs.length t k) Bs[ixT Bs.length t k] = Bs) := List.set_getElem_self hi
  have HBDS : Hid (∀ (G : Asr) wq (c : Nat) (v : Value) (x : Bd), Holds wq (bdA gb Bs * G) → c < 5 → bE x = (bE Bs[ixT Bs.length t k]).set c v → Holds (wq.setCell ⟨gb, ixT Bs.length t k * 5 + c, none⟩ v) (bdA gb (Bs.set (ixT Bs.length t k) x) * G)) := fun G wq c v x hq hc hx => bd_set hq _ c hi hc v x hx
  have HBDE : Hid (∀ x, bE x = bE Bs[ixT Bs.length t k] → bdA gb (Bs.set (ixT Bs.length t k) x) = bdA gb Bs) := fun x hx => bd_same hi hx
  have HBF := Lib.hid (fun wq (hq : Below w.heap.size w wq) => bd_f (tab_at (hw.grow hq) _ hi) _ hi)
  have HWW := Lib.hid (fun wq (hq : Below w.heap.size w wq) => hw.grow hq)
  have HT2 : Hid (∀ wq, Below (w.alloc (.cells #[.int .i64 t, .string (ks k)] 74)).heap.size (w.alloc (.cells #[.int .i64 t, .string (ks k)] 74)) wq → Holds wq (bdA gb Bs * (rowsA Bs[ixT Bs.length t k] * (pts w.heap.size (.cells #[.int .i64 t, .string (ks k)] 74 (0, 0)) * (pts tb (.cells #[.slice (some ⟨gb, 0, none⟩) Bs.length Bs.length] 133 (0, 0)) * (big rowsA (Bs.eraseIdx (ixT Bs.length t k)) * F)))))) := fun wq hq => (tab_at ((hA.grow hq).eqv (star_left_comm _ _ _)) _ hi).eqv (by ac_rfl)
  have HGR : Hid (OkM 4 Bs[ixT Bs.length t k] → ∀ (G : Asr) wq, Holds wq (bdA gb Bs * (rowsA Bs[ixT Bs.length t k] * G)) → Calls Try.prog 63 #[.pointer (some ⟨gb, ixT Bs.length t k * 5, none⟩)] wq (GrowC gb (ixT Bs.length t k) Bs Bs[ixT Bs.length t k] G wq)) := fun hok G wq hq => grow_calls gb _ Bs hi Bs[ixT Bs.length t k] rfl hok G wq (hq.eqv (by unfold rowsA; ac_rfl))
  have HLY : Hid (∀ (B2 : Bd) (_ : Bas B2) (_ : prb B2.l t k pL ≠ none) (G : Asr) wq, Holds wq (bdA gb (Bs.set (ixT Bs.length t k) B2) * (slA B2.g B2.l * (elA B2.eg B2.el * G))) → Calls Try.prog 64 #[.pointer (some ⟨gb, ixT Bs.length t k * 5, none⟩), .agg #[.int .i64 t, .string (ks k)], .int .i64 v] wq (LayC gb (ixT Bs.length t k) (Bs.set (ixT Bs.length t k) B2) (layB B2 t k v) (elA B2.eg B2.el * G) wq)) := fun B2 b2 hr G wq hq => lay_calls gb _ _ (by rw [List.length_set]; exact hi) B2 (by simp) b2.l0 b2.l1 (by have := b2.u; omega) t k v hk hr _ wq hq
  have HCT : Hid (∀ (G : Asr) wq (B2 : Bd), Holds wq (bdA gb ((Bs.set (ixT Bs.length t k) B2).set (ixT Bs.length t k) (layB B2 t k v)) * G) → (∀ o, wq.frozen? ⟨gb, o, none⟩ = false) ∧ gb < wq.heap.size ∧ wq.cell? ⟨gb, ixT Bs.length t k * 5 + 4, none⟩ = some (.int .i64 B2.count) ∧ Holds (wq.setCell ⟨gb, ixT Bs.length t k * 5 + 4, none⟩ (.int .i64 ((B2.count : Int) + 1))) (bdA gb (Bs.set (ixT Bs.length t k) { layB B2 t k v with count := B2.count + 1 }) * G)) := by
    intro G wq B2 hq
    have hi2 : ixT Bs.length t k < ((Bs.set (ixT Bs.length t k) B2).set (ixT Bs.length t k) (layB B2 t k v)).length := by rw [List.length_set, List.length_set]; exact hi
    have f := bd_f hq _ hi2
    simp only [List.getElem_set_self] at f
    have f4 := f.c4
    rw [(layB_g B2 t k v).2.2.2.2] at f4
    have h3 := bd_set hq _ 4 hi2 (by omega) (.int .i64 ((B2.count : Int) + 1)) { layB B2 t k v with count := B2.count + 1 } (by simp only [List.getElem_set_self]; rfl)
    rw [List.set_set, List.set_set] at h3
    exact ⟨f.fz, f.lt, f4, h3⟩
  obtain ⟨i, hie⟩ : ∃ q, ixT Bs.length t k = q := ⟨_, rfl⟩
  simp only [hie] at OF FI HT HT2 HM HSAME HBDS HBDE HBF HPP HCB HGR HLY HCT ⊢
  obtain ⟨Bx, hBx⟩ : ∃ q, Bs[i]'(by rw [← hie]; exact hi) = q := ⟨_, rfl⟩
  rw [hBx] at FI HT HT2 HSAME HBDS HBDE HBF HPP HCB HGR ⊢
  have HFO : Hid (∀ b j, findB Bx t k = some (b, j) → PlOk Bx b j) := fun b j h => find_ok h
  have HZ : Hid (∀ g, putB g Bx t k v = if t < 0 ∨ 16 ≤ t ∨ 512 < k.length then ((0, false, 2), Bx) else match findB Bx t k with
    | some (b, j) => (((slotAt Bx b j).v, true, 0), setAt Bx b j { slotAt Bx b j with v := v })
    | none => if Bx.count = 4096 then ((0, false, 14), Bx) else ((0, false, 0), { layB (growB g Bx) t k v with count := (growB g Bx).count + 1 })) := fun g => rfl
  obtain ⟨Z, hZ⟩ : ∃ q : Nat → (Int × Bool × Nat) × Bd, (fun g => putB g Bx t k v) = q := ⟨_, rfl⟩
  have hZ2 : ∀ g, putB g Bx t k v = Z g := fun g => congrFun hZ g
  simp only [hZ2] at HZ
  have HPC : Hid (∀ e w', (∃ g, e = .returned (.tuple #[.int .i64 (Z g).1.1, .bool (Z g).1.2.1, .int .i64 (Z g).1.2.2]) ∧ Holds w' (tabA tb gb (Bs.set i (Z g).2) * F) ∧ Sm w w') → PutC tb gb i Bs Bx t k v F w e w') := by
    rintro e w' ⟨g, q1, q2, q3⟩
    unfold PutC
    refine ⟨g, ?_, ?_, q3⟩
    · simp only [hZ2]; exact q1
    · simp only [hZ2]; exact q2
  obtain ⟨Q, hQ⟩ : ∃ q : Ending → World → Prop, PutC tb gb i Bs Bx t k v F w = q := ⟨_, rfl⟩
  rw [hQ] at HPC ⊢
  clear hZ hZ2 hQ
  obtain ⟨R, hR⟩ : ∃ q, findB Bx t k = q := ⟨_, rfl⟩
  rw [hR] at FI HFO HZ HPP 
  obtain ⟨W0, hW0⟩ : ∃ q, (w.alloc (.cells #[.int .i64 t, .string (ks k)] 74)) = q := ⟨_, rfl⟩
  have HW0 := Lib.hid hW0
  rw [hW0] at n0 n1 B0 LT NC OF FI HT2
  obtain ⟨N, hN⟩ : ∃ q, ks k = q := ⟨_, rfl⟩
  rw [hN] at OF FI n1 HW0 HLY nsz HT2 ⊢
  have FQ : Hid (∀ wq, Below W0.heap.size W0 wq → wq.cell? ⟨w.heap.size, 0, none⟩ = some (.int .i64 t) ∧ wq.cell? ⟨w.heap.size, 1, none⟩ = some (.string N)) := fun wq hq => ⟨(hq.cell (p := ⟨w.heap.size, 0, none⟩) LT).trans n0, (hq.cell (p := ⟨w.heap.size, 1, none⟩) LT).trans n1⟩
  have LTT := Lib.hid LT
  clear hw hA hA2 hR hW0 hN hBx hie hk LT bas hi n0 n1 hP
  have BAD : Hid ((t < 0 ∨ 16 ≤ t ∨ 512 < k.length) → Q (.returned (.tuple #[.int .i64 0, .bool false, .int .i64 2])) W0) := by
    intro h
    refine HPC.out _ _ ⟨0, ?_, ?_, Sm.of_below B0.out⟩
    · rw [HZ.out, if_pos h]; rfl
    · rw [HZ.out, if_pos h, HSAME.out]; exact HWW.out _ B0.out
  by_cases hb1 : t < 0
  · have t1 : decide (t < 0) = true := decide_eq_true hb1
    have BAD2 := Lib.hid (BAD.out (.inl hb1))
    clear BAD hb1
    go_enter Try.func33, Try.ntmps33
    go_wp2_with fail
    rw [HW0.out]
    refine (NC.out).mono ?_
    rintro e w1 ⟨rfl, rfl⟩
    obtain ⟨n0, n1⟩ := FQ.out _ (Below.refl _ _)
    go_wp2_with fail
    refine bodyPost_ret (v := .tuple #[.int .i64 0, .bool false, .int .i64 2]) (by simp [results, Try.results33]) rfl ?_
    exact BAD2.out
  have t1 : decide (t < 0) = false := decide_eq_false hb1
  by_cases hb2 : 16 ≤ t
  · have t2 : decide (16 ≤ t) = true := decide_eq_true hb2
    have BAD2 := Lib.hid (BAD.out (.inr (.inl hb2)))
    clear BAD hb2 hb1
    go_enter Try.func33, Try.ntmps33
    go_wp2_with fail
    rw [HW0.out]
    refine (NC.out).mono ?_
    rintro e w1 ⟨rfl, rfl⟩
    obtain ⟨n0, n1⟩ := FQ.out _ (Below.refl _ _)
    go_wp2_with fail
    refine bodyPost_ret (v := .tuple #[.int .i64 0, .bool false, .int .i64 2]) (by simp [results, Try.results33]) rfl ?_
    exact BAD2.out
  have t2 : decide (16 ≤ t) = false := decide_eq_false hb2
  by_cases hb3 : 512 < k.length
  · have t3 : decide ((512 : Int) < (N.size : Int)) = true := decide_eq_true (by omega)
    have t3' : decide (512 < N.size) = true := decide_eq_true (by omega)
    have BAD2 := Lib.hid (BAD.out (.inr (.inr hb3)))
    clear BAD hb2 hb1 hb3 nsz
    go_enter Try.func33, Try.ntmps33
    go_wp2_with fail
    rw [HW0.out]
    refine (NC.out).mono ?_
    rintro e w1 ⟨rfl, rfl⟩
    obtain ⟨n0, n1⟩ := FQ.out _ (Below.refl _ _)
    go_wp2_with fail
    refine bodyPost_ret (v := .tuple #[.int .i64 0, .bool false, .int .i64 2]) (by simp [results, Try.results33]) rfl ?_
    exact BAD2.out
  have t3 : decide ((512 : Int) < (N.size : Int)) = false := decide_eq_false (by omega)
  have t3' : decide (512 < N.size) = false := decide_eq_false (by omega)
  have HZ2 := Lib.hid HZ.out
  simp only [if_neg (show ¬ (t < 0 ∨ 16 ≤ t ∨ 512 < k.length) by omega)] at HZ2
  clear BAD hb2 hb1 hb3 nsz HZ
  go_enter Try.func33, Try.ntmps33
  go_wp2_with fail
  rw [HW0.out]
  refine (NC.out).mono ?_
  rintro e w1 ⟨rfl, rfl⟩
  obtain ⟨n0, n1⟩ := FQ.out _ (Below.refl _ _)
  go_wp2_with fail
  refine (OF.out _ (Below.refl _ _)).mono ?_
  rintro e w2 ⟨rfl, b2⟩
  clear n0 n1
  obtain ⟨n0, n1⟩ := FQ.out _ b2
  have FI2 := Lib.hid (FI.out _ b2)
  clear b2
  go_wp2_with fail
  refine (FI2.out).mono ?_
  rintro e w6 ⟨rfl, hq6⟩
  clear n0 n1
  obtain ⟨n0, n1⟩ := FQ.out _ hq6
  have B6 : Hid (Below w.heap.size w w6) := B0.out.trans (hq6.mono B0.out.size)
  have L6 : w.heap.size < w6.heap.size := Nat.lt_of_lt_of_le LTT.out hq6.size
  have HT2b := Lib.hid (HT2.out _ hq6)
  clear hq6 NC OF FI FI2 FQ B0 HT2
  cases R with
  | some bj =>
    obtain ⟨b, j⟩ := bj
    rw [fptr_some]
    have hp := HFO.out b j rfl
    have h6 := HT.out _ B6.out
    have h7 := h6.eqv (star_left_comm _ _ _)
    obtain ⟨s0, s1, s2, s3, sz, st⟩ := place_f hp h7
    obtain ⟨s, hs⟩ : ∃ q, slotAt Bx b j = q := ⟨_, rfl⟩
    have S9 := Lib.hid (Sm.of_below B6.out)
    rw [hs] at s3
    have HF2 := Lib.hid (place_set hp h7 3 (by omega) (.int .i64 v) { s with v := v } (by rw [hs]; rfl))
    have E2 := Lib.hid (HBDE.out (setAt Bx b j { s with v := v }) (bE_setAt _ _ _ _))
    have HZ3 : Hid (∀ g, Z g = ((s.v, true, 0), setAt Bx b j { s with v := v })) := by
      intro g
      have := HZ2.out g
      try dsimp only at this
      rw [hs] at this
      exact this
    obtain ⟨pg, hpg⟩ : ∃ q, pgOf Bx b = q := ⟨_, rfl⟩
    rw [hpg] at s3 sz st HF2 ⊢
    clear h6 h7 hs s0 s1 s2 HT HFO hp HBF HBDS HBDE HSAME hpg HZ2 HGR HLY HCT HPP HCB
    go_wp2_with fail
    refine bodyPost_ret (v := .tuple #[.int .i64 s.v, .bool true, .int .i64 0]) (by simp [results, Try.results33]) rfl ?_
    refine HPC.out _ _ ⟨0, by rw [HZ3.out]; rfl, ?_, S9.out.setCell _ _⟩
    rw [HZ3.out]
    exact HM.out _ _ ((HF2.out.eqv (star_left_comm _ _ _)).eqv (by rw [E2.out]))
  | none =>
    unfold fptr
    obtain ⟨d0, d1, d2, d3, d4, dz, dt⟩ := HBF.out _ B6.out
    by_cases hfull : Bx.count = 4096
    · have t4 : ((Bx.count : Int) == 4096) = true := by simp [hfull]
      have t4' : (Bx.count == 4096) = true := by simp [hfull]
      have HZ3 : Hid (∀ g, Z g = ((0, false, 14), Bx)) := by
        intro g
        have := HZ2.out g
        try dsimp only at this
        rw [if_pos hfull] at this
        exact this
      have H9 := Lib.hid (HWW.out _ B6.out)
      have S9 := Lib.hid (Sm.of_below B6.out)
      clear hfull HZ2 HGR HLY HCT HPP HCB d0 d1 d2 d3
      go_wp2_with fail
      refine bodyPost_ret (v := .tuple #[.int .i64 0, .bool false, .int .i64 14]) (by simp [results, Try.results33]) rfl ?_
      refine HPC.out _ _ ⟨0, by rw [HZ3.out]; rfl, ?_, S9.out⟩
      rw [HZ3.out, HSAME.out]
      exact H9.out
    · have t4 : ((Bx.count : Int) == 4096) = false := beq_eq_false_iff_ne.2 (by omega)
      have t4' : (Bx.count == 4096) = false := beq_eq_false_iff_ne.2 hfull
      obtain ⟨hok, hgr⟩ := HPP.out rfl hfull
      have HZ3 : Hid (∀ g, Z g = ((0, false, 0), { layB (growB g Bx) t k v with count := (growB g Bx).count + 1 })) := by
        intro g
        have := HZ2.out g
        try dsimp only at this
        rw [if_neg hfull] at this
        exact this
      have HB6 := Lib.hid (HT2b.out)
      have GC := Lib.hid (HGR.out hok _ _ HB6.out)
      have S6 := Lib.hid (Sm.of_below B6.out)
      clear hfull HZ2 HGR HPP HCB d0 d1 d2 d3 hok HT HFO HBF HBDS HBDE HSAME HWW HB6 HT2b
      go_wp2_with fail
      refine (GC.out).mono ?_
      rintro e w7 ⟨g, rfl, h7, s7⟩
      obtain ⟨bas2, hroom⟩ := hgr g
      have LC := Lib.hid (HLY.out (growB g Bx) bas2 hroom _ _ h7)
      have S7 := Lib.hid (S6.out.trans s7)
      obtain ⟨n0, n1⟩ := nam_cellN (h7.eqv (by ac_rfl : _ = pts w.heap.size (.cells #[.int .i64 t, .string N] 74 (0, 0)) * (bdA gb (Bs.set i (growB g Bx)) * (slA (growB g Bx).g (growB g Bx).l * (elA (growB g Bx).eg (growB g Bx).el * (pts tb (.cells #[.slice (some ⟨gb, 0, none⟩) Bs.length Bs.length] 133 (0, 0)) * (big rowsA (Bs.eraseIdx i) * F)))))))
      have HCC := Lib.hid bas2.c
      clear h7 s7 GC S6 bas2 hroom hgr HLY dz dt
      go_wp2_with fail
      refine (LC.out).mono ?_
      rintro e w8 ⟨rfl, h8, s8⟩
      obtain ⟨gz, gt, g4, h9⟩ := HCT.out _ _ _ h8
      have S8 := Lib.hid (S7.out.trans s8)
      have H9 := Lib.hid h9
      have hcc := HCC.out
      obtain ⟨lg1, lg2, lg3, lg4, lg5⟩ := layB_g (growB g Bx) t k v
      have LG2 := Lib.hid lg2
      have LG3 := Lib.hid lg3
      have a1 : IntKind.i64.wrap (((growB g Bx).count : Int) + 1) = ((growB g Bx).count : Int) + 1 := IntWalk.i64_in _ (by omega)
      obtain ⟨cc, hcc2⟩ : ∃ q, (growB g Bx).count = q := ⟨_, rfl⟩
      rw [hcc2] at g4 a1 H9
      have HC2 := Lib.hid hcc2
      clear h8 s8 h9 LC S7 HCT HCC hcc lg1 lg2 lg3 lg4 lg5 hcc2 n0 n1
      go_wp2_with fail
      refine bodyPost_ret (v := .tuple #[.int .i64 0, .bool false, .int .i64 0]) (by simp [results, Try.results33]) rfl ?_
      refine HPC.out _ _ ⟨g, by rw [HZ3.out]; rfl, ?_, S8.out.setCell _ _⟩
      rw [HZ3.out]
      refine HM.out _ _ ?_
      have hx := H9.out
      rw [show rowsA { layB (growB g Bx) t k v with count := (growB g Bx).count + 1 } = slA (layB (growB g Bx) t k v).g (layB (growB g Bx) t k v).l * elA (growB g Bx).eg (growB g Bx).el by unfold rowsA; simp only [LG2.out, LG3.out], HC2.out]
      have hy := (hx.eqv (by ac_rfl : _ = pts w.heap.size (.cells #[.int .i64 t, .string N] 74 (0, 0)) * (bdA gb (Bs.set i { layB (growB g Bx) t k v with count := cc + 1 }) * ((slA (layB (growB g Bx) t k v).g (layB (growB g Bx) t k v).l * elA (growB g Bx).eg (growB g Bx).el) * (pts tb (.cells #[.slice (some ⟨gb, 0, none⟩) Bs.length Bs.length] 133 (0, 0)) * (big rowsA (Bs.eraseIdx i) * F)))))).right
      exact hy
#print axioms put_calls
end Go.Proofs.Ytefcinifaaablaa.Stripe
