/-
  StripeMany, the walk.
-/
import Derived.Test.YtefcinifaaablaaStrM
namespace Go.Proofs.Ytefcinifaaablaa.Stripe
open Go.RowKit Go.Sep
set_option maxRecDepth 100000
set_option linter.unusedVariables false
set_option linter.unusedSimpArgs false

set_option maxHeartbeats 16000000 in
theorem many_walk (n0 s0 p0 : Int) (w : World) : Calls Try.prog 7 #[.int .i64 n0, .int .i64 s0, .int .i64 p0] w fun e w' => e = .returned (.bool true) ∧ Below w.heap.size w w' := by
  obtain ⟨N, hN, N9, -⟩ := and511 n0
  obtain ⟨s, hs, s9, -⟩ := and7 s0
  obtain ⟨p, hp, p9, -⟩ := and7 p0
  obtain ⟨S, hS⟩ : ∃ S, 1 + s = S := ⟨_, rfl⟩
  obtain ⟨P, hP⟩ : ∃ P, 1 + p = P := ⟨_, rfl⟩
  have aS : IntKind.i64.wrap (1 + (s : Int)) = (S : Int) := by rw [IntWalk.i64_in _ (by omega)]; omega
  have aP : IntKind.i64.wrap (1 + (p : Int)) = (P : Int) := by rw [IntWalk.i64_in _ (by omega)]; omega
  have S1 : 1 ≤ S := by omega
  have S8 : S ≤ 8 := by omega
  have P1 : 1 ≤ P := by omega
  have P8 : P ≤ 8 := by omega
  have NW := Lib.hid (new_calls P P1 (by omega) (all w) w (holds_all w))
  clear hS hP s9 p9
  go_enter Try.func7, Try.ntmps7
  go_wp2_with fail
  refine (NW.out).mono ?_
  rintro e w1 ⟨tb, gb, rfl, h1, s1⟩
  have H1 : Hid (Holds w1 (TB tb gb P (LA 0) * all w)) := h1
  have Q1 := Lib.hid s1
  clear h1 s1 NW
  go_wp2_with fail
  clear aS aP hN hs hp
  go_loopw [10] (fun x10 wl => ∃ i : Nat, x10 = .int .i64 i ∧ i ≤ N ∧ Hid (Holds wl (TB tb gb P (LA i) * all w)) ∧ Hid (Sm w wl)) (fun x10 _ => N - (intOf x10).toNat)
  case atStart => exact ⟨0, rfl, Nat.zero_le _, H1.out, Q1.out⟩
  case round =>
    clear H1 Q1
    obtain ⟨i, rfl, hi, HH, HS⟩ := hrel
    by_cases hiN : i < N
    · have KC := Lib.hid (keyM_calls i (by omega) wr)
      have PC : Hid (∀ wq, Holds wq (TB tb gb P (LA i) * all w) → Calls Try.prog 33 #[.pointer (some ⟨tb, 0, none⟩), .agg #[.int .i64 1, .string (ks (kM i))], .int .i64 i] wq (PutTC tb gb P ((0, false, 0), LA (i + 1)) (all w) wq)) := fun wq hq => by
        have := putT_calls tb gb P (LA i) 1 (kM i) i (by simp [kM]) (all w) wq hq
        rw [LA_put i P (by omega)] at this
        exact this
      obtain ⟨K, hK⟩ : ∃ q, ks (kM i) = q := ⟨_, rfl⟩
      rw [hK] at KC PC
      have t1 : decide ((i : Int) < (N : Int)) = true := decide_eq_true (by omega)
      clear hK
      go_wp2_with fail
      refine (KC.out).mono ?_
      rintro e w2 ⟨rfl, b2⟩
      have PC2 := Lib.hid (PC.out w2 (HH.out.grow b2))
      have S2 := Lib.hid (HS.out.grow b2)
      clear b2 KC PC HH HS
      go_wp2_with fail
      refine (PC2.out).mono ?_
      rintro e w3 ⟨rfl, h3, s3⟩
      have H3 := Lib.hid h3
      have S3 := Lib.hid (S2.out.trans s3)
      clear h3 s3 PC2 S2
      go_wp2_with fail
      go_roundw
      case rel => exact ⟨i + 1, by go_num, by omega, H3.out, S3.out⟩
      case measure => simp [intOf]; omega
    · obtain rfl : i = N := by omega
      have HD : Hid (Holds wr (TB tb gb P (DL i S 0) * all w)) := by show Holds _ _; rw [DL_zero]; exact HH.out
      have HL0 : Hid ((DL i S 0).length = i) := by show _ = _; rw [DL_zero]; simp [LA]
      clear HH hi hiN
      go_wp2_with fail
      go_loopw [14, 15] (fun x14 x15 wl => ∃ (d m : Nat), x15 = .int .i64 d ∧ x14 = .int .i64 m ∧ d ≤ i + 8 ∧ m ≤ i ∧ Hid (d % S = 0) ∧ Hid ((DL i S d).length = m) ∧ Hid (Holds wl (TB tb gb P (DL i S d) * all w)) ∧ Hid (Sm w wl)) (fun _ x15 _ => i - (intOf x15).toNat)
      case atStart => exact ⟨0, i, rfl, rfl, Nat.zero_le _, Nat.le_refl _, Nat.zero_mod _, HL0.out, HD.out, HS.out⟩
      case round =>
        clear HD HL0 HS
        obtain ⟨d, m, rfl, rfl, hd, hm, HM, HL, HH, HS⟩ := hrel
        by_cases hdi : d < i
        · have KC := Lib.hid (keyM_calls d (by omega) wr)
          obtain ⟨e1, e2⟩ := DL_delR (n := i) (step := S) (i := d) (by omega) hdi S1 S8 HM.out (tb_nd HH.out)
          have DC : Hid (∀ wq, Holds wq (TB tb gb P (DL i S d) * all w) → Calls Try.prog 34 #[.pointer (some ⟨tb, 0, none⟩), .agg #[.int .i64 1, .string (ks (kM d))]] wq (DelTC tb gb P (((d : Int), true), DL i S (d + S)) (all w) wq)) := fun wq hq => by
            have := delT_calls tb gb P (DL i S d) 1 (kM d) (by simp [kM]) (all w) wq hq
            rw [e1] at this
            exact this
          obtain ⟨K, hK⟩ : ∃ q, ks (kM d) = q := ⟨_, rfl⟩
          rw [hK] at KC DC
          rw [HL.out] at e2
          obtain ⟨m2, hm2⟩ : ∃ q, (DL i S (d + S)).length = q := ⟨_, rfl⟩
          rw [hm2] at e2
          have HM2 := Lib.hid hm2
          have t1 : decide ((d : Int) < (i : Int)) = true := decide_eq_true (by omega)
          have a1 : IntKind.i64.wrap ((m : Int) - 1) = (m2 : Int) := by rw [IntWalk.i64_in _ (by omega)]; omega
          have a2 : IntKind.i64.wrap ((d : Int) + (S : Int)) = ((d + S : Nat) : Int) := by rw [IntWalk.i64_in _ (by omega)]; omega
          have hm9 : m2 ≤ i := by omega
          have MD : Hid ((d + S) % S = 0) := by show _ = _; rw [Nat.add_mod_right]; exact HM.out
          clear hK e1 e2 hm2 HM HL
          go_wp2_with fail
          refine (KC.out).mono ?_
          rintro e w2 ⟨rfl, b2⟩
          have DC2 := Lib.hid (DC.out w2 (HH.out.grow b2))
          have S2 := Lib.hid (HS.out.grow b2)
          clear b2 KC DC HH HS
          go_wp2_with fail
          refine (DC2.out).mono ?_
          rintro e w3 ⟨rfl, h3, s3⟩
          have H3 := Lib.hid h3
          have S3 := Lib.hid (S2.out.trans s3)
          clear h3 s3 DC2 S2
          go_wp2_with fail
          go_roundw
          case rel => exact ⟨d + S, m2, by go_num, by go_num, by omega, hm9, MD.out, HM2.out, H3.out, S3.out⟩
          case measure => simp [intOf]; omega
        · have HDI : Hid (i ≤ d) := by show _ ≤ _; omega
          have t1 : decide ((d : Int) < (i : Int)) = false := decide_eq_false (by omega)
          have t1' : decide (d < i) = false := decide_eq_false (by omega)
          obtain ⟨LF, hLF⟩ : ∃ q, DL i S d = q := ⟨_, rfl⟩
          have HLF := Lib.hid hLF
          have HONE : Hid (∀ e ∈ LF, e.1 = 1 ∧ ∃ j, e.2.1 = kM j) := by rw [← hLF]; exact DL_one
          rw [hLF] at HL HH
          have HSL : Hid (∀ k, k ≤ P → sumS LF P k ≤ m) := fun k hk => by rw [← HL.out]; exact sumS_le LF P (by omega) k hk
          have HSA : Hid (sumS LF P P = m) := by show _ = _; rw [sumS_all P (by omega), HL.out]
          clear hLF hdi HM hd
          go_wp2_with fail
          go_loopw [18, 19] (fun x18 x19 wl => ∃ k : Nat, x19 = .int .i64 k ∧ x18 = .int .i64 (sumS LF P k) ∧ k ≤ P ∧ Hid (Holds wl (TB tb gb P LF * all w)) ∧ Hid (Sm w wl)) (fun _ x19 _ => P - (intOf x19).toNat)
          case atStart => exact ⟨0, rfl, rfl, Nat.zero_le _, HH.out, HS.out⟩
          case round =>
            clear HH HS
            obtain ⟨k, rfl, rfl, hk, HH, HS⟩ := hrel
            by_cases hkP : k < P
            · have SC := Lib.hid (stripeT_calls tb gb P LF k (all w) wr HH.out)
              have e1 : strT LF P k = stL LF P k := by unfold strT; rw [if_pos (by omega)]; rfl
              rw [e1] at SC
              have e2 := sumS_succ LF P k
              have b1 := HSL.out (k + 1) (by omega)
              obtain ⟨x, hx⟩ : ∃ q, sumS LF P k = q := ⟨_, rfl⟩
              obtain ⟨y, hy⟩ : ∃ q, stL LF P k = q := ⟨_, rfl⟩
              rw [hx, hy] at e2
              rw [hy] at SC
              rw [hx]
              have t2 : decide ((k : Int) < (P : Int)) = true := decide_eq_true (by omega)
              have a1 : IntKind.i64.wrap ((x : Int) + (y : Int)) = (x : Int) + (y : Int) := IntWalk.i64_in _ (by omega)
              have E2 := Lib.hid e2
              clear e1 e2 b1 hx hy
              go_wp2_with fail
              refine (SC.out).mono ?_
              rintro e w2 ⟨rfl, rfl⟩
              go_wp2_with fail
              go_roundw
              case rel => exact ⟨k + 1, by go_num, by rw [E2.out]; go_num, by omega, HH.out, HS.out⟩
              case measure => simp [intOf]; omega
            · obtain rfl : k = P := by omega
              rw [HSA.out]
              have LC := Lib.hid (lenT_calls tb gb k LF (all w) wr HH.out)
              rw [HL.out] at LC
              have C1 : Hid (∀ wq, Holds wq (TB tb gb k LF * all w) → Calls Try.prog 37 #[.pointer (some ⟨tb, 0, none⟩), .int .i64 1, .string ⟨#[]⟩] wq (ScanTC tb gb k LF 1 [] (all w) wq)) := fun wq hq => scanT_calls tb gb k LF 1 [] (all w) wq hq
              have C0 : Hid (∀ wq, Holds wq (TB tb gb k LF * all w) → Calls Try.prog 37 #[.pointer (some ⟨tb, 0, none⟩), .int .i64 0, .string ⟨#[]⟩] wq (ScanTC tb gb k LF 0 [] (all w) wq)) := fun wq hq => scanT_calls tb gb k LF 0 [] (all w) wq hq
              have CA : Hid (∀ wq, Holds wq (TB tb gb k LF * all w) → Calls Try.prog 37 #[.pointer (some ⟨tb, 0, none⟩), .int .i64 1, .string ⟨#[97]⟩] wq (ScanTC tb gb k LF 1 [97] (all w) wq)) := fun wq hq => scanT_calls tb gb k LF 1 [97] (all w) wq hq
              have CB : Hid (∀ wq, Holds wq (TB tb gb k LF * all w) → Calls Try.prog 37 #[.pointer (some ⟨tb, 0, none⟩), .int .i64 1, .string ⟨#[98]⟩] wq (ScanTC tb gb k LF 1 [98] (all w) wq)) := fun wq hq => scanT_calls tb gb k LF 1 [98] (all w) wq hq
              have CC : Hid (∀ wq, Holds wq (TB tb gb k LF * all w) → Calls Try.prog 37 #[.pointer (some ⟨tb, 0, none⟩), .int .i64 1, .string ⟨#[99]⟩] wq (ScanTC tb gb k LF 1 [99] (all w) wq)) := fun wq hq => scanT_calls tb gb k LF 1 [99] (all w) wq hq
              unfold ScanTC at C1 C0 CA CB CC
              have q1 := cnt_all HONE.out
              have q0 := cnt_zero HONE.out
              have qs := cnt_abc HONE.out
              rw [← scan_len0] at q1 q0
              rw [← scan_len0, ← scan_len0, ← scan_len0, HL.out] at qs
              rw [HL.out] at q1
              rw [q1] at C1
              rw [q0] at C0
              obtain ⟨xa, hxa⟩ : ∃ q, (scanE LF 1 [97]).length = q := ⟨_, rfl⟩
              obtain ⟨xb, hxb⟩ : ∃ q, (scanE LF 1 [98]).length = q := ⟨_, rfl⟩
              obtain ⟨xc, hxc⟩ : ∃ q, (scanE LF 1 [99]).length = q := ⟨_, rfl⟩
              rw [hxa] at CA qs
              rw [hxb] at CB qs
              rw [hxc] at CC qs
              have a1 : IntKind.i64.wrap ((xa : Int) + (xb : Int)) = ((xa + xb : Nat) : Int) := by rw [IntWalk.i64_in _ (by omega)]; omega
              obtain ⟨xab, hxab⟩ : ∃ q, xa + xb = q := ⟨_, rfl⟩
              rw [hxab] at a1
              have a2 : IntKind.i64.wrap ((xab : Int) + (xc : Int)) = (m : Int) := by rw [IntWalk.i64_in _ (by omega)]; omega
              have t2 : decide ((k : Int) < (k : Int)) = false := decide_eq_false (by omega)
              clear hxa hxb hxc q1 q0 qs hxab hk hkP HSL HSA
              go_wp2_with fail
              refine (LC.out).mono ?_
              rintro e w2 ⟨rfl, rfl⟩
              go_wp2_with fail
              refine (C1.out _ HH.out).mono ?_
              rintro e w3 ⟨ao0, cap0, S0, rfl, -, h, s⟩
              have G0 := Lib.hid h.right
              have Z0 := Lib.hid (HS.out.trans s)
              clear h s C1
              go_wp2_with fail
              refine (C0.out _ G0.out).mono ?_
              rintro e w4 ⟨ao1, cap1, S1, rfl, -, h, s⟩
              have G1 := Lib.hid h.right
              have Z1 := Lib.hid (Z0.out.trans s)
              clear h s C0
              go_wp2_with fail
              refine (CA.out _ G1.out).mono ?_
              rintro e w5 ⟨ao2, cap2, S2, rfl, -, h, s⟩
              have G2 := Lib.hid h.right
              have Z2 := Lib.hid (Z1.out.trans s)
              clear h s CA
              go_wp2_with fail
              refine (CB.out _ G2.out).mono ?_
              rintro e w6 ⟨ao3, cap3, S3, rfl, -, h, s⟩
              have G3 := Lib.hid h.right
              have Z3 := Lib.hid (Z2.out.trans s)
              clear h s CB
              go_wp2_with fail
              refine (CC.out _ G3.out).mono ?_
              rintro e w7 ⟨ao4, cap4, S4, rfl, -, h, s⟩
              have G4 := Lib.hid h.right
              have Z4 := Lib.hid (Z3.out.trans s)
              clear h s CC
              go_wp2_with fail
              go_loopw [20] (fun x20 wl => ∃ j : Nat, x20 = .int .i64 j ∧ j ≤ i ∧ Hid (Holds wl (TB tb gb k LF * all w)) ∧ Hid (Sm w wl)) (fun x20 _ => i - (intOf x20).toNat)
              case atStart => exact ⟨0, rfl, Nat.zero_le _, G4.out, Z4.out⟩
              case round =>
                clear G4 Z4 G3 Z3 G2 Z2 G1 Z1 G0 Z0 HH HS LC
                obtain ⟨j, rfl, hj, HH, HS⟩ := hrel
                by_cases hji : j < i
                · have KC := Lib.hid (keyM_calls j (by omega) wr)
                  have GV : Hid (getL LF 1 (kM j) = if j % S = 0 then (0, false) else ((j : Int), true)) := by
                    show _ = _
                    have hnd := tb_nd HH.out
                    rw [← HLF.out] at hnd ⊢
                    exact get_DL (by omega) hji HDI.out hnd
                  have GC : Hid (∀ wq, Holds wq (TB tb gb k LF * all w) → Calls Try.prog 38 #[.pointer (some ⟨tb, 0, none⟩), .agg #[.int .i64 1, .string (ks (kM j))]] wq fun e w' => e = .returned (.tuple #[.int .i64 (getL LF 1 (kM j)).1, .bool (getL LF 1 (kM j)).2]) ∧ Below wq.heap.size wq w') := fun wq hq => getT_calls tb gb k LF 1 (kM j) (by simp [kM]) (all w) wq hq
                  rw [GV.out] at GC
                  have r1 : Int.tmod (j : Int) (S : Int) = ((j % S : Nat) : Int) := rfl
                  have r2 : (j : Int) % (S : Int) = ((j % S : Nat) : Int) := rfl
                  have r3 : (S : Int) ≠ 0 := by omega
                  have r4 : ((S : Int) == 0) = false := beq_eq_false_iff_ne.2 r3
                  obtain ⟨q, hq⟩ : ∃ q, j % S = q := ⟨_, rfl⟩
                  have hqb : q < 8 := by rw [← hq]; exact Nat.lt_of_lt_of_le (Nat.mod_lt _ (by omega)) S8
                  rw [hq] at GC r1 r2
                  have r5 : IntKind.i64.wrap (q : Int) = (q : Int) := IntWalk.i64_in _ (by omega)
                  obtain ⟨K, hK⟩ : ∃ q, ks (kM j) = q := ⟨_, rfl⟩
                  rw [hK] at KC GC
                  have t3 : decide ((j : Int) < (i : Int)) = true := decide_eq_true (by omega)
                  have t3' : decide (j < i) = true := decide_eq_true hji
                  have HG := Lib.hid (fun wq (b : Below wr.heap.size wr wq) => HH.out.grow b)
                  by_cases hq0 : q = 0
                  · rw [if_pos hq0] at GC
                    have u1 : ((q : Int) != 0) = false := by simp [hq0]
                    have u1' : (q != 0) = false := by simp [hq0]
                    clear hK hq hq0 GV hqb
                    go_wp2_with fail
                    refine (KC.out).mono ?_
                    rintro e w2 ⟨rfl, b2⟩
                    have GC2 := Lib.hid (GC.out w2 (HG.out _ b2))
                    have B2 := Lib.hid b2
                    clear b2 KC GC
                    go_wp2_with fail
                    refine (GC2.out).mono ?_
                    rintro e w9 ⟨rfl, b3⟩
                    have B3 : Hid (Below wr.heap.size wr w9) := B2.out.trans (b3.mono B2.out.size)
                    clear b3 GC2 B2
                    go_wp2_with fail
                    go_roundw
                    case rel => exact ⟨j + 1, by go_num, by omega, HG.out _ B3.out, HS.out.grow B3.out⟩
                    case measure => simp [intOf]; omega
                  · rw [if_neg hq0] at GC
                    have u1 : ((q : Int) != 0) = true := by simp; omega
                    have u1' : (q != 0) = true := by simpa using hq0
                    clear hK hq hq0 GV hqb
                    go_wp2_with fail
                    refine (KC.out).mono ?_
                    rintro e w2 ⟨rfl, b2⟩
                    have GC2 := Lib.hid (GC.out w2 (HG.out _ b2))
                    have B2 := Lib.hid b2
                    clear b2 KC GC
                    go_wp2_with fail
                    refine (GC2.out).mono ?_
                    rintro e w9 ⟨rfl, b3⟩
                    have B3 : Hid (Below wr.heap.size wr w9) := B2.out.trans (b3.mono B2.out.size)
                    clear b3 GC2 B2
                    go_wp2_with fail
                    go_roundw
                    case rel => exact ⟨j + 1, by go_num, by omega, HG.out _ B3.out, HS.out.grow B3.out⟩
                    case measure => simp [intOf]; omega
                · have PC : Hid (Calls Try.prog 33 #[.pointer (some ⟨tb, 0, none⟩), .agg #[.int .i64 16, .string ⟨#[120]⟩], .int .i64 1] wr (PutTC tb gb k ((0, false, 2), LF) (all w) wr)) := by
                    have := putT_calls tb gb k LF 16 [120] 1 (by simp) (all w) wr HH.out
                    rw [put16] at this
                    exact this
                  have t3 : decide ((j : Int) < (i : Int)) = false := decide_eq_false (by omega)
                  have t3' : decide (j < i) = false := decide_eq_false hji
                  clear hji hj HH
                  go_wp2_with fail
                  refine (PC.out).mono ?_
                  rintro e w2 ⟨rfl, h2, s2⟩
                  have FIN := Lib.hid (Holds.below (A := _) h2 (HS.out.trans s2))
                  clear h2 s2 PC HS
                  go_wp2_with fail
                  go_ret
                  exact ⟨rfl, FIN.out⟩
#print axioms many_walk
end Go.Proofs.Ytefcinifaaablaa.Stripe
