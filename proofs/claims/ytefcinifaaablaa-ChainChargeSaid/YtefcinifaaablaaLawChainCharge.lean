/-
  ChainCharge, the walk.
-/
import Derived.Test.YtefcinifaaablaaChain3
import Derived.Test.YtefcinifaaablaaChain4
namespace Go.Proofs.Ytefcinifaaablaa.Chain
open Go.RowKit Go.Sep
open Go.Proofs.Ytefcinifaaablaa.Slab (isrow_at szOf szN szN_val Ar hdl ABlk newA newA_calls NewA X4 newBad)
open Go.Proofs.Ytefcinifaaablaa.Ref15 (ar_wf)
set_option maxRecDepth 100000
set_option linter.unusedVariables false
set_option linter.unusedSimpArgs false

theorem inv_new (s : Nat) (x : Int) (h : x = s) : Inv s (newA (X4 x x x x)) ⟨[], 0, 0, false, false⟩ 0 := by
  subst h
  refine ⟨⟨by simp, by simp, by simp, by simp, by simp, fun _ => rfl, fun h hh => by simp at hh⟩, rfl, rfl, by simp, by simp, fun d hd => ?_, fun d hd => ?_⟩
  · rw [sh_at (by simp [newA]; exact hd)]
    simp [newA, X4]
  · unfold lv
    rw [live_row (by simp [newA]; exact hd)]
    simp [newA, List.countP_replicate]

set_option maxHeartbeats 8000000 in
theorem charge_walk (ao : Option Addr) (al ac : Nat) (zs : List Int) (w : World) (hz : IsRow .i64 w ao al ac zs) :
    Calls Try.prog 4 #[.slice ao al ac] w fun e w' => e = .returned (.bool true) ∧ Below w.heap.size w w' := by
  have NW := Lib.hid (newA_calls 40 40 40 40 (all w) w (holds_all w) (by simp [newBad, X4]))
  have ZR := Lib.hid hz
  clear hz
  go_enter Try.func4, Try.ntmps4
  go_wp2_with fail
  refine (NW.out).mono ?_
  rintro e w1 ⟨a, rfl, h1, s1⟩
  have I0 := Lib.hid (inv_new 40 40 rfl)
  obtain ⟨A0, hA0⟩ : ∃ q, newA (X4 40 40 40 40) = q := ⟨_, rfl⟩
  rw [hA0] at h1 I0
  have NC := Lib.hid (new_calls a _ w1 h1)
  have S1 := Lib.hid s1
  clear NW s1 h1 hA0
  go_wp2_with fail
  refine (NC.out).mono ?_
  rintro e w2 ⟨c, rfl, h2, s2⟩
  have H2 := Lib.hid h2
  have S2 := Lib.hid (S1.out.trans s2)
  clear h2 s2 NC S1
  go_wp2_with fail
  go_loopw [6] (fun x wl => ∃ (i : Nat) (A : List (List ABlk)) (K : Ch), x = .int .i64 i ∧ i ≤ 20 ∧ Hid (Inv 40 A K i) ∧ Hid (Holds wl (chA c a K * (Ar a A * all w))) ∧ Hid (Sm w wl)) (fun x _ => 20 - (intOf x).toNat)
  case atStart => exact ⟨0, A0, _, rfl, by omega, I0.out, H2.out, S2.out⟩
  case round =>
    clear H2 S2 I0
    obtain ⟨i, A, K, rfl, hi, IV, H3, S3⟩ := hrel
    have ok := IV.out.ok
    have k1 := ok.l0
    have k2 := ok.l1
    have k3 := ok.c0
    have k4 := ok.c1
    by_cases hia : i < al ∧ i < 20
    · obtain ⟨h1, h2⟩ := hia
      have i1 : (i : Int) < (al : Int) := by omega
      have i2 : decide ((i : Int) < 20) = true := by simp; omega
      have i0 : (0 : Int) ≤ (i : Int) := by omega
      obtain ⟨ob, oo, rfl, hlc, hzl, hob, hcell, -⟩ := isrow_at ZR.out (by omega)
      have zc0 := hcell i (by omega)
      obtain ⟨x, hx⟩ : ∃ x, zs.getD i 0 = x := ⟨_, rfl⟩
      rw [hx] at zc0
      obtain ⟨n, hn, hn9, -⟩ := and4095 x
      have ZC := Lib.hid (fun (wq : World) (B : Asr) (h : Holds wq (B * all w)) => all_cell h zc0)
      have CH := Lib.hid (charge_calls c a K A (all w) wr H3.out)
      rw [IV.out.fr] at CH
      have IV0 := IV
      obtain ⟨cg, hcg⟩ : ∃ q, K.charge = q := ⟨_, rfl⟩
      rw [hcg] at CH k3 k4
      have HCG := Lib.hid hcg
      clear hcg hx hcell hzl zc0 ok
      go_wp2_with fail
      refine (CH.out).mono ?_
      rintro e w3 ⟨rfl, hb3⟩
      have H4 := Lib.hid (H3.out.grow hb3)
      have S4 := Lib.hid (S3.out.grow hb3)
      have zc3 := ZC.out w3 _ (H4.out.eqv (by ac_rfl : _ = (chA c a K * Ar a A) * all w))
      have zb3 : ob < w3.heap.size := Nat.lt_of_lt_of_le hob S4.out.size
      have MK := run_make_u8 n (by omega)
      have HM := Lib.hid (H4.out.alloc (.cells (List.replicate n (Value.int .u8 0)).toArray 5))
      have SM := Lib.hid (S4.out.alloc (.cells (List.replicate n (Value.int .u8 0)).toArray 5))
      obtain ⟨A', K', eA, IV', eL, eC⟩ := app_one (ar_wf (H4.out.eqv (star_left_comm _ _ _))) IV.out (by omega) (by omega) (List.replicate n 0) (by simp; omega)
      have AP := Lib.hid (append_calls c a K A (pts w3.heap.size (.cells (List.replicate n (Value.int .u8 0)).toArray 5) * all w) (some ⟨w3.heap.size, 0, none⟩) n n (List.replicate n 0) _ IV.out.ok (bytes_zero _ n (by omega) _) (HM.out.eqv (by ac_rfl)))
      rw [eA] at AP
      rw [List.length_replicate, HCG.out] at eC
      rw [List.length_replicate] at eL
      have IV2 := Lib.hid IV'
      have EL := Lib.hid eL
      have EC := Lib.hid eC
      clear hb3 H3 S3 CH H4 S4 IV HM IV' eL eC eA
      go_wp2_with fail
      refine (AP.out).mono ?_
      rintro e w4 ⟨rfl, h5, s5⟩
      have H5 := Lib.hid ((h5.eqv (by ac_rfl : _ = pts w3.heap.size (.cells (List.replicate n (Value.int .u8 0)).toArray 5) * (chA c a K' * (Ar a A' * all w)))).right)
      have S5 := Lib.hid (SM.out.trans s5)
      have CQ : Hid (∀ wq, Below w4.heap.size w4 wq → Calls Try.prog 14 #[.pointer (some ⟨c, 0, none⟩)] wq fun e w' => e = .returned (.int .i64 K'.charge) ∧ Below w4.heap.size w4 w') := by
        intro wq hq
        have := charge_calls c a K' A' (all w) wq (H5.out.grow hq)
        rw [IV2.out.fr] at this
        exact this.mono fun e w' ⟨q1, q2⟩ => ⟨q1, hq.trans (q2.mono hq.size)⟩
      have LQ : Hid (∀ wq, Below w4.heap.size w4 wq → Calls Try.prog 13 #[.pointer (some ⟨c, 0, none⟩)] wq fun e w' => e = .returned (.int .i64 K'.long) ∧ Below w4.heap.size w4 w') := by
        intro wq hq
        have := len_calls c a K' A' (all w) wq (H5.out.grow hq)
        rw [IV2.out.fr] at this
        exact this.mono fun e w' ⟨q1, q2⟩ => ⟨q1, hq.trans (q2.mono hq.size)⟩
      have m3 := IV2.out.ok.c0
      have m4 := IV2.out.ok.c1
      have m1 := IV2.out.ok.l0
      have m2 := IV2.out.ok.l1
      have EL2 := EL.out
      have EC2 : (K'.charge = cg ∧ K'.long ≤ cg) ∨ (0 < n ∧ cg < K'.charge ∧ K'.charge - cg ≤ 4096) := by
        rcases EC.out with ⟨q1, -, q2⟩ | ⟨j, q1, q2, q3, q4⟩
        · left; omega
        · have := szOf_64 j q1
          right; omega
      obtain ⟨lg', hlg'⟩ : ∃ q, K'.long = q := ⟨_, rfl⟩
      obtain ⟨cg', hcg'⟩ : ∃ q, K'.charge = q := ⟨_, rfl⟩
      rw [hlg', hcg'] at m3 EC2
      rw [hlg'] at LQ m1 m2 m4
      rw [hcg'] at CQ m4
      have B4 := Lib.hid (Below.refl w4.heap.size w4)
      have d1 : decide (cg' < lg') = false := by simp; omega
      have hE : Hid _ := EC2
      clear h5 s5 AP SM hlg' hcg' EL2 EC2 MK zc3 zb3
      go_wp2_with fail
      refine (CQ.out _ B4.out).mono ?_
      rintro e w5 ⟨rfl, hb5⟩
      have B5 := Lib.hid hb5
      clear hb5 B4
      go_wp2_with fail
      refine (LQ.out _ B5.out).mono ?_
      rintro e w6 ⟨rfl, hb6⟩
      have B6 := Lib.hid hb6
      clear hb6 B5 d1
      rcases hE.out with ⟨rfl, hle⟩ | ⟨hn0, hlt, hdf⟩
      · have d2 : decide (cg' < cg') = false := by simp
        have d3 : decide (cg' < lg') = false := by simp; omega
        by_cases hn0 : 0 < n
        · have d4 : decide ((0 : Int) < (n : Int)) = true := by simp; omega
          go_wp2_with fail
          refine (CQ.out _ B6.out).mono ?_
          rintro e w7 ⟨rfl, hb7⟩
          have B7 := Lib.hid hb7
          clear hb7 B6
          go_wp2_with fail
          refine (CQ.out _ B7.out).mono ?_
          rintro e w8 ⟨rfl, hb8⟩
          have B8 := Lib.hid hb8
          clear hb8 B7
          go_wp2_with fail
          refine (LQ.out _ B8.out).mono ?_
          rintro e w9 ⟨rfl, hb9⟩
          have B9 := Lib.hid hb9
          clear hb9 B8
          go_wp2_with fail
          go_roundw
          case rel => exact ⟨i + 1, A', K', by go_num, by omega, IV2.out, H5.out.grow B9.out, S5.out.grow B9.out⟩
          case measure => simp [intOf]; omega
        · have d4 : decide ((0 : Int) < (n : Int)) = false := by simp; omega
          go_wp2_with fail
          refine (CQ.out _ B6.out).mono ?_
          rintro e w8 ⟨rfl, hb8⟩
          have B8 := Lib.hid hb8
          clear hb8 B6
          go_wp2_with fail
          refine (LQ.out _ B8.out).mono ?_
          rintro e w9 ⟨rfl, hb9⟩
          have B9 := Lib.hid hb9
          clear hb9 B8
          go_wp2_with fail
          go_roundw
          case rel => exact ⟨i + 1, A', K', by go_num, by omega, IV2.out, H5.out.grow B9.out, S5.out.grow B9.out⟩
          case measure => simp [intOf]; omega
      · have d2 : decide (cg < cg') = true := by simpa using hlt
        have d3 : decide ((n : Int) + 4096 ≤ cg' - cg) = false := by simp; omega
        have d4 : decide ((0 : Int) < (n : Int)) = true := by simp; omega
        have d5 : (cg' == cg) = false := by simp; omega
        have w1' : IntKind.i64.wrap (cg' - cg) = cg' - cg := IntWalk.i64_in _ (by omega)
        have w2' : IntKind.i64.wrap ((n : Int) + 4096) = (n : Int) + 4096 := IntWalk.i64_in _ (by omega)
        go_wp2_with fail
        refine (CQ.out _ B6.out).mono ?_
        rintro e w7 ⟨rfl, hb7⟩
        have B7 := Lib.hid hb7
        clear hb7 B6
        go_wp2_with fail
        refine (CQ.out _ B7.out).mono ?_
        rintro e w8 ⟨rfl, hb8⟩
        have B8 := Lib.hid hb8
        clear hb8 B7
        go_wp2_with fail
        refine (CQ.out _ B8.out).mono ?_
        rintro e w9 ⟨rfl, hb9⟩
        have B9 := Lib.hid hb9
        clear hb9 B8
        go_wp2_with fail
        go_roundw
        case rel => exact ⟨i + 1, A', K', by go_num, by omega, IV2.out, H5.out.grow B9.out, S5.out.grow B9.out⟩
        case measure => simp [intOf]; omega
    · have LN := Lib.hid (len_calls c a K A (all w) wr H3.out)
      rw [IV.out.fr] at LN
      have RO := Lib.hid (fun wq (hq : Below wr.heap.size wr wq) => read_out c a K A (all w) wq k1 k2 IV.out.fr (H3.out.grow hq))
      have AQ := Lib.hid (fun wq (hq : Below wr.heap.size wr wq) => append_calls c a K A (all w) none 0 0 [] wq IV.out.ok (bytes_nil _) (H3.out.grow hq))
      obtain ⟨A', K', eA, -⟩ := app_one (ar_wf (H3.out.eqv (star_left_comm _ _ _))) IV.out (by omega) (by omega) [] (by simp)
      rw [eA] at AQ
      have H4 := H3
      obtain ⟨lg, hlg⟩ : ∃ q, K.long = q := ⟨_, rfl⟩
      simp only [hlg] at LN RO
      have FIN : Hid (∀ wq w5, Below wr.heap.size wr wq → Holds w5 (chA c a K' * (Ar a A' * all w)) → Sm wq w5 → Below w.heap.size w w5) := by
        intro wq w5 hq h s
        exact Holds.below (h.eqv (by ac_rfl : _ = (chA c a K' * Ar a A') * all w)) ((S3.out.grow hq).trans s)
      clear k1 k2 k3 k4 ok hlg eA H3 H4
      by_cases hal : i < al
      · have i1 : (i : Int) < (al : Int) := by omega
        have i2 : decide ((i : Int) < 20) = false := by simp; omega
        go_wp2_with fail
        refine (LN.out).mono ?_
        rintro e w4 ⟨rfl, hb4⟩
        have B4 := Lib.hid hb4
        clear hb4
        go_wp2_with fail
        refine (RO.out _ B4.out).mono ?_
        rintro e w5 ⟨rfl, hb5⟩
        have B5 := Lib.hid (B4.out.trans (hb5.mono B4.out.size))
        clear hb5 B4
        go_wp2_with fail
        refine (AQ.out _ B5.out).mono ?_
        rintro e w6 ⟨rfl, h6, s6⟩
        have BB := Lib.hid (FIN.out _ _ B5.out h6 s6)
        clear h6 s6
        go_wp2_with fail
        go_ret
        exact ⟨rfl, BB.out⟩
      · have i1 : ¬ (i : Int) < (al : Int) := by omega
        go_wp2_with fail
        refine (LN.out).mono ?_
        rintro e w4 ⟨rfl, hb4⟩
        have B4 := Lib.hid hb4
        clear hb4
        go_wp2_with fail
        refine (RO.out _ B4.out).mono ?_
        rintro e w5 ⟨rfl, hb5⟩
        have B5 := Lib.hid (B4.out.trans (hb5.mono B4.out.size))
        clear hb5 B4
        go_wp2_with fail
        refine (AQ.out _ B5.out).mono ?_
        rintro e w6 ⟨rfl, h6, s6⟩
        have BB := Lib.hid (FIN.out _ _ B5.out h6 s6)
        clear h6 s6
        go_wp2_with fail
        go_ret
        exact ⟨rfl, BB.out⟩
#print axioms charge_walk
end Go.Proofs.Ytefcinifaaablaa.Chain
