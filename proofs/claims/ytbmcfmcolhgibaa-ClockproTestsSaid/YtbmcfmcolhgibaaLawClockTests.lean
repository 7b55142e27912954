/-
  ClockproTests, the walk.
-/
import Derived.Test.YtbmcfmcolhgibaaClockGood
namespace Go.Proofs.Ytbmcfmcolhgibaa.Clock
open Go.RowKit Go.Sep
set_option maxRecDepth 100000
set_option linter.unusedVariables false
set_option linter.unusedSimpArgs false

structure TestsF (m : Nat) : Prop where
  e1 : (addS (addN 0 m (newS m)) 100).e = 0
  l1 : (addS (addN 0 m (newS m)) 100).l = [0]
  k1 : kindS (addS (addN 0 m (newS m)) 100).S 0 = 3
  k2 : kindS (addN 200 m (addS (addN 0 m (newS m)) 100).S) 0 = 0
  e3 : (addS (addS (addN 0 m (newS m)) 100).S 0).e = 0
  e4 : (addS (addN 200 m (addS (addN 0 m (newS m)) 100).S) 0).e = 0
  k3 : kindS (addS (addS (addN 0 m (newS m)) 100).S 0).S 0 = 2
  t3 : (addS (addS (addN 0 m (newS m)) 100).S 0).S.target = (addS (addN 0 m (newS m)) 100).S.target + 1
  k4 : kindS (addS (addN 200 m (addS (addN 0 m (newS m)) 100).S) 0).S 0 = 1
  t4 : (addS (addN 200 m (addS (addN 0 m (newS m)) 100).S) 0).S.target ≤ (addN 200 m (addS (addN 0 m (newS m)) 100).S).target
theorem testsF (m : Nat) (h : m < 8) : TestsF (m + 2) := by
  have := tests_ok m h
  simp only [testsOk, Bool.and_eq_true, beq_iff_eq, decide_eq_true_eq] at this
  obtain ⟨⟨⟨⟨⟨⟨⟨⟨⟨a1, a2⟩, a3⟩, a4⟩, a5⟩, a6⟩, a7⟩, a8⟩, a9⟩, a10⟩ := this
  exact ⟨a1, a2, a3, a4, a5, a6, a7, a8, a9, a10⟩

set_option maxHeartbeats 8000000 in
theorem tests_walk (most : Int) (late : Bool) (w : World) :
    Calls Try.prog 7 #[.int .i64 most, .bool late] w fun e w' => e = .returned (.bool true) ∧ Below w.heap.size w w' := by
  obtain ⟨m0, hm0, hm8, -⟩ := and7 most
  obtain ⟨m, hm⟩ : ∃ m, m = m0 + 2 := ⟨_, rfl⟩
  have TF := Lib.hid (testsF m0 hm8)
  rw [← hm] at TF
  have hM : (2 : Int) + (m0 : Int) = (m : Int) := by omega
  have hm9 : m ≤ 9 := by omega
  have hm1 : 1 ≤ m := by omega
  have NW := Lib.hid (new_calls (m : Int) (all w) w (by omega) (by omega) (holds_all w))
  have G0 := Lib.hid (good_new (m := (m : Int)) (by omega) (by omega))
  have M0 : (0 : Int) ≤ (m0 : Int) := by omega
  have M1 : (m0 : Int) < 8 := by omega
  clear hm hm8
  go_enter Try.func7, Try.ntmps7
  go_wp2_with fail
  refine (NW.out).mono ?_
  rintro e w1 ⟨a, rfl, h1, s1⟩
  have H1 := Lib.hid h1
  have S1 := Lib.hid s1
  clear h1 s1 NW
  go_wp2_with fail
  go_loopw [7] (fun i wr => ∃ k : Nat, k ≤ m ∧ i = .int .i64 k ∧ Hid (Holds wr (ck a (addN 0 k (newS m)) * all w)) ∧ Hid (Sm w wr)) (fun i _ => m - (intOf i).toNat)
  case atStart => exact ⟨0, Nat.zero_le _, rfl, H1.out, S1.out⟩
  case round =>
    clear H1 S1
    obtain ⟨k, hk, rfl, HH, HS⟩ := hrel
    by_cases hlt : k < m
    · have AD := Lib.hid (add_any a (all w) (good_addN (base := 0) G0.out k) (okK_of (i := (k : Int)) (by omega) (by omega)) HH.out)
      go_wp2_with fail
      refine (AD.out).mono ?_
      rintro e w2 ⟨v, rfl, k1, k2⟩
      have H2 : Hid (Holds w2 (ck a (addN 0 (k + 1) (newS m)) * all w)) := by
        show Holds _ _
        have := k1.right
        simpa [addN] using this
      have S2 := Lib.hid (HS.out.trans k2)
      clear k1 k2 AD HH HS
      go_wp2_with fail
      go_roundw
      case rel => exact ⟨k + 1, by omega, by go_num, H2.out, S2.out⟩
      case measure => simp [intOf]; omega
    · obtain rfl : m = k := by omega
      have G1 := Lib.hid (good_addN (base := 0) G0.out m)
      have AD := Lib.hid (add_any a (all w) G1.out (okK_of (i := 100) (by omega) (by omega)) HH.out)
      have GA := Lib.hid (good_add G1.out 100)
      have E1 := Lib.hid TF.out.e1
      have L1 := Lib.hid TF.out.l1
      have K1 := Lib.hid TF.out.k1
      have K2 := Lib.hid TF.out.k2
      have E3 := Lib.hid TF.out.e3
      have E4 := Lib.hid TF.out.e4
      have K3 := Lib.hid TF.out.k3
      have T3 := Lib.hid TF.out.t3
      have K4 := Lib.hid TF.out.k4
      have T4 := Lib.hid TF.out.t4
      clear TF
      generalize addS (addN 0 m (newS m)) 100 = R at *
      clear G1
      obtain ⟨T, rl, re⟩ := R
      have K1 : Hid (kindS T 0 = 3) := K1
      have K2 : Hid (kindS (addN 200 m T) 0 = 0) := K2
      have E3 : Hid ((addS T 0).e = 0) := E3
      have E4 : Hid ((addS (addN 200 m T) 0).e = 0) := E4
      have K3 : Hid (kindS (addS T 0).S 0 = 2) := K3
      have T3 : Hid ((addS T 0).S.target = T.target + 1) := T3
      have K4 : Hid (kindS (addS (addN 200 m T) 0).S 0 = 1) := K4
      have T4 : Hid ((addS (addN 200 m T) 0).S.target ≤ (addN 200 m T).target) := T4
      obtain rfl : re = 0 := E1.out
      obtain rfl : rl = [0] := L1.out
      go_wp2_with fail
      refine (AD.out).mono ?_
      rintro e w2 ⟨v, rfl, k1, k2⟩
      obtain ⟨g, cap, hv, hcap, hg, hcell, hfr⟩ := rowL_cell (sz := 1) k1 (fun _ => rfl) 0 (by simp)
      have c0 := hcell 0 (by omega)
      simp [iEnc] at c0 hv hcap
      subst hv
      have k3 := k1.right
      have KK := Lib.hid (kind_calls a T (all w) w2 0 (okK_of (by omega) (by omega)) k3)
      rw [K1.out] at KK
      have H2 := Lib.hid k3
      have S2 := Lib.hid (HS.out.trans k2)
      clear k1 k2 k3 AD HH HS hcell hfr
      have GA2 : Good T := GA.out
      clear GA
      have tg1 := GA2.t1
      have tg2 := GA2.t2
      have tg3 := GA2.m2
      have GT := Lib.hid GA2
      clear GA2
      cases late with
      | false =>
        have AD := Lib.hid (add_any a (all w) GT.out (okK_of (i := 0) (by omega) (by omega)) H2.out)
        have TA := Lib.hid (target_calls a T (all w) w2 H2.out)
        obtain ⟨t, ht⟩ : ∃ t, T.target = t := ⟨_, rfl⟩
        rw [ht] at TA T3 tg1 tg2
        have GB := Lib.hid (good_add GT.out 0)
        have GB : Hid (Good (addS T 0).S) := GB
        generalize addS T 0 = R at *
        obtain ⟨U, ul, ue⟩ := R
        obtain rfl : ue = 0 := E3.out
        clear ht
        go_wp2_with (go_at_call 27; refine (KK.out).mono ?_; rintro e w' ⟨rfl, rfl⟩)
        refine (TA.out).mono ?_
        rintro e w' ⟨rfl, rfl⟩
        go_wp2_with fail
        refine (AD.out).mono ?_
        rintro e w3 ⟨v, rfl, k1, k2⟩
        have k3 := k1.right
        have KU := Lib.hid (kind_calls a U (all w) w3 0 (okK_of (by omega) (by omega)) k3)
        have TU := Lib.hid (target_calls a U (all w) w3 k3)
        rw [show kindS U 0 = 2 from K3.out] at KU
        rw [show U.target = t + 1 from T3.out] at TU
        have FIN := Lib.hid (k3.below (S2.out.trans k2))
        clear k1 k2 k3 AD H2 S2
        go_wp2_with (first | (go_at_call 27; refine (KU.out).mono ?_; rintro e w' ⟨rfl, rfl⟩) | (go_at_call 28; refine (TU.out).mono ?_; rintro e w' ⟨rfl, rfl⟩))
        go_ret
        exact ⟨rfl, FIN.out⟩
      | true =>
        have KT := Lib.hid GT.out
        go_wp2_with (go_at_call 27; refine (KK.out).mono ?_; rintro e w' ⟨rfl, rfl⟩)
        go_loopw [9] (fun i wr => ∃ k : Nat, k ≤ m ∧ i = .int .i64 k ∧ Hid (Holds wr (ck a (addN 200 k T) * all w)) ∧ Hid (Sm w wr)) (fun i _ => m - (intOf i).toNat)
        case atStart => exact ⟨0, Nat.zero_le _, rfl, H2.out, S2.out⟩
        case round =>
          clear H2 S2
          obtain ⟨k, hk, rfl, HH, HS⟩ := hrel
          by_cases hlt : k < m
          · have AD := Lib.hid (add_any a (all w) (good_addN (base := 200) GT.out k) (okK_of (i := 200 + (k : Int)) (by omega) (by omega)) HH.out)
            go_wp2_with fail
            refine (AD.out).mono ?_
            rintro e w2 ⟨v, rfl, k1, k2⟩
            have H2 : Hid (Holds w2 (ck a (addN 200 (k + 1) T) * all w)) := k1.right
            have S2 := Lib.hid (HS.out.trans k2)
            clear k1 k2 AD HH HS
            go_wp2_with fail
            go_roundw
            case rel => exact ⟨k + 1, by omega, by go_num, H2.out, S2.out⟩
            case measure => simp [intOf]; omega
          · obtain rfl : m = k := by omega
            have GU := Lib.hid (good_addN (base := 200) GT.out m)
            generalize addN 200 m T = X at *
            have tx1 := GU.out.t1
            have tx2 := GU.out.t2
            have tx3 := GU.out.m2
            have KX := Lib.hid (kind_calls a X (all w) wr 0 (okK_of (by omega) (by omega)) HH.out)
            rw [K2.out] at KX
            have TA := Lib.hid (target_calls a X (all w) wr HH.out)
            have AD := Lib.hid (add_any a (all w) GU.out (okK_of (i := 0) (by omega) (by omega)) HH.out)
            have GB : Hid (Good (addS X 0).S) := Lib.hid (good_add GU.out 0)
            obtain ⟨t, ht⟩ : ∃ t, X.target = t := ⟨_, rfl⟩
            rw [ht] at TA T4 tx1 tx2
            generalize addS X 0 = R at *
            obtain ⟨U, ul, ue⟩ := R
            obtain rfl : ue = 0 := E4.out
            clear ht
            go_wp2_with (go_at_call 27; refine (KX.out).mono ?_; rintro e w' ⟨rfl, rfl⟩)
            refine (TA.out).mono ?_
            rintro e w' ⟨rfl, rfl⟩
            go_wp2_with fail
            refine (AD.out).mono ?_
            rintro e w3 ⟨v, rfl, k1, k2⟩
            have k3 := k1.right
            have KU := Lib.hid (kind_calls a U (all w) w3 0 (okK_of (by omega) (by omega)) k3)
            have TU := Lib.hid (target_calls a U (all w) w3 k3)
            rw [show kindS U 0 = 1 from K4.out] at KU
            obtain ⟨u, hu⟩ : ∃ u, U.target = u := ⟨_, rfl⟩
            have hut : u ≤ t := by rw [← hu]; exact T4.out
            rw [hu] at TU
            have d9 : decide (u ≤ t) = true := by simpa using hut
            have FIN := Lib.hid (k3.below (HS.out.trans k2))
            clear k1 k2 k3 AD HH HS hu
            go_wp2_with (first | (go_at_call 27; refine (KU.out).mono ?_; rintro e w' ⟨rfl, rfl⟩) | (go_at_call 28; refine (TU.out).mono ?_; rintro e w' ⟨rfl, rfl⟩))
            go_ret
            exact ⟨rfl, FIN.out⟩
#print axioms tests_walk
end Go.Proofs.Ytbmcfmcolhgibaa.Clock
