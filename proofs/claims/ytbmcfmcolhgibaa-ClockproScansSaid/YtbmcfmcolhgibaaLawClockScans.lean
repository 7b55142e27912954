/-
  ClockproScans, the walk.
-/
import Derived.Test.YtbmcfmcolhgibaaClockGood
namespace Go.Proofs.Ytbmcfmcolhgibaa.Clock
open Go.RowKit Go.Sep
set_option maxRecDepth 100000
set_option linter.unusedVariables false
set_option linter.unusedSimpArgs false

def scanAt (m : Nat) (t : Bool) : Nat → CS
  | 0 => scanN m t
  | k + 1 => (addS (scanAt m t k) ((k + 1 : Nat) : Int)).S
theorem scan_one (m : Nat) (t : Bool) : ∀ (k n j : Nat), scanGo m t (k + n) (j + 1) (scanAt m t j) = true → scanGo m t n (j + k + 1) (scanAt m t (j + k)) = true
  | 0, n, j, h => by simpa using h
  | k + 1, n, j, h => by
    rw [show k + 1 + n = (k + n) + 1 by omega] at h
    simp only [scanGo, Bool.and_eq_true] at h
    have := scan_one m t k n (j + 1) h.2
    rw [show j + 1 + k = j + (k + 1) by omega] at this
    exact this
structure ScanF (m : Nat) (t : Bool) (k : Nat) : Prop where
  e : (addS (scanAt m t k) ((k + 1 : Nat) : Int)).e = 0
  l : (addS (scanAt m t k) ((k + 1 : Nat) : Int)).l.length ≤ 1
  no : m ≤ k + 1 → (addS (scanAt m t k) ((k + 1 : Nat) : Int)).l.length ≠ 0
  here : m + 1 ≤ k + 1 → hereB (scanAt m t (k + 1)) 0 = t
theorem scanF (m0 : Nat) (h : m0 < 16) (t : Bool) (k : Nat) (hk : k < 81) : ScanF (m0 + 2) t k := by
  have h0 := scan_one (m0 + 2) t k (81 - k) 0 (by rw [show k + (81 - k) = 81 by omega]; exact scans_ok m0 h t)
  obtain ⟨n, hn⟩ : ∃ n, 81 - k = n + 1 := ⟨80 - k, by omega⟩
  rw [hn, Nat.zero_add] at h0
  simp only [scanGo, Bool.and_eq_true, beq_iff_eq, decide_eq_true_eq, Bool.or_eq_true, bne_iff_ne] at h0
  obtain ⟨⟨⟨⟨a1, a2⟩, a3⟩, a4⟩, -⟩ := h0
  refine ⟨a1, a2, fun h => ?_, fun h => ?_⟩
  · rcases a3 with a3 | a3
    · omega
    · exact a3
  · rcases a4 with a4 | a4
    · omega
    · exact a4
theorem good_scan {m : Nat} (h1 : 1 ≤ m) (h2 : m ≤ 20) (t : Bool) (k : Nat) : Good (scanAt m t k) := by
  induction k with
  | zero =>
    have := good_add (good_new (m := (m : Int)) (by omega) (by omega)) 0
    unfold scanAt scanN
    cases t with
    | true => exact good_touch this 0
    | false => exact this
  | succ k ih => exact good_add ih _
theorem new_zero {m : Nat} (h1 : 1 ≤ m) : kindS (addS (newS m) 0).S 0 = 1 := by
  unfold addS
  simp only [newS, has, List.any_nil, Bool.or_self, Bool.false_eq_true, if_false]
  have : roomS ⟨(m : Int), 1, [], [], []⟩ = ⟨⟨(m : Int), 1, [], [], []⟩, []⟩ := rfl
  rw [this]
  simp [kindS, has]

set_option maxHeartbeats 8000000 in
theorem scans_walk (most n : Int) (t : Bool) (w : World) :
    Calls Try.prog 9 #[.int .i64 most, .int .i64 n, .bool t] w fun e w' => e = .returned (.bool true) ∧ Below w.heap.size w w' := by
  obtain ⟨m0, hm0, hm8, -⟩ := and_lo 4 (by decide) most
  obtain ⟨n0, hn0, hn8, -⟩ := and_lo 6 (by decide) n
  simp at hm0 hm8 hn0 hn8
  obtain ⟨m, hm⟩ : ∃ m, m = m0 + 2 := ⟨_, rfl⟩
  obtain ⟨N, hN⟩ : ∃ N, N = m + 1 + n0 := ⟨_, rfl⟩
  have SF := Lib.hid (fun k hk => scanF m0 hm8 t k hk)
  rw [← hm] at SF
  have hM : (2 : Int) + (m0 : Int) = (m : Int) := by omega
  have hNN : (m : Int) + 1 + (n0 : Int) = (N : Int) := by omega
  have hm1 : 1 ≤ m := by omega
  have hm9 : m ≤ 17 := by omega
  have hN9 : N ≤ 81 := by omega
  have hNm : m + 1 ≤ N := by omega
  have NW := Lib.hid (new_calls (m : Int) (all w) w (by omega) (by omega) (holds_all w))
  have GN := Lib.hid (good_new (m := (m : Int)) (by omega) (by omega))
  have GS := Lib.hid (fun k => good_scan hm1 (show m ≤ 20 by omega) t k)
  have K0 := Lib.hid (new_zero hm1)
  have M0 : (0 : Int) ≤ (m0 : Int) := by omega
  have M1 : (m0 : Int) < 16 := by omega
  have M2 : (0 : Int) ≤ (n0 : Int) := by omega
  have M3 : (n0 : Int) < 64 := by omega
  clear hm hm8 hN hn8
  go_enter Try.func9, Try.ntmps9
  go_wp2_with fail
  refine (NW.out).mono ?_
  rintro e w1 ⟨a, rfl, h1, s1⟩
  have AD := Lib.hid (add_any a (all w) GN.out (okK_of (i := 0) (by omega) (by omega)) h1)
  have S1 := Lib.hid s1
  clear h1 s1 NW
  go_wp2_with fail
  refine (AD.out).mono ?_
  rintro e w2 ⟨v, rfl, k1, k2⟩
  have H2 : Hid (Holds w2 (ck a (addS (newS m) 0).S * all w)) := k1.right
  have S2 := Lib.hid (S1.out.trans k2)
  have ST : Hid (scanAt m t 0 = if t then touchS (addS (newS m) 0).S 0 else (addS (newS m) 0).S) := by show _ = _; rfl
  have TC := Lib.hid (touch_calls a (addS (newS m) 0).S (all w) w2 0 (okK_of (by omega) (by omega)) H2.out)
  rw [K0.out, show isHere 1 = true from rfl] at TC
  clear k1 k2 AD S1
  have go : Hid (∀ w3, Holds w3 (ck a (scanAt m t 0) * all w) → Sm w w3 → True) := fun _ _ _ => trivial
  cases t with
  | true =>
    go_wp2_with fail
    refine (TC.out).mono ?_
    rintro e w3 ⟨rfl, k1, k2⟩
    have H3 : Hid (Holds w3 (ck a (scanAt m true 0) * all w)) := by show Holds _ _; rw [ST.out]; exact k1
    have S3 := Lib.hid (S2.out.trans k2)
    clear k1 k2 TC H2 S2
    go_wp2_with fail
    go_loopw [9] (fun i wr => ∃ k : Nat, k ≤ N ∧ i = .int .i64 ((k + 1 : Nat) : Int) ∧ Hid (Holds wr (ck a (scanAt m true k) * all w)) ∧ Hid (Sm w wr)) (fun i _ => N + 1 - (intOf i).toNat)
    case atStart => exact ⟨0, Nat.zero_le _, rfl, H3.out, S3.out⟩
    case round =>
      clear H3 S3
      obtain ⟨k, hk, rfl, HH, HS⟩ := hrel
      by_cases hlt : k < N
      · have F := SF.out k (by omega)
        have AD := Lib.hid (add_any a (all w) (GS.out k) (okK_of (i := ((k + 1 : Nat) : Int)) (by omega) (by omega)) HH.out)
        obtain ⟨j, hj⟩ : ∃ j, k + 1 = j := ⟨_, rfl⟩
        have F1 := Lib.hid F.e
        have F2 := F.l
        have F3 := F.no
        have NX : Hid (scanAt m true j = (addS (scanAt m true k) ((k + 1 : Nat) : Int)).S) := by show _ = _; rw [← hj]; rfl
        rw [hj] at AD F1 F2 F3 NX ⊢
        have d1 : decide (j ≤ N) = true := by simp; omega
        generalize addS (scanAt m true k) (j : Int) = R at *
        obtain ⟨U, ul, ue⟩ := R
        obtain rfl : ue = 0 := F1.out
        replace F2 : ul.length ≤ 1 := F2
        replace F3 : m ≤ j → ul.length ≠ 0 := F3
        clear F
        go_wp2_with fail
        refine (AD.out).mono ?_
        rintro e w4 ⟨v, rfl, k1, k2⟩
        obtain ⟨ao, cap, hv, hcap⟩ := rowA_slice k1
        replace hv : v = .slice ao ul.length cap := hv
        replace hcap : ul.length ≤ cap := hcap
        obtain ⟨q, hq⟩ : ∃ q, ul.length = q := ⟨_, rfl⟩
        rw [hq] at F2 F3 hcap hv
        subst hv
        have H4 : Hid (Holds w4 (ck a (scanAt m true j) * all w)) := by show Holds _ _; rw [NX.out]; exact k1.right
        have S4 := Lib.hid (HS.out.trans k2)
        have d2 : decide (1 < q) = false := by simp; omega
        have j9 : j ≤ 81 := by omega
        have HJ := Lib.hid hj
        clear k1 k2 AD HH HS hq hj
        by_cases hq0 : q = 0
        · subst hq0
          have d4 : decide (m ≤ j) = false := by simp; omega
          clear F2 F3
          go_wp2_with fail
          go_roundw
          case rel => exact ⟨k + 1, by omega, by rw [HJ.out]; go_num, by rw [HJ.out]; exact H4.out, S4.out⟩
          case measure => have := HJ.out; simp [intOf]; omega
        · obtain rfl : q = 1 := by omega
          clear F2 F3
          go_wp2_with fail
          go_roundw
          case rel => exact ⟨k + 1, by omega, by rw [HJ.out]; go_num, by rw [HJ.out]; exact H4.out, S4.out⟩
          case measure => have := HJ.out; simp [intOf]; omega
      · obtain rfl : N = k := by omega
        have F := (SF.out (N - 1) (by omega)).here (by omega)
        rw [show N - 1 + 1 = N by omega] at F
        have KD := Lib.hid (kind_calls a (scanAt m true N) (all w) wr 0 (okK_of (by omega) (by omega)) HH.out)
        unfold hereB at F
        have FIN := Lib.hid (HH.out.below HS.out)
        generalize kindS (scanAt m true N) 0 = K at *
        clear HH HS
        have hK : K = 1 ∨ K = 2 := by simpa [isHere] using F
        rcases hK with rfl | rfl
        all_goals
          clear F
          go_wp2_with (go_at_call 27; refine (KD.out).mono ?_; rintro e w' ⟨rfl, rfl⟩)
          go_ret
          exact ⟨rfl, FIN.out⟩
  | false =>
    have H3 : Hid (Holds w2 (ck a (scanAt m false 0) * all w)) := by show Holds _ _; rw [ST.out]; exact H2.out
    have S3 := Lib.hid S2.out
    clear TC H2 S2
    go_wp2_with fail
    go_loopw [9] (fun i wr => ∃ k : Nat, k ≤ N ∧ i = .int .i64 ((k + 1 : Nat) : Int) ∧ Hid (Holds wr (ck a (scanAt m false k) * all w)) ∧ Hid (Sm w wr)) (fun i _ => N + 1 - (intOf i).toNat)
    case atStart => exact ⟨0, Nat.zero_le _, rfl, H3.out, S3.out⟩
    case round =>
      clear H3 S3
      obtain ⟨k, hk, rfl, HH, HS⟩ := hrel
      by_cases hlt : k < N
      · have F := SF.out k (by omega)
        have AD := Lib.hid (add_any a (all w) (GS.out k) (okK_of (i := ((k + 1 : Nat) : Int)) (by omega) (by omega)) HH.out)
        obtain ⟨j, hj⟩ : ∃ j, k + 1 = j := ⟨_, rfl⟩
        have F1 := Lib.hid F.e
        have F2 := F.l
        have F3 := F.no
        have NX : Hid (scanAt m false j = (addS (scanAt m false k) ((k + 1 : Nat) : Int)).S) := by show _ = _; rw [← hj]; rfl
        rw [hj] at AD F1 F2 F3 NX ⊢
        have d1 : decide (j ≤ N) = true := by simp; omega
        generalize addS (scanAt m false k) (j : Int) = R at *
        obtain ⟨U, ul, ue⟩ := R
        obtain rfl : ue = 0 := F1.out
        replace F2 : ul.length ≤ 1 := F2
        replace F3 : m ≤ j → ul.length ≠ 0 := F3
        clear F
        go_wp2_with fail
        refine (AD.out).mono ?_
        rintro e w4 ⟨v, rfl, k1, k2⟩
        obtain ⟨ao, cap, hv, hcap⟩ := rowA_slice k1
        replace hv : v = .slice ao ul.length cap := hv
        replace hcap : ul.length ≤ cap := hcap
        obtain ⟨q, hq⟩ : ∃ q, ul.length = q := ⟨_, rfl⟩
        rw [hq] at F2 F3 hcap hv
        subst hv
        have H4 : Hid (Holds w4 (ck a (scanAt m false j) * all w)) := by show Holds _ _; rw [NX.out]; exact k1.right
        have S4 := Lib.hid (HS.out.trans k2)
        have d2 : decide (1 < q) = false := by simp; omega
        have j9 : j ≤ 81 := by omega
        have HJ := Lib.hid hj
        clear k1 k2 AD HH HS hq hj
        by_cases hq0 : q = 0
        · subst hq0
          have d4 : decide (m ≤ j) = false := by simp; omega
          clear F2 F3
          go_wp2_with fail
          go_roundw
          case rel => exact ⟨k + 1, by omega, by rw [HJ.out]; go_num, by rw [HJ.out]; exact H4.out, S4.out⟩
          case measure => have := HJ.out; simp [intOf]; omega
        · obtain rfl : q = 1 := by omega
          clear F2 F3
          go_wp2_with fail
          go_roundw
          case rel => exact ⟨k + 1, by omega, by rw [HJ.out]; go_num, by rw [HJ.out]; exact H4.out, S4.out⟩
          case measure => have := HJ.out; simp [intOf]; omega
      · obtain rfl : N = k := by omega
        have F := (SF.out (N - 1) (by omega)).here (by omega)
        rw [show N - 1 + 1 = N by omega] at F
        have KD := Lib.hid (kind_calls a (scanAt m false N) (all w) wr 0 (okK_of (by omega) (by omega)) HH.out)
        unfold hereB at F
        have FIN := Lib.hid (HH.out.below HS.out)
        generalize kindS (scanAt m false N) 0 = K at *
        clear HH HS
        have hK : K ≠ 1 ∧ K ≠ 2 := by simpa [isHere] using F
        have d7 : (K == 1) = false := by simpa using hK.1
        have d8 : (K == 2) = false := by simpa using hK.2
        clear F hK
        go_wp2_with (go_at_call 27; refine (KD.out).mono ?_; rintro e w' ⟨rfl, rfl⟩)
        go_ret
        exact ⟨rfl, FIN.out⟩
#print axioms scans_walk
end Go.Proofs.Ytbmcfmcolhgibaa.Clock
