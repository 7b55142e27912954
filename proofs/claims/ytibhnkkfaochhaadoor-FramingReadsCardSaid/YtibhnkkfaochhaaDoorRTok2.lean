/-
  The document's layer 1: tchar, Is, Number.
-/
import Derived.Test.YtibhnkkfaochhaaDoorRTok1
import Derived.Test.YtibhnkkfaochhaaDoorTok3
namespace Go.Proofs.YtibhnkkfaochhaaDoor.Tok
open Go.RowKit Go.Sep
set_option maxRecDepth 100000
set_option linter.unusedVariables false
set_option linter.unusedSimpArgs false

set_option maxHeartbeats 8000000 in
theorem rtchar_calls (k : Nat) (hk : k < 256) (w : World) : Calls Tryd.prog 54 #[.int .u8 (k : Int)] w fun e w' => e = .returned (.bool (tokK k)) ∧ Below w.heap.size w w' := by
  by_cases hm : k ∈ mkL
  · have hm2 : k = 33 ∨ k = 35 ∨ k = 36 ∨ k = 37 ∨ k = 38 ∨ k = 39 ∨ k = 42 ∨ k = 43 ∨ k = 45 ∨ k = 46 ∨ k = 94 ∨ k = 95 ∨ k = 96 ∨ k = 124 ∨ k = 126 := by simpa [mkL] using hm
    clear hm hk
    rcases hm2 with rfl | hm2
    · rw [show tokK 33 = true by decide]
      go_enter Tryd.func54, Tryd.ntmps54
      go_wp2_with fail
      go_ret
      exact ⟨rfl, Below.refl _ _⟩
    rcases hm2 with rfl | hm2
    · rw [show tokK 35 = true by decide]
      go_enter Tryd.func54, Tryd.ntmps54
      go_wp2_with fail
      go_ret
      exact ⟨rfl, Below.refl _ _⟩
    rcases hm2 with rfl | hm2
    · rw [show tokK 36 = true by decide]
      go_enter Tryd.func54, Tryd.ntmps54
      go_wp2_with fail
      go_ret
      exact ⟨rfl, Below.refl _ _⟩
    rcases hm2 with rfl | hm2
    · rw [show tokK 37 = true by decide]
      go_enter Tryd.func54, Tryd.ntmps54
      go_wp2_with fail
      go_ret
      exact ⟨rfl, Below.refl _ _⟩
    rcases hm2 with rfl | hm2
    · rw [show tokK 38 = true by decide]
      go_enter Tryd.func54, Tryd.ntmps54
      go_wp2_with fail
      go_ret
      exact ⟨rfl, Below.refl _ _⟩
    rcases hm2 with rfl | hm2
    · rw [show tokK 39 = true by decide]
      go_enter Tryd.func54, Tryd.ntmps54
      go_wp2_with fail
      go_ret
      exact ⟨rfl, Below.refl _ _⟩
    rcases hm2 with rfl | hm2
    · rw [show tokK 42 = true by decide]
      go_enter Tryd.func54, Tryd.ntmps54
      go_wp2_with fail
      go_ret
      exact ⟨rfl, Below.refl _ _⟩
    rcases hm2 with rfl | hm2
    · rw [show tokK 43 = true by decide]
      go_enter Tryd.func54, Tryd.ntmps54
      go_wp2_with fail
      go_ret
      exact ⟨rfl, Below.refl _ _⟩
    rcases hm2 with rfl | hm2
    · rw [show tokK 45 = true by decide]
      go_enter Tryd.func54, Tryd.ntmps54
      go_wp2_with fail
      go_ret
      exact ⟨rfl, Below.refl _ _⟩
    rcases hm2 with rfl | hm2
    · rw [show tokK 46 = true by decide]
      go_enter Tryd.func54, Tryd.ntmps54
      go_wp2_with fail
      go_ret
      exact ⟨rfl, Below.refl _ _⟩
    rcases hm2 with rfl | hm2
    · rw [show tokK 94 = true by decide]
      go_enter Tryd.func54, Tryd.ntmps54
      go_wp2_with fail
      go_ret
      exact ⟨rfl, Below.refl _ _⟩
    rcases hm2 with rfl | hm2
    · rw [show tokK 95 = true by decide]
      go_enter Tryd.func54, Tryd.ntmps54
      go_wp2_with fail
      go_ret
      exact ⟨rfl, Below.refl _ _⟩
    rcases hm2 with rfl | hm2
    · rw [show tokK 96 = true by decide]
      go_enter Tryd.func54, Tryd.ntmps54
      go_wp2_with fail
      go_ret
      exact ⟨rfl, Below.refl _ _⟩
    rcases hm2 with rfl | hm2
    · rw [show tokK 124 = true by decide]
      go_enter Tryd.func54, Tryd.ntmps54
      go_wp2_with fail
      go_ret
      exact ⟨rfl, Below.refl _ _⟩
    subst hm2
    rw [show tokK 126 = true by decide]
    go_enter Tryd.func54, Tryd.ntmps54
    go_wp2_with fail
    go_ret
    exact ⟨rfl, Below.refl _ _⟩
  · have hn : ¬ k = 33 ∧ ¬ k = 35 ∧ ¬ k = 36 ∧ ¬ k = 37 ∧ ¬ k = 38 ∧ ¬ k = 39 ∧ ¬ k = 42 ∧ ¬ k = 43 ∧ ¬ k = 45 ∧ ¬ k = 46 ∧ ¬ k = 94 ∧ ¬ k = 95 ∧ ¬ k = 96 ∧ ¬ k = 124 ∧ ¬ k = 126 := by simpa [mkL] using hm
    have hc : mkL.contains k = false := by simpa using hm
    obtain ⟨n33, n35, n36, n37, n38, n39, n42, n43, n45, n46, n94, n95, n96, n124, n126⟩ := hn
    have q33 : ((k : Int) == 33) = false := beq_eq_false_iff_ne.2 (by omega)
    have r33 : (k == 33) = false := by simpa using n33
    have q35 : ((k : Int) == 35) = false := beq_eq_false_iff_ne.2 (by omega)
    have r35 : (k == 35) = false := by simpa using n35
    have q36 : ((k : Int) == 36) = false := beq_eq_false_iff_ne.2 (by omega)
    have r36 : (k == 36) = false := by simpa using n36
    have q37 : ((k : Int) == 37) = false := beq_eq_false_iff_ne.2 (by omega)
    have r37 : (k == 37) = false := by simpa using n37
    have q38 : ((k : Int) == 38) = false := beq_eq_false_iff_ne.2 (by omega)
    have r38 : (k == 38) = false := by simpa using n38
    have q39 : ((k : Int) == 39) = false := beq_eq_false_iff_ne.2 (by omega)
    have r39 : (k == 39) = false := by simpa using n39
    have q42 : ((k : Int) == 42) = false := beq_eq_false_iff_ne.2 (by omega)
    have r42 : (k == 42) = false := by simpa using n42
    have q43 : ((k : Int) == 43) = false := beq_eq_false_iff_ne.2 (by omega)
    have r43 : (k == 43) = false := by simpa using n43
    have q45 : ((k : Int) == 45) = false := beq_eq_false_iff_ne.2 (by omega)
    have r45 : (k == 45) = false := by simpa using n45
    have q46 : ((k : Int) == 46) = false := beq_eq_false_iff_ne.2 (by omega)
    have r46 : (k == 46) = false := by simpa using n46
    have q94 : ((k : Int) == 94) = false := beq_eq_false_iff_ne.2 (by omega)
    have r94 : (k == 94) = false := by simpa using n94
    have q95 : ((k : Int) == 95) = false := beq_eq_false_iff_ne.2 (by omega)
    have r95 : (k == 95) = false := by simpa using n95
    have q96 : ((k : Int) == 96) = false := beq_eq_false_iff_ne.2 (by omega)
    have r96 : (k == 96) = false := by simpa using n96
    have q124 : ((k : Int) == 124) = false := beq_eq_false_iff_ne.2 (by omega)
    have r124 : (k == 124) = false := by simpa using n124
    have q126 : ((k : Int) == 126) = false := beq_eq_false_iff_ne.2 (by omega)
    have r126 : (k == 126) = false := by simpa using n126
    clear hm n33 n35 n36 n37 n38 n39 n42 n43 n45 n46 n94 n95 n96 n124 n126
    by_cases h97 : 97 ≤ k ∧ k ≤ 122
    · have ht : tokK k = true := by
        have : letK k = true := by unfold letK; simp; omega
        unfold tokK; rw [this, hc]; rfl
      rw [ht]
      have p1 : decide ((97 : Int) ≤ (k : Int)) = true := decide_eq_true (by omega)
      have p1n : decide (97 ≤ k) = true := decide_eq_true (by omega)
      have p2 : decide ((k : Int) ≤ 122) = true := decide_eq_true (by omega)
      have p2n : decide (k ≤ 122) = true := decide_eq_true (by omega)
      have p3 : decide ((65 : Int) ≤ (k : Int)) = true := decide_eq_true (by omega)
      have p3n : decide (65 ≤ k) = true := decide_eq_true (by omega)
      have p4 : decide ((k : Int) ≤ 90) = false := decide_eq_false (by omega)
      have p4n : decide (k ≤ 90) = false := decide_eq_false (by omega)
      have p5 : decide ((48 : Int) ≤ (k : Int)) = true := decide_eq_true (by omega)
      have p5n : decide (48 ≤ k) = true := decide_eq_true (by omega)
      have p6 : decide ((k : Int) ≤ 57) = false := decide_eq_false (by omega)
      have p6n : decide (k ≤ 57) = false := decide_eq_false (by omega)
      clear ht hc h97
      go_enter Tryd.func54, Tryd.ntmps54
      go_wp2_with fail
      go_ret
      exact ⟨rfl, Below.refl _ _⟩
    by_cases h65 : 65 ≤ k ∧ k ≤ 90
    · have ht : tokK k = true := by
        have : letK k = true := by unfold letK; simp; omega
        unfold tokK; rw [this, hc]; rfl
      rw [ht]
      have p1 : decide ((97 : Int) ≤ (k : Int)) = false := decide_eq_false (by omega)
      have p1n : decide (97 ≤ k) = false := decide_eq_false (by omega)
      have p2 : decide ((k : Int) ≤ 122) = true := decide_eq_true (by omega)
      have p2n : decide (k ≤ 122) = true := decide_eq_true (by omega)
      have p3 : decide ((65 : Int) ≤ (k : Int)) = true := decide_eq_true (by omega)
      have p3n : decide (65 ≤ k) = true := decide_eq_true (by omega)
      have p4 : decide ((k : Int) ≤ 90) = true := decide_eq_true (by omega)
      have p4n : decide (k ≤ 90) = true := decide_eq_true (by omega)
      have p5 : decide ((48 : Int) ≤ (k : Int)) = true := decide_eq_true (by omega)
      have p5n : decide (48 ≤ k) = true := decide_eq_true (by omega)
      have p6 : decide ((k : Int) ≤ 57) = false := decide_eq_false (by omega)
      have p6n : decide (k ≤ 57) = false := decide_eq_false (by omega)
      clear ht hc h97 h65
      go_enter Tryd.func54, Tryd.ntmps54
      go_wp2_with fail
      go_ret
      exact ⟨rfl, Below.refl _ _⟩
    by_cases h48 : 48 ≤ k ∧ k ≤ 57
    · have ht : tokK k = true := by
        have : letK k = true := by unfold letK; simp; omega
        unfold tokK; rw [this, hc]; rfl
      rw [ht]
      have p1 : decide ((97 : Int) ≤ (k : Int)) = false := decide_eq_false (by omega)
      have p1n : decide (97 ≤ k) = false := decide_eq_false (by omega)
      have p2 : decide ((k : Int) ≤ 122) = true := decide_eq_true (by omega)
      have p2n : decide (k ≤ 122) = true := decide_eq_true (by omega)
      have p3 : decide ((65 : Int) ≤ (k : Int)) = false := decide_eq_false (by omega)
      have p3n : decide (65 ≤ k) = false := decide_eq_false (by omega)
      have p4 : decide ((k : Int) ≤ 90) = true := decide_eq_true (by omega)
      have p4n : decide (k ≤ 90) = true := decide_eq_true (by omega)
      have p5 : decide ((48 : Int) ≤ (k : Int)) = true := decide_eq_true (by omega)
      have p5n : decide (48 ≤ k) = true := decide_eq_true (by omega)
      have p6 : decide ((k : Int) ≤ 57) = true := decide_eq_true (by omega)
      have p6n : decide (k ≤ 57) = true := decide_eq_true (by omega)
      clear ht hc h97 h65 h48
      go_enter Tryd.func54, Tryd.ntmps54
      go_wp2_with fail
      go_ret
      exact ⟨rfl, Below.refl _ _⟩
    by_cases h0 : 0 ≤ k ∧ k ≤ 47
    · have ht : tokK k = false := by
        have : letK k = false := by unfold letK; simp; omega
        unfold tokK; rw [this, hc]; rfl
      rw [ht]
      have p1 : decide ((97 : Int) ≤ (k : Int)) = false := decide_eq_false (by omega)
      have p1n : decide (97 ≤ k) = false := decide_eq_false (by omega)
      have p2 : decide ((k : Int) ≤ 122) = true := decide_eq_true (by omega)
      have p2n : decide (k ≤ 122) = true := decide_eq_true (by omega)
      have p3 : decide ((65 : Int) ≤ (k : Int)) = false := decide_eq_false (by omega)
      have p3n : decide (65 ≤ k) = false := decide_eq_false (by omega)
      have p4 : decide ((k : Int) ≤ 90) = true := decide_eq_true (by omega)
      have p4n : decide (k ≤ 90) = true := decide_eq_true (by omega)
      have p5 : decide ((48 : Int) ≤ (k : Int)) = false := decide_eq_false (by omega)
      have p5n : decide (48 ≤ k) = false := decide_eq_false (by omega)
      have p6 : decide ((k : Int) ≤ 57) = true := decide_eq_true (by omega)
      have p6n : decide (k ≤ 57) = true := decide_eq_true (by omega)
      clear ht hc h97 h65 h48 h0
      go_enter Tryd.func54, Tryd.ntmps54
      go_wp2_with fail
      go_ret
      exact ⟨rfl, Below.refl _ _⟩
    by_cases h58 : 58 ≤ k ∧ k ≤ 64
    · have ht : tokK k = false := by
        have : letK k = false := by unfold letK; simp; omega
        unfold tokK; rw [this, hc]; rfl
      rw [ht]
      have p1 : decide ((97 : Int) ≤ (k : Int)) = false := decide_eq_false (by omega)
      have p1n : decide (97 ≤ k) = false := decide_eq_false (by omega)
      have p2 : decide ((k : Int) ≤ 122) = true := decide_eq_true (by omega)
      have p2n : decide (k ≤ 122) = true := decide_eq_true (by omega)
      have p3 : decide ((65 : Int) ≤ (k : Int)) = false := decide_eq_false (by omega)
      have p3n : decide (65 ≤ k) = false := decide_eq_false (by omega)
      have p4 : decide ((k : Int) ≤ 90) = true := decide_eq_true (by omega)
      have p4n : decide (k ≤ 90) = true := decide_eq_true (by omega)
      have p5 : decide ((48 : Int) ≤ (k : Int)) = true := decide_eq_true (by omega)
      have p5n : decide (48 ≤ k) = true := decide_eq_true (by omega)
      have p6 : decide ((k : Int) ≤ 57) = false := decide_eq_false (by omega)
      have p6n : decide (k ≤ 57) = false := decide_eq_false (by omega)
      clear ht hc h97 h65 h48 h0 h58
      go_enter Tryd.func54, Tryd.ntmps54
      go_wp2_with fail
      go_ret
      exact ⟨rfl, Below.refl _ _⟩
    by_cases h91 : 91 ≤ k ∧ k ≤ 96
    · have ht : tokK k = false := by
        have : letK k = false := by unfold letK; simp; omega
        unfold tokK; rw [this, hc]; rfl
      rw [ht]
      have p1 : decide ((97 : Int) ≤ (k : Int)) = false := decide_eq_false (by omega)
      have p1n : decide (97 ≤ k) = false := decide_eq_false (by omega)
      have p2 : decide ((k : Int) ≤ 122) = true := decide_eq_true (by omega)
      have p2n : decide (k ≤ 122) = true := decide_eq_true (by omega)
      have p3 : decide ((65 : Int) ≤ (k : Int)) = true := decide_eq_true (by omega)
      have p3n : decide (65 ≤ k) = true := decide_eq_true (by omega)
      have p4 : decide ((k : Int) ≤ 90) = false := decide_eq_false (by omega)
      have p4n : decide (k ≤ 90) = false := decide_eq_false (by omega)
      have p5 : decide ((48 : Int) ≤ (k : Int)) = true := decide_eq_true (by omega)
      have p5n : decide (48 ≤ k) = true := decide_eq_true (by omega)
      have p6 : decide ((k : Int) ≤ 57) = false := decide_eq_false (by omega)
      have p6n : decide (k ≤ 57) = false := decide_eq_false (by omega)
      clear ht hc h97 h65 h48 h0 h58 h91
      go_enter Tryd.func54, Tryd.ntmps54
      go_wp2_with fail
      go_ret
      exact ⟨rfl, Below.refl _ _⟩
    by_cases h123 : 123 ≤ k ∧ k ≤ 255
    · have ht : tokK k = false := by
        have : letK k = false := by unfold letK; simp; omega
        unfold tokK; rw [this, hc]; rfl
      rw [ht]
      have p1 : decide ((97 : Int) ≤ (k : Int)) = true := decide_eq_true (by omega)
      have p1n : decide (97 ≤ k) = true := decide_eq_true (by omega)
      have p2 : decide ((k : Int) ≤ 122) = false := decide_eq_false (by omega)
      have p2n : decide (k ≤ 122) = false := decide_eq_false (by omega)
      have p3 : decide ((65 : Int) ≤ (k : Int)) = true := decide_eq_true (by omega)
      have p3n : decide (65 ≤ k) = true := decide_eq_true (by omega)
      have p4 : decide ((k : Int) ≤ 90) = false := decide_eq_false (by omega)
      have p4n : decide (k ≤ 90) = false := decide_eq_false (by omega)
      have p5 : decide ((48 : Int) ≤ (k : Int)) = true := decide_eq_true (by omega)
      have p5n : decide (48 ≤ k) = true := decide_eq_true (by omega)
      have p6 : decide ((k : Int) ≤ 57) = false := decide_eq_false (by omega)
      have p6n : decide (k ≤ 57) = false := decide_eq_false (by omega)
      clear ht hc h97 h65 h48 h0 h58 h91 h123
      go_enter Tryd.func54, Tryd.ntmps54
      go_wp2_with fail
      go_ret
      exact ⟨rfl, Below.refl _ _⟩
    omega
#print axioms rtchar_calls
theorem ris_calls (s : ByteArray) (hs : s.size ≤ 1048576) (w : World) : Calls Tryd.prog 39 #[.string s] w fun e w' => e = .returned (.bool (isL (bl s))) ∧ Below w.heap.size w w' := by
  have HF := Lib.hid (fun k w (hk : k < 256) => rtchar_calls k hk w)
  obtain ⟨rs, hrs⟩ : ∃ q, isL (bl s) = q := ⟨_, rfl⟩
  have HRS := Lib.hid hrs
  rw [hrs]
  clear hrs
  go_enter Tryd.func39, Tryd.ntmps39
  go_wp2_with fail
  go_loopw [3] (fun x wl => ∃ i : Nat, i ≤ s.size ∧ x = .int .i64 i ∧ Hid (∀ j (hj : j < (bl s).length), j < i → tokK (bl s)[j].toNat = true) ∧ Hid (Below w.heap.size w wl)) (fun x _ => s.size - (intOf x).toNat)
  case atStart => exact ⟨0, Nat.zero_le _, rfl, fun j _ h => by omega, Below.refl _ _⟩
  case round =>
    obtain ⟨i, hi, rfl, HJ, HB⟩ := hrel
    by_cases hil : i < s.size
    · have hib : i < (bl s).length := by rw [bl_len]; exact hil
      have IX := idx_s s i hil
      obtain ⟨k, hk⟩ : ∃ q, (bl s)[i].toNat = q := ⟨_, rfl⟩
      have hk9 : k < 256 := by rw [← hk]; exact UInt8.toNat_lt _
      rw [hk] at IX
      have HK := Lib.hid hk
      have i0 : (0 : Int) ≤ (i : Int) := by omega
      have i1 : (i : Int) < (s.size : Int) := by omega
      have FC := Lib.hid (HF.out k wr hk9)
      clear hk
      by_cases hp : tokK k = true
      · rw [hp] at FC
        have HN : Hid (∀ j (hj : j < (bl s).length), j < i + 1 → tokK (bl s)[j].toNat = true) := by
          intro j hj hlt
          by_cases e : j = i
          · subst e; rw [HK.out]; exact hp
          · exact HJ.out j hj (by omega)
        clear hp
        go_wp2_with fail
        refine (FC.out).mono ?_
        rintro e w1 ⟨rfl, b1⟩
        have B1 : Hid (Below w.heap.size w w1) := HB.out.trans (b1.mono HB.out.size)
        clear b1 FC
        go_wp2_with fail
        go_roundw
        case rel => exact ⟨i + 1, by omega, by go_num, HN.out, B1.out⟩
        case measure => simp [intOf]; omega
      · have hp2 : tokK k = false := by simpa using hp
        rw [hp2] at FC
        have hr : rs = false := by
          rw [← HRS.out]
          unfold isL
          rw [show ((bl s).all fun b => tokK b.toNat) = false by
            rw [List.all_eq_false]
            exact ⟨_, List.getElem_mem hib, by rw [HK.out]; simpa using hp2⟩, Bool.and_false]
        clear hp hp2 HRS
        subst hr
        go_wp2_with fail
        refine (FC.out).mono ?_
        rintro e w1 ⟨rfl, b1⟩
        have B1 : Hid (Below w.heap.size w w1) := HB.out.trans (b1.mono HB.out.size)
        clear b1 FC
        go_wp2_with fail
        go_ret
        exact ⟨rfl, B1.out⟩
    · obtain rfl : i = s.size := by omega
      have ha : ((bl s).all fun b => tokK b.toNat) = true := by
        rw [List.all_eq_true]
        intro x hx
        obtain ⟨j, hj, rfl⟩ := List.getElem_of_mem hx
        exact HJ.out j hj (by rw [← bl_len]; exact hj)
      have hr : rs = decide (0 < s.size) := by
        rw [← HRS.out]
        unfold isL
        rw [ha, Bool.and_true]
        cases hb : bl s with
        | nil => have := bl_len s; rw [hb] at this; simp at this; rw [← this]; rfl
        | cons x y => have := bl_len s; rw [hb] at this; simp at this; rw [← this]; simp
      clear HRS ha HJ hil hi
      by_cases h0 : 0 < s.size
      · have g0 : decide ((0 : Int) < (s.size : Int)) = true := decide_eq_true (by omega)
        have g1 : decide (0 < s.size) = true := decide_eq_true h0
        rw [g1] at hr
        subst hr
        go_wp2_with fail
        go_ret
        exact ⟨rfl, HB.out⟩
      · have g0 : decide ((0 : Int) < (s.size : Int)) = false := decide_eq_false (by omega)
        have g1 : decide (0 < s.size) = false := decide_eq_false h0
        rw [g1] at hr
        subst hr
        go_wp2_with fail
        go_ret
        exact ⟨rfl, HB.out⟩
#print axioms ris_calls
end Go.Proofs.YtibhnkkfaochhaaDoor.Tok
