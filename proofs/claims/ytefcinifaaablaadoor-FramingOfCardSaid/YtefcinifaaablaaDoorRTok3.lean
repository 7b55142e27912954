/-
  The document's layer 1: Number.
-/
import Derived.Test.YtefcinifaaablaaDoorRTok2
namespace Go.Proofs.YtefcinifaaablaaDoor.Tok
open Go.RowKit Go.Sep
set_option maxRecDepth 100000
set_option linter.unusedVariables false
set_option linter.unusedSimpArgs false

set_option maxHeartbeats 8000000 in
theorem rnumber_calls (s : ByteArray) (M : Nat) (hM : M ≤ 1152921504606846976) (hM9 : 9 ≤ M) (hs : s.size ≤ 1048576) (w : World) :
    Calls Tryd.prog 37 #[.string s, .int .i64 M] w fun e w' => e = .returned (.tuple #[.int .i64 (numL M (bl s)).n, .bool (numL M (bl s)).ok]) ∧ Below w.heap.size w w' := by
  have M0 : decide ((M : Int) < 0) = false := by simp
  by_cases h0 : s.size = 0
  · have hb : bl s = [] := List.eq_nil_of_length_eq_zero (by rw [bl_len]; exact h0)
    have g0 : ((s.size : Int) == 0) = true := by rw [h0]; rfl
    have g1 : (s.size == 0) = true := by rw [h0]; rfl
    have : numL M (bl s) = ⟨0, false⟩ := by rw [hb]; rfl
    rw [this]
    clear hb h0 this
    go_enter Tryd.func37, Tryd.ntmps37
    go_wp2_with fail
    go_ret2
    exact ⟨rfl, Below.refl _ _⟩
  have g0 : ((s.size : Int) == 0) = false := beq_eq_false_iff_ne.2 (by omega)
  have g1 : (s.size == 0) = false := beq_eq_false_iff_ne.2 h0
  have hx : (bl s).isEmpty = false := by
    cases hb : bl s with
    | nil => have := bl_len s; rw [hb] at this; simp at this; omega
    | cons _ _ => rfl
  obtain ⟨⟨rn, ro⟩, hr⟩ : ∃ q, numL M (bl s) = q := ⟨_, rfl⟩
  have HR := Lib.hid hr
  have HX := Lib.hid hx
  rw [hr]
  simp only
  clear hr hx h0
  go_enter Tryd.func37, Tryd.ntmps37
  go_wp2_with fail
  go_loopw [7] (fun x wl => ∃ i : Nat, i ≤ s.size ∧ x = .int .i64 i ∧ wl = w ∧ Hid (∀ j (hj : j < (bl s).length), j < i → digK (bl s)[j].toNat = true)) (fun x _ => s.size - (intOf x).toNat)
  case atStart => exact ⟨0, Nat.zero_le _, rfl, rfl, fun j _ h => by omega⟩
  case round =>
    obtain ⟨i, hi, rfl, rfl, HJ⟩ := hrel
    by_cases hil : i < s.size
    · have hib : i < (bl s).length := by rw [bl_len]; exact hil
      have IX := idx_s s i hil
      obtain ⟨k, hk⟩ : ∃ q, (bl s)[i].toNat = q := ⟨_, rfl⟩
      rw [hk] at IX
      have HK := Lib.hid hk
      have i0 : (0 : Int) ≤ (i : Int) := by omega
      have i1 : (i : Int) < (s.size : Int) := by omega
      clear hk
      have BAD : Hid (digK k = false → rn = 0 ∧ ro = false) := by
        intro hp
        have h := HR.out
        unfold numL at h
        have hd : digL (bl s) = false := by
          unfold digL
          rw [show ((bl s).all fun b => digK b.toNat) = false by
            rw [List.all_eq_false]
            exact ⟨_, List.getElem_mem hib, by rw [HK.out]; simpa using hp⟩, Bool.and_false]
        rw [hd] at h
        cases h
        exact ⟨rfl, rfl⟩
      have NEXT : Hid (digK k = true → ∀ j (hj : j < (bl s).length), j < i + 1 → digK (bl s)[j].toNat = true) := by
        intro hp j hj hlt
        by_cases e : j = i
        · subst e; rw [HK.out]; exact hp
        · exact HJ.out j hj (by omega)
      clear HJ
      by_cases h1 : k < 48
      · have e1 : decide ((k : Int) < 48) = true := decide_eq_true (by omega)
        have e1n : decide (k < 48) = true := decide_eq_true h1
        obtain ⟨rfl, rfl⟩ := BAD.out (by simp [digK]; omega)
        clear HR BAD NEXT
        go_wp2_with fail
        go_ret2
        exact ⟨rfl, Below.refl _ _⟩
      · have e1 : decide ((k : Int) < 48) = false := decide_eq_false (by omega)
        have e1n : decide (k < 48) = false := decide_eq_false h1
        by_cases h2 : 57 < k
        · have e2 : decide ((57 : Int) < (k : Int)) = true := decide_eq_true (by omega)
          have e2n : decide (57 < k) = true := decide_eq_true h2
          obtain ⟨rfl, rfl⟩ := BAD.out (by simp [digK]; omega)
          clear HR BAD NEXT
          go_wp2_with fail
          go_ret2
          exact ⟨rfl, Below.refl _ _⟩
        · have e2 : decide ((57 : Int) < (k : Int)) = false := decide_eq_false (by omega)
          have e2n : decide (57 < k) = false := decide_eq_false h2
          have HN := Lib.hid (NEXT.out (by simp [digK]; omega))
          clear BAD NEXT
          go_wp2_with fail
          go_roundw
          case rel => exact ⟨i + 1, by omega, by go_num, by first | rfl | trivial, HN.out⟩
          case measure => simp [intOf]; omega
    · obtain rfl : i = s.size := by omega
      have hd : ((bl s).all fun b => digK b.toNat) = true := by
        rw [List.all_eq_true]
        intro x hx
        obtain ⟨j, hj, rfl⟩ := List.getElem_of_mem hx
        exact HJ.out j hj (by rw [← bl_len]; exact hj)
      have HDG := Lib.hid hd
      have e9 : numL M (bl s) = ⟨numR M (bl s) 0, true⟩ := by unfold numL digL; rw [hd, HX.out]; simp
      have h := HR.out
      rw [e9] at h
      injection h with h1 h2
      subst h2
      have HRN := Lib.hid h1
      clear hd e9 h1 HR HJ HX hi hil
      go_wp2_with fail
      go_loopw [6, 8] (fun y x wl => ∃ i n : Nat, i ≤ s.size ∧ x = .int .i64 i ∧ y = .int .i64 n ∧ n ≤ M ∧ Hid (numR M ((bl s).drop i) n = rn) ∧ wl = wr) (fun _ x _ => s.size - (intOf x).toNat)
      case atStart => exact ⟨0, 0, Nat.zero_le _, rfl, rfl, Nat.zero_le _, HRN.out, rfl⟩
      case round =>
        clear HRN
        obtain ⟨i, n, hi, rfl, rfl, hnM, HX, rfl⟩ := hrel
        by_cases hil : i < s.size
        · have hib : i < (bl s).length := by rw [bl_len]; exact hil
          have IX := idx_s s i hil
          have hdg := (List.all_eq_true.1 HDG.out) _ (List.getElem_mem hib)
          have hdrop := List.drop_eq_getElem_cons hib
          obtain ⟨b, hb⟩ : ∃ q, (bl s)[i] = q := ⟨_, rfl⟩
          rw [hb] at IX hdg hdrop
          have hx := HX.out
          rw [hdrop] at hx
          unfold numR at hx
          obtain ⟨k, hk⟩ : ∃ q, b.toNat = q := ⟨_, rfl⟩
          rw [hk] at IX hdg hx
          simp only [digK, Bool.and_eq_true, decide_eq_true_eq] at hdg
          obtain ⟨d, hd⟩ : ∃ d, k - 48 = d := ⟨_, rfl⟩
          rw [hd] at hx
          have hd9 : d ≤ 9 := by omega
          have wd : IntKind.u8.wrap ((k : Int) - 48) = (d : Int) := by rw [IntWalk.u8_in _ (by omega)]; omega
          have i0 : (0 : Int) ≤ (i : Int) := by omega
          have i1 : (i : Int) < (s.size : Int) := by omega
          have HX2 := Lib.hid hx
          clear hx hdrop hb hk hdg hd
          have h1 : ¬ M < d := by omega
          have e1 : decide ((M : Int) < (d : Int)) = false := decide_eq_false (by omega)
          have e1n : decide (M < d) = false := decide_eq_false h1
          have ws : IntKind.i64.wrap ((M : Int) - (d : Int)) = (M : Int) - (d : Int) := IntWalk.i64_in _ (by omega)
          obtain ⟨q, hq⟩ : ∃ q, (M - d) / 10 = q := ⟨_, rfl⟩
          have hqI : ((M : Int) - (d : Int)) / 10 = (q : Int) := by omega
          have wq : Int.tdiv ((M : Int) - (d : Int)) 10 = (q : Int) := by rw [Int.tdiv_eq_ediv_of_nonneg (by omega)]; exact hqI
          by_cases h2 : q < n
          · have e2 : decide ((q : Int) < (n : Int)) = true := decide_eq_true (by omega)
            have e2n : decide (q < n) = true := decide_eq_true h2
            have hr : Hid (M = rn) := by have h := HX2.out; rw [hq, if_pos (.inr h2)] at h; exact h
            clear HX HX2 hq
            go_wp2_with fail
            go_ret2
            exact ⟨by rw [← hr.out]; rfl, Below.refl _ _⟩
          · have e2 : decide ((q : Int) < (n : Int)) = false := decide_eq_false (by omega)
            have e2n : decide (q < n) = false := decide_eq_false h2
            have HN : Hid (numR M ((bl s).drop (i + 1)) (10 * n + d) = rn) := by have h := HX2.out; rw [hq, if_neg (by omega)] at h; exact h
            have hb : 10 * n + d ≤ M := by omega
            have wm : IntKind.i64.wrap ((n : Int) * 10) = (n : Int) * 10 := IntWalk.i64_in _ (by omega)
            have wa : IntKind.i64.wrap ((n : Int) * 10 + (d : Int)) = ((10 * n + d : Nat) : Int) := by rw [IntWalk.i64_in _ (by omega)]; omega
            clear HX HX2 hq
            go_wp2_with fail
            go_roundw
            case rel => exact ⟨i + 1, 10 * n + d, by omega, by go_num, by go_num, hb, HN.out, by first | rfl | trivial⟩
            case measure => simp [intOf]; omega
        · obtain rfl : i = s.size := by omega
          have hr : Hid (n = rn) := by
            show _ = _
            have h := HX.out
            rw [List.drop_of_length_le (by rw [bl_len]; exact Nat.le_refl _)] at h
            exact h
          clear HX
          go_wp2_with fail
          go_ret2
          exact ⟨by rw [← hr.out]; rfl, Below.refl _ _⟩
#print axioms rnumber_calls
end Go.Proofs.YtefcinifaaablaaDoor.Tok
