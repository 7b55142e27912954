/-
  Layer 1: Number.
-/
import Derived.Test.YtefcinifaaablaaDoorTok2
namespace Go.Proofs.YtefcinifaaablaaDoor.Tok
open Go.RowKit Go.Sep
set_option maxRecDepth 100000
set_option linter.unusedVariables false
set_option linter.unusedSimpArgs false

/-- a number of digits, at most M -/
def numR (M : Nat) : List UInt8 → Nat → Nat
  | [], n => n
  | b :: r, n => if M < b.toNat - 48 ∨ (M - (b.toNat - 48)) / 10 < n then M else numR M r (10 * n + (b.toNat - 48))
def digL (l : List UInt8) : Bool := !l.isEmpty && l.all fun b => digK b.toNat
structure Num where
  n : Nat
  ok : Bool
def numL (M : Nat) (l : List UInt8) : Num := if digL l = true then ⟨numR M l 0, true⟩ else ⟨0, false⟩
set_option maxHeartbeats 4000000 in
theorem number_calls (s : ByteArray) (M : Nat) (hM : M ≤ 1152921504606846976) (hs : s.size ≤ 1048576) (w : World) :
    Calls Tryd.prog 31 #[.string s, .int .i64 M] w fun e w' => e = .returned (.tuple #[.int .i64 (numL M (bl s)).n, .bool (numL M (bl s)).ok]) ∧ Below w.heap.size w w' := by
  have AD := Lib.hid (all_dig s hs w)
  have M0 : decide ((M : Int) < 0) = false := by simp
  by_cases h0 : s.size = 0
  · have hb : bl s = [] := List.eq_nil_of_length_eq_zero (by rw [bl_len]; exact h0)
    have he : s.toList.isEmpty = true := by rw [Go.Lib.toList_data]; show (bl s).isEmpty = true; rw [hb]; rfl
    have he2 : s.toList = [] := by rw [Go.Lib.toList_data]; exact hb
    have : numL M (bl s) = ⟨0, false⟩ := by rw [hb]; rfl
    rw [this]
    clear AD hb h0
    go_enter Tryd.func31, Tryd.ntmps31
    go_wp2_with fail
    go_ret2
    exact ⟨rfl, Below.refl _ _⟩
  have he : s.toList.isEmpty = false := by
    rw [Go.Lib.toList_data]; show (bl s).isEmpty = false
    cases hb : bl s with
    | nil => have := bl_len s; rw [hb] at this; simp at this; omega
    | cons _ _ => rfl
  have he2 : (!s.toList.isEmpty) = true := by rw [he]; rfl
  have hx : (bl s).isEmpty = false := by have h := he; rw [Go.Lib.toList_data] at h; exact h
  by_cases hd : ((bl s).all fun b => digK b.toNat) = true
  rotate_left
  · have hd2 : ((bl s).all fun b => digK b.toNat) = false := by simpa using hd
    have : numL M (bl s) = ⟨0, false⟩ := by unfold numL digL; rw [hd2]; simp
    rw [this]
    rw [hd2] at AD
    clear hd hd2 hx h0
    go_enter Tryd.func31, Tryd.ntmps31
    go_wp2_with fail
    refine (AD.out).mono ?_
    rintro e w1 ⟨rfl, b1⟩
    go_wp2_with fail
    go_ret2
    exact ⟨rfl, b1⟩
  have e9 : numL M (bl s) = ⟨numR M (bl s) 0, true⟩ := by unfold numL digL; rw [hd, hx]; simp
  rw [e9]
  rw [hd] at AD
  obtain ⟨res, hres⟩ : ∃ q, numR M (bl s) 0 = q := ⟨_, rfl⟩
  have HR := Lib.hid hres
  have HDG := Lib.hid hd
  simp only [hres]
  clear hd hx h0 hres e9
  go_enter Tryd.func31, Tryd.ntmps31
  go_wp2_with fail
  refine (AD.out).mono ?_
  rintro e w1 ⟨rfl, b1⟩
  have B1 := Lib.hid b1
  clear b1 AD
  go_wp2_with fail
  go_loopw [6, 22] (fun y x wl => ∃ i n : Nat, i ≤ s.size ∧ x = .int .i64 i ∧ y = .int .i64 n ∧ n ≤ M ∧ Hid (numR M ((bl s).drop i) n = res) ∧ wl = w1) (fun _ x _ => s.size - (intOf x).toNat)
  case atStart => exact ⟨0, 0, Nat.zero_le _, rfl, rfl, Nat.zero_le _, HR.out, rfl⟩
  case round =>
    obtain ⟨i, n, hi, rfl, rfl, hnM, HX, rfl⟩ := hrel
    by_cases hil : i < s.size
    · have hib : i < (bl s).length := by rw [bl_len]; exact hil
      have IX := idx_s s i hil
      have hdg := (List.all_eq_true.1 HDG.out) _ (List.getElem_mem hib)
      have hdrop := List.drop_eq_getElem_cons hib
      obtain ⟨b, hb⟩ : ∃ q, (bl s)[i] = q := ⟨_, rfl⟩
      rw [hb] at IX hdg hdrop
      have hx := HX.out
      rw [hdrop] at hx
      unfold numR at hx
      obtain ⟨k, hk⟩ : ∃ q, b.toNat = q := ⟨_, rfl⟩
      rw [hk] at IX hdg hx
      simp only [digK, Bool.and_eq_true, decide_eq_true_eq] at hdg
      obtain ⟨d, hd⟩ : ∃ d, k - 48 = d := ⟨_, rfl⟩
      rw [hd] at hx
      have hd9 : d ≤ 9 := by omega
      have wd : IntKind.u8.wrap ((k : Int) - 48) = (d : Int) := by rw [IntWalk.u8_in _ (by omega)]; omega
      have i0 : (0 : Int) ≤ (i : Int) := by omega
      have i1 : (i : Int) < (s.size : Int) := by omega
      have HX2 := Lib.hid hx
      clear hx hdrop hb hk hdg hd
      by_cases h1 : M < d
      · have e1 : decide ((M : Int) < (d : Int)) = true := by simp; omega
        have e1n : decide (M < d) = true := by simpa using h1
        have hr : Hid (M = res) := by have h := HX2.out; rw [if_pos (.inl h1)] at h; exact h
        clear HX HX2
        go_wp2_with fail
        go_ret2
        exact ⟨by rw [← hr.out]; rfl, B1.out⟩
      · have e1 : decide ((M : Int) < (d : Int)) = false := by simp; omega
        have e1n : decide (M < d) = false := by simpa using h1
        have ws : IntKind.i64.wrap ((M : Int) - (d : Int)) = (M : Int) - (d : Int) := IntWalk.i64_in _ (by omega)
        obtain ⟨q, hq⟩ : ∃ q, (M - d) / 10 = q := ⟨_, rfl⟩
        have hqI : ((M : Int) - (d : Int)) / 10 = (q : Int) := by omega
        have wq : Int.tdiv ((M : Int) - (d : Int)) 10 = (q : Int) := by rw [Int.tdiv_eq_ediv_of_nonneg (by omega)]; exact hqI
        by_cases h2 : q < n
        · have e2 : decide ((q : Int) < (n : Int)) = true := by simp; omega
          have e2n : decide (q < n) = true := by simpa using h2
          have hr : Hid (M = res) := by have h := HX2.out; rw [hq, if_pos (.inr h2)] at h; exact h
          clear HX HX2 hq
          go_wp2_with fail
          go_ret2
          exact ⟨by rw [← hr.out]; rfl, B1.out⟩
        · have e2 : decide ((q : Int) < (n : Int)) = false := by simp; omega
          have e2n : decide (q < n) = false := by simpa using h2
          have HN : Hid (numR M ((bl s).drop (i + 1)) (10 * n + d) = res) := by have h := HX2.out; rw [hq, if_neg (by omega)] at h; exact h
          have hb : 10 * n + d ≤ M := by omega
          have wm : IntKind.i64.wrap (10 * (n : Int)) = 10 * (n : Int) := IntWalk.i64_in _ (by omega)
          have wa : IntKind.i64.wrap (10 * (n : Int) + (d : Int)) = ((10 * n + d : Nat) : Int) := by rw [IntWalk.i64_in _ (by omega)]; omega
          clear HX HX2 hq
          go_wp2_with fail
          go_roundw
          case rel => exact ⟨i + 1, 10 * n + d, by omega, by go_num, by go_num, hb, HN.out, by first | rfl | trivial⟩
          case measure => simp [intOf]; omega
    · obtain rfl : i = s.size := by omega
      have hr : Hid (n = res) := by
        show _ = _
        have h := HX.out
        rw [List.drop_of_length_le (by rw [bl_len]; exact Nat.le_refl _)] at h
        exact h
      clear HX
      go_wp2_with fail
      go_ret2
      exact ⟨by rw [← hr.out]; rfl, B1.out⟩
#print axioms number_calls
end Go.Proofs.YtefcinifaaablaaDoor.Tok
