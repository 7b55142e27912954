/-
  FramingSame, the walk.
-/
import Derived.Test.YtefcinifaaablaaDoorSameP
namespace Go.Proofs.YtefcinifaaablaaDoor.Tok
open Go.RowKit Go.Sep
set_option maxRecDepth 100000
set_option linter.unusedVariables false
set_option linter.unusedSimpArgs false

theorem ofreq_calls (a b : ByteArray) (minor : Int) (ao : Option Addr) (n cap : Nat) (fs : List (ByteArray × ByteArray)) (w : World) (hF : Fds w ao n fs) (hO : FdOk fs) :
    Calls Tryd.prog 10 #[.agg #[.string a, .string b, .int .i64 minor, .slice ao n cap]] w fun e w' => e = .returned (.tuple #[.int .i64 (frmL minor fs 0).k, .int .i64 (frmL minor fs 0).n, .int .i64 (frmL minor fs 0).e]) ∧ Below w.heap.size w w' := by
  have B0 : Hid (Below w.heap.size w (w.alloc (.cells #[.string a, .string b, .int .i64 minor, .slice ao n cap] 34))) := (Below.refl _ w).alloc (Nat.le_refl _) _
  have FC := Lib.hid (framed_calls minor ao n cap fs 0 _ (hF.grow B0.out) hO)
  clear hF hO
  go_enter Tryd.func10, Tryd.ntmps10
  go_wp2_with fail
  refine (FC.out).mono ?_
  rintro e w1 ⟨rfl, b1⟩
  have B1 : Hid (Below w.heap.size w w1) := B0.out.trans (b1.mono B0.out.size)
  clear b1 B0 FC
  go_wp2_with fail
  go_ret3
  exact ⟨rfl, B1.out⟩
#print axioms ofreq_calls
def digT : ByteArray := ⟨#[48, 49, 50, 51, 52, 53, 54, 55, 56, 57]⟩
theorem digT_ext (d : Nat) (h : d < 10) : digT.extract d (d + 1) = sb [UInt8.ofNat (48 + d)] := by
  have : d = 0 ∨ d = 1 ∨ d = 2 ∨ d = 3 ∨ d = 4 ∨ d = 5 ∨ d = 6 ∨ d = 7 ∨ d = 8 ∨ d = 9 := by omega
  rcases this with rfl | rfl | rfl | rfl | rfl | rfl | rfl | rfl | rfl | rfl <;> rfl
theorem sb_app (l k : List UInt8) : sb l ++ sb k = sb (l ++ k) := by
  apply ByteArray.ext
  simp [sb, ByteArray.data_append]
theorem number1_calls (n : Nat) (h : n < 10) (w : World) : Calls Tryd.prog 9 #[.int .i64 n] w fun e w' => e = .returned (.string (sb [UInt8.ofNat (48 + n)])) ∧ Below w.heap.size w w' := by
  have DE : (ByteArray.mk #[48, 49, 50, 51, 52, 53, 54, 55, 56, 57]).extract n (n + 1) = sb [UInt8.ofNat (48 + n)] := digT_ext n h
  obtain ⟨BB, hBB⟩ : ∃ q, sb [UInt8.ofNat (48 + n)] = q := ⟨_, rfl⟩
  rw [hBB] at DE ⊢
  clear hBB
  have e1 : decide ((n : Int) < 10) = true := by simp; omega
  have e1n : decide (n < 10) = true := by simpa using h
  have n0 : (0 : Int) ≤ (n : Int) := by omega
  have n1 : (n : Int) < 10 := by omega
  go_enter Tryd.func9, Tryd.ntmps9
  go_wp2_with fail
  go_ret
  exact ⟨rfl, Below.refl _ _⟩
theorem dnumber_calls : ∀ (f n : Nat), n < 10 ^ (f + 1) → f ≤ 10 → ∀ w, Calls Tryd.prog 9 #[.int .i64 n] w fun e w' => e = .returned (.string (sb (decF (f + 1) n))) ∧ Below w.heap.size w w'
  | 0, n, h, _, w => by
    have h10 : n < 10 := by simpa using h
    have : decF (0 + 1) n = [UInt8.ofNat (48 + n)] := by unfold decF; rw [if_pos h10]
    rw [this]
    exact number1_calls n h10 w
  | f + 1, n, h, hf, w => by
    by_cases h10 : n < 10
    · have : decF (f + 1 + 1) n = [UInt8.ofNat (48 + n)] := by unfold decF; rw [if_pos h10]
      rw [this]
      exact number1_calls n h10 w
    · have hd : decF (f + 1 + 1) n = decF (f + 1) (n / 10) ++ [UInt8.ofNat (48 + n % 10)] := by rw [decF, if_neg h10]
      have IH := Lib.hid (dnumber_calls f (n / 10) (by rw [Nat.pow_succ] at h; omega) (by omega))
      have I1 := Lib.hid (number1_calls (n % 10) (Nat.mod_lt _ (by omega)))
      have hl := decF_len (f + 1) (n / 10)
      rw [hd]
      obtain ⟨a, ha⟩ : ∃ q, decF (f + 1) (n / 10) = q := ⟨_, rfl⟩
      obtain ⟨b, hb⟩ : ∃ q, [UInt8.ofNat (48 + n % 10)] = q := ⟨_, rfl⟩
      have hbl : b.length = 1 := by rw [← hb]; rfl
      rw [ha] at IH hl ⊢
      rw [hb] at I1 ⊢
      have hn9 : n < 100000000000 * 10 := Nat.lt_of_lt_of_le h (by have : 10 ^ (f + 1 + 1) ≤ 10 ^ 12 := Nat.pow_le_pow_right (by omega) (by omega); omega)
      have q1 : Int.tdiv (n : Int) 10 = ((n / 10 : Nat) : Int) := by rw [Int.tdiv_eq_ediv_of_nonneg (by omega)]; rfl
      have q2 : Int.tmod (n : Int) 10 = ((n % 10 : Nat) : Int) := by rw [Int.tmod_eq_emod_of_nonneg (by omega)]; rfl
      obtain ⟨x, hx⟩ : ∃ q, n / 10 = q := ⟨_, rfl⟩
      obtain ⟨y, hy⟩ : ∃ q, n % 10 = q := ⟨_, rfl⟩
      rw [hx] at q1 IH
      rw [hy] at q2 I1
      have q3 : (n : Int) / 10 = (x : Int) := by omega
      have q4 : (n : Int) % 10 = (y : Int) := by omega
      have e1 : decide ((n : Int) < 10) = false := by simp; omega
      have e1n : decide (n < 10) = false := by simpa using h10
      have sa := sb_app a b
      have la : (sb a).size ≤ 100 := by rw [sb_size]; omega
      have lb : (sb b).size = 1 := by rw [sb_size]; exact hbl
      clear hd ha hb hx hy h h10 hl hbl
      go_enter Tryd.func9, Tryd.ntmps9
      go_wp2_with fail
      refine (IH.out _).mono ?_
      rintro e w1 ⟨rfl, b1⟩
      have B1 := Lib.hid b1
      clear b1 IH
      go_wp2_with fail
      refine (I1.out _).mono ?_
      rintro e w2 ⟨rfl, b2⟩
      have B2 : Hid (Below w.heap.size w w2) := B1.out.trans (b2.mono B1.out.size)
      clear b2 I1 B1
      go_wp2_with fail
      go_ret
      exact ⟨rfl, B2.out⟩
#print axioms dnumber_calls
end Go.Proofs.YtefcinifaaablaaDoor.Tok
