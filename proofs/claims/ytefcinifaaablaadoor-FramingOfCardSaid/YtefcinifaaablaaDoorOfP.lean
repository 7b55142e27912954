/-
  FramingOf: few; the two forms of OfResponse.
-/
import Derived.Test.YtefcinifaaablaaDoorRTok7
import Derived.Test.YtefcinifaaablaaDoorSameN
import Derived.Deep.DeepCutAuto
import Derived.Deep.CutBlock
namespace Go.Proofs.YtefcinifaaablaaDoor.Tok
open Go.RowKit Go.Sep
set_option maxRecDepth 100000
set_option linter.unusedVariables false
set_option linter.unusedSimpArgs false

def sumF : List (ByteArray × ByteArray) → Nat
  | [] => 0
  | f :: r => f.1.size + f.2.size + sumF r
theorem sumF_app : ∀ a b : List (ByteArray × ByteArray), sumF (a ++ b) = sumF a + sumF b
  | [], b => by simp [sumF]
  | f :: r, b => by rw [List.cons_append, sumF, sumF, sumF_app r b]; omega
theorem sumF_mem : ∀ (fs : List (ByteArray × ByteArray)) (f : ByteArray × ByteArray), f ∈ fs → f.1.size ≤ sumF fs
  | x :: r, f, h => by
    rw [sumF]
    rcases List.mem_cons.1 h with e | e
    · subst e; omega
    · have := sumF_mem r f e; omega
theorem lens_le (name : ByteArray) : ∀ fs : List (ByteArray × ByteArray), Go.Lib.lens (getV name fs) + (getV name fs).length * 2 ≤ sumF fs + fs.length * 2
  | [] => by simp [getV, Go.Lib.lens, sumF]
  | f :: r => by
    have ih := lens_le name r
    have e : getV name (f :: r) = (if sameB f.1 name = true then [bl f.2] else []) ++ getV name r := by
      unfold getV
      rw [List.filter_cons]
      split <;> simp
    rw [e, sumF, List.length_cons]
    split
    · have : Go.Lib.lens ([bl f.2] ++ getV name r) = (bl f.2).length + Go.Lib.lens (getV name r) := by simp [Go.Lib.lens]
      rw [this, bl_len, List.length_append, List.length_singleton]; omega
    · rw [List.nil_append]; omega
theorem joinL_lens : ∀ ws : List (List UInt8), (joinL ws).length ≤ Go.Lib.lens ws + ws.length * 2
  | [] => by simp [joinL, Go.Lib.join_nil]
  | w :: r => by
    unfold joinL
    rw [Go.Lib.join_length]
    simp only [List.length_cons, List.length_nil]
    omega
theorem fdok_few {fs : List (ByteArray × ByteArray)} (h : fs.length + sumF fs < 4000) : FdOk fs :=
  ⟨fun f hf => by have := sumF_mem fs f hf; omega, by omega, fun name => by
    have h1 := joinL_lens (getV name fs)
    have h2 := lens_le name fs
    omega⟩
set_option maxHeartbeats 4000000 in
theorem few_calls (ao : Option Addr) (n cap : Nat) (fs : List (ByteArray × ByteArray)) (w : World) (hF : Fds w ao n fs) (hs : ∀ f ∈ fs, f.1.size ≤ 140737488351232 ∧ f.2.size ≤ 140737488351232) (h9 : n ≤ 140737488351232) :
    Calls Tryd.prog 11 #[.slice ao n cap] w fun e w' => ∃ b, e = .returned (.bool b) ∧ Hid (b = true → FdOk fs) ∧ Hid (Below w.heap.size w w') := by
  have HF := Lib.hid hF
  have HS := Lib.hid hs
  have hl := hF.len
  have HL := Lib.hid hl
  clear hF hs hl
  go_enter Tryd.func11, Tryd.ntmps11
  go_wp2_with fail
  go_loopw [3, 4] (fun y x wl => ∃ i m : Nat, x = .int .i64 i ∧ y = .int .i64 m ∧ i ≤ n ∧ m ≤ 500000000000000 ∧ Hid (m = n + sumF (fs.take i)) ∧ Hid (Below w.heap.size w wl)) (fun _ x _ => n - (intOf x).toNat)
  case atStart => exact ⟨0, n, rfl, rfl, Nat.zero_le _, by omega, rfl, Below.refl _ _⟩
  case round =>
    obtain ⟨i, m, rfl, rfl, hi, hm, HM, HB⟩ := hrel
    by_cases h4 : m < 4000
    · have g0 : decide ((m : Int) < 4000) = true := decide_eq_true (by omega)
      have g1 : decide (m < 4000) = true := decide_eq_true h4
      by_cases hin : i < n
      · have hif : i < fs.length := by rw [HL.out]; exact hin
        obtain ⟨b, off, rfl, hb, hc⟩ := (HF.out.grow HB.out).cell (by omega)
        obtain ⟨c0, c1⟩ := hc i hif
        have hsz := HS.out fs[i] (List.getElem_mem hif)
        have HT : Hid (fs.take (i + 1) = fs.take i ++ [fs[i]]) := List.take_succ_eq_append_getElem hif
        obtain ⟨⟨nm, vl⟩, hf⟩ : ∃ q, fs[i] = q := ⟨_, rfl⟩
        rw [hf] at c0 c1 hsz HT
        simp only at c0 c1 hsz
        obtain ⟨z1, z2⟩ := hsz
        have HM2 : Hid (m + nm.size + vl.size = n + sumF (fs.take (i + 1))) := by
          show _ = _
          rw [HT.out, sumF_app, HM.out]
          simp [sumF]
          omega
        have i0 : (0 : Int) ≤ (i : Int) := by omega
        have i1 : (i : Int) < (n : Int) := by omega
        have g2 : decide ((i : Int) < (n : Int)) = true := decide_eq_true (by omega)
        have g3 : decide (i < n) = true := decide_eq_true hin
        have s1 : IntKind.i64.wrap ((m : Int) + (nm.size : Int)) = (m : Int) + (nm.size : Int) := IntWalk.i64_in _ (by omega)
        have s2 : IntKind.i64.wrap ((m : Int) + (nm.size : Int) + (vl.size : Int)) = (m : Int) + (nm.size : Int) + (vl.size : Int) := IntWalk.i64_in _ (by omega)
        clear hc hf HM hif
        go_wp2_with fail
        go_quiet (fail)
        go_wp2_with fail
        go_roundw
        case rel => exact ⟨i + 1, m + nm.size + vl.size, by go_num, by go_num, by omega, by omega, HM2.out, below_drewN HB.out _⟩
        case measure => simp [intOf]; omega
      · obtain rfl : i = n := by omega
        have hd : FdOk fs := by
          refine fdok_few ?_
          have h := HM.out
          rw [List.take_of_length_le (by rw [HL.out]; exact Nat.le_refl _)] at h
          rw [HL.out, ← h]
          exact h4
        have HD := Lib.hid hd
        clear HM hd
        go_wp2_with fail
        go_ret
        exact ⟨_, rfl, fun _ => HD.out, HB.out⟩
    · have g0 : decide ((m : Int) < 4000) = false := decide_eq_false (by omega)
      have g1 : decide (m < 4000) = false := decide_eq_false h4
      by_cases hin : i < n
      · have i1 : (i : Int) < (n : Int) := by omega
        clear HM
        go_wp2_with fail
        go_ret
        exact ⟨_, rfl, fun h => by simp at h, HB.out⟩
      · obtain rfl : i = n := by omega
        clear HM
        go_wp2_with fail
        go_ret
        exact ⟨_, rfl, fun h => by simp at h, HB.out⟩
#print axioms few_calls
theorem names_true (w : World) : Calls Tryd.prog 15 #[] w fun e w' => e = .returned (.bool true) ∧ Below w.heap.size w w' := by
  go_enter Tryd.func15, Tryd.ntmps15
  go_wp2_with fail
  go_ret
  exact ⟨rfl, Below.refl _ _⟩
#print axioms names_true
theorem rofreq_calls (a b : ByteArray) (minor : Int) (ao : Option Addr) (n cap : Nat) (fs : List (ByteArray × ByteArray)) (w : World) (hF : Fds w ao n fs) (hO : FdOk fs) :
    Calls Tryd.prog 12 #[.agg #[.string a, .string b, .int .i64 minor, .slice ao n cap]] w fun e w' => e = .returned (.tuple #[.int .i64 (frmL minor fs 0).k, .int .i64 (frmL minor fs 0).n, .int .i64 (frmL minor fs 0).e]) ∧ Below w.heap.size w w' := by
  have B0 : Hid (Below w.heap.size w (w.alloc (.cells #[.string a, .string b, .int .i64 minor, .slice ao n cap] 34))) := (Below.refl _ w).alloc (Nat.le_refl _) _
  have FC := Lib.hid (rof_calls minor ao n cap fs 0 _ (hF.grow B0.out) hO)
  clear hF hO
  go_enter Tryd.func12, Tryd.ntmps12
  go_wp2_with fail
  refine (FC.out).mono ?_
  rintro e w1 ⟨rfl, b1⟩
  have B1 : Hid (Below w.heap.size w w1) := B0.out.trans (b1.mono B0.out.size)
  clear b1 B0 FC
  go_wp2_with fail
  go_ret3
  exact ⟨rfl, B1.out⟩
#print axioms rofreq_calls
def frmR (minor code : Int) (m : ByteArray) (fs : List (ByteArray × ByteArray)) : Frm :=
  if (m.toList == [72, 69, 65, 68]) = true then ⟨0, 0, 0⟩ else if code < 200 then ⟨0, 0, 0⟩ else if code = 204 then ⟨0, 0, 0⟩ else if code = 304 then ⟨0, 0, 0⟩ else frmL minor fs 3
set_option maxHeartbeats 4000000 in
theorem ofresp_calls (minor code : Int) (rs m : ByteArray) (ao : Option Addr) (n cap : Nat) (fs : List (ByteArray × ByteArray)) (w : World) (hF : Fds w ao n fs) (hO : FdOk fs) :
    Calls Tryd.prog 13 #[.agg #[.int .i64 minor, .int .i64 code, .string rs, .slice ao n cap], .string m] w fun e w' => e = .returned (.tuple #[.int .i64 (frmR minor code m fs).k, .int .i64 (frmR minor code m fs).n, .int .i64 (frmR minor code m fs).e]) ∧ Below w.heap.size w w' := by
  have B0 : Hid (Below w.heap.size w (w.alloc (.cells #[.int .i64 minor, .int .i64 code, .string rs, .slice ao n cap] 37))) := (Below.refl _ w).alloc (Nat.le_refl _) _
  have FC := Lib.hid (framed_calls minor ao n cap fs 3 _ (hF.grow B0.out) hO)
  obtain ⟨R, hR⟩ : ∃ q, frmR minor code m fs = q := ⟨_, rfl⟩
  have HR : Hid ((if (m.toList == [72, 69, 65, 68]) = true then ⟨0, 0, 0⟩ else if code < 200 then ⟨0, 0, 0⟩ else if code = 204 then ⟨0, 0, 0⟩ else if code = 304 then ⟨0, 0, 0⟩ else frmL minor fs 3) = R) := hR
  rw [hR]
  clear hF hO hR
  cases h1 : (m.toList == [72, 69, 65, 68]) with
  | true =>
    have hr : ⟨0, 0, 0⟩ = R := by have h := HR.out; rw [if_pos h1] at h; exact h
    subst hr
    clear HR FC
    go_enter Tryd.func13, Tryd.ntmps13
    go_wp2_with fail
    go_ret3
    exact ⟨rfl, B0.out⟩
  | false =>
    have HR1 : Hid ((if code < 200 then ⟨0, 0, 0⟩ else if code = 204 then ⟨0, 0, 0⟩ else if code = 304 then ⟨0, 0, 0⟩ else frmL minor fs 3) = R) := by have h := HR.out; rw [if_neg (by simp [h1])] at h; exact h
    clear HR
    by_cases h2 : code < 200
    · have hr : ⟨0, 0, 0⟩ = R := by have h := HR1.out; rw [if_pos h2] at h; exact h
      have e2 : decide (code < 200) = true := decide_eq_true h2
      subst hr
      clear HR1 FC
      go_enter Tryd.func13, Tryd.ntmps13
      go_wp2_with fail
      go_ret3
      exact ⟨rfl, B0.out⟩
    have e2 : decide (code < 200) = false := decide_eq_false h2
    have HR2 : Hid ((if code = 204 then ⟨0, 0, 0⟩ else if code = 304 then ⟨0, 0, 0⟩ else frmL minor fs 3) = R) := by have h := HR1.out; rw [if_neg h2] at h; exact h
    clear HR1
    by_cases h3 : code = 204
    · have hr : ⟨0, 0, 0⟩ = R := by have h := HR2.out; rw [if_pos h3] at h; exact h
      have e3 : (code == 204) = true := by simp [h3]
      subst hr
      clear HR2 FC h3 h2
      go_enter Tryd.func13, Tryd.ntmps13
      go_wp2_with fail
      go_ret3
      exact ⟨rfl, B0.out⟩
    have e3 : (code == 204) = false := beq_eq_false_iff_ne.2 h3
    have HR3 : Hid ((if code = 304 then ⟨0, 0, 0⟩ else frmL minor fs 3) = R) := by have h := HR2.out; rw [if_neg h3] at h; exact h
    clear HR2 h3
    by_cases h4 : code = 304
    · have hr : ⟨0, 0, 0⟩ = R := by have h := HR3.out; rw [if_pos h4] at h; exact h
      have e4 : (code == 304) = true := by simp [h4]
      subst hr
      clear HR3 FC h4 h2
      go_enter Tryd.func13, Tryd.ntmps13
      go_wp2_with fail
      go_ret3
      exact ⟨rfl, B0.out⟩
    have hr : frmL minor fs 3 = R := by have h := HR3.out; rw [if_neg h4] at h; exact h
    have e4 : (code == 304) = false := beq_eq_false_iff_ne.2 h4
    rw [hr] at FC
    clear HR3 h4 h2 hr
    go_enter Tryd.func13, Tryd.ntmps13
    go_wp2_with fail
    refine (FC.out).mono ?_
    rintro e w1 ⟨rfl, b1⟩
    have B1 : Hid (Below w.heap.size w w1) := B0.out.trans (b1.mono B0.out.size)
    clear b1 B0 FC
    go_wp2_with fail
    go_ret3
    exact ⟨rfl, B1.out⟩
#print axioms ofresp_calls
set_option maxHeartbeats 4000000 in
theorem rofresp_calls (minor code : Int) (rs m : ByteArray) (ao : Option Addr) (n cap : Nat) (fs : List (ByteArray × ByteArray)) (w : World) (hF : Fds w ao n fs) (hO : FdOk fs) :
    Calls Tryd.prog 14 #[.agg #[.int .i64 minor, .int .i64 code, .string rs, .slice ao n cap], .string m] w fun e w' => e = .returned (.tuple #[.int .i64 (frmR minor code m fs).k, .int .i64 (frmR minor code m fs).n, .int .i64 (frmR minor code m fs).e]) ∧ Below w.heap.size w w' := by
  have B0 : Hid (Below w.heap.size w (w.alloc (.cells #[.int .i64 minor, .int .i64 code, .string rs, .slice ao n cap] 37))) := (Below.refl _ w).alloc (Nat.le_refl _) _
  have FC := Lib.hid (rof_calls minor ao n cap fs 3 _ (hF.grow B0.out) hO)
  obtain ⟨R, hR⟩ : ∃ q, frmR minor code m fs = q := ⟨_, rfl⟩
  have HR : Hid ((if (m.toList == [72, 69, 65, 68]) = true then ⟨0, 0, 0⟩ else if code < 200 then ⟨0, 0, 0⟩ else if code = 204 then ⟨0, 0, 0⟩ else if code = 304 then ⟨0, 0, 0⟩ else frmL minor fs 3) = R) := hR
  rw [hR]
  clear hF hO hR
  cases h1 : (m.toList == [72, 69, 65, 68]) with
  | true =>
    have hr : ⟨0, 0, 0⟩ = R := by have h := HR.out; rw [if_pos h1] at h; exact h
    subst hr
    clear HR FC
    go_enter Tryd.func14, Tryd.ntmps14
    go_wp2_with fail
    go_ret3
    exact ⟨rfl, B0.out⟩
  | false =>
    have HR1 : Hid ((if code < 200 then ⟨0, 0, 0⟩ else if code = 204 then ⟨0, 0, 0⟩ else if code = 304 then ⟨0, 0, 0⟩ else frmL minor fs 3) = R) := by have h := HR.out; rw [if_neg (by simp [h1])] at h; exact h
    clear HR
    by_cases h2 : code < 200
    · have hr : ⟨0, 0, 0⟩ = R := by have h := HR1.out; rw [if_pos h2] at h; exact h
      have e2 : decide (code < 200) = true := decide_eq_true h2
      subst hr
      clear HR1 FC
      go_enter Tryd.func14, Tryd.ntmps14
      go_wp2_with fail
      go_ret3
      exact ⟨rfl, B0.out⟩
    have e2 : decide (code < 200) = false := decide_eq_false h2
    have HR2 : Hid ((if code = 204 then ⟨0, 0, 0⟩ else if code = 304 then ⟨0, 0, 0⟩ else frmL minor fs 3) = R) := by have h := HR1.out; rw [if_neg h2] at h; exact h
    clear HR1
    by_cases h3 : code = 204
    · have hr : ⟨0, 0, 0⟩ = R := by have h := HR2.out; rw [if_pos h3] at h; exact h
      have e3 : (code == 204) = true := by simp [h3]
      subst hr
      clear HR2 FC h3 h2
      go_enter Tryd.func14, Tryd.ntmps14
      go_wp2_with fail
      go_ret3
      exact ⟨rfl, B0.out⟩
    have e3 : (code == 204) = false := beq_eq_false_iff_ne.2 h3
    have HR3 : Hid ((if code = 304 then ⟨0, 0, 0⟩ else frmL minor fs 3) = R) := by have h := HR2.out; rw [if_neg h3] at h; exact h
    clear HR2 h3
    by_cases h4 : code = 304
    · have hr : ⟨0, 0, 0⟩ = R := by have h := HR3.out; rw [if_pos h4] at h; exact h
      have e4 : (code == 304) = true := by simp [h4]
      subst hr
      clear HR3 FC h4 h2
      go_enter Tryd.func14, Tryd.ntmps14
      go_wp2_with fail
      go_ret3
      exact ⟨rfl, B0.out⟩
    have hr : frmL minor fs 3 = R := by have h := HR3.out; rw [if_neg h4] at h; exact h
    have e4 : (code == 304) = false := beq_eq_false_iff_ne.2 h4
    rw [hr] at FC
    clear HR3 h4 h2 hr
    go_enter Tryd.func14, Tryd.ntmps14
    go_wp2_with fail
    refine (FC.out).mono ?_
    rintro e w1 ⟨rfl, b1⟩
    have B1 : Hid (Below w.heap.size w w1) := B0.out.trans (b1.mono B0.out.size)
    clear b1 B0 FC
    go_wp2_with fail
    go_ret3
    exact ⟨rfl, B1.out⟩
#print axioms rofresp_calls
end Go.Proofs.YtefcinifaaablaaDoor.Tok
