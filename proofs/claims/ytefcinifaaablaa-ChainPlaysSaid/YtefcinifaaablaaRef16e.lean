/-
  Layer 16: the document's Alike.
-/
import Derived.Test.YtefcinifaaablaaRef16b
import Derived.Laws.StructEq
namespace Go.Proofs.Ytefcinifaaablaa.Chain
open Go.RowKit Go.Sep
open Go.Proofs.Ytefcinifaaablaa.Slab (szOf ABlk u8s Src)
set_option maxRecDepth 100000
set_option linter.unusedVariables false
set_option linter.unusedSimpArgs false

def ralikeC (R1 R2 : RCh) : Bool := !R1.freed && (!R2.freed && (R1.l.length == R2.l.length && (R1.bytes.length == R2.bytes.length && R1.l == R2.l)))
theorem eqB (a b c x y z : Int) (w : World) : (Op.equalIn 10000 117 (.agg #[.int .i64 a, .int .i64 b, .int .i64 c]) (.agg #[.int .i64 x, .int .i64 y, .int .i64 z])).run Try.prog w = .ok (((a, b, c) : Hd) == (x, y, z)) w := by
  have u3 := Try.underlying3
  have a3 := Try.isAgg3
  have z3 := Try.sizeOf3
  have hS : Try.prog.underlying 117 = some (.struct (Try.prog.fieldsOf 117)) := by kernel_rfl
  rw [show (10000 : Nat) = 9999 + 1 from rfl, run_equalIn_agg w 9999 117 _ _ hS (by kernel_rfl)]
  simp only [Program.fieldsOf, Try.underlying117]
  go_simp
  by_cases h1 : a = x <;> by_cases h2 : b = y <;> by_cases h3 : c = z <;> simp [h1, h2, h3]
set_option maxHeartbeats 4000000 in
theorem ralike_calls (r1 r2 y : Nat) (R1 R2 : RCh) (F1 F2 : Asr) (w : World) (n1 : R1.l.length ≤ 20000) (h1 : Holds w (rcA r1 y R1 * F1)) (h2 : Holds w (rcA r2 y R2 * F2)) :
    Calls Try.prog 27 #[.pointer (some ⟨r1, 0, none⟩), .pointer (some ⟨r2, 0, none⟩)] w fun e w' => e = .returned (.bool (ralikeC R1 R2)) ∧ ∃ n, w' = w.drewN n := by
  obtain ⟨v1, b1, g1⟩ := rc_open h1
  obtain ⟨v2, b2, g2⟩ := rc_open h2
  obtain ⟨ao1, cap1, e1, -⟩ := rowA_slice (g1.eqv (star_left_comm _ _ _))
  obtain ⟨ao2, cap2, e2, -⟩ := rowA_slice (g2.eqv (star_left_comm _ _ _))
  obtain ⟨bo1, bcap1, e3, -⟩ := rowA_slice (g1.eqv (by unfold rbs; ac_rfl : _ = rowA 5 1 b1 R1.bytes.length (u8s R1.bytes) * (rcH r1 y v1 b1 R1 * (rls v1 R1.l * F1))))
  obtain ⟨bo2, bcap2, e4, -⟩ := rowA_slice (g2.eqv (by unfold rbs; ac_rfl : _ = rowA 5 1 b2 R2.bytes.length (u8s R2.bytes) * (rcH r2 y v2 b2 R2 * (rls v2 R2.l * F2))))
  subst e1
  subst e2
  subst e3
  subst e4
  have R1L := Lib.hid (g1.eqv (star_left_comm _ _ _))
  have R2L := Lib.hid (g2.eqv (star_left_comm _ _ _))
  have s1 := rc_seen g1
  have s2 := rc_seen g2
  have x11 := s1.c1
  have x12 := s1.c2
  have x14 := s1.c4
  have x21 := s2.c1
  have x22 := s2.c2
  have x24 := s2.c4
  have x1l := s1.lt
  have x2l := s2.lt
  clear h1 h2 g1 g2 s1 s2
  by_cases hf1 : R1.freed = true
  · have AK : Hid (ralikeC R1 R2 = false) := by show _ = _; simp [ralikeC, hf1]
    rw [hf1] at x14
    clear hf1 R1L R2L
    go_enter Try.func27, Try.ntmps27
    go_wp2_with fail
    go_quiet (fail)
    go_wp2_with fail
    go_ret
    exact ⟨congrArg (fun b => Ending.returned (.bool b)) AK.out.symm, _, rfl⟩
  replace hf1 : R1.freed = false := by simpa using hf1
  rw [hf1] at x14
  by_cases hf2 : R2.freed = true
  · have AK : Hid (ralikeC R1 R2 = false) := by show _ = _; simp [ralikeC, hf2]
    rw [hf2] at x24
    clear hf1 hf2 R1L R2L
    go_enter Try.func27, Try.ntmps27
    go_wp2_with fail
    go_quiet (fail)
    go_wp2_with fail
    go_ret
    exact ⟨congrArg (fun b => Ending.returned (.bool b)) AK.out.symm, _, rfl⟩
  replace hf2 : R2.freed = false := by simpa using hf2
  rw [hf2] at x24
  have AK0 : Hid (ralikeC R1 R2 = (R1.l.length == R2.l.length && (R1.bytes.length == R2.bytes.length && R1.l == R2.l))) := by show _ = _; simp [ralikeC, hf1, hf2]
  clear hf1 hf2
  by_cases hl : R1.l.length = R2.l.length
  rotate_left
  · have AK : Hid (ralikeC R1 R2 = false) := by show _ = _; rw [AK0.out]; simp [hl]
    have d1 : ((R1.l.length : Int) != (R2.l.length : Int)) = true := by simp; omega
    have d2 : (R1.l.length != R2.l.length) = true := by simpa using hl
    clear AK0 R1L R2L hl
    go_enter Try.func27, Try.ntmps27
    go_wp2_with fail
    go_quiet (fail)
    go_wp2_with fail
    go_ret
    exact ⟨congrArg (fun b => Ending.returned (.bool b)) AK.out.symm, _, rfl⟩
  have d1 : ((R1.l.length : Int) != (R2.l.length : Int)) = false := by simp; omega
  have d2 : (R1.l.length != R2.l.length) = false := by simpa using hl
  by_cases hg : R1.bytes.length = R2.bytes.length
  rotate_left
  · have AK : Hid (ralikeC R1 R2 = false) := by show _ = _; rw [AK0.out]; simp [hg]
    have d3 : ((R1.bytes.length : Int) != (R2.bytes.length : Int)) = true := by simp; omega
    have d4 : (R1.bytes.length != R2.bytes.length) = true := by simpa using hg
    clear AK0 R1L R2L hl hg
    go_enter Try.func27, Try.ntmps27
    go_wp2_with fail
    go_quiet (fail)
    go_wp2_with fail
    go_ret
    exact ⟨congrArg (fun b => Ending.returned (.bool b)) AK.out.symm, _, rfl⟩
  have d3 : ((R1.bytes.length : Int) != (R2.bytes.length : Int)) = false := by simp; omega
  have d4 : (R1.bytes.length != R2.bytes.length) = false := by simpa using hg
  have AK1 : Hid (ralikeC R1 R2 = (R1.l == R2.l)) := by show _ = _; rw [AK0.out]; simp [hl, hg]
  obtain ⟨m, hm⟩ : ∃ q, R1.l.length = q := ⟨_, rfl⟩
  have hm2 : R2.l.length = m := by rw [← hm, hl]
  rw [hm, hm2] at d1 d2
  rw [hm] at n1 x11
  rw [hm2] at x21
  have HM := Lib.hid hm
  have HM2 := Lib.hid hm2
  clear AK0 hl hg hm hm2
  go_enter Try.func27, Try.ntmps27
  go_wp2_with fail
  go_quiet (fail)
  go_wp2_with fail
  go_loopw [5] (fun x wl => ∃ q : Nat, q ≤ m ∧ x = .int .i64 q ∧ Hid (R1.l.take q = R2.l.take q) ∧ ∃ n, wl = w.drewN n) (fun x _ => m - (intOf x).toNat)
  case atStart => exact ⟨0, Nat.zero_le _, rfl, by show _ = _; simp, _, rfl⟩
  case round =>
    obtain ⟨q, hq, rfl, EQ, nn, rfl⟩ := hrel
    by_cases hqm : q < m
    · have q1 : q < R1.l.length := by rw [HM.out]; exact hqm
      have q2 : q < R2.l.length := by rw [HM2.out]; exact hqm
      obtain ⟨g1, p1, e1, -, -, c1, -⟩ := rowL_cell R1L.out hEnc_len q q1
      obtain ⟨g2, p2, e2, -, -, c2, -⟩ := rowL_cell R2L.out hEnc_len q q2
      simp at e1 e2
      obtain ⟨hao1, -⟩ := e1
      obtain ⟨hao2, -⟩ := e2
      have y10 := c1 0 (by omega)
      have y11 := c1 1 (by omega)
      have y12 := c1 2 (by omega)
      have y20 := c2 0 (by omega)
      have y21 := c2 1 (by omega)
      have y22 := c2 2 (by omega)
      have TK1 : Hid (R1.l.take (q + 1) = R1.l.take q ++ [R1.l[q]]) := List.take_succ_eq_append_getElem q1
      have TK2 : Hid (R2.l.take (q + 1) = R2.l.take q ++ [R2.l[q]]) := List.take_succ_eq_append_getElem q2
      have NEQ : Hid (R1.l[q] ≠ R2.l[q] → R1.l ≠ R2.l) := by
        intro h e
        apply h
        have : R1.l[q]? = R2.l[q]? := by rw [e]
        rw [List.getElem?_eq_getElem q1, List.getElem?_eq_getElem q2] at this
        exact Option.some.inj this
      obtain ⟨⟨a0, a1, a2⟩, hA⟩ : ∃ z, R1.l[q] = z := ⟨_, rfl⟩
      obtain ⟨⟨b0, b1, b2⟩, hB⟩ : ∃ z, R2.l[q] = z := ⟨_, rfl⟩
      rw [hA] at y10 y11 y12 TK1 NEQ
      rw [hB] at y20 y21 y22 TK2 NEQ
      simp only [hEnc, Nat.add_zero, List.getElem?_cons_zero, List.getElem?_cons_succ] at y10 y11 y12 y20 y21 y22
      have i0 : (0 : Int) ≤ (q : Int) := by omega
      have i1 : (q : Int) < (m : Int) := by omega
      have EQH := fun wq => eqB a0 a1 a2 b0 b1 b2 wq
      subst hao1
      subst hao2
      clear c1 c2 hA hB
      by_cases hh : ((a0, a1, a2) : Hd) = (b0, b1, b2)
      · have d5 : (((a0, a1, a2) : Hd) == (b0, b1, b2)) = true := by simpa using hh
        have EQ2 : Hid (R1.l.take (q + 1) = R2.l.take (q + 1)) := by show _ = _; rw [TK1.out, TK2.out, EQ.out, hh]
        simp only [d5] at EQH
        clear d5 hh TK1 TK2 NEQ
        go_wp2_with fail
        go_quiet (fail)
        go_wp2_with fail
        go_roundw
        case rel => exact ⟨q + 1, by omega, by go_num, EQ2.out, _, by first | rfl | exact (World.drewN_drewN _ _ _) | exact (World.drewN_drewN _ _ _).symm⟩
        case measure => simp [intOf]; omega
      · have d5 : (((a0, a1, a2) : Hd) == (b0, b1, b2)) = false := by simpa using hh
        have AK : Hid (ralikeC R1 R2 = false) := by show _ = _; rw [AK1.out]; simpa using NEQ.out hh
        simp only [d5] at EQH
        clear d5 hh TK1 TK2 NEQ
        go_wp2_with fail
        go_quiet (fail)
        go_wp2_with fail
        go_ret
        exact ⟨congrArg (fun b => Ending.returned (.bool b)) AK.out.symm, _, by first | rfl | exact (World.drewN_drewN _ _ _) | exact (World.drewN_drewN _ _ _).symm⟩
    · obtain rfl : m = q := by omega
      have AK : Hid (ralikeC R1 R2 = true) := by
        show _ = _
        rw [AK1.out]
        have e1 : R1.l.take m = R1.l := List.take_of_length_le (by rw [HM.out]; exact Nat.le_refl _)
        have e2 : R2.l.take m = R2.l := List.take_of_length_le (by rw [HM2.out]; exact Nat.le_refl _)
        have := EQ.out
        rw [e1, e2] at this
        rw [this]; simp
      go_wp2_with fail
      go_ret
      exact ⟨congrArg (fun b => Ending.returned (.bool b)) AK.out.symm, _, rfl⟩
#print axioms ralike_calls
end Go.Proofs.Ytefcinifaaablaa.Chain
