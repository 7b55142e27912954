/-
  Layer 16: Alike.
-/
import Derived.Test.YtefcinifaaablaaChain4
import Derived.Test.YtefcinifaaablaaChainLen
import Derived.LaidEqlPtr
import Derived.Laws.StructEq
namespace Go.Proofs.Ytefcinifaaablaa.Chain
open Go.RowKit Go.Sep
open Go.Proofs.Ytefcinifaaablaa.Slab (szOf Ar hdl ABlk)
set_option maxRecDepth 100000
set_option linter.unusedVariables false
set_option linter.unusedSimpArgs false

def alikeC (K1 K2 : Ch) : Bool := !K1.freed && (!K2.freed && (K1.l.length == K2.l.length && (K1.long == K2.long && K1.l == K2.l)))
/-- a region that draws its order, and whose callees make memory alone -/
theorem quiet_belowB {P : Program} {id B : Nat} {Q : Exit → Act → World → Prop} {a : Act} {w w0 : World} {l : List Oper} (hm : P.follows .mixedOrders = true) (hB : Region.lexB .any l.toArray = true) (hC : Below B w0 w.drew)
    (h : wpQuiet P l.toArray (fun w' => Below B w0 w') (fun a' => ∀ w', Below B w0 w' → Q .normal a' w') l a) : (Code.region id l.toArray true).wp P Q a w :=
  wp_region_quiet (C := fun w' => Below B w0 w') hm hB hC (by simpa using h)
theorem eqH (a b c x y z : Int) (w : World) : (Op.equalIn 10000 106 (.agg #[.int .i64 a, .int .i64 b, .int .i64 c]) (.agg #[.int .i64 x, .int .i64 y, .int .i64 z])).run Try.prog w = .ok (((a, b, c) : Hd) == (x, y, z)) w := by
  have u3 := Try.underlying3
  have a3 := Try.isAgg3
  have z3 := Try.sizeOf3
  have hS : Try.prog.underlying 106 = some (.struct (Try.prog.fieldsOf 106)) := by kernel_rfl
  rw [show (10000 : Nat) = 9999 + 1 from rfl, run_equalIn_agg w 9999 106 _ _ hS (by kernel_rfl)]
  simp only [Program.fieldsOf, Try.underlying106]
  go_simp
  by_cases h1 : a = x <;> by_cases h2 : b = y <;> by_cases h3 : c = z <;> simp [h1, h2, h3]
theorem neq_ptr (a : Nat) (w : World) : (binOp .neq 22 (.pointer (some ⟨a, 0, none⟩)) (.pointer (some ⟨a, 0, none⟩))).run Try.prog w = .ok (.bool false) w := by
  obtain ⟨j, hj⟩ : ∃ j, Try.prog.info? 99 = some j := Option.isSome_iff_exists.1 (by kernel_rfl)
  have h : ∀ d : Nat, (Op.equalIn (d + 1) 22 (.pointer (some ⟨a, 0, none⟩)) (.pointer (some ⟨a, 0, none⟩))).run Try.prog w = .ok true w := fun d => by
    simp [Op.equalIn, run_underlying Try.underlying22, sizeOf, typeInfo, hj, run_sameAddr_same]
  simp only [binOp]
  simp [Op.equal, Op.maxDepth, h 9999]
set_option maxHeartbeats 1000000 in
theorem alike_calls (c1 c2 a : Nat) (K1 K2 : Ch) (A : List (List ABlk)) (F1 F2 : Asr) (w : World) (n1 : K1.l.length ≤ 20000) (h1 : Holds w (chA c1 a K1 * (Ar a A * F1))) (h2 : Holds w (chA c2 a K2 * (Ar a A * F2))) :
    Calls Try.prog 26 #[.pointer (some ⟨c1, 0, none⟩), .pointer (some ⟨c2, 0, none⟩)] w fun e w' => e = .returned (.bool (alikeC K1 K2)) ∧ Below w.heap.size w w' := by
  have ST1 : Hid (∀ wq, Below w.heap.size w wq → Calls Try.prog 46 #[.pointer (some ⟨c1, 0, none⟩)] wq fun e w' => e = .returned (.int .i64 (stateE K1)) ∧ Below w.heap.size w w') := fun wq hq => (state_calls c1 a K1 A F1 wq (h1.grow hq)).mono fun e w' ⟨q1, q2⟩ => ⟨q1, hq.trans (q2.mono hq.size)⟩
  have ST2 : Hid (∀ wq, Below w.heap.size w wq → Calls Try.prog 46 #[.pointer (some ⟨c2, 0, none⟩)] wq fun e w' => e = .returned (.int .i64 (stateE K2)) ∧ Below w.heap.size w w') := fun wq hq => (state_calls c2 a K2 A F2 wq (h2.grow hq)).mono fun e w' ⟨q1, q2⟩ => ⟨q1, hq.trans (q2.mono hq.size)⟩
  obtain ⟨v1, g1⟩ := ch_open h1
  obtain ⟨v2, g2⟩ := ch_open h2
  obtain ⟨ao1, cap1, e1, -⟩ := rowA_slice (g1.eqv (star_left_comm _ _ _))
  obtain ⟨ao2, cap2, e2, -⟩ := rowA_slice (g2.eqv (star_left_comm _ _ _))
  subst e1
  subst e2
  have R1 := Lib.hid (fun wq (hq : Below w.heap.size w wq) => (g1.grow hq).eqv (star_left_comm _ _ _))
  have R2 := Lib.hid (fun wq (hq : Below w.heap.size w wq) => (g2.grow hq).eqv (star_left_comm _ _ _))
  have FQ : Hid (∀ wq, Below w.heap.size w wq → wq.cell? ⟨c1, 0, none⟩ = some (.pointer (some ⟨a, 0, none⟩)) ∧ wq.cell? ⟨c1, 1, none⟩ = some (.slice ao1 K1.l.length cap1) ∧ wq.cell? ⟨c1, 2, none⟩ = some (.int .i64 K1.long) ∧ wq.cell? ⟨c2, 0, none⟩ = some (.pointer (some ⟨a, 0, none⟩)) ∧ wq.cell? ⟨c2, 1, none⟩ = some (.slice ao2 K2.l.length cap2) ∧ wq.cell? ⟨c2, 2, none⟩ = some (.int .i64 K2.long)) := by
    intro wq hq
    have s1 := ch_seen (g1.grow hq)
    have s2 := ch_seen (g2.grow hq)
    exact ⟨s1.c0, s1.c1, s1.c2, s2.c0, s2.c1, s2.c2⟩
  have NP : Hid (∀ wq, (binOp .neq 22 (.pointer (some ⟨a, 0, none⟩)) (.pointer (some ⟨a, 0, none⟩))).run Try.prog wq = .ok (.bool false) wq) := fun wq => neq_ptr a wq
  clear h1 h2 g1 g2
  unfold stateE at ST1 ST2
  by_cases hf1 : K1.freed = true
  · have AK : Hid (alikeC K1 K2 = false) := by show _ = _; simp [alikeC, hf1]
    rw [hf1, if_pos rfl] at ST1
    clear hf1 R1 R2
    go_enter Try.func26, Try.ntmps26
    go_upto_region 1 with (fail)
    refine quiet_belowB (B := w.heap.size) (w0 := w) (by kernel_rfl) (by kernel_rfl) (Below.refl _ _).drew ?_
    repeat (go_big_quiet_step ((intro hq; first | (go_at_call 46; (first | with_reducible refine (ST1.out _ hq).mono ?_ | with_reducible refine (ST2.out _ hq).mono ?_); rintro e w'' ⟨rfl, hb'⟩; exact ⟨rfl, hb'⟩) | (obtain ⟨f10, f11, f12, f20, f21, f22⟩ := FQ.out _ hq; have np := NP.out; first | (go_simp; done) | (go_simp; rfl)))))
    refine wpQuiet_nil ?_
    intro w6 hq6
    have B6 := Lib.hid hq6
    clear hq6
    go_wp2_with fail
    go_ret
    exact ⟨congrArg (fun b => Ending.returned (.bool b)) AK.out.symm, B6.out⟩
  replace hf1 : K1.freed = false := by simpa using hf1
  rw [hf1, if_neg (by simp)] at ST1
  by_cases hf2 : K2.freed = true
  · have AK : Hid (alikeC K1 K2 = false) := by show _ = _; simp [alikeC, hf2]
    rw [hf2, if_pos rfl] at ST2
    clear hf1 hf2 R1 R2
    go_enter Try.func26, Try.ntmps26
    go_upto_region 1 with (fail)
    refine quiet_belowB (B := w.heap.size) (w0 := w) (by kernel_rfl) (by kernel_rfl) (Below.refl _ _).drew ?_
    repeat (go_big_quiet_step ((intro hq; first | (go_at_call 46; (first | with_reducible refine (ST1.out _ hq).mono ?_ | with_reducible refine (ST2.out _ hq).mono ?_); rintro e w'' ⟨rfl, hb'⟩; exact ⟨rfl, hb'⟩) | (obtain ⟨f10, f11, f12, f20, f21, f22⟩ := FQ.out _ hq; have np := NP.out; first | (go_simp; done) | (go_simp; rfl)))))
    refine wpQuiet_nil ?_
    intro w6 hq6
    have B6 := Lib.hid hq6
    clear hq6
    go_wp2_with fail
    go_ret
    exact ⟨congrArg (fun b => Ending.returned (.bool b)) AK.out.symm, B6.out⟩
  replace hf2 : K2.freed = false := by simpa using hf2
  rw [hf2, if_neg (by simp)] at ST2
  have AK0 : Hid (alikeC K1 K2 = (K1.l.length == K2.l.length && (K1.long == K2.long && K1.l == K2.l))) := by show _ = _; simp [alikeC, hf1, hf2]
  clear hf1 hf2
  by_cases hl : K1.l.length = K2.l.length
  rotate_left
  · have AK : Hid (alikeC K1 K2 = false) := by show _ = _; rw [AK0.out]; simp [hl]
    have d1 : ((K1.l.length : Int) != (K2.l.length : Int)) = true := by simp; omega
    have d2 : (K1.l.length != K2.l.length) = true := by simpa using hl
    clear AK0 R1 R2 hl
    go_enter Try.func26, Try.ntmps26
    go_upto_region 1 with (fail)
    refine quiet_belowB (B := w.heap.size) (w0 := w) (by kernel_rfl) (by kernel_rfl) (Below.refl _ _).drew ?_
    repeat (go_big_quiet_step ((intro hq; first | (go_at_call 46; (first | with_reducible refine (ST1.out _ hq).mono ?_ | with_reducible refine (ST2.out _ hq).mono ?_); rintro e w'' ⟨rfl, hb'⟩; exact ⟨rfl, hb'⟩) | (obtain ⟨f10, f11, f12, f20, f21, f22⟩ := FQ.out _ hq; have np := NP.out; first | (go_simp; done) | (go_simp; rfl)))))
    refine wpQuiet_nil ?_
    intro w6 hq6
    have B6 := Lib.hid hq6
    clear hq6
    go_wp2_with fail
    go_ret
    exact ⟨congrArg (fun b => Ending.returned (.bool b)) AK.out.symm, B6.out⟩
  · have d1 : ((K1.l.length : Int) != (K2.l.length : Int)) = false := by simp; omega
    have d2 : (K1.l.length != K2.l.length) = false := by simpa using hl
    by_cases hg : K1.long = K2.long
    rotate_left
    · have AK : Hid (alikeC K1 K2 = false) := by show _ = _; rw [AK0.out]; simp [hg]
      have d3 : (K1.long != K2.long) = true := by simpa using hg
      clear AK0 R1 R2 hl hg
      go_enter Try.func26, Try.ntmps26
      go_upto_region 1 with (fail)
      refine quiet_belowB (B := w.heap.size) (w0 := w) (by kernel_rfl) (by kernel_rfl) (Below.refl _ _).drew ?_
      repeat (go_big_quiet_step ((intro hq; first | (go_at_call 46; (first | with_reducible refine (ST1.out _ hq).mono ?_ | with_reducible refine (ST2.out _ hq).mono ?_); rintro e w'' ⟨rfl, hb'⟩; exact ⟨rfl, hb'⟩) | (obtain ⟨f10, f11, f12, f20, f21, f22⟩ := FQ.out _ hq; have np := NP.out; first | (go_simp; done) | (go_simp; rfl)))))
      refine wpQuiet_nil ?_
      intro w6 hq6
      have B6 := Lib.hid hq6
      clear hq6
      go_wp2_with fail
      go_ret
      exact ⟨congrArg (fun b => Ending.returned (.bool b)) AK.out.symm, B6.out⟩
    · have d3 : (K1.long != K2.long) = false := by simpa using hg
      have AK1 : Hid (alikeC K1 K2 = (K1.l == K2.l)) := by show _ = _; rw [AK0.out]; simp [hl, hg]
      have HL := Lib.hid hl
      obtain ⟨m, hm⟩ : ∃ q, K1.l.length = q := ⟨_, rfl⟩
      have hm2 : K2.l.length = m := by rw [← hm, hl]
      rw [hm, hm2] at d1 d2
      rw [hm] at n1
      rw [hm] at FQ
      rw [hm2] at FQ
      have HM := Lib.hid hm
      have HM2 := Lib.hid hm2
      clear AK0 hl hg hm hm2
      go_enter Try.func26, Try.ntmps26
      go_upto_region 1 with (fail)
      refine quiet_belowB (B := w.heap.size) (w0 := w) (by kernel_rfl) (by kernel_rfl) (Below.refl _ _).drew ?_
      repeat (go_big_quiet_step ((intro hq; first | (go_at_call 46; (first | with_reducible refine (ST1.out _ hq).mono ?_ | with_reducible refine (ST2.out _ hq).mono ?_); rintro e w'' ⟨rfl, hb'⟩; exact ⟨rfl, hb'⟩) | (obtain ⟨f10, f11, f12, f20, f21, f22⟩ := FQ.out _ hq; have np := NP.out; first | (go_simp; done) | (go_simp; rfl)))))
      refine wpQuiet_nil ?_
      intro w6 hq6
      have B6 := Lib.hid hq6
      clear hq6
      obtain ⟨f10, f11, f12, f20, f21, f22⟩ := FQ.out _ B6.out
      go_wp2_with fail
      go_loopw [55] (fun x wl => ∃ q : Nat, q ≤ m ∧ x = .int .i64 q ∧ Hid (K1.l.take q = K2.l.take q) ∧ Hid (Below w.heap.size w wl)) (fun x _ => m - (intOf x).toNat)
      case atStart => exact ⟨0, Nat.zero_le _, rfl, by show _ = _; simp, B6.out⟩
      case round =>
        clear f10 f11 f12 f20 f21 f22 B6
        obtain ⟨q, hq, rfl, EQ, B6⟩ := hrel
        obtain ⟨f10, f11, f12, f20, f21, f22⟩ := FQ.out _ B6.out
        by_cases hqm : q < m
        · have q1 : q < K1.l.length := by rw [HM.out]; exact hqm
          have q2 : q < K2.l.length := by rw [HM2.out]; exact hqm
          obtain ⟨g1, p1, e1, -, -, r1, -⟩ := rowL_cell (R1.out _ B6.out) hEnc_len q q1
          obtain ⟨g2, p2, e2, -, -, r2, -⟩ := rowL_cell (R2.out _ B6.out) hEnc_len q q2
          simp at e1 e2
          obtain ⟨hao1, -⟩ := e1
          obtain ⟨hao2, -⟩ := e2
          have x10 := r1 0 (by omega)
          have x11 := r1 1 (by omega)
          have x12 := r1 2 (by omega)
          have x20 := r2 0 (by omega)
          have x21 := r2 1 (by omega)
          have x22 := r2 2 (by omega)
          have TK1 : Hid (K1.l.take (q + 1) = K1.l.take q ++ [K1.l[q]]) := List.take_succ_eq_append_getElem q1
          have TK2 : Hid (K2.l.take (q + 1) = K2.l.take q ++ [K2.l[q]]) := List.take_succ_eq_append_getElem q2
          have NEQ : Hid (K1.l[q] ≠ K2.l[q] → K1.l ≠ K2.l) := by
            intro h e
            apply h
            have : K1.l[q]? = K2.l[q]? := by rw [e]
            rw [List.getElem?_eq_getElem q1, List.getElem?_eq_getElem q2] at this
            exact Option.some.inj this
          obtain ⟨⟨a0, a1, a2⟩, hA⟩ : ∃ z, K1.l[q] = z := ⟨_, rfl⟩
          obtain ⟨⟨b0, b1, b2⟩, hB⟩ : ∃ z, K2.l[q] = z := ⟨_, rfl⟩
          rw [hA] at x10 x11 x12 TK1 NEQ
          rw [hB] at x20 x21 x22 TK2 NEQ
          simp only [hEnc, Nat.add_zero, List.getElem?_cons_zero, List.getElem?_cons_succ] at x10 x11 x12 x20 x21 x22
          have i0 : (0 : Int) ≤ (q : Int) := by omega
          have i1 : (q : Int) < (m : Int) := by omega
          have EQH := fun wq => eqH a0 a1 a2 b0 b1 b2 wq
          subst hao1
          subst hao2
          have x10' : (wr.alloc (.cells #[.int .i64 a0, .int .i64 a1, .int .i64 a2] 106)).cell? ⟨g2, q * 3, none⟩ = some (.int .i64 b0) := (World.cell?_alloc_lt _ _ _ (by have := World.block_lt_of_cell? _ _ x20; simpa using this)).trans x20
          have x11' : (wr.alloc (.cells #[.int .i64 a0, .int .i64 a1, .int .i64 a2] 106)).cell? ⟨g2, q * 3 + 1, none⟩ = some (.int .i64 b1) := (World.cell?_alloc_lt _ _ _ (by have := World.block_lt_of_cell? _ _ x21; simpa using this)).trans x21
          have x12' : (wr.alloc (.cells #[.int .i64 a0, .int .i64 a1, .int .i64 a2] 106)).cell? ⟨g2, q * 3 + 2, none⟩ = some (.int .i64 b2) := (World.cell?_alloc_lt _ _ _ (by have := World.block_lt_of_cell? _ _ x22; simpa using this)).trans x22
          have x13' : (wr.alloc (.cells #[.int .i64 a0, .int .i64 a1, .int .i64 a2] 106)).cell? ⟨c2, 1, none⟩ = some (.slice (some ⟨g2, 0, none⟩) m cap2) := (World.cell?_alloc_lt _ _ _ (by have := World.block_lt_of_cell? _ _ f21; simpa using this)).trans f21
          clear r1 r2 hA hB f10 f11 f12 f20 f22
          by_cases hh : ((a0, a1, a2) : Hd) = (b0, b1, b2)
          · have d5 : (((a0, a1, a2) : Hd) == (b0, b1, b2)) = true := by simpa using hh
            have EQ2 : Hid (K1.l.take (q + 1) = K2.l.take (q + 1)) := by show _ = _; rw [TK1.out, TK2.out, EQ.out, hh]
            simp only [d5] at EQH
            clear d5 hh TK1 TK2 NEQ
            go_wp2_with fail
            go_quiet (fail)
            go_wp2_with fail
            go_roundw
            case rel => exact ⟨q + 1, by omega, by go_num, EQ2.out, by first | exact (B6.out.alloc (by have := B6.out.size; omega) _) | exact (B6.out.alloc (by have := B6.out.size; omega) _).drew | exact below_drewN (B6.out.alloc (by have := B6.out.size; omega) _) _⟩
            case measure => simp [intOf]; omega
          · have d5 : (((a0, a1, a2) : Hd) == (b0, b1, b2)) = false := by simpa using hh
            have AK : Hid (alikeC K1 K2 = false) := by show _ = _; rw [AK1.out]; simpa using NEQ.out hh
            simp only [d5] at EQH
            clear d5 hh TK1 TK2 NEQ
            go_wp2_with fail
            go_quiet (fail)
            go_wp2_with fail
            go_ret
            exact ⟨congrArg (fun b => Ending.returned (.bool b)) AK.out.symm, by first | exact (B6.out.alloc (by have := B6.out.size; omega) _) | exact (B6.out.alloc (by have := B6.out.size; omega) _).drew | exact below_drewN (B6.out.alloc (by have := B6.out.size; omega) _) _⟩
        · obtain rfl : m = q := by omega
          have AK : Hid (alikeC K1 K2 = true) := by
            show _ = _
            rw [AK1.out]
            have e1 : K1.l.take m = K1.l := List.take_of_length_le (by rw [HM.out]; exact Nat.le_refl _)
            have e2 : K2.l.take m = K2.l := List.take_of_length_le (by rw [HM2.out]; exact Nat.le_refl _)
            have := EQ.out
            rw [e1, e2] at this
            rw [this]; simp
          clear f10 f11 f12 f20 f21 f22
          go_wp2_with fail
          go_ret
          exact ⟨congrArg (fun b => Ending.returned (.bool b)) AK.out.symm, B6.out⟩
#print axioms alike_calls
end Go.Proofs.Ytefcinifaaablaa.Chain
