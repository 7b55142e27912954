/-
  Layer 27: Reached, where nothing is left.
-/
import Derived.Test.YtefcinifaaablaaOrd7
namespace Go.Proofs.Ytefcinifaaablaa.Ord
open Go.RowKit Go.Sep
set_option maxRecDepth 100000
set_option linter.unusedVariables false
set_option linter.unusedSimpArgs false

theorem len64_calls (w : World) : Calls Try.prog 108 #[.int .u64 0] w fun e w' => e = .returned (.int .i64 0) ∧ Below w.heap.size w w' := by
  go_enter Try.func108, Try.ntmps108
  go_wp2_with fail
  go_ret
  exact ⟨by kernel_rfl, Below.refl _ _⟩
#print axioms len64_calls
theorem len_calls (w : World) : Calls Try.prog 80 #[.int .u64 0] w fun e w' => e = .returned (.int .i64 0) ∧ Below w.heap.size w w' := by
  have H := Lib.hid (fun wq => len64_calls wq)
  go_enter Try.func80, Try.ntmps80
  go_wp2_with fail
  refine (H.out _).mono ?_
  rintro e w1 ⟨rfl, b1⟩
  go_wp2_with fail
  go_ret
  exact ⟨rfl, b1⟩
#print axioms len_calls
theorem ins0_calls (w : World) : Calls Try.prog 98 #[.slice none 0 0, .int .i64 0, .int .i64 0] w fun e w' => e = .returned (.tuple #[]) ∧ Below w.heap.size w w' := by
  go_enter Try.func98, Try.ntmps98
  go_wp2_with fail
  go_loopw [6] (fun x wl => x = .int .i64 1 ∧ wl = w) (fun _ _ => 0)
  case atStart => exact ⟨rfl, rfl⟩
  case round =>
    obtain ⟨rfl, rfl⟩ := hrel
    go_wp2_with fail
    go_end0
    exact ⟨rfl, Below.refl _ _⟩
#print axioms ins0_calls
theorem pdq0_calls (w : World) : Calls Try.prog 79 #[.slice none 0 0, .int .i64 0, .int .i64 0, .int .i64 0] w fun e w' => e = .returned (.tuple #[]) ∧ Below w.heap.size w w' := by
  have H := Lib.hid (fun wq => ins0_calls wq)
  go_enter Try.func79, Try.ntmps79
  go_wp2_with fail
  go_loopw [1, 2] (fun x y wl => x = .int .i64 0 ∧ y = .int .i64 0 ∧ wl = w) (fun _ _ _ => 0)
  case atStart => exact ⟨rfl, rfl, rfl⟩
  case round =>
    obtain ⟨rfl, rfl, rfl⟩ := hrel
    go_wp2_with fail
    refine (H.out _).mono ?_
    rintro e w1 ⟨rfl, b1⟩
    have B1 := Lib.hid b1
    clear b1 H
    go_wp2_with fail
    exact bodyPost_ret (v := .tuple #[]) (by simp [results, Try.results79]) rfl ⟨rfl, B1.out⟩
#print axioms pdq0_calls
theorem sort0_calls (w : World) : Calls Try.prog 59 #[.slice none 0 0] w fun e w' => e = .returned (.tuple #[]) ∧ Below w.heap.size w w' := by
  have H := Lib.hid (fun wq => len_calls wq)
  have H2 := Lib.hid (fun wq => pdq0_calls wq)
  go_enter Try.func59, Try.ntmps59
  go_wp2_with fail
  refine (H.out _).mono ?_
  rintro e w1 ⟨rfl, b1⟩
  have B1 := Lib.hid b1
  clear b1 H
  go_wp2_with fail
  refine (H2.out _).mono ?_
  rintro e w2 ⟨rfl, b2⟩
  have B2 : Hid (Below w.heap.size w w2) := B1.out.trans (b2.mono B1.out.size)
  clear b2 H2
  go_wp2_with fail
  go_end0
  exact ⟨rfl, B2.out⟩
#print axioms sort0_calls
set_option maxHeartbeats 4000000 in
theorem reached_calls (b off n cap : Nat) (ops : List OpD) (w0 : World) (hn : ops.length = n) (hn9 : n ≤ 1000) (hO : IsOps w0 b off ops) (hR : RunOk w0 ops n) (hx : (runO ops n).1 = none) :
    Calls Try.prog 30 #[.slice (some ⟨b, off, none⟩) n cap, .int .i64 1] w0 fun e w' => e = .returned (.slice none 0 0) ∧ Below w0.heap.size w0 w' := by
  have FR := Lib.hid (fresh_calls (all w0) w0 (holds_all w0))
  have HO := Lib.hid hO
  have HR := Lib.hid hR
  have HN := Lib.hid hn
  have HX := Lib.hid hx
  clear hO hR hn hx
  go_enter Try.func30, Try.ntmps30
  go_wp2_with fail
  refine (FR.out).mono ?_
  rintro e w1 ⟨s, rfl, h1, s1⟩
  have H1 := Lib.hid h1
  have S1 := Lib.hid s1
  clear h1 s1 FR
  go_wp2_with fail
  go_loopw [13] (fun x wl => ∃ i : Nat, x = .int .i64 i ∧ i ≤ n ∧ Hid (Holds wl (stA s (runO ops i).1 (runO ops i).2 * all w0)) ∧ Hid (Sm w0 wl)) (fun x _ => n - (intOf x).toNat)
  case atStart => exact ⟨0, rfl, Nat.zero_le _, H1.out, S1.out⟩
  case round =>
    clear H1 S1
    obtain ⟨i, rfl, hi, HH, HS⟩ := hrel
    by_cases hin : i < n
    · have hif : i < ops.length := by rw [HN.out]; exact hin
      obtain ⟨o, ho⟩ : ∃ o, ops[i]? = some o := ⟨_, List.getElem?_eq_getElem hif⟩
      have hok := HR.out i o ho hi
      have hst := runO_succ ops i o ho
      have hce := HO.out.cell i o ho
      obtain ⟨st, hst2⟩ : ∃ q, runO ops i = q := ⟨_, rfl⟩
      rw [hst2] at hok hst HH
      obtain ⟨kd, key, id, ga, gn, gc⟩ := o
      have ac : ∀ j v, (OpD.cs ⟨kd, key, id, ga, gn, gc⟩)[j]? = some v → wr.cell? ⟨b, off + i * 7 + j, none⟩ = some v := fun j v hv => all_cell HH.out (hce j v hv)
      have c0 := ac 0 _ rfl
      have c1 := ac 1 _ rfl
      have c2 := ac 2 _ rfl
      have c3 := ac 3 _ rfl
      have c4 := ac 4 _ rfl
      have c5 := ac 5 _ rfl
      have c6 := ac 6 _ rfl
      rw [Nat.add_zero] at c0
      have i0 : (0 : Int) ≤ (i : Int) := by omega
      have i1 : (i : Int) < (n : Int) := by omega
      obtain ⟨W2, hW2⟩ : ∃ W9, wr.alloc (.cells #[.int .i64 kd, .int .i64 1, .string key, .string ⟨#[]⟩, .string ⟨#[]⟩, .int .i64 id, .slice ga gn gc] 63) = W9 := ⟨_, rfl⟩
      have hb : Below wr.heap.size wr W2 := by rw [← hW2]; exact (Below.refl _ wr).alloc (Nat.le_refl _) _
      have DO := Lib.hid (do_calls s ⟨kd, key, id, ga, gn, gc⟩ st w0 hok.1 W2 (HH.out.grow hb))
      have S2 : Hid (Sm w0 W2) := HS.out.trans (Sm.of_below hb)
      have HST2 : Hid (runO ops (i + 1) = (stepO ⟨kd, key, id, ga, gn, gc⟩ st).1) := hst
      obtain ⟨⟨⟨x2, l2⟩, r⟩, hsp⟩ : ∃ q, stepO ⟨kd, key, id, ga, gn, gc⟩ st = q := ⟨_, rfl⟩
      unfold DoC at DO
      rw [hsp] at DO HST2
      unfold OpD.val opV at DO
      simp only at DO HST2
      clear hok hst hce ho hst2 ac hsp hb
      subst hW2
      go_wp2_with fail
      refine (DO.out).mono ?_
      rintro e w3 ⟨rfl, h3, s3⟩
      have H3 := Lib.hid h3
      have S3 : Hid (Sm w0 w3) := S2.out.trans s3
      clear h3 s3 DO S2 HH HS c0 c1 c2 c3 c4 c5 c6
      go_wp2_with fail
      go_roundw
      case rel => exact ⟨i + 1, by go_num, by omega, by rw [HST2.out]; exact H3.out, S3.out⟩
      case measure => simp [intOf]; omega
    · obtain rfl : i = n := by omega
      have h4 := HH.out
      rw [HX.out] at h4
      obtain ⟨ma, mh, q0, q1, q2, -, ⟨c, hmap⟩⟩ := stF_of h4
      have FIN := Lib.hid (Holds.below HH.out HS.out)
      have HM := Lib.hid hmap
      have HB : Hid (Below w0.heap.size w0 (wr.alloc (.mapIter (some mh) c #[] c))) := FIN.out.alloc FIN.out.size _
      have SO := Lib.hid (fun wq => sort0_calls wq)
      clear h4 hmap HX HH HS HO HR FIN
      go_wp2_with (refine wpList_range_map rfl _ _ rfl Try.underlying125 rfl HM.out ?_)
      simp only [Act.put, List.setIfInBounds_toArray, List.set_cons_zero, List.set_cons_succ]
      go_loopw [8] (fun x wl => x = .slice none 0 0 ∧ wl = wr.alloc (.mapIter (some mh) c #[] c)) (fun _ _ => 0)
      case atStart => exact ⟨rfl, rfl⟩
      case round =>
        obtain ⟨rfl, rfl⟩ := hrel
        go_wp2_with (refine wpList_next0 rfl _ rfl HM.out rfl ?_)
        refine (SO.out _).mono ?_
        rintro e w5 ⟨rfl, b5⟩
        have BZ : Hid (Below w0.heap.size w0 w5) := HB.out.trans (b5.mono HB.out.size)
        clear b5 SO HB
        go_wp2_with fail
        go_ret
        exact ⟨rfl, BZ.out⟩
#print axioms reached_calls
end Go.Proofs.Ytefcinifaaablaa.Ord
