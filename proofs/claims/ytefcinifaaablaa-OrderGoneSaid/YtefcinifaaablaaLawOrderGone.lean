/-
  OrderGone, the walk.
-/
import Derived.Test.YtefcinifaaablaaOrd9

namespace Go.Proofs.Ytefcinifaaablaa.Ord
open Go.RowKit Go.Sep
set_option maxRecDepth 100000
set_option linter.unusedVariables false
set_option linter.unusedSimpArgs false

theorem infoO : (Try.prog.info? 63).map (fun i => (i.zero, i.size, i.bytes)) = some (some (.agg #[.int .i64 0, .int .i64 0, .string ⟨#[]⟩, .string ⟨#[]⟩, .string ⟨#[]⟩, .int .i64 0, .slice none 0 0]), 7, 96) := by kernel_rfl
theorem cs_len (o : OpD) : o.cs.length = 7 := rfl
theorem cs_one (o : OpD) : ∀ u ∈ o.cs, u.oneCell' = true := by simp [OpD.cs, Value.oneCell']
theorem mod_facts (k : Int) (N : Nat) (hN : 1 ≤ N) : ∃ (r : Int) (K : Nat), Int.tmod k N = r ∧ -(N : Int) < r ∧ r < N ∧ Int.tmod (r + N) N = (K : Int) ∧ K < N := by
  have h1 : Int.tmod k N < N := Int.tmod_lt_of_pos k (by omega)
  have h2 : -(N : Int) < Int.tmod k N := Int.lt_tmod_of_pos k (by omega)
  refine ⟨Int.tmod k N, (Int.tmod (Int.tmod k N + N) N).toNat, rfl, h2, h1, ?_, ?_⟩
  · rw [Int.toNat_of_nonneg]
    exact Int.tmod_nonneg _ (by omega)
  · have h3 : Int.tmod (Int.tmod k N + N) N < N := Int.tmod_lt_of_pos _ (by omega)
    have h4 : 0 ≤ Int.tmod (Int.tmod k N + N) N := Int.tmod_nonneg _ (by omega)
    omega
theorem isOps_of {w : World} {v : Value} {L : List OpD} {F : Asr} (h : Holds w (rowL 63 7 OpD.cs v L * F)) (hL : 0 < L.length) : ∃ g cap, v = .slice (some ⟨g, 0, none⟩) L.length cap ∧ IsOps w g 0 L := by
  obtain ⟨g, cap, e, -, -, -, -⟩ := rowL_cell h cs_len 0 hL
  refine ⟨g, cap, e, ⟨fun i o ho j u hu => ?_⟩⟩
  obtain ⟨hi, rfl⟩ := List.getElem?_eq_some_iff.1 ho
  obtain ⟨g2, cap2, e2, -, -, hc, -⟩ := rowL_cell h cs_len i hi
  rw [e] at e2
  simp only [Value.slice.injEq, Option.some.injEq, Addr.mk.injEq, and_true, true_and] at e2
  obtain ⟨rfl, -⟩ := e2
  have hj : j < 7 := by have := (List.getElem?_eq_some_iff.1 hu).1; rw [cs_len] at this; exact this
  rw [Nat.zero_add, hc j hj, hu]
theorem flat_len (L : List OpD) : (L.flatMap OpD.cs).length = L.length * 7 := by
  induction L with
  | nil => rfl
  | cons x r ih => rw [List.flatMap_cons, List.length_append, ih, cs_len, List.length_cons]; omega
theorem flat_one (L : List OpD) : ∀ u ∈ L.flatMap OpD.cs, u.oneCell' = true := by
  intro u hu
  obtain ⟨o, -, h⟩ := List.mem_flatMap.1 hu
  exact cs_one o u h
theorem row_cells {W : World} {ops : List OpD} {N g c : Nat} {R F : Asr} (hl : ops.length = N) (h : Holds W (R * (rowL 63 7 OpD.cs (.slice (some ⟨g, 0, none⟩) N c) ops * F))) : ∀ j u, (ops.flatMap OpD.cs)[j]? = some u → W.cell? ((⟨g, 0, none⟩ : Addr).add j) = some u := by
  intro j u hu
  have hj := (List.getElem?_eq_some_iff.1 hu).1
  rw [flat_len] at hj
  have h1 : Holds W (rowA 63 7 (.slice (some ⟨g, 0, none⟩) N c) ops.length (ops.flatMap OpD.cs) * (R * F)) := h.eqv (star_left_comm _ _ _)
  obtain ⟨g2, c2, e, -, -, hc, -⟩ := rowA_cell h1 (by omega)
  simp only [Value.slice.injEq, Option.some.injEq, Addr.mk.injEq, and_true] at e
  obtain ⟨rfl, -⟩ := e
  rw [Addr.add_lit, Nat.zero_add, hc j hj, hu]
theorem row_copy {W : World} {ops : List OpD} {N : Nat} {v : Value} {F : Asr} (hl : ops.length = N) (h : Holds W (rowA 63 7 v N (ops.flatMap OpD.cs) * F)) : Holds W (rowL 63 7 OpD.cs v ops * F) := by
  rw [← hl] at h
  exact h
theorem row_two {W : World} {ops : List OpD} {N : Nat} {v : Value} {a b : OpD} {F : Asr} (hl : ops.length = N) (h : Holds W (rowA 63 7 v (N + 2) (ops.flatMap OpD.cs ++ (a.cs ++ b.cs)) * F)) : Holds W (rowL 63 7 OpD.cs v (ops ++ [a, b]) * F) := by
  unfold rowL
  rw [show (ops ++ [a, b]).length = N + 2 by rw [List.length_append, hl]; rfl, List.flatMap_append]
  simpa using h
set_option maxHeartbeats 8000000 in
theorem order_walk (x k : Int) (w : World) : Calls Try.prog 6 #[.int .i64 x, .int .i64 k] w fun e w' => e = .returned (.bool true) ∧ Below w.heap.size w w' := by
  obtain ⟨n', hn, hn9, -⟩ := and_lo 4 (by decide) x
  simp only [show (2 ^ 4 - 1 : Nat) = 15 from rfl, show (2 ^ 4 : Nat) = 16 from rfl] at hn hn9
  replace hn : bits .and .i64 x 15 = n' := hn
  obtain ⟨N, hN⟩ : ∃ N, n' + 1 = N := ⟨_, rfl⟩
  have hN1 : (1 : Int) + (n' : Int) = (N : Int) := by omega
  have HN1 : 1 ≤ N := by omega
  have HN16 : N ≤ 16 := by omega
  obtain ⟨r, K, m1, r0, r1, m2, k0⟩ := mod_facts k N HN1
  have z0 : ((N : Int) == 0) = false := beq_eq_false_iff_ne.2 (by omega)
  have H0 := Lib.hid (holds_all w)
  clear hN hn9
  go_enter Try.func6, Try.ntmps6
  go_wp2_with fail
  go_loopw [5, 6] (fun y x wl => ∃ (i : Nat) (ao : Option Addr) (c : Nat) (ops : List OpD), x = .int .i64 i ∧ y = .slice ao i c ∧ i ≤ N ∧ Hid (ops.length = i) ∧ Hid (InstL ops) ∧ Hid (Holds wl (rowL 63 7 OpD.cs (.slice ao i c) ops * (goneA ops * all w))) ∧ Hid (Sm w wl)) (fun _ x _ => N - (intOf x).toNat)
  case atStart => exact ⟨0, none, 0, [], rfl, rfl, Nat.zero_le _, rfl, instL_nil, rowL_nil (by simp only [goneA, emp_star]; exact H0.out), Sm.refl _⟩
  case round =>
    clear H0
    obtain ⟨i, ao, c, ops, rfl, rfl, hi, HL, HI, HH, HS⟩ := hrel
    by_cases hin : i < N
    · have i1 : (i : Int) < (N : Int) := by omega
      have N1 : Hid (ops.length + 1 ≤ maxLen) := by show _ ≤ _; rw [HL.out]; unfold maxLen; omega
      have N2 : Hid ((ops.length + 1) * 96 ≤ 140737488355328) := by show _ ≤ _; rw [HL.out]; omega
      by_cases hi0 : i = 0
      · subst hi0
        have HAP : Hid (Holds ((wr.alloc (.cells #[.int .i64 1, .int .i64 1, .string ⟨#[47, 107]⟩, .string ⟨#[]⟩, .string ⟨#[]⟩, .int .i64 1, .slice none 0 0] 63)).alloc (.cells #[.int .i64 1, .int .i64 1, .string ⟨#[47, 107]⟩, .string ⟨#[]⟩, .string ⟨#[]⟩, .int .i64 1, .slice none 0 0] 63)) (rowL 63 7 OpD.cs (.slice ao 0 c) ops * (goneA ops * all w))) := ((HH.out.alloc _).right.alloc _).right
        have NEWS : Hid (∀ j u, (OpD.cs ⟨1, ⟨#[47, 107]⟩, 1, none, 0, 0⟩)[j]? = some u → ((wr.alloc (.cells #[.int .i64 1, .int .i64 1, .string ⟨#[47, 107]⟩, .string ⟨#[]⟩, .string ⟨#[]⟩, .int .i64 1, .slice none 0 0] 63)).alloc (.cells #[.int .i64 1, .int .i64 1, .string ⟨#[47, 107]⟩, .string ⟨#[]⟩, .string ⟨#[]⟩, .int .i64 1, .slice none 0 0] 63)).cell? ((⟨wr.heap.size + 1, 0, none⟩ : Addr).add j) = some u) := by
          have h := cells_new (wr.alloc (.cells #[.int .i64 1, .int .i64 1, .string ⟨#[47, 107]⟩, .string ⟨#[]⟩, .string ⟨#[]⟩, .int .i64 1, .slice none 0 0] 63)) #[.int .i64 1, .int .i64 1, .string ⟨#[47, 107]⟩, .string ⟨#[]⟩, .string ⟨#[]⟩, .int .i64 1, .slice none 0 0] 63 (OpD.cs ⟨1, ⟨#[47, 107]⟩, 1, none, 0, 0⟩) rfl
          rw [World.size_alloc] at h
          exact h
        have S2 : Hid (Sm w ((wr.alloc (.cells #[.int .i64 1, .int .i64 1, .string ⟨#[47, 107]⟩, .string ⟨#[]⟩, .string ⟨#[]⟩, .int .i64 1, .slice none 0 0] 63)).alloc (.cells #[.int .i64 1, .int .i64 1, .string ⟨#[47, 107]⟩, .string ⟨#[]⟩, .string ⟨#[]⟩, .int .i64 1, .slice none 0 0] 63))) := (HS.out.alloc _).alloc _
        go_wp2_with (at_builtin; refine wpList_append_one (enc := OpD.cs) rfl _ _ 61 rfl 63 _ 7 96 Try.underlying61 infoO rfl ⟨1, ⟨#[47, 107]⟩, 1, none, 0, 0⟩ rfl HAP.out ⟨wr.heap.size + 1, 0, none⟩ 1 rfl rfl NEWS.out (cs_one _) N1.out N2.out ?_)
        intro v' w6 h6 s6
        obtain ⟨a4, c4, rfl, -⟩ := rowA_slice h6
        have HF : Hid (Holds w6 (rowL 63 7 OpD.cs (.slice a4 1 c4) (ops ++ [⟨1, ⟨#[47, 107]⟩, 1, none, 0, 0⟩]) * (goneA (ops ++ [⟨1, ⟨#[47, 107]⟩, 1, none, 0, 0⟩]) * all w))) := by
          have hl : (ops ++ [(⟨1, ⟨#[47, 107]⟩, 1, none, 0, 0⟩ : OpD)]).length = 1 := by rw [List.length_append, HL.out]; rfl
          rw [hl] at h6
          refine h6.eqv ?_
          rw [goneA_app]
          simp only [goneA]
          rw [emp_star, show goneA ops * emp = goneA ops by rw [star_comm, emp_star]]
        have HI2 : Hid (InstL (ops ++ [⟨1, ⟨#[47, 107]⟩, 1, none, 0, 0⟩])) := instL_snoc HI.out _ ⟨rfl, rfl, by rw [HL.out]; rfl, fun _ => ⟨rfl, rfl, rfl⟩, fun h => by rw [HL.out] at h; omega⟩
        have HL2 : Hid ((ops ++ [(⟨1, ⟨#[47, 107]⟩, 1, none, 0, 0⟩ : OpD)]).length = 1) := by show _ = _; rw [List.length_append, HL.out]; rfl
        have hl2 : (ops ++ [(⟨1, ⟨#[47, 107]⟩, 1, none, 0, 0⟩ : OpD)]).length = 1 := HL2.out
        rw [hl2]
        have S6 : Hid (Sm w w6) := S2.out.trans s6
        clear h6 s6 HAP NEWS S2 HH HS hl2
        go_wp2_with fail
        go_roundw
        case rel => exact ⟨1, a4, c4, _, by go_num, rfl, by omega, HL2.out, HI2.out, HF.out, S6.out⟩
        case measure => simp [intOf]; omega
      · have hz1 : (0 : Int) < (i : Int) := by omega
        have g0 : decide ((0 : Int) < (i : Int)) = true := decide_eq_true hz1
        have g1 : decide (0 < i) = true := decide_eq_true (by omega)
        have q1 := (HH.out.alloc (.cells #[.int .i64 1, .int .i64 1, .string ⟨#[47, 107]⟩, .string ⟨#[]⟩, .string ⟨#[]⟩, .int .i64 ((i : Int) + 1), .slice (some ⟨wr.heap.size + 1, 0, none⟩) 1 1] 63)).alloc (.cells #[.int .i64 i] 3)
        rw [World.size_alloc] at q1
        have HW3 : Hid (Holds ((wr.alloc (.cells #[.int .i64 1, .int .i64 1, .string ⟨#[47, 107]⟩, .string ⟨#[]⟩, .string ⟨#[]⟩, .int .i64 ((i : Int) + 1), .slice (some ⟨wr.heap.size + 1, 0, none⟩) 1 1] 63)).alloc (.cells #[.int .i64 i] 3)) (rowL 63 7 OpD.cs (.slice ao i c) ops * (goneA ops * (pts (wr.heap.size + 1) (.cells #[.int .i64 i] 3 (0, 0)) * all w)))) := (q1.eqv (by ac_rfl : _ = (pts wr.heap.size (.cells #[.int .i64 1, .int .i64 1, .string ⟨#[47, 107]⟩, .string ⟨#[]⟩, .string ⟨#[]⟩, .int .i64 ((i : Int) + 1), .slice (some ⟨wr.heap.size + 1, 0, none⟩) 1 1] 63 (0, 0))) * (rowL 63 7 OpD.cs (.slice ao i c) ops * (goneA ops * (pts (wr.heap.size + 1) (.cells #[.int .i64 i] 3 (0, 0)) * all w))))).right
        have S3 : Hid (Sm w ((wr.alloc (.cells #[.int .i64 1, .int .i64 1, .string ⟨#[47, 107]⟩, .string ⟨#[]⟩, .string ⟨#[]⟩, .int .i64 ((i : Int) + 1), .slice (some ⟨wr.heap.size + 1, 0, none⟩) 1 1] 63)).alloc (.cells #[.int .i64 i] 3))) := (HS.out.alloc _).alloc _
        have hsz : (((wr.alloc (.cells #[.int .i64 1, .int .i64 1, .string ⟨#[47, 107]⟩, .string ⟨#[]⟩, .string ⟨#[]⟩, .int .i64 ((i : Int) + 1), .slice (some ⟨wr.heap.size + 1, 0, none⟩) 1 1] 63)).alloc (.cells #[.int .i64 i] 3))).heap.size = wr.heap.size + 2 := by simp
        have NEWS : Hid (∀ j u, (OpD.cs ⟨1, ⟨#[47, 107]⟩, (i : Int) + 1, some ⟨wr.heap.size + 1, 0, none⟩, 1, 1⟩)[j]? = some u → ((((wr.alloc (.cells #[.int .i64 1, .int .i64 1, .string ⟨#[47, 107]⟩, .string ⟨#[]⟩, .string ⟨#[]⟩, .int .i64 ((i : Int) + 1), .slice (some ⟨wr.heap.size + 1, 0, none⟩) 1 1] 63)).alloc (.cells #[.int .i64 i] 3))).alloc (.cells #[.int .i64 1, .int .i64 1, .string ⟨#[47, 107]⟩, .string ⟨#[]⟩, .string ⟨#[]⟩, .int .i64 ((i : Int) + 1), .slice (some ⟨wr.heap.size + 1, 0, none⟩) 1 1] 63)).cell? ((⟨wr.heap.size + 2, 0, none⟩ : Addr).add j) = some u) := by
          have h := cells_new (((wr.alloc (.cells #[.int .i64 1, .int .i64 1, .string ⟨#[47, 107]⟩, .string ⟨#[]⟩, .string ⟨#[]⟩, .int .i64 ((i : Int) + 1), .slice (some ⟨wr.heap.size + 1, 0, none⟩) 1 1] 63)).alloc (.cells #[.int .i64 i] 3))) #[.int .i64 1, .int .i64 1, .string ⟨#[47, 107]⟩, .string ⟨#[]⟩, .string ⟨#[]⟩, .int .i64 ((i : Int) + 1), .slice (some ⟨wr.heap.size + 1, 0, none⟩) 1 1] 63 (OpD.cs ⟨1, ⟨#[47, 107]⟩, (i : Int) + 1, some ⟨wr.heap.size + 1, 0, none⟩, 1, 1⟩) rfl
          rw [hsz] at h
          exact h
        have HAP : Hid (Holds ((((wr.alloc (.cells #[.int .i64 1, .int .i64 1, .string ⟨#[47, 107]⟩, .string ⟨#[]⟩, .string ⟨#[]⟩, .int .i64 ((i : Int) + 1), .slice (some ⟨wr.heap.size + 1, 0, none⟩) 1 1] 63)).alloc (.cells #[.int .i64 i] 3))).alloc (.cells #[.int .i64 1, .int .i64 1, .string ⟨#[47, 107]⟩, .string ⟨#[]⟩, .string ⟨#[]⟩, .int .i64 ((i : Int) + 1), .slice (some ⟨wr.heap.size + 1, 0, none⟩) 1 1] 63)) (rowL 63 7 OpD.cs (.slice ao i c) ops * (goneA ops * (pts (wr.heap.size + 1) (.cells #[.int .i64 i] 3 (0, 0)) * all w)))) := (HW3.out.alloc _).right
        have S4 : Hid (Sm w ((((wr.alloc (.cells #[.int .i64 1, .int .i64 1, .string ⟨#[47, 107]⟩, .string ⟨#[]⟩, .string ⟨#[]⟩, .int .i64 ((i : Int) + 1), .slice (some ⟨wr.heap.size + 1, 0, none⟩) 1 1] 63)).alloc (.cells #[.int .i64 i] 3))).alloc (.cells #[.int .i64 1, .int .i64 1, .string ⟨#[47, 107]⟩, .string ⟨#[]⟩, .string ⟨#[]⟩, .int .i64 ((i : Int) + 1), .slice (some ⟨wr.heap.size + 1, 0, none⟩) 1 1] 63))) := S3.out.alloc _
        clear q1 hsz HW3 S3 hi0
        go_wp2_with (at_builtin; refine wpList_append_one (enc := OpD.cs) rfl _ _ 61 rfl 63 _ 7 96 Try.underlying61 infoO rfl ⟨1, ⟨#[47, 107]⟩, (i : Int) + 1, some ⟨wr.heap.size + 1, 0, none⟩, 1, 1⟩ rfl HAP.out ⟨wr.heap.size + 2, 0, none⟩ 1 rfl rfl NEWS.out (cs_one _) N1.out N2.out ?_)
        intro v' w6 h6 s6
        obtain ⟨a4, c4, rfl, -⟩ := rowA_slice h6
        have HL2 : Hid ((ops ++ [(⟨1, ⟨#[47, 107]⟩, (i : Int) + 1, some ⟨wr.heap.size + 1, 0, none⟩, 1, 1⟩ : OpD)]).length = i + 1) := by show _ = _; rw [List.length_append, HL.out]; rfl
        have HF : Hid (Holds w6 (rowL 63 7 OpD.cs (.slice a4 (i + 1) c4) (ops ++ [⟨1, ⟨#[47, 107]⟩, (i : Int) + 1, some ⟨wr.heap.size + 1, 0, none⟩, 1, 1⟩]) * (goneA (ops ++ [⟨1, ⟨#[47, 107]⟩, (i : Int) + 1, some ⟨wr.heap.size + 1, 0, none⟩, 1, 1⟩]) * all w))) := by
          rw [HL2.out] at h6
          refine h6.eqv ?_
          rw [goneA_app]
          simp only [goneA]
          rw [star_emp, show (i : Int) + 1 - 1 = i by omega]
          ac_rfl
        have HI2 : Hid (InstL (ops ++ [⟨1, ⟨#[47, 107]⟩, (i : Int) + 1, some ⟨wr.heap.size + 1, 0, none⟩, 1, 1⟩])) := instL_snoc HI.out _ ⟨rfl, rfl, by rw [HL.out], fun h => by rw [HL.out] at h; omega, fun _ => ⟨_, rfl, rfl⟩⟩
        have hl2 : (ops ++ [(⟨1, ⟨#[47, 107]⟩, (i : Int) + 1, some ⟨wr.heap.size + 1, 0, none⟩, 1, 1⟩ : OpD)]).length = i + 1 := HL2.out
        rw [hl2]
        have S6 : Hid (Sm w w6) := S4.out.trans s6
        clear h6 s6 HAP NEWS S4 HH HS hl2
        go_wp2_with fail
        go_roundw
        case rel => exact ⟨i + 1, a4, c4, _, by go_num, rfl, by omega, HL2.out, HI2.out, HF.out, S6.out⟩
        case measure => simp [intOf]; omega
    · obtain rfl : i = N := by omega
      obtain ⟨g, c', e1, -, hg, -, -⟩ := rowL_cell HH.out cs_len 0 (by rw [HL.out]; exact HN1)
      simp only [Value.slice.injEq] at e1
      obtain ⟨rfl, -, rfl⟩ := e1
      have HHa := HH
      have Sa := HS
      have FLEN : Hid ((ops.flatMap OpD.cs).length = i * 7) := by show _ = _; rw [flat_len, HL.out]
      have M1 : Hid (0 + i ≤ maxLen) := by show _ ≤ _; unfold maxLen; omega
      have M2 : Hid ((0 + i) * 96 ≤ 140737488355328) := by show _ ≤ _; omega
      have N1 : Hid (ops.length + 1 ≤ maxLen) := by show _ ≤ _; rw [HL.out]; unfold maxLen; omega
      have N2 : Hid ((ops.length + 1) * 96 ≤ 140737488355328) := by show _ ≤ _; rw [HL.out]; omega
      clear HH HS
      have A1a : Hid (Holds (wr.alloc (.cells #[] 63)) (rowA 63 7 (.slice (some ⟨wr.heap.size, 0, none⟩) 0 0) 0 [] * (rowL 63 7 OpD.cs (.slice (some ⟨g, 0, none⟩) i c) ops * (goneA ops * all w)))) := rowA_mk' (HHa.out.alloc (.cells #[] 63)) (Nat.le_refl _) (Nat.zero_le _) rfl rfl
      have NWa : Hid (∀ j u, (ops.flatMap OpD.cs)[j]? = some u → (wr.alloc (.cells #[] 63)).cell? ((⟨g, 0, none⟩ : Addr).add j) = some u) := row_cells HL.out A1a.out
      have T1a : Hid (Sm w (wr.alloc (.cells #[] 63))) := Sa.out.alloc _
      go_wp2_with (at_builtin; refine wpList_append_sep rfl _ _ 61 rfl 63 _ 7 96 Try.underlying61 infoO rfl rfl A1a.out ⟨g, 0, none⟩ i c (ops.flatMap OpD.cs) rfl FLEN.out NWa.out (flat_one _) M1.out M2.out ?_)
      intro v2 w2a h2 s2 hvv
      clear hvv
      have A2a : Hid (Holds w2a (rowL 63 7 OpD.cs v2 ops * (rowL 63 7 OpD.cs (.slice (some ⟨g, 0, none⟩) i c) ops * (goneA ops * all w)))) := row_copy HL.out h2
      have T2a : Hid (Sm w w2a) := T1a.out.trans s2
      have A3a : Hid (Holds (w2a.alloc (.cells #[.int .i64 0, .int .i64 1, .string ⟨#[47, 107]⟩, .string ⟨#[]⟩, .string ⟨#[]⟩, .int .i64 ((K : Int) + 1), .slice none 0 0] 63)) (rowL 63 7 OpD.cs v2 ops * (rowL 63 7 OpD.cs (.slice (some ⟨g, 0, none⟩) i c) ops * (goneA ops * all w)))) := (A2a.out.alloc _).right
      have T3a : Hid (Sm w (w2a.alloc (.cells #[.int .i64 0, .int .i64 1, .string ⟨#[47, 107]⟩, .string ⟨#[]⟩, .string ⟨#[]⟩, .int .i64 ((K : Int) + 1), .slice none 0 0] 63))) := T2a.out.alloc _
      clear A1a NWa T1a h2 s2 A2a T2a
      go_wp2_with (at_builtin; refine wpList_append_one (enc := OpD.cs) rfl _ _ 61 rfl 63 _ 7 96 Try.underlying61 infoO rfl (lkO ((K : Int) + 1)) rfl A3a.out ⟨w2a.heap.size, 0, none⟩ 1 rfl rfl (cells_new w2a _ 63 _ rfl) (cs_one _) N1.out N2.out ?_)
      intro v3 w3a h3 s3
      obtain ⟨g3a, c3a, rfl, io⟩ := isOps_of h3 (by simp)
      have gn := goneA_gone (h3.eqv (by ac_rfl : _ = goneA ops * (rowL 63 7 OpD.cs (.slice (some ⟨g3a, 0, none⟩) (ops ++ [lkO ((K : Int) + 1)]).length c3a) (ops ++ [lkO ((K : Int) + 1)]) * (rowL 63 7 OpD.cs (.slice (some ⟨g, 0, none⟩) i c) ops * all w))))
      have A4a : Hid (Holds w3a (rowL 63 7 OpD.cs (.slice (some ⟨g, 0, none⟩) i c) ops * (goneA ops * all w))) := h3.right
      have T4a : Hid (Sm w w3a) := T3a.out.trans s3
      have hln : (ops ++ [lkO ((K : Int) + 1)]).length = i + 1 := by rw [List.length_append, HL.out]; rfl
      have hl9 : (ops ++ [lkO ((K : Int) + 1)]).length ≤ 1000 := by omega
      obtain ⟨m, at', rr, ro, mle, hres, hat⟩ := runA (w0 := w3a) HI.out (by rw [HL.out]; exact HN16) (by rw [HL.out]; exact HN1) gn ((K : Int) + 1) (by omega)
      have ck := check_calls g3a 0 _ c3a m _ at' rr w3a rfl hl9 io ro mle hres
      rw [show (ops ++ [lkO ((K : Int) + 1)]).length = ops.length + 1 by simp] at ck
      have CK := Lib.hid ck
      clear ck
      rw [HL.out] at hat
      have RES : Hid ((((K : Int) + 1 == (i : Int)) = true ∧ (K + 1 == i) = true ∧ decide ((K : Int) + 1 < (i : Int)) = false ∧ decide (K + 1 < i) = false ∧ at' = 0 ∧ rr = 0) ∨ (((K : Int) + 1 == (i : Int)) = false ∧ (K + 1 == i) = false ∧ decide ((K : Int) + 1 < (i : Int)) = true ∧ decide (K + 1 < i) = true ∧ at' = i ∧ rr = 12)) := by
        by_cases hk : (K : Int) + 1 = i
        · rw [if_pos hk] at hat
          exact .inl ⟨by simpa using hk, by simp; omega, decide_eq_false (by omega), decide_eq_false (by omega), hat.1, hat.2⟩
        · rw [if_neg hk] at hat
          exact .inr ⟨by simpa using hk, by simp; omega, decide_eq_true (by omega), decide_eq_true (by omega), hat.1, hat.2⟩
      clear io gn hln hl9 h3 s3 A3a T3a ro mle hres hat
      go_wp2_with fail
      refine (CK.out).mono ?_
      rintro e w5a ⟨rfl, b5⟩
      have HHb : Hid (Holds w5a (rowL 63 7 OpD.cs (.slice (some ⟨g, 0, none⟩) i c) ops * (goneA ops * all w))) := A4a.out.grow b5
      have Sb : Hid (Sm w w5a) := T4a.out.trans (Sm.of_below b5)
      clear b5 CK A4a T4a
      rcases RES.out with ⟨e1, e2, e3, e4, rfl, rfl⟩ | ⟨e1, e2, e3, e4, rfl, rfl⟩
      all_goals
        have A1b : Hid (Holds (w5a.alloc (.cells #[] 63)) (rowA 63 7 (.slice (some ⟨w5a.heap.size, 0, none⟩) 0 0) 0 [] * (rowL 63 7 OpD.cs (.slice (some ⟨g, 0, none⟩) i c) ops * (goneA ops * all w)))) := rowA_mk' (HHb.out.alloc (.cells #[] 63)) (Nat.le_refl _) (Nat.zero_le _) rfl rfl
        have NWb : Hid (∀ j u, (ops.flatMap OpD.cs)[j]? = some u → (w5a.alloc (.cells #[] 63)).cell? ((⟨g, 0, none⟩ : Addr).add j) = some u) := row_cells HL.out A1b.out
        have T1b : Hid (Sm w (w5a.alloc (.cells #[] 63))) := Sb.out.alloc _
        go_wp2_with (at_builtin; refine wpList_append_sep rfl _ _ 61 rfl 63 _ 7 96 Try.underlying61 infoO rfl rfl A1b.out ⟨g, 0, none⟩ i c (ops.flatMap OpD.cs) rfl FLEN.out NWb.out (flat_one _) M1.out M2.out ?_)
        intro v2 w2b h2 s2 hvv
        clear hvv
        have A2b : Hid (Holds w2b (rowL 63 7 OpD.cs v2 ops * (rowL 63 7 OpD.cs (.slice (some ⟨g, 0, none⟩) i c) ops * (goneA ops * all w)))) := row_copy HL.out h2
        have T2b : Hid (Sm w w2b) := T1b.out.trans s2
        have A3b : Hid (Holds (w2b.alloc (.cells #[.int .i64 0, .int .i64 1, .string ⟨#[47, 107]⟩, .string ⟨#[]⟩, .string ⟨#[]⟩, .int .i64 0, .slice none 0 0] 63)) (rowL 63 7 OpD.cs v2 ops * (rowL 63 7 OpD.cs (.slice (some ⟨g, 0, none⟩) i c) ops * (goneA ops * all w)))) := (A2b.out.alloc _).right
        have T3b : Hid (Sm w (w2b.alloc (.cells #[.int .i64 0, .int .i64 1, .string ⟨#[47, 107]⟩, .string ⟨#[]⟩, .string ⟨#[]⟩, .int .i64 0, .slice none 0 0] 63))) := T2b.out.alloc _
        clear A1b NWb T1b h2 s2 A2b T2b
        go_wp2_with (at_builtin; refine wpList_append_one (enc := OpD.cs) rfl _ _ 61 rfl 63 _ 7 96 Try.underlying61 infoO rfl (lkO 0) rfl A3b.out ⟨w2b.heap.size, 0, none⟩ 1 rfl rfl (cells_new w2b _ 63 _ rfl) (cs_one _) N1.out N2.out ?_)
        intro v3 w3b h3 s3
        obtain ⟨g3b, c3b, rfl, io⟩ := isOps_of h3 (by simp)
        have gn := goneA_gone (h3.eqv (by ac_rfl : _ = goneA ops * (rowL 63 7 OpD.cs (.slice (some ⟨g3b, 0, none⟩) (ops ++ [lkO 0]).length c3b) (ops ++ [lkO 0]) * (rowL 63 7 OpD.cs (.slice (some ⟨g, 0, none⟩) i c) ops * all w))))
        have A4b : Hid (Holds w3b (rowL 63 7 OpD.cs (.slice (some ⟨g, 0, none⟩) i c) ops * (goneA ops * all w))) := h3.right
        have T4b : Hid (Sm w w3b) := T3b.out.trans s3
        have hln : (ops ++ [lkO 0]).length = i + 1 := by rw [List.length_append, HL.out]; rfl
        have hl9 : (ops ++ [lkO 0]).length ≤ 1000 := by omega
        obtain ⟨ro, mle, ob, hob, hrb⟩ := runB (w0 := w3b) HI.out (by rw [HL.out]; exact HN16) (by rw [HL.out]; exact HN1) gn
        have ck := check_calls g3b 0 _ c3b ops.length _ (i : Int) 13 w3b rfl hl9 io ro mle (.inr ⟨ob, hob, by rw [HL.out], hrb, by decide⟩)
        rw [show (ops ++ [lkO 0]).length = ops.length + 1 by simp] at ck
        have CK := Lib.hid ck
        clear ck
        clear io gn hln hl9 h3 s3 A3b T3b ro mle hob hrb RES
        go_wp2_with fail
        refine (CK.out).mono ?_
        rintro e w5b ⟨rfl, b5⟩
        have HHc : Hid (Holds w5b (rowL 63 7 OpD.cs (.slice (some ⟨g, 0, none⟩) i c) ops * (goneA ops * all w))) := A4b.out.grow b5
        have Sc : Hid (Sm w w5b) := T4b.out.trans (Sm.of_below b5)
        clear b5 CK A4b T4b
        have q1 := (HHc.out.alloc (.cells #[.int .i64 (i : Int)] 3)).alloc (.cells #[.int .i64 3, .int .i64 1, .string ⟨#[47]⟩, .string ⟨#[]⟩, .string ⟨#[]⟩, .int .i64 0, .slice (some ⟨w5b.heap.size, 0, none⟩) 1 1, .int .i64 0, .int .i64 1, .string ⟨#[47, 107]⟩, .string ⟨#[]⟩, .string ⟨#[]⟩, .int .i64 0, .slice none 0 0] 63)
        rw [World.size_alloc] at q1
        obtain ⟨nw, hnw⟩ : ∃ z, (puO w5b.heap.size 1).cs ++ (lkO 0).cs = z := ⟨_, rfl⟩
        have NWc : Hid (∀ j u, nw[j]? = some u → ((w5b.alloc (.cells #[.int .i64 (i : Int)] 3)).alloc (.cells #[.int .i64 3, .int .i64 1, .string ⟨#[47]⟩, .string ⟨#[]⟩, .string ⟨#[]⟩, .int .i64 0, .slice (some ⟨w5b.heap.size, 0, none⟩) 1 1, .int .i64 0, .int .i64 1, .string ⟨#[47, 107]⟩, .string ⟨#[]⟩, .string ⟨#[]⟩, .int .i64 0, .slice none 0 0] 63)).cell? ((⟨w5b.heap.size + 1, 0, none⟩ : Addr).add j) = some u) := by
          have h := cells_new (w5b.alloc (.cells #[.int .i64 (i : Int)] 3)) _ 63 nw (by rw [← hnw]; rfl : (#[.int .i64 3, .int .i64 1, .string ⟨#[47]⟩, .string ⟨#[]⟩, .string ⟨#[]⟩, .int .i64 0, .slice (some ⟨w5b.heap.size, 0, none⟩) 1 1, .int .i64 0, .int .i64 1, .string ⟨#[47, 107]⟩, .string ⟨#[]⟩, .string ⟨#[]⟩, .int .i64 0, .slice none 0 0] : Array Value).toList = nw)
          rw [World.size_alloc] at h
          exact h
        have nwl : Hid (nw.length = 2 * 7) := by show _ = _; rw [← hnw]; rfl
        have nw1 : Hid (∀ u ∈ nw, u.oneCell' = true) := by show ∀ u ∈ nw, _; rw [← hnw]; intro u hu; rcases List.mem_append.1 hu with h | h; exact cs_one _ u h; exact cs_one _ u h
        have HNW := Lib.hid hnw
        have A1c : Hid (Holds ((w5b.alloc (.cells #[.int .i64 (i : Int)] 3)).alloc (.cells #[.int .i64 3, .int .i64 1, .string ⟨#[47]⟩, .string ⟨#[]⟩, .string ⟨#[]⟩, .int .i64 0, .slice (some ⟨w5b.heap.size, 0, none⟩) 1 1, .int .i64 0, .int .i64 1, .string ⟨#[47, 107]⟩, .string ⟨#[]⟩, .string ⟨#[]⟩, .int .i64 0, .slice none 0 0] 63)) (rowA 63 7 (.slice (some ⟨g, 0, none⟩) i c) i (ops.flatMap OpD.cs) * (goneA ops * (pts w5b.heap.size (.cells #[.int .i64 (i : Int)] 3 (0, 0)) * all w)))) := by
          have h9 := (q1.eqv (by ac_rfl : _ = pts (w5b.heap.size + 1) (.cells #[.int .i64 3, .int .i64 1, .string ⟨#[47]⟩, .string ⟨#[]⟩, .string ⟨#[]⟩, .int .i64 0, .slice (some ⟨w5b.heap.size, 0, none⟩) 1 1, .int .i64 0, .int .i64 1, .string ⟨#[47, 107]⟩, .string ⟨#[]⟩, .string ⟨#[]⟩, .int .i64 0, .slice none 0 0] 63 (0, 0)) * (rowL 63 7 OpD.cs (.slice (some ⟨g, 0, none⟩) i c) ops * (goneA ops * (pts w5b.heap.size (.cells #[.int .i64 (i : Int)] 3 (0, 0)) * all w))))).right
          unfold rowL at h9
          rw [HL.out] at h9
          exact h9
        have T1c : Hid (Sm w ((w5b.alloc (.cells #[.int .i64 (i : Int)] 3)).alloc (.cells #[.int .i64 3, .int .i64 1, .string ⟨#[47]⟩, .string ⟨#[]⟩, .string ⟨#[]⟩, .int .i64 0, .slice (some ⟨w5b.heap.size, 0, none⟩) 1 1, .int .i64 0, .int .i64 1, .string ⟨#[47, 107]⟩, .string ⟨#[]⟩, .string ⟨#[]⟩, .int .i64 0, .slice none 0 0] 63))) := (Sc.out.alloc _).alloc _
        have M3 : Hid (i + 2 ≤ maxLen) := by show _ ≤ _; unfold maxLen; omega
        have M4 : Hid ((i + 2) * 96 ≤ 140737488355328) := by show _ ≤ _; omega
        clear q1 hnw HHc Sc
        go_wp2_with (at_builtin; refine wpList_append_sep rfl _ _ 61 rfl 63 _ 7 96 Try.underlying61 infoO rfl rfl A1c.out ⟨w5b.heap.size + 1, 0, none⟩ 2 2 nw rfl nwl.out NWc.out nw1.out M3.out M4.out ?_)
        intro v4 w6 h6 s6 hvv
        clear hvv
        rw [← HNW.out] at h6
        have h7 := row_two HL.out h6
        have hlc : (ops ++ [puO w5b.heap.size 1, lkO 0]).length = i + 2 := by rw [List.length_append, HL.out]; rfl
        obtain ⟨g6, c6, ev, io⟩ := isOps_of h7 (by rw [hlc]; omega)
        rw [hlc] at ev
        subst ev
        have T6 : Hid (Sm w w6) := T1c.out.trans s6
        have H7 := Lib.hid h7
        have gn := goneA_gone (h7.eqv (by ac_rfl : _ = goneA ops * (rowL 63 7 OpD.cs (.slice (some ⟨g6, 0, none⟩) (i + 2) c6) (ops ++ [puO w5b.heap.size 1, lkO 0]) * (pts w5b.heap.size (.cells #[.int .i64 (i : Int)] 3 (0, 0)) * all w))))
        have hcN := (h7.eqv (by ac_rfl : _ = pts w5b.heap.size (.cells #[.int .i64 (i : Int)] 3 (0, 0)) * (goneA ops * (rowL 63 7 OpD.cs (.slice (some ⟨g6, 0, none⟩) (i + 2) c6) (ops ++ [puO w5b.heap.size 1, lkO 0]) * all w)))).cell 0
        simp at hcN
        obtain ⟨ro, -⟩ := runC (w0 := w6) HI.out (by rw [HL.out]; exact HN16) (by rw [HL.out]; exact HN1) gn w5b.heap.size 1 (by rw [HL.out]; exact hcN)
        have CK := Lib.hid (check_calls g6 0 (i + 2) c6 (ops.length + 2) _ 0 0 w6 hlc (by omega) io ro (by rw [HL.out]; exact Nat.le_refl _) (.inl ⟨by rw [HL.out], rfl, rfl⟩))
        clear A1c NWc nwl nw1 T1c h6 s6 h7 io gn hcN ro HNW M3 M4
        go_wp2_with fail
        refine (CK.out).mono ?_
        rintro e w7 ⟨rfl, b7⟩
        have h8 := H7.out.grow b7
        have T7 : Hid (Sm w w7) := T6.out.trans (Sm.of_below b7)
        obtain ⟨g7, c7, ev, io⟩ := isOps_of h8 (by rw [hlc]; omega)
        rw [hlc] at ev
        simp only [Value.slice.injEq, Option.some.injEq, Addr.mk.injEq, and_true, true_and] at ev
        obtain ⟨rfl, rfl⟩ := ev
        have gn := goneA_gone (h8.eqv (by ac_rfl : _ = goneA ops * (rowL 63 7 OpD.cs (.slice (some ⟨g6, 0, none⟩) (i + 2) c6) (ops ++ [puO w5b.heap.size 1, lkO 0]) * (pts w5b.heap.size (.cells #[.int .i64 (i : Int)] 3 (0, 0)) * all w))))
        have hcN := (h8.eqv (by ac_rfl : _ = pts w5b.heap.size (.cells #[.int .i64 (i : Int)] 3 (0, 0)) * (goneA ops * (rowL 63 7 OpD.cs (.slice (some ⟨g6, 0, none⟩) (i + 2) c6) (ops ++ [puO w5b.heap.size 1, lkO 0]) * all w)))).cell 0
        simp at hcN
        obtain ⟨ro, rx⟩ := runC (w0 := w7) HI.out (by rw [HL.out]; exact HN16) (by rw [HL.out]; exact HN1) gn w5b.heap.size 1 (by rw [HL.out]; exact hcN)
        rw [HL.out] at ro rx
        have RC := Lib.hid (reached_calls g6 0 (i + 2) c6 _ w7 hlc (by omega) io ro rx)
        have H8 := Lib.hid h8
        clear CK b7 h8 H7 T6 io gn hcN ro rx
        go_wp2_with fail
        refine (RC.out).mono ?_
        rintro e w8 ⟨rfl, b8⟩
        have FIN : Hid (Below w.heap.size w w8) := Holds.below ((H8.out.grow b8).eqv (by ac_rfl : _ = (rowL 63 7 OpD.cs (.slice (some ⟨g6, 0, none⟩) (i + 2) c6) (ops ++ [puO w5b.heap.size 1, lkO 0]) * (goneA ops * pts w5b.heap.size (.cells #[.int .i64 (i : Int)] 3 (0, 0)))) * all w)) (T7.out.trans (Sm.of_below b8))
        clear RC b8 H8 T7
        go_wp2_with fail
        go_ret
        exact ⟨rfl, FIN.out⟩
#print axioms order_walk
end Go.Proofs.Ytefcinifaaablaa.Ord
