/-
  ChainNone, the walk.
-/
import Derived.Test.YtefcinifaaablaaChain3
import Derived.Test.YtefcinifaaablaaChain4
namespace Go.Proofs.Ytefcinifaaablaa.Chain
open Go.RowKit Go.Sep
open Go.Proofs.Ytefcinifaaablaa.Slab (isrow_at szOf szN szN_val Ar hdl ABlk newA newA_calls NewA X4 newBad liveA liveA_calls)
open Go.Proofs.Ytefcinifaaablaa.Ref15 (WfA ar_wf)
set_option maxRecDepth 100000
set_option linter.unusedVariables false
set_option linter.unusedSimpArgs false

theorem inv_new1 (s : Nat) (x : Int) (h : x = s) : Inv s (newA (X4 x x x x)) ⟨[], 0, 0, false, false⟩ 0 := by
  subst h
  refine ⟨⟨by simp, by simp, by simp, by simp, by simp, fun _ => rfl, fun h hh => by simp at hh⟩, rfl, rfl, by simp, by simp, fun d hd => ?_, fun d hd => ?_⟩
  · rw [sh_at (by simp [newA]; exact hd)]
    simp [newA, X4]
  · unfold lv
    rw [live_row (by simp [newA]; exact hd)]
    simp [newA, List.countP_replicate]

/-- what is free of four classes of one block each -/
def roomOf (A : List (List ABlk)) : Nat → Int
  | 0 => 0
  | k + 1 => roomOf A k + if lv A k = 0 then szOf k else 0
theorem app_none {A : List (List ABlk)} {K : Ch} {i : Nat} (W : WfA A) (I : Inv 1 A K i) (hi : i ≤ 1) (bs : List Int) (h0 : 0 < bs.length) (hb : bs.length ≤ 8192) :
    (∃ A' K', appA A K bs = ⟨A', K', 0⟩ ∧ K'.freed = false ∧ K'.long = K.long + bs.length ∧ bs.length ≤ roomOf A 4 + K.charge - K.long) ∨
    (∃ A', appA A K bs = ⟨A', K, 14⟩ ∧ (∀ d, d < 4 → lv A' d = lv A d) ∧ K.charge - K.long < bs.length) := by
  have k1 := I.ok.l0
  have k2 := I.ok.c0
  have k4 := I.lg
  unfold appA
  rw [if_neg (by rw [I.fr]; simp), if_neg (by rw [I.sd]; simp), if_neg (by omega)]
  rcases roomA_two W ((bs.length : Int) - (K.charge - K.long)) with ⟨A', l, e, w1, -, s1, l1, n1, c1, -⟩ | ⟨A', e, q1, w1, s1, l1⟩
  · rw [e, if_pos rfl]
    refine .inl ⟨_, _, rfl, I.fr, rfl, ?_⟩
    have hs := sizes_cnt l c1
    have hd : ∀ d, d < 4 → cnt l d ≤ (if lv A d = 0 then 1 else 0) := by
      intro d hd
      have h1 := lv_le (A := A') (d := d) (by rw [w1.len]; exact hd)
      have h2 := l1 d hd
      have h3 := s1 d
      have h4 := I.sh d hd
      split <;> omega
    have d0 := hd 0 (by omega)
    have d1 := hd 1 (by omega)
    have d2 := hd 2 (by omega)
    have d3 := hd 3 (by omega)
    have n2 : (bs.length : Int) - (K.charge - K.long) ≤ sizes l := n1
    simp only [roomOf]
    simp only [show szOf ((0 : Nat) : Int) = 64 from rfl, show szOf ((1 : Nat) : Int) = 256 from rfl, show szOf ((2 : Nat) : Int) = 1024 from rfl, show szOf ((3 : Nat) : Int) = 4096 from rfl]
    split at d0 <;> split at d1 <;> split at d2 <;> split at d3 <;> simp [*] <;> omega
  · rw [e, if_neg (by simp)]
    exact .inr ⟨A', rfl, l1, by omega⟩

theorem eqA4 (a b c d : Int) (w : World) : (Op.equalIn 10000 26 (.agg #[.int .i64 a, .int .i64 b, .int .i64 c, .int .i64 d]) (.agg #[.int .i64 a, .int .i64 b, .int .i64 c, .int .i64 d])).run Try.prog w = .ok true w := by
  have u3 := Try.underlying3
  have a3 := Try.isAgg3
  have z3 := Try.sizeOf3
  rw [show (10000 : Nat) = 9999 + 1 from rfl, Op.equalIn]
  simp only [Sem.run_bind, run_underlying Try.underlying26, Result.andThen_ok]
  simp only [Std.Legacy.Range.forIn_eq_forIn_range', Std.Legacy.Range.size, Nat.sub_zero, Nat.add_sub_cancel, Nat.div_one, List.range'_succ, List.range'_zero, List.forIn_cons, List.forIn_nil]
  go_simp

set_option maxHeartbeats 8000000 in
theorem none_walk (x y : Int) (w : World) :
    Calls Try.prog 3 #[.int .i64 x, .int .i64 y] w fun e w' => e = .returned (.bool true) ∧ Below w.heap.size w w' := by
  have NW := Lib.hid (newA_calls 1 1 1 1 (all w) w (holds_all w) (by simp [newBad, X4]))
  obtain ⟨n, hn, hn9, -⟩ := and_lo 10 (by decide) x
  obtain ⟨m, hm, hm9, -⟩ := and_lo 13 (by decide) y
  simp only [show (2 ^ 10 - 1 : Nat) = 1023 from rfl, show (2 ^ 13 - 1 : Nat) = 8191 from rfl, show (2 ^ 10 : Nat) = 1024 from rfl, show (2 ^ 13 : Nat) = 8192 from rfl] at hn hm hn9 hm9
  replace hn : bits .and .i64 x 1023 = n := hn
  replace hm : bits .and .i64 y 8191 = m := hm
  obtain ⟨M, hM, mw⟩ : ∃ M : Nat, M = m + 1 ∧ IntKind.i64.wrap (1 + (m : Int)) = (M : Int) := ⟨m + 1, rfl, by rw [IntWalk.i64_in _ (by omega)]; omega⟩
  have M0 : 0 < M := by omega
  have M9 : M ≤ 8192 := by omega
  clear hM
  go_enter Try.func3, Try.ntmps3
  go_wp2_with fail
  refine (NW.out).mono ?_
  rintro e w1 ⟨a, rfl, h1, s1⟩
  have I0 := Lib.hid (inv_new1 1 1 rfl)
  obtain ⟨A0, hA0⟩ : ∃ q, newA (X4 1 1 1 1) = q := ⟨_, rfl⟩
  rw [hA0] at h1 I0
  have NC := Lib.hid (new_calls a _ w1 h1)
  have S1 := Lib.hid s1
  clear NW s1 h1 hA0 hn hm mw
  go_wp2_with fail
  refine (NC.out).mono ?_
  rintro e w2 ⟨c, rfl, h2, s2⟩
  have H2 := Lib.hid h2
  have S2 := Lib.hid (S1.out.trans s2)
  have MK := run_make_u8 n (by omega)
  have HM := Lib.hid (H2.out.alloc (.cells (List.replicate n (Value.int .u8 0)).toArray 5))
  have SM := Lib.hid (S2.out.alloc (.cells (List.replicate n (Value.int .u8 0)).toArray 5))
  obtain ⟨A1, K, eA, IV', -, -⟩ := app_one (ar_wf (H2.out.eqv (star_left_comm _ _ _))) I0.out (by omega) (by omega) (List.replicate n 0) (by simp; omega)
  have AP := Lib.hid (append_calls c a _ A0 (pts w2.heap.size (.cells (List.replicate n (Value.int .u8 0)).toArray 5) * all w) (some ⟨w2.heap.size, 0, none⟩) n n (List.replicate n 0) _ I0.out.ok (bytes_zero _ n (by omega) _) (HM.out.eqv (by ac_rfl)))
  rw [eA] at AP
  have IV := Lib.hid IV'
  clear h2 s2 NC S1 H2 S2 IV' eA I0 HM
  go_wp2_with fail
  refine (AP.out).mono ?_
  rintro e w3 ⟨rfl, h3, s3⟩
  have H3 := Lib.hid ((h3.eqv (by ac_rfl : _ = pts w2.heap.size (.cells (List.replicate n (Value.int .u8 0)).toArray 5) * (chA c a K * (Ar a A1 * all w)))).right)
  have S3 := Lib.hid (SM.out.trans s3)
  clear h3 s3 AP SM MK
  have k1 := IV.out.ok.l0
  have k2 := IV.out.ok.l1
  have k3 := IV.out.ok.c0
  have k4 := IV.out.ok.c1
  have CQ : Hid (∀ wq, Below w3.heap.size w3 wq → Calls Try.prog 14 #[.pointer (some ⟨c, 0, none⟩)] wq fun e w' => e = .returned (.int .i64 K.charge) ∧ Below w3.heap.size w3 w') := by
    intro wq hq
    have := charge_calls c a K A1 (all w) wq (H3.out.grow hq)
    rw [IV.out.fr] at this
    exact this.mono fun e w' ⟨q1, q2⟩ => ⟨q1, hq.trans (q2.mono hq.size)⟩
  have LQ : Hid (∀ wq, Below w3.heap.size w3 wq → Calls Try.prog 13 #[.pointer (some ⟨c, 0, none⟩)] wq fun e w' => e = .returned (.int .i64 K.long) ∧ Below w3.heap.size w3 w') := by
    intro wq hq
    have := len_calls c a K A1 (all w) wq (H3.out.grow hq)
    rw [IV.out.fr] at this
    exact this.mono fun e w' ⟨q1, q2⟩ => ⟨q1, hq.trans (q2.mono hq.size)⟩
  have VQ : Hid (∀ (d : Nat) wq, Below w3.heap.size w3 wq → Calls Try.prog 15 #[.pointer (some ⟨a, 0, none⟩), .int .i64 d] wq fun e w' => e = .returned (.int .i64 (lv A1 d : Nat)) ∧ Below w3.heap.size w3 w') := by
    intro d wq hq
    have := liveA_calls a A1 (chA c a K * all w) wq d ((H3.out.grow hq).eqv (by ac_rfl))
    exact this.mono fun e w' ⟨q1, q2⟩ => ⟨q1, hq.trans (q2.mono hq.size)⟩
  obtain ⟨lg, hlg⟩ : ∃ q, K.long = q := ⟨_, rfl⟩
  obtain ⟨cg, hcg⟩ : ∃ q, K.charge = q := ⟨_, rfl⟩
  rw [hlg] at LQ k1 k2 k3 k4
  rw [hcg] at CQ k3 k4
  have HLG := Lib.hid hlg
  have HCG := Lib.hid hcg
  have LVL := Lib.hid (fun d (hd : d < 4) => IV.out.lv d hd)
  have v0 := LVL.out 0 (by omega)
  have v1 := LVL.out 1 (by omega)
  have v2 := LVL.out 2 (by omega)
  have v3 := LVL.out 3 (by omega)
  have B3 := Lib.hid (Below.refl w3.heap.size w3)
  clear hlg hcg
  go_wp2_with fail
  refine (LQ.out _ B3.out).mono ?_
  rintro e w4 ⟨rfl, hb⟩
  have B4 := Lib.hid hb
  clear hb B3
  go_wp2_with fail
  refine (CQ.out _ B4.out).mono ?_
  rintro e w5 ⟨rfl, hb⟩
  have B5 := Lib.hid hb
  clear hb B4
  go_wp2_with fail
  refine (VQ.out 0 _ B5.out).mono ?_
  rintro e w6 ⟨rfl, hb⟩
  have B6 := Lib.hid hb
  clear hb B5
  go_wp2_with fail
  refine (VQ.out 1 _ B6.out).mono ?_
  rintro e w7 ⟨rfl, hb⟩
  have B7 := Lib.hid hb
  clear hb B6
  go_wp2_with fail
  refine (VQ.out 2 _ B7.out).mono ?_
  rintro e w8 ⟨rfl, hb⟩
  have B8 := Lib.hid hb
  clear hb B7
  go_wp2_with fail
  refine (VQ.out 3 _ B8.out).mono ?_
  rintro e w9 ⟨rfl, hb⟩
  have B9 := Lib.hid hb
  clear hb B8
  go_wp2_with fail
  have CL : Hid (∀ k, k < 4 → (w9.alloc (.cells #[.int .i64 (lv A1 0 : Nat), .int .i64 (lv A1 1 : Nat), .int .i64 (lv A1 2 : Nat), .int .i64 (lv A1 3 : Nat)] 26)).cell? ⟨w9.heap.size, k, none⟩ = some (.int .i64 (lv A1 k : Nat))) := by
    intro k hk
    rw [World.cell?_alloc_at _ _ _ k rfl]
    have : k = 0 ∨ k = 1 ∨ k = 2 ∨ k = 3 := by omega
    rcases this with rfl | rfl | rfl | rfl <;> rfl
  have HX := Lib.hid ((H3.out.grow B9.out).alloc (.cells #[.int .i64 (lv A1 0 : Nat), .int .i64 (lv A1 1 : Nat), .int .i64 (lv A1 2 : Nat), .int .i64 (lv A1 3 : Nat)] 26))
  have SX := Lib.hid ((S3.out.grow B9.out).alloc (.cells #[.int .i64 (lv A1 0 : Nat), .int .i64 (lv A1 1 : Nat), .int .i64 (lv A1 2 : Nat), .int .i64 (lv A1 3 : Nat)] 26))
  obtain ⟨B, hB⟩ : ∃ q, w9.heap.size = q := ⟨_, rfl⟩
  obtain ⟨W9, hW9⟩ : ∃ q, w9.alloc (.cells #[.int .i64 (lv A1 0 : Nat), .int .i64 (lv A1 1 : Nat), .int .i64 (lv A1 2 : Nat), .int .i64 (lv A1 3 : Nat)] 26) = q := ⟨_, rfl⟩
  have hBl : B < W9.heap.size := by rw [← hW9, ← hB]; simp
  rw [hW9, hB] at HX CL
  rw [hW9] at SX ⊢
  rw [hB]
  clear hW9 hB CQ LQ VQ B9 H3 S3
  go_loopw [11, 12] (fun x y wl => ∃ k : Nat, k ≤ 4 ∧ y = .int .i64 k ∧ x = .int .i64 (roomOf A1 k) ∧ wl = W9) (fun _ y _ => 4 - (intOf y).toNat)
  case atStart => exact ⟨0, by omega, rfl, rfl, rfl⟩
  case round =>
    obtain ⟨k, hk, rfl, rfl, rfl⟩ := hrel
    have RB : Hid (∀ k, k ≤ 4 → 0 ≤ roomOf A1 k ∧ roomOf A1 k ≤ k * 4096) := by
      intro k hk
      induction k with
      | zero => simp [roomOf]
      | succ k ih =>
        have := ih (by omega)
        have := szOf_64 k (by omega)
        unfold roomOf
        split <;> omega
    by_cases hk4 : k < 4
    · have i0 : (0 : Int) ≤ (k : Int) := by omega
      have i1 : (k : Int) < 4 := by omega
      have i2 : decide ((k : Int) < 4) = true := by simpa using i1
      have cf := CL.out k hk4
      have RS : Hid (roomOf A1 (k + 1) = roomOf A1 k + if lv A1 k = 0 then szOf k else 0) := rfl
      obtain ⟨r0, r1⟩ := RB.out k hk
      have hs64 := szOf_64 k hk4
      have SZ := Lib.hid (fun w => Slab.sizes_calls (k : Int) w)
      obtain ⟨s, hs⟩ : ∃ q, szOf k = q := ⟨_, rfl⟩
      obtain ⟨v, hv⟩ : ∃ q, lv A1 k = q := ⟨_, rfl⟩
      obtain ⟨r, hr⟩ : ∃ q, roomOf A1 k = q := ⟨_, rfl⟩
      rw [hs] at SZ RS hs64
      rw [hv] at cf RS
      rw [hr] at RS r0 r1 ⊢
      clear hs hv hr
      by_cases hv0 : v = 0
      · subst hv0
        have RS2 : Hid (roomOf A1 (k + 1) = r + s) := RS.out
        have rw' : IntKind.i64.wrap (r + s) = r + s := IntWalk.i64_in _ (by omega)
        clear RS
        go_wp2_with fail
        refine (SZ.out _).mono ?_
        rintro e w' ⟨rfl, rfl⟩
        go_wp2_with fail
        go_roundw
        case rel => exact ⟨k + 1, by omega, by go_num, by rw [RS2.out], by first | trivial | rfl⟩
        case measure => simp [intOf]; omega
      · have RS2 : Hid (roomOf A1 (k + 1) = r) := by show _ = _; have := RS.out; rw [if_neg hv0] at this; omega
        have v9 : ((v : Int) == 0) = false := by simp; omega
        clear RS
        go_wp2_with fail
        go_roundw
        case rel => exact ⟨k + 1, by omega, by go_num, by rw [RS2.out], by first | trivial | rfl⟩
        case measure => simp [intOf]; omega
    · obtain rfl : k = 4 := by omega
      obtain ⟨r0, r1⟩ := RB.out 4 (by omega)
      have MK := run_make_u8 M (by omega)
      have HM := Lib.hid (HX.out.alloc (.cells (List.replicate M (Value.int .u8 0)).toArray 5))
      have SM := Lib.hid (SX.out.alloc (.cells (List.replicate M (Value.int .u8 0)).toArray 5))
      have TWO := app_none (ar_wf (HX.out.eqv (by ac_rfl : _ = Ar a A1 * (chA c a K * (pts B (.cells #[.int .i64 (lv A1 0 : Nat), .int .i64 (lv A1 1 : Nat), .int .i64 (lv A1 2 : Nat), .int .i64 (lv A1 3 : Nat)] 26) * all w))))) IV.out (by omega) (List.replicate M 0) (by simp; omega) (by simp; omega)
      obtain ⟨PB, hPB⟩ : ∃ q, pts B (.cells #[.int .i64 (lv A1 0 : Nat), .int .i64 (lv A1 1 : Nat), .int .i64 (lv A1 2 : Nat), .int .i64 (lv A1 3 : Nat)] 26) * all w = q := ⟨_, rfl⟩
      have AP := Lib.hid (append_calls c a K A1 (pts wr.heap.size (.cells (List.replicate M (Value.int .u8 0)).toArray 5) * PB) (some ⟨wr.heap.size, 0, none⟩) M M (List.replicate M 0) _ IV.out.ok (bytes_zero _ M (by omega) _) (by rw [← hPB]; exact HM.out.eqv (by ac_rfl)))
      rw [List.length_replicate, HLG.out, HCG.out] at TWO
      have HP := Lib.hid hPB
      have k0 := hBl
      clear RB CL hk hk4 hPB HX SX HM
      rcases TWO with ⟨A2, K2, eA, f2, l2, rm⟩ | ⟨A2, eA, lv2, rm⟩
      · rw [eA] at AP
        go_wp2_with fail
        refine (AP.out).mono ?_
        rintro e w10 ⟨rfl, h10, s10⟩
        have H10 := Lib.hid ((h10.eqv (by ac_rfl : _ = pts wr.heap.size (.cells (List.replicate M (Value.int .u8 0)).toArray 5) * (chA c a K2 * (Ar a A2 * PB)))).right)
        have S10 := Lib.hid (SM.out.trans s10)
        clear h10 s10 AP SM MK eA
        have VQ : Hid (∀ (d : Nat) wq, Below w10.heap.size w10 wq → Calls Try.prog 15 #[.pointer (some ⟨a, 0, none⟩), .int .i64 d] wq fun e w' => e = .returned (.int .i64 (lv A2 d : Nat)) ∧ Below w10.heap.size w10 w') := by
          intro d wq hq
          have := liveA_calls a A2 (chA c a K2 * PB) wq d ((H10.out.grow hq).eqv (by ac_rfl))
          exact this.mono fun e w' ⟨q1, q2⟩ => ⟨q1, hq.trans (q2.mono hq.size)⟩
        have LQ : Hid (∀ wq, Below w10.heap.size w10 wq → Calls Try.prog 13 #[.pointer (some ⟨c, 0, none⟩)] wq fun e w' => e = .returned (.int .i64 K2.long) ∧ Below w10.heap.size w10 w') := by
          intro wq hq
          have := len_calls c a K2 A2 PB wq (H10.out.grow hq)
          rw [f2] at this
          exact this.mono fun e w' ⟨q1, q2⟩ => ⟨q1, hq.trans (q2.mono hq.size)⟩
        have CQ : Hid (∀ wq, Below w10.heap.size w10 wq → Calls Try.prog 14 #[.pointer (some ⟨c, 0, none⟩)] wq fun e w' => e = .returned (.int .i64 K2.charge) ∧ Below w10.heap.size w10 w') := by
          intro wq hq
          have := charge_calls c a K2 A2 PB wq (H10.out.grow hq)
          rw [f2] at this
          exact this.mono fun e w' ⟨q1, q2⟩ => ⟨q1, hq.trans (q2.mono hq.size)⟩
        have FIN : Hid (∀ wq, Below w10.heap.size w10 wq → Below w.heap.size w wq) := by
          intro wq hq
          have h := H10.out.grow hq
          rw [← HP.out] at h
          exact Holds.below (h.eqv (by ac_rfl : _ = (chA c a K2 * (Ar a A2 * pts B (.cells #[.int .i64 (lv A1 0 : Nat), .int .i64 (lv A1 1 : Nat), .int .i64 (lv A1 2 : Nat), .int .i64 (lv A1 3 : Nat)] 26))) * all w)) (S10.out.grow hq)
        have BQ : Hid (∀ wq, Below w10.heap.size w10 wq → ∀ j, wq.cell? ⟨B, j, none⟩ = #[Value.int .i64 (lv A1 0 : Nat), .int .i64 (lv A1 1 : Nat), .int .i64 (lv A1 2 : Nat), .int .i64 (lv A1 3 : Nat)][j]?) := by
          intro wq hq j
          have h := H10.out.grow hq
          rw [← HP.out] at h
          exact (h.eqv (by ac_rfl : _ = pts B (.cells #[.int .i64 (lv A1 0 : Nat), .int .i64 (lv A1 1 : Nat), .int .i64 (lv A1 2 : Nat), .int .i64 (lv A1 3 : Nat)] 26) * (chA c a K2 * (Ar a A2 * all w)))).cell j
        have kb : B < w10.heap.size := by
          have h := H10.out
          rw [← HP.out] at h
          exact (h.eqv (by ac_rfl : _ = pts B (.cells #[.int .i64 (lv A1 0 : Nat), .int .i64 (lv A1 1 : Nat), .int .i64 (lv A1 2 : Nat), .int .i64 (lv A1 3 : Nat)] 26) * (chA c a K2 * (Ar a A2 * all w)))).lt
        have KB := Lib.hid kb
        have D9 := Lib.hid (Below.refl w10.heap.size w10)
        clear kb k0
        rw [l2] at LQ
        clear CQ BQ H10 HP
        go_wp2_with fail
        refine (VQ.out 0 _ D9.out).mono ?_
        rintro e x0 ⟨rfl, hb⟩
        have D0 := Lib.hid hb
        clear hb D9
        go_wp2_with fail
        refine (VQ.out 1 _ D0.out).mono ?_
        rintro e x1 ⟨rfl, hb⟩
        have D1 := Lib.hid hb
        clear hb D0
        go_wp2_with fail
        refine (VQ.out 2 _ D1.out).mono ?_
        rintro e x2 ⟨rfl, hb⟩
        have D2 := Lib.hid hb
        clear hb D1
        go_wp2_with fail
        refine (VQ.out 3 _ D2.out).mono ?_
        rintro e x3 ⟨rfl, hb⟩
        have D3 := Lib.hid hb
        clear hb D2
        have nw1 : IntKind.i64.wrap (lg + (M : Int)) = lg + (M : Int) := IntWalk.i64_in _ (by omega)
        have nw2 : IntKind.i64.wrap (roomOf A1 4 + cg) = roomOf A1 4 + cg := IntWalk.i64_in _ (by omega)
        have nw3 : IntKind.i64.wrap (roomOf A1 4 + cg - lg) = roomOf A1 4 + cg - lg := IntWalk.i64_in _ (by omega)
        have nd : decide ((M : Int) ≤ roomOf A1 4 + cg - lg) = true := by simpa using rm
        have LQ2 : Hid (∀ o, Calls Try.prog 13 #[.pointer (some ⟨c, 0, none⟩)] (x3.alloc o) fun e w' => e = .returned (.int .i64 (lg + (M : Int))) ∧ Below w10.heap.size w10 w') := fun o => LQ.out _ (D3.out.alloc (by have := D3.out.size; omega) o)
        clear rm
        go_wp2_with fail
        refine (LQ2.out _).mono ?_
        rintro e x4 ⟨rfl, hb⟩
        have D4 := Lib.hid hb
        clear hb
        go_wp2_with fail
        go_ret
        exact ⟨rfl, FIN.out _ D4.out⟩
      · rw [eA] at AP
        go_wp2_with fail
        refine (AP.out).mono ?_
        rintro e w10 ⟨rfl, h10, s10⟩
        have H10 := Lib.hid ((h10.eqv (by ac_rfl : _ = pts wr.heap.size (.cells (List.replicate M (Value.int .u8 0)).toArray 5) * (chA c a K * (Ar a A2 * PB)))).right)
        have S10 := Lib.hid (SM.out.trans s10)
        clear h10 s10 AP SM MK eA
        have VQ : Hid (∀ (d : Nat), d < 4 → ∀ wq, Below w10.heap.size w10 wq → Calls Try.prog 15 #[.pointer (some ⟨a, 0, none⟩), .int .i64 d] wq fun e w' => e = .returned (.int .i64 (lv A1 d : Nat)) ∧ Below w10.heap.size w10 w') := by
          intro d hd wq hq
          rw [← lv2 d hd]
          have := liveA_calls a A2 (chA c a K * PB) wq d ((H10.out.grow hq).eqv (by ac_rfl))
          exact this.mono fun e w' ⟨q1, q2⟩ => ⟨q1, hq.trans (q2.mono hq.size)⟩
        have LQ : Hid (∀ wq, Below w10.heap.size w10 wq → Calls Try.prog 13 #[.pointer (some ⟨c, 0, none⟩)] wq fun e w' => e = .returned (.int .i64 K.long) ∧ Below wq.heap.size wq w') := by
          intro wq hq
          have := len_calls c a K A2 PB wq (H10.out.grow hq)
          rw [IV.out.fr] at this
          exact this
        have CQ : Hid (∀ wq, Below w10.heap.size w10 wq → Calls Try.prog 14 #[.pointer (some ⟨c, 0, none⟩)] wq fun e w' => e = .returned (.int .i64 K.charge) ∧ Below wq.heap.size wq w') := by
          intro wq hq
          have := charge_calls c a K A2 PB wq (H10.out.grow hq)
          rw [IV.out.fr] at this
          exact this
        have FIN : Hid (∀ wq, Below w10.heap.size w10 wq → Below w.heap.size w wq) := by
          intro wq hq
          have h := H10.out.grow hq
          rw [← HP.out] at h
          exact Holds.below (h.eqv (by ac_rfl : _ = (chA c a K * (Ar a A2 * pts B (.cells #[.int .i64 (lv A1 0 : Nat), .int .i64 (lv A1 1 : Nat), .int .i64 (lv A1 2 : Nat), .int .i64 (lv A1 3 : Nat)] 26))) * all w)) (S10.out.grow hq)
        have BQ : Hid (∀ wq, Below w10.heap.size w10 wq → ∀ j, wq.cell? ⟨B, j, none⟩ = #[Value.int .i64 (lv A1 0 : Nat), .int .i64 (lv A1 1 : Nat), .int .i64 (lv A1 2 : Nat), .int .i64 (lv A1 3 : Nat)][j]?) := by
          intro wq hq j
          have h := H10.out.grow hq
          rw [← HP.out] at h
          exact (h.eqv (by ac_rfl : _ = pts B (.cells #[.int .i64 (lv A1 0 : Nat), .int .i64 (lv A1 1 : Nat), .int .i64 (lv A1 2 : Nat), .int .i64 (lv A1 3 : Nat)] 26) * (chA c a K * (Ar a A2 * all w)))).cell j
        have kb : B < w10.heap.size := by
          have h := H10.out
          rw [← HP.out] at h
          exact (h.eqv (by ac_rfl : _ = pts B (.cells #[.int .i64 (lv A1 0 : Nat), .int .i64 (lv A1 1 : Nat), .int .i64 (lv A1 2 : Nat), .int .i64 (lv A1 3 : Nat)] 26) * (chA c a K * (Ar a A2 * all w)))).lt
        have KB := Lib.hid kb
        have D9 := Lib.hid (Below.refl w10.heap.size w10)
        clear kb k0
        rw [HLG.out] at LQ
        rw [HCG.out] at CQ
        clear H10 HP lv2
        go_wp2_with fail
        refine (VQ.out 0 (by omega) _ D9.out).mono ?_
        rintro e x0 ⟨rfl, hb⟩
        have D0 := Lib.hid hb
        clear hb D9
        go_wp2_with fail
        refine (VQ.out 1 (by omega) _ D0.out).mono ?_
        rintro e x1 ⟨rfl, hb⟩
        have D1 := Lib.hid hb
        clear hb D0
        go_wp2_with fail
        refine (VQ.out 2 (by omega) _ D1.out).mono ?_
        rintro e x2 ⟨rfl, hb⟩
        have D2 := Lib.hid hb
        clear hb D1
        go_wp2_with fail
        refine (VQ.out 3 (by omega) _ D2.out).mono ?_
        rintro e x3 ⟨rfl, hb⟩
        have D3 := Lib.hid hb
        clear hb D2
        obtain ⟨W5, hW5⟩ : ∃ q, q = x3.alloc (.cells #[.int .i64 (lv A1 0 : Nat), .int .i64 (lv A1 1 : Nat), .int .i64 (lv A1 2 : Nat), .int .i64 (lv A1 3 : Nat)] 26) := ⟨_, rfl⟩
        have DW : Hid (Below w10.heap.size w10 W5) := by show Below _ _ _; rw [hW5]; exact D3.out.alloc (by have := D3.out.size; omega) _
        have NQ : Hid (∀ wq, Below W5.heap.size W5 wq → ∀ j, wq.cell? ⟨x3.heap.size, j, none⟩ = #[Value.int .i64 (lv A1 0 : Nat), .int .i64 (lv A1 1 : Nat), .int .i64 (lv A1 2 : Nat), .int .i64 (lv A1 3 : Nat)][j]?) := by
          intro wq hq j
          refine (hq.cell (p := ⟨x3.heap.size, j, none⟩) (by rw [hW5]; simp)).trans ?_
          rw [hW5, World.cell?_alloc_at _ _ _ j rfl]
        have nw1 : IntKind.i64.wrap (cg - lg) = cg - lg := IntWalk.i64_in _ (by omega)
        have nd : decide (cg - lg < (M : Int)) = true := by simpa using rm
        have HW5 := Lib.hid hW5
        clear rm hW5
        go_wp2_with fail
        rw [← HW5.out]
        have BX := Lib.hid (fun wq (hq : Below W5.heap.size W5 wq) j => BQ.out wq (DW.out.trans (hq.mono DW.out.size)) j)
        have D5 := Lib.hid (Below.refl W5.heap.size W5)
        refine (LQ.out _ DW.out).mono ?_
        rintro e x4 ⟨rfl, hb⟩
        have D4 := Lib.hid (DW.out.trans (hb.mono DW.out.size))
        have E4 := Lib.hid hb
        clear hb
        go_wp2_with fail
        refine (CQ.out _ D4.out).mono ?_
        rintro e x5 ⟨rfl, hb⟩
        have D5' := Lib.hid (D4.out.trans (hb.mono D4.out.size))
        have E5 := Lib.hid (E4.out.trans (hb.mono E4.out.size))
        clear hb D4 E4 D5
        have m0 := BX.out _ E5.out 0
        have m1 := BX.out _ E5.out 1
        have m2 := BX.out _ E5.out 2
        have m3 := BX.out _ E5.out 3
        have n0 := NQ.out _ E5.out 0
        have n1 := NQ.out _ E5.out 1
        have n2 := NQ.out _ E5.out 2
        have n3 := NQ.out _ E5.out 3
        have ml : B < x5.heap.size := Nat.lt_of_lt_of_le KB.out D5'.out.size
        have nl : x3.heap.size < x5.heap.size := by have := E5.out.size; rw [HW5.out] at this; simp at this; omega
        simp only [List.getElem?_toArray, List.getElem?_cons_zero, List.getElem?_cons_succ] at m0 m1 m2 m3 n0 n1 n2 n3
        clear VQ LQ CQ BQ BX NQ
        obtain ⟨q0, hq0⟩ : ∃ q, lv A1 0 = q := ⟨_, rfl⟩
        obtain ⟨q1, hq1⟩ : ∃ q, lv A1 1 = q := ⟨_, rfl⟩
        obtain ⟨q2, hq2⟩ : ∃ q, lv A1 2 = q := ⟨_, rfl⟩
        obtain ⟨q3, hq3⟩ : ∃ q, lv A1 3 = q := ⟨_, rfl⟩
        rw [hq0] at m0 n0
        rw [hq1] at m1 n1
        rw [hq2] at m2 n2
        rw [hq3] at m3 n3
        clear hq0 hq1 hq2 hq3
        have eq4 := eqA4 q0 q1 q2 q3 x5
        go_wp2_with fail
        go_ret
        exact ⟨rfl, FIN.out _ D5'.out⟩
#print axioms none_walk
end Go.Proofs.Ytefcinifaaablaa.Chain
