/-
  FramingReads, the walk.
-/
import Derived.Test.YtibhnkkfaochhaaDoorRDec5
import Derived.Deep.RegionWith
import Derived.Deep.DeepCutAuto
import Derived.Deep.CutBlock
import Derived.Deep.RegionLaw
import Derived.Lib.SmallJoins
namespace Go.Proofs.YtibhnkkfaochhaaDoor.Dec
open Go.RowKit Go.Sep
open Go.Proofs.YtibhnkkfaochhaaDoor.Tok
set_option maxRecDepth 100000
set_option linter.unusedVariables false
set_option linter.unusedSimpArgs false

theorem src_row {w : World} {g : Nat} {l : List UInt8} {fz : Nat × Nat} {F : Asr} : SrcB (pts g (.cells (bc l).toArray 5 fz) * F) (some ⟨g, 0, none⟩) l.length l := by
  refine ⟨rfl, fun _ => ⟨g, 0, rfl, fun A wq hq j hj => ?_⟩⟩
  rw [(hq.eqv (star_left_comm _ _ _)).cell, Nat.zero_add]
  simp [bc, hj]
theorem src_abc {w : World} {g : Nat} {F : Asr} : SrcB (pts g (.cells #[.int .u8 97, .int .u8 98, .int .u8 99] 5 (3, 4)) * F) (some ⟨g, 0, none⟩) 3 [97, 98, 99] := src_row (w := w) (l := [97, 98, 99]) (fz := (3, 4))
theorem size_u8 (wq : World) : (sizeOf (Tryd.prog.elem 22)).run Tryd.prog wq = .ok 1 wq := by
  have h : Tryd.prog.elem 22 = 5 := by kernel_rfl
  rw [h]
  simp [sizeOf]
  rfl
theorem slice_src {w : World} {a : Option Addr} {m c : Nat} {b : List UInt8} (h : ByS w a m c b) (at_ t : Nat) (h1 : at_ ≤ t) (h2 : t ≤ m) : ∃ a2 c2, (∀ wq : World, (Instr.slice 22 (.slice a m c) (some (.int .i64 (at_ : Int))) (some (.int .i64 (t : Int))) none).run Tryd.prog wq = .ok (.slice a2 (t - at_) c2) wq) ∧ ByS w a2 (t - at_) c2 ((b.drop at_).take (t - at_)) := by
  have hc := h.cap
  refine ⟨if c = at_ then a else a.map (·.add (at_ * 1)), c - at_, fun wq => ?_, ?_⟩
  · rw [run_slice_lh wq 22 a m c (by rw [Tryd.underlying22]; kernel_rfl) .i64 .i64 at_ t (by omega) (by omega) (by omega), size_u8]
    simp [sliced, Result.andThen]
  · by_cases hz : t - at_ = 0
    · rw [hz]
      exact ⟨by simp, Nat.zero_le _, fun h => absurd h (by omega)⟩
    · obtain ⟨g, o, rfl, -⟩ := h.cell (by omega)
      rw [if_neg (by omega)]
      have := bys_part h at_ (t - at_) (c - at_) (by omega) (by omega) (by omega)
      simpa [Addr.add_lit] using this
theorem quarter (a m i : Nat) (ha : a ≤ m) (hi : i < 5) : (m - a) * i / 4 ≤ m - a := by
  have : (m - a) * i ≤ (m - a) * 4 := Nat.mul_le_mul_left _ (by omega)
  omega
set_option maxHeartbeats 16000000 in
theorem reads_walk (k n : Int) (a : Option Addr) (len cap : Nat) (b : List UInt8) (w : World) (hb : ByS w a len cap b) (hV : Vars w) :
    Calls Tryd.prog 4 #[.int .i64 k, .int .i64 n, .slice a len cap] w fun e w' => e = .returned (.bool true) ∧ Below w.heap.size w w' := by
  have HW := Lib.hid (holds_all w)
  have HB := Lib.hid hb
  have HV := Lib.hid (keepV_all hV)
  have CAP := Lib.hid hb.cap
  clear hb hV
  go_enter Tryd.func4, Tryd.ntmps4
  go_upto_if 34 with (fail)
  go_cut [2] (fun x wc => ∃ m c : Nat, x = .slice a m c ∧ wc = w ∧ m ≤ 3000 ∧ Hid (ByS w a m c (b.take m)))
  case first =>
    by_cases h5 : 3000 < len
    · have e0 : decide ((3000 : Int) < (len : Int)) = true := by simp; omega
      have e1 : decide (3000 < len) = true := by simpa using h5
      have e2 : (3000 : Int) < (len : Int) := by omega
      have e3 : 3000 ≤ cap := by have := CAP.out; omega
      have e4 : (3000 : Int) ≤ (cap : Int) := by omega
      have h5' := Lib.hid h5
      go_wp2_with fail
      go_meet
      case rel => exact ⟨3000, cap, rfl, rfl, Nat.le_refl _, bys_cut HB.out 3000 cap (Nat.le_of_lt h5'.out) e3⟩
    · have e0 : decide ((3000 : Int) < (len : Int)) = false := by simp; omega
      have e1 : decide (3000 < len) = false := by simpa using h5
      have e2 : ¬ (3000 : Int) < (len : Int) := by omega
      have h5' : Hid (len ≤ 3000) := by show _ ≤ _; omega
      go_wp2_with fail
      go_meet
      case rel => exact ⟨len, cap, rfl, rfl, h5'.out, bys_cut HB.out len cap (Nat.le_refl _) CAP.out⟩
  case rest =>
    obtain ⟨m, c, rfl, rfl, m9, HB2⟩ := hcut
    obtain ⟨bs, hbs⟩ : ∃ q, b.take m = q := ⟨_, rfl⟩
    rw [hbs] at HB2
    clear HB CAP hbs
    by_cases hr : newR k n = 0
    · have N1 := Lib.hid (new_fine k n hr (all wc) wc HW.out)
      have N2 := Lib.hid (fun F wq hq => rnew_fine k n hr F wq hq)
      have HOK := Lib.hid (newR_ok k n hr)
      obtain ⟨S0, hS0⟩ : ∃ q, newD k.toNat n.toNat = q := ⟨_, rfl⟩
      rw [hS0] at N1 N2 HOK
      obtain ⟨K, hK⟩ : ∃ q, k.toNat = q := ⟨_, rfl⟩
      rw [hK] at N2
      clear hr hS0 hK
      go_wp2_with fail
      refine (N1.out).mono ?_
      rintro e w1 ⟨d1, rfl, h1, s1⟩
      have H1 := Lib.hid h1
      have S1 := Lib.hid s1
      clear h1 s1 N1
      go_wp2_with fail
      refine (N2.out _ _ H1.out).mono ?_
      rintro e w2 ⟨d2, rfl, h2, s2⟩
      have H2 := Lib.hid (h2.eqv (star_left_comm _ _ _ : _ = decA d1 S0 [] * (refA d2 K S0 * all wc)))
      have S2 := Lib.hid (S1.out.trans s2)
      clear h2 s2 N2 S1 H1
      go_wp2_with fail
      go_loopw [11, 12] (fun x11 x12 wl => ∃ (at_ i : Nat) (Sx : DS) (O : List UInt8), x11 = .int .i64 at_ ∧ x12 = .int .i64 i ∧ at_ ≤ m ∧ i ≤ 5 ∧ Hid (OkS Sx) ∧ Hid (Holds wl (decA d1 Sx O * (refA d2 K Sx * all wc))) ∧ Hid (Sm wc wl)) (fun _ x12 _ => 5 - (intOf x12).toNat)
      case atStart => exact ⟨0, 0, S0, [], rfl, rfl, Nat.zero_le _, by omega, HOK.out, H2.out, S2.out⟩
      case round =>
        clear H2 S2 HOK
        obtain ⟨at_, i, Sx, O, rfl, rfl, hat, hi, HOK1, HH, HS⟩ := hrel
        by_cases hi5 : i < 5
        · have hq := quarter at_ m i hat hi5
          have z1 : IntKind.i64.wrap ((m : Int) - (at_ : Int)) = ((m - at_ : Nat) : Int) := by rw [IntWalk.i64_in _ (by omega)]; omega
          have hb2 : (m - at_) * i ≤ 3000 * 5 := Nat.mul_le_mul (by omega) (by omega)
          obtain ⟨P, hP⟩ : ∃ q, (m - at_) * i = q := ⟨_, rfl⟩
          have z2 : IntKind.i64.wrap (((m - at_ : Nat) : Int) * (i : Int)) = (P : Int) := by rw [← Int.natCast_mul, hP]; exact IntWalk.i64_in _ (by omega)
          rw [hP] at hq hb2
          obtain ⟨r1, hr1⟩ : ∃ q, m - at_ = q := ⟨_, rfl⟩
          rw [hr1] at z1 z2
          obtain ⟨Q, hQ⟩ : ∃ q, P / 4 = q := ⟨_, rfl⟩
          have z3 : Int.tdiv (P : Int) 4 = (Q : Int) := by rw [← hQ]; rfl
          have z3' : (P : Int) / 4 = (Q : Int) := by rw [← hQ]; rfl
          rw [hQ] at hq
          have z3w : IntKind.i64.wrap (Q : Int) = (Q : Int) := IntWalk.i64_in _ (by omega)
          obtain ⟨t, ht⟩ : ∃ t, at_ + Q = t := ⟨_, rfl⟩
          have z4 : IntKind.i64.wrap ((at_ : Int) + (Q : Int)) = (t : Int) := by rw [IntWalk.i64_in _ (by omega)]; omega
          obtain ⟨a2, c2, SL, hP2⟩ := slice_src HB2.out at_ t (by omega) (by omega)
          obtain ⟨q2, hq2⟩ : ∃ q, t - at_ = q := ⟨_, rfl⟩
          rw [hq2] at SL hP2
          obtain ⟨b2, hb2'⟩ : ∃ q, (bs.drop at_).take q2 = q := ⟨_, rfl⟩
          rw [hb2'] at hP2
          have HP := Lib.hid hP2
          have FX := Lib.hid (feed_calls d1 Sx O a2 q2 c2 b2 (refA d2 K Sx * all wc) (bys_src HP.out _) (by omega) (keepV_star HV.out) HOK1.out wr HH.out)
          rw [FeedC1] at FX
          have HU := feed_used b2 Sx
          rw [hP2.len] at HU
          have HOK2 := feed_ok b2 Sx HOK1.out
          obtain ⟨⟨Sy, Oy, uy⟩, hF⟩ : ∃ q, feedL Sx b2 = q := ⟨_, rfl⟩
          rw [hF] at FX HU HOK2
          simp only at HU HOK2
          have HF := Lib.hid hF
          have HOKY := Lib.hid HOK2
          have z5 : IntKind.i64.wrap ((at_ : Int) + (uy : Int)) = ((at_ + uy : Nat) : Int) := by rw [IntWalk.i64_in _ (by omega)]; omega
          have z6 : IntKind.i64.wrap ((i : Int) + 1) = (i : Int) + 1 := IntWalk.i64_in _ (by omega)
          have t0 : decide ((i : Int) < 5) = true := decide_eq_true (by omega)
          have t0' : decide (i < 5) = true := decide_eq_true hi5
          have hau : Hid (at_ + uy ≤ m) := by show _ ≤ _; omega
          have hqb : Hid (q2 ≤ 100000) := by show _ ≤ _; omega
          clear hP hr1 hQ ht hq2 hb2' hP2 hF HOK2 HU hq hb2 hat hi
          go_wp2_with fail
          refine (FX.out).mono ?_
          rintro e w3 ⟨go, rfl, h5, s5⟩
          simp only at h5 ⊢
          have FY := Lib.hid (rfeed_calls d2 K Sx a2 q2 c2 b2 ((pts go (.cells (bc Oy).toArray 5 (0, 0)) * decA d1 Sy Oy) * all wc) (bys_src HP.out _) hqb.out HOK1.out w3 (h5.eqv (by ac_rfl)))
          unfold RFeedC at FY
          rw [HF.out] at FY
          have S3 := Lib.hid (HS.out.trans s5)
          clear h5 s5 FX HH HS
          go_wp2_with fail
          refine (FY.out).mono ?_
          rintro e w4 ⟨v, rfl, h6, s6⟩
          simp only at h6 ⊢
          have CV := conv_rowA h6
          have CX := conv_blk (c := Oy.length) (h6.eqv (by ac_rfl : _ = pts go (.cells (bc Oy).toArray 5 (0, 0)) * (rowA 5 1 v Oy.length (bc Oy) * (refA d2 K Sy * (decA d1 Sy Oy * all wc)))))
          have H6 := Lib.hid ((h6.eqv (by ac_rfl : _ = (rowA 5 1 v Oy.length (bc Oy) * pts go (.cells (bc Oy).toArray 5 (0, 0))) * (decA d1 Sy Oy * (refA d2 K Sy * all wc)))).right)
          have S4 := Lib.hid (S3.out.trans s6)
          obtain ⟨gs, hgs⟩ : ∃ q, sb Oy = q := ⟨_, rfl⟩
          rw [hgs] at CV CX
          clear h6 s6 FY S3 hgs
          go_wp2_with fail
          go_roundw
          case rel => exact ⟨at_ + uy, i + 1, Sy, Oy, by go_num, by go_num, hau.out, by omega, HOKY.out, H6.out, S4.out⟩
          case measure => simp [intOf]; omega
        · obtain rfl : i = 5 := by omega
          have E1 := Lib.hid (end_calls d1 Sx O (refA d2 K Sx * all wc) wr HH.out)
          have E2 := Lib.hid (fun F wq hq => rend_calls d2 K Sx F wq hq)
          have HST := Lib.hid (end_stop Sx)
          obtain ⟨Sz, hSz⟩ : ∃ q, endD Sx = q := ⟨_, rfl⟩
          rw [hSz] at E1 E2 HST
          have FS := Lib.hid (feed_stop HST.out)
          clear hSz HH hi5 hi
          go_wp2_with fail
          refine (E1.out).mono ?_
          rintro e w1 ⟨rfl, h1, s1⟩
          have H1 := Lib.hid (h1.eqv (star_left_comm _ _ _))
          have S1 := Lib.hid (HS.out.trans s1)
          clear h1 s1 E1 HS
          go_wp2_with fail
          refine (E2.out _ _ H1.out).mono ?_
          rintro e w2 ⟨rfl, h2, s2⟩
          have h3 := (h2.eqv (by ac_rfl : _ = decA d1 Sz O * (refA d2 K Sz * all wc))).alloc (.cells #[.int .u8 97, .int .u8 98, .int .u8 99] 5 (3, 4))
          have FX := Lib.hid (feed_calls d1 Sz O (some ⟨w2.heap.size, 0, none⟩) 3 3 [97, 98, 99] (pts w2.heap.size (.cells #[.int .u8 97, .int .u8 98, .int .u8 99] 5 (3, 4)) * (refA d2 K Sz * all wc)) (src_abc (w := w2)) (by omega) (keepV_star (keepV_star HV.out)) (.inl HST.out) _ (h3.eqv (by ac_rfl)))
          rw [FeedC1, FS.out] at FX
          have S2 := Lib.hid ((S1.out.trans s2).alloc (.cells #[.int .u8 97, .int .u8 98, .int .u8 99] 5 (3, 4)))
          clear h2 s2 h3 H1 S1 E2
          have CB1 := Lib.run_convert_bytes_const (P := Tryd.prog) w2 22 5 #[.int .u8 97, .int .u8 98, .int .u8 99] 3 3 Tryd.underlying22 Tryd.underlying5
          go_wp2_with fail
          refine (FX.out).mono ?_
          rintro e w3 ⟨go, rfl, h5, s5⟩
          simp only [List.length_nil, Int.natCast_zero] at h5 ⊢
          have h6 := (h5.eqv (by ac_rfl : _ = (pts go (.cells (bc []).toArray 5 (0, 0)) * (decA d1 Sz [] * pts w2.heap.size (.cells #[.int .u8 97, .int .u8 98, .int .u8 99] 5 (3, 4)))) * (refA d2 K Sz * all wc))).right.alloc (.cells #[.int .u8 97, .int .u8 98, .int .u8 99] 5 (3, 4))
          have FY := Lib.hid (rfeed_calls d2 K Sz (some ⟨w3.heap.size, 0, none⟩) 3 3 [97, 98, 99] (pts w3.heap.size (.cells #[.int .u8 97, .int .u8 98, .int .u8 99] 5 (3, 4)) * all wc) (src_abc (w := w3)) (by omega) (.inl HST.out) _ (h6.eqv (by ac_rfl)))
          unfold RFeedC at FY
          rw [FS.out] at FY
          have S3 := Lib.hid ((S2.out.trans s5).alloc (.cells #[.int .u8 97, .int .u8 98, .int .u8 99] 5 (3, 4)))
          clear h5 s5 h6 FX S2
          have CB2 := Lib.run_convert_bytes_const (P := Tryd.prog) w3 22 5 #[.int .u8 97, .int .u8 98, .int .u8 99] 3 3 Tryd.underlying22 Tryd.underlying5
          go_wp2_with fail
          refine (FY.out).mono ?_
          rintro e w4 ⟨v, rfl, h7, s7⟩
          simp only [List.length_nil, Int.natCast_zero] at h7 ⊢
          have FIN := Lib.hid (Holds.below (A := _ * (_ * _)) (h7.eqv (by ac_rfl : _ = (rowA 5 1 v 0 (bc []) * (refA d2 K Sz * pts w3.heap.size (.cells #[.int .u8 97, .int .u8 98, .int .u8 99] 5 (3, 4)))) * all wc)) (S3.out.trans s7))
          clear h7 s7 FY S3
          go_wp2_with fail
          go_ret
          exact ⟨rfl, FIN.out⟩
    · have N1 := Lib.hid (new_err k n hr (all wc) wc HW.out)
      have N2 := Lib.hid (fun wq => rnew_err k n hr wq)
      obtain ⟨r, hr'⟩ : ∃ q, newR k n = q := ⟨_, rfl⟩
      rw [hr'] at N1 N2 hr
      clear hr'
      go_wp2_with fail
      refine (N1.out).mono ?_
      rintro e w1 ⟨rfl, b1⟩
      have B1 := Lib.hid b1
      clear b1
      go_wp2_with fail
      refine (N2.out _).mono ?_
      rintro e w2 ⟨rfl, rfl⟩
      clear N1 N2
      go_wp2_with fail
      go_ret
      exact ⟨rfl, B1.out⟩
#print axioms reads_walk
end Go.Proofs.YtibhnkkfaochhaaDoor.Dec
