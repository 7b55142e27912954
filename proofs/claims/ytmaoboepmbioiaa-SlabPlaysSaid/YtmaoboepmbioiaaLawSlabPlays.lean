/-
  SlabPlays, the walk.
-/
import Derived.Test.YtmaoboepmbioiaaSlabSame
import Derived.Test.YtmaoboepmbioiaaSlabFl
import Derived.Deep.DeepCutAuto
import Derived.Deep.CutBlock
import Derived.Deep.RegionHeld3
namespace Go.Proofs.Ytmaoboepmbioiaa.Ref15
open Go.RowKit Go.Sep
open Go.Proofs.Ytmaoboepmbioiaa.Slab (szOf szN szN_val zeros clsFor Ar hdl hdlV Src u8s ReadA ABlk X4 newBad newA newBad_zero allocA holdA dropA writeA readA heldA liveA)
set_option maxRecDepth 100000
set_option linter.unusedVariables false
set_option linter.unusedSimpArgs false

def playS (xa ya : Nat) (X : Nat → Int) (A : List (List ABlk)) (L : List RBlk) (v : Value) (T : List (Int × Int × Int)) (w : World) : Asr := Ar xa A * (refA ya X L * (rowL 34 3 hEnc v T * all w))
def RAl (ya : Nat) (X : Nat → Int) (ra : List (List ABlk)) (L : List RBlk) (rc ri rg re : Int) (F : Asr) (w : World) (e : Ending) (w' : World) : Prop :=
  e = .returned (.tuple #[.int .i64 rc, .int .i64 ri, .int .i64 rg, .int .i64 re]) ∧ ∃ L2, RelS ra L2 ∧ L2.length ≤ L.length + 1 ∧ Holds w' (refA ya X L2 * F) ∧ Sm w w'
structure Inv (X : Nat → Int) (A : List (List ABlk)) (L : List RBlk) (T : List (Int × Int × Int)) (k : Nat) : Prop where
  r : RelS A L
  x : Lens X A
  l : L.length ≤ k
  t : T.length ≤ k

set_option maxHeartbeats 8000000 in
theorem plays_walk (x0 x1 x2 x3 : Int) (ao : Option Addr) (len cap : Nat) (w : World) (hacts : IsRecs w 9 (QAct w) ao len cap) :
    Calls Try.prog 3 #[.agg #[.int .i64 x0, .int .i64 x1, .int .i64 x2, .int .i64 x3], .slice ao len cap] w fun e w' => e = .returned (.bool true) ∧ Below w.heap.size w w' := by
  have ACTS := Lib.hid hacts
  have RN := Lib.hid (fun (F : Asr) (w : World) h => rnewA_calls x0 x1 x2 x3 F w h)
  have HX : Hid (newBad (X4 x0 x1 x2 x3) = 0 → ∀ c, c < 4 → 0 ≤ X4 x0 x1 x2 x3 c ∧ X4 x0 x1 x2 x3 c ≤ 4096) := fun h c hc => newBad_zero h c hc
  have SZ3 : Hid (∀ w, Calls Try.prog 14 #[.int .i64 3] w fun e w' => e = .returned (.int .i64 4096) ∧ w = w') := by
    intro w; have := Slab.sizes_calls 3 w; exact this
  by_cases hb : newBad (X4 x0 x1 x2 x3) = 0
  rotate_left
  · have NW := Lib.hid (fun w => Slab.new_bad x0 x1 x2 x3 w hb)
    have HB := Lib.hid hb
    obtain ⟨nb, hnb⟩ : ∃ q, newBad (X4 x0 x1 x2 x3) = q := ⟨_, rfl⟩
    have HNB := Lib.hid hnb
    simp only [hnb] at NW
    have hne : (nb != nb) = false := by simp
    clear hacts hb hnb HX ACTS
    go_enter Try.func3, Try.ntmps3
    go_wp2_with fail
    refine (NW.out _).mono ?_
    rintro e w1 ⟨rfl, b1⟩
    have B1 : Hid (Below w.heap.size w w1) := ((Below.refl _ w).alloc (Nat.le_refl _) _).trans (b1.mono (by simp))
    have bl1 : w.heap.size < w1.heap.size := by have := b1.size; simp at this; omega
    have cc : ∀ k, k < 4 → w1.cell? ⟨w.heap.size, k, none⟩ = (w.alloc (.cells #[.int .i64 x0, .int .i64 x1, .int .i64 x2, .int .i64 x3] 22)).cell? ⟨w.heap.size, k, none⟩ := fun k _ => b1.cell (p := ⟨w.heap.size, k, none⟩) (by simp)
    have c0 := (cc 0 (by omega)).trans (by rw [World.cell?_alloc_new])
    have c1 := (cc 1 (by omega)).trans (by rw [World.cell?_alloc_new])
    have c2 := (cc 2 (by omega)).trans (by rw [World.cell?_alloc_new])
    have c3 := (cc 3 (by omega)).trans (by rw [World.cell?_alloc_new])
    simp at c0 c1 c2 c3
    clear b1 cc NW
    go_wp2_with fail
    refine (RN.out emp _ (Holds.emp _)).mono ?_
    rintro e w2 (⟨-, rfl, b2⟩ | ⟨h0, -⟩)
    rotate_left
    · exact absurd h0 HB.out
    have B2 : Hid (Below w.heap.size w w2) := B1.out.trans (b2.mono (by omega))
    rw [HNB.out]
    clear b2 RN
    go_wp2_with (go_at_call 14; refine (SZ3.out _).mono ?_; rintro e w' ⟨rfl, rfl⟩)
    go_ret
    exact ⟨rfl, B2.out⟩
  have HXX := Lib.hid (HX.out hb)
  have NW := Lib.hid (fun (F : Asr) (w : World) h => Slab.newA_calls x0 x1 x2 x3 F w h hb)
  have HA0 := Lib.hid (holds_all w)
  obtain ⟨X, hX⟩ : ∃ q, X4 x0 x1 x2 x3 = q := ⟨_, rfl⟩
  rw [hX] at HXX NW RN
  have HB : Hid (newBad X = 0) := by show _ = _; rw [← hX]; exact hb
  clear hacts hb HX hX
  go_enter Try.func3, Try.ntmps3
  go_wp2_with fail
  refine (NW.out _ _ (HA0.out.alloc _)).mono ?_
  rintro e w1 ⟨xa, rfl, k1, s1⟩
  have hk1 := k1.eqv (star_left_comm _ _ _)
  have c0 := hk1.cell 0
  have c1 := hk1.cell 1
  have c2 := hk1.cell 2
  have c3 := hk1.cell 3
  have cl := hk1.lt
  simp at c0 c1 c2 c3
  have K1 := Lib.hid k1
  have S1 := Lib.hid (((Sm.refl w).alloc _).trans s1)
  clear k1 s1 hk1 NW
  go_wp2_with fail
  refine (RN.out _ _ K1.out).mono ?_
  rintro e w2 (⟨h0, -, -⟩ | ⟨-, ya, rfl, k2, s2⟩)
  · exact absurd HB.out h0
  have H2 : Hid (Holds w2 (playS xa ya X (newA X) [] (.slice none 0 0) [] w)) := by
    show Holds _ _
    have h := rowL_nil (T := 34) (sz := 3) (enc := hEnc) k2
    have h := h.eqv (by ac_rfl : _ = pts w.heap.size _ * (Ar xa (newA X) * (refA ya X [] * (rowL 34 3 hEnc (.slice none 0 0) [] * all w))))
    exact h.right
  have S2 := Lib.hid (S1.out.trans s2)
  have I0 : Hid (Inv X (newA X) [] [] 0) := ⟨rel_new X HXX.out, lens_new X, Nat.le_refl _, Nat.le_refl _⟩
  clear k2 s2 RN K1 S1
  go_wp2_with (go_at_call 14; refine (SZ3.out _).mono ?_; rintro e w' ⟨rfl, rfl⟩)
  clear SZ3 c0 c1 c2 c3 cl
  go_loopw [9, 10] (fun tv x wr => ∃ (k : Nat) (A : List (List ABlk)) (L : List RBlk) (T : List (Int × Int × Int)), k ≤ len ∧ k ≤ 150 ∧ x = .int .i64 k ∧ Hid (Inv X A L T k) ∧ Hid (Holds wr (playS xa ya X A L tv T w)) ∧ Hid (Sm w wr)) (fun _ x _ => len - (intOf x).toNat)
  case atStart => exact ⟨0, _, _, _, Nat.zero_le _, by omega, rfl, I0.out, H2.out, S2.out⟩
  case round =>
    clear H2 S2 I0
    obtain ⟨k, A, L, T, hk, hk2, rfl, I, HH, HS⟩ := hrel
    by_cases hkl : k < len ∧ k < 150
    · obtain ⟨hka, hkb⟩ := hkl
      obtain ⟨ob, oo, rfl, hlc, hob, hrec⟩ := ACTS.out (by omega)
      obtain ⟨cs, -, ⟨⟨kd, nn, kk, at_, f0, f1, f2, own, so, sl, sc, bs⟩, rfl, OKA⟩, hc⟩ := hrec k hka
      have hbel := Holds.below (HH.out.eqv (by unfold playS; ac_rfl : _ = (Ar xa A * (refA ya X L * rowL 34 3 hEnc _ T)) * all w)) HS.out
      have d0 : wr.cell? ⟨ob, oo + k * 9, none⟩ = some (.int .i64 kd) := (hbel.cell (p := ⟨ob, oo + k * 9, none⟩) hob).trans (hc 0 _ rfl)
      have d1 : wr.cell? ⟨ob, oo + k * 9 + 1, none⟩ = some (.int .i64 nn) := (hbel.cell (p := ⟨ob, oo + k * 9 + 1, none⟩) hob).trans (hc 1 _ rfl)
      have d2 : wr.cell? ⟨ob, oo + k * 9 + 2, none⟩ = some (.int .i64 kk) := (hbel.cell (p := ⟨ob, oo + k * 9 + 2, none⟩) hob).trans (hc 2 _ rfl)
      have d3 : wr.cell? ⟨ob, oo + k * 9 + 3, none⟩ = some (.int .i64 at_) := (hbel.cell (p := ⟨ob, oo + k * 9 + 3, none⟩) hob).trans (hc 3 _ rfl)
      have d4 : wr.cell? ⟨ob, oo + k * 9 + 4, none⟩ = some (.int .i64 f0) := (hbel.cell (p := ⟨ob, oo + k * 9 + 4, none⟩) hob).trans (hc 4 _ rfl)
      have d5 : wr.cell? ⟨ob, oo + k * 9 + 5, none⟩ = some (.int .i64 f1) := (hbel.cell (p := ⟨ob, oo + k * 9 + 5, none⟩) hob).trans (hc 5 _ rfl)
      have d6 : wr.cell? ⟨ob, oo + k * 9 + 6, none⟩ = some (.int .i64 f2) := (hbel.cell (p := ⟨ob, oo + k * 9 + 6, none⟩) hob).trans (hc 6 _ rfl)
      have d7 : wr.cell? ⟨ob, oo + k * 9 + 7, none⟩ = some (.bool own) := (hbel.cell (p := ⟨ob, oo + k * 9 + 7, none⟩) hob).trans (hc 7 _ rfl)
      have d8 : wr.cell? ⟨ob, oo + k * 9 + 8, none⟩ = some (.slice so sl sc) := (hbel.cell (p := ⟨ob, oo + k * 9 + 8, none⟩) hob).trans (hc 8 _ rfl)
      have OKB : Hid (Src w so sl bs ∧ (∀ x ∈ bs, 0 ≤ x ∧ x < 256)) := ⟨OKA.src, OKA.byte⟩
      have ccap : sl ≤ sc := OKA.cap
      have cbig : sc ≤ 9223372036854775807 := by have := OKA.big; unfold maxLen at this; exact Nat.le_trans this (by omega)
      have k0 : (0 : Int) ≤ (k : Int) := by omega
      have k1 : (k : Int) < (len : Int) := by omega
      have q2 : decide ((k : Int) < 150) = true := by simp; omega
      have q3 : decide (k < 150) = true := by simp; omega
      have ob' : ob < wr.heap.size := Nat.lt_of_lt_of_le hob HS.out.size
      obtain ⟨aot, capt, htv, hcapt⟩ := rowA_slice (HH.out.eqv (by unfold playS; ac_rfl : _ = rowL 34 3 hEnc _ T * (Ar xa A * (refA ya X L * all w))))
      obtain ⟨n, hn⟩ : ∃ q, T.length = q := ⟨_, rfl⟩
      have HN := Lib.hid hn
      rw [hn] at htv hcapt
      subst htv
      have HA := Lib.hid ((HH.out.alloc (.cells #[.int .i64 kd, .int .i64 nn, .int .i64 kk, .int .i64 at_, .int .i64 f0, .int .i64 f1, .int .i64 f2, .bool own, .slice so sl sc] 37)).alloc (.cells #[.int .i64 f0, .int .i64 f1, .int .i64 f2] 34))
      rw [World.size_alloc] at HA
      clear hbel hc hrec hob OKA hn
      go_upto_region 13 with (fail)
      have SA := Lib.hid ((HS.out.alloc (.cells #[.int .i64 kd, .int .i64 nn, .int .i64 kk, .int .i64 at_, .int .i64 f0, .int .i64 f1, .int .i64 f2, .bool own, .slice so sl sc] 37)).alloc (.cells #[.int .i64 f0, .int .i64 f1, .int .i64 f2] 34))
      obtain ⟨B, hB⟩ : ∃ q, wr.heap.size = q := ⟨_, rfl⟩
      rw [hB] at HA
      rw [hB]
      obtain ⟨W1, hW1⟩ : ∃ q, (wr.alloc (.cells #[.int .i64 kd, .int .i64 nn, .int .i64 kk, .int .i64 at_, .int .i64 f0, .int .i64 f1, .int .i64 f2, .bool own, .slice so sl sc] 37)).alloc (.cells #[.int .i64 f0, .int .i64 f1, .int .i64 f2] 34) = q := ⟨_, rfl⟩
      rw [hW1] at HA SA ⊢
      clear hW1 hB HH HS d0 d1 d2 d3 d4 d5 d6 d7 d8 ob'
      have z0 := HA.out.cell 0
      have z1 := HA.out.cell 1
      have z2 := HA.out.cell 2
      have zl := HA.out.lt
      have zf0 := HA.out.frozen 0
      have zf1 := HA.out.frozen 1
      have zf2 := HA.out.frozen 2
      have hy := HA.out.eqv (star_left_comm _ _ _)
      have y2 := hy.cell 2
      have y7 := hy.cell 7
      have yl := hy.lt
      simp at z0 z1 z2 y2 y7
      clear hy
      go_cut [76] (fun x wc => ∃ bb : Bool, x = .bool bb ∧ wc = W1 ∧ Hid (bb = true → 0 < n))
      case first =>
        as_aux_lemma =>
          clear z0 z1 z2 zf0 zf1 zf2
          cases own with
          | true =>
            go_wp2_with fail
            go_meet
            case rel => exact ⟨false, rfl, rfl, fun h => by simp at h⟩
          | false =>
            by_cases hn0 : 0 < n
            · have e0 : decide ((0 : Int) < (n : Int)) = true := by simp; omega
              have e0n : decide (0 < n) = true := by simp; omega
              have hn1 : Hid (0 < n) := hn0
              clear hn0
              go_wp2_with fail
              go_meet
              case rel => exact ⟨true, rfl, rfl, fun _ => hn1.out⟩
            · have e0 : decide ((0 : Int) < (n : Int)) = false := by simp; omega
              have e0n : decide (0 < n) = false := by simp; omega
              go_wp2_with fail
              go_meet
              case rel => exact ⟨false, rfl, rfl, fun h => by simp at h⟩
      case rest =>
      obtain ⟨bb, rfl, rfl, HBB⟩ := hcut
      go_upto_if 76 with (fail)
      go_cut [] (fun wc => ∃ (h0 h1 h2 : Int), Hid (Holds wc (pts (B + 1) (.cells #[.int .i64 h0, .int .i64 h1, .int .i64 h2] 34) * (pts B (.cells #[.int .i64 kd, .int .i64 nn, .int .i64 kk, .int .i64 at_, .int .i64 f0, .int .i64 f1, .int .i64 f2, .bool own, .slice so sl sc] 37) * playS xa ya X A L (.slice aot n capt) T w))) ∧ Hid (Sm w wc))
      case first =>
        as_aux_lemma =>
          cases bb with
          | false =>
            go_wp2_with fail
            go_meet
            case rel => exact ⟨_, _, _, HA.out, SA.out⟩
          | true =>
            have hn0 : 0 < n := HBB.out rfl
            obtain ⟨q, hq⟩ : ∃ q, Int.tmod kk (n : Int) = q := ⟨_, rfl⟩
            have hq1 : q < (n : Int) := by rw [← hq]; exact Int.tmod_lt_of_pos kk (by omega)
            have hq2 : -(n : Int) < q := by rw [← hq]; exact Int.lt_tmod_of_pos kk (by omega)
            obtain ⟨j, hj⟩ := Int.eq_ofNat_of_zero_le (Int.emod_nonneg (q + (n : Int)) (show (n : Int) ≠ 0 by omega))
            have hj1 : (j : Int) < (n : Int) := by rw [← hj]; exact Int.emod_lt_of_pos _ (by omega)
            have hj2 : Int.tmod (q + (n : Int)) (n : Int) = j := by rw [Int.tmod_eq_emod_of_nonneg (by omega)]; exact hj
            have hjl : j < T.length := by rw [HN.out]; omega
            have hyT := HA.out.eqv (by unfold playS; ac_rfl : _ = rowL 34 3 hEnc (.slice aot n capt) T * (pts (B + 1) (.cells #[.int .i64 f0, .int .i64 f1, .int .i64 f2] 34) * (pts B (.cells #[.int .i64 kd, .int .i64 nn, .int .i64 kk, .int .i64 at_, .int .i64 f0, .int .i64 f1, .int .i64 f2, .bool own, .slice so sl sc] 37) * (Ar xa A * (refA ya X L * all w)))))
            obtain ⟨g, cap2, e1, -, hg, hrc, -⟩ := rowL_cell hyT hEnc_len j hjl
            simp at e1
            obtain ⟨rfl, -⟩ := e1
            have r0 := hrc 0 (by omega)
            have r1 := hrc 1 (by omega)
            have r2 := hrc 2 (by omega)
            obtain ⟨⟨t0, t1, t2⟩, ht⟩ : ∃ q, T[j] = q := ⟨_, rfl⟩
            rw [ht] at r0 r1 r2
            simp only [hEnc, Nat.add_zero, List.getElem?_cons_zero, List.getElem?_cons_succ] at r0 r1 r2
            have hst := ((HA.out.store 0 (.int .i64 t0)).store 1 (.int .i64 t1)).store 2 (.int .i64 t2)
            have HST := Lib.hid hst
            have SST := Lib.hid (((SA.out.setCell ⟨B + 1, 0, none⟩ (.int .i64 t0)).setCell ⟨B + 1, 1, none⟩ (.int .i64 t1)).setCell ⟨B + 1, 2, none⟩ (.int .i64 t2))
            have n0 : ¬ ((n : Int) = 0) := by omega
            have n0b : ((n : Int) == 0) = false := by simp; omega
            have n0n : ¬ (n = 0) := by omega
            have j0 : (0 : Int) ≤ (j : Int) := by omega
            have n9 : n ≤ 150 := by have := I.out.t; have := HN.out; omega
            clear hst hyT hrc ht hjl hj
            go_wp2_with fail
            go_meet
            case rel => exact ⟨t0, t1, t2, HST.out, SST.out⟩
      case rest =>
        clear HA SA z0 z1 z2 zl zf0 zf1 zf2 y2 y7 yl
        obtain ⟨h0, h1, h2, HC, SC⟩ := hcut
        have hy := HC.out.eqv (star_left_comm _ _ _)
        have y8 := hy.cell 8
        have yl := hy.lt
        simp at y8
        clear hy
        go_upto_if 95 with (fail)
        obtain ⟨W2, hW2⟩ : ∃ q, wc = q := ⟨_, rfl⟩
        rw [hW2] at HC SC y8 yl ⊢
        clear hW2
        go_cut [13] (fun x wc => ∃ (sl' sc' : Nat) (bs' : List Int), x = .slice so sl' sc' ∧ sl' ≤ 5000 ∧ wc = W2 ∧ Hid (Src w so sl' bs' ∧ (∀ x ∈ bs', 0 ≤ x ∧ x < 256)))
        case first =>
          as_aux_lemma =>
            by_cases hb5 : 5000 < sl
            · have e0 : decide ((5000 : Int) < (sl : Int)) = true := by simp; omega
              have e0n : decide (5000 < sl) = true := by simp; omega
              have e1 : (5000 : Int) ≤ (sc : Int) := by omega
              have e1n : 5000 ≤ sc := by omega
              have OK2 : Hid (Src w so 5000 (bs.take 5000) ∧ (∀ x ∈ bs.take 5000, 0 ≤ x ∧ x < 256)) := ⟨src_take OKB.out.1 5000 (by omega), fun x hx => OKB.out.2 x (List.mem_of_mem_take hx)⟩
              obtain ⟨b5, hb5'⟩ : ∃ q, bs.take 5000 = q := ⟨_, rfl⟩
              rw [hb5'] at OK2
              clear hb5'
              have hb5i : (5000 : Int) < (sl : Int) := by omega
              go_wp2_with fail
              go_meet
              case rel => exact ⟨5000, _, b5, rfl, Nat.le_refl _, rfl, OK2.out⟩
            · have e0 : decide ((5000 : Int) < (sl : Int)) = false := by simp; omega
              have e0n : decide (5000 < sl) = false := by simp; omega
              have hb5i : ¬ (5000 : Int) < (sl : Int) := by omega
              have hb5m : sl ≤ 5000 := by omega
              have hb5h := Lib.hid hb5m
              go_wp2_with fail
              go_meet
              case rel => exact ⟨sl, sc, bs, rfl, hb5h.out, rfl, OKB.out⟩
        case rest =>
          obtain ⟨s2, c2, b2, rfl, hs5, rfl, OK2⟩ := hcut
          have hy := HC.out.eqv (star_left_comm _ _ _)
          have y0 := hy.cell 0
          simp at y0
          clear hy OKB
          go_upto_block 2 with (fail)
          go_cut [9] (fun tv wd => ∃ (A2 : List (List ABlk)) (L2 : List RBlk) (T2 : List (Int × Int × Int)), Hid (Inv X A2 L2 T2 (k + 1)) ∧ Hid (Holds wd (pts (B + 1) (.cells #[.int .i64 h0, .int .i64 h1, .int .i64 h2] 34) * (pts B (.cells #[.int .i64 kd, .int .i64 nn, .int .i64 kk, .int .i64 at_, .int .i64 f0, .int .i64 f1, .int .i64 f2, .bool own, .slice so sl sc] 37) * playS xa ya X A2 L2 tv T2 w))) ∧ Hid (Sm w wd))
          case first =>
            as_aux_lemma =>
              obtain ⟨PW, hPW⟩ : ∃ q, pts (B + 1) (.cells #[.int .i64 h0, .int .i64 h1, .int .i64 h2] 34) * (pts B (.cells #[.int .i64 kd, .int .i64 nn, .int .i64 kk, .int .i64 at_, .int .i64 f0, .int .i64 f1, .int .i64 f2, .bool own, .slice so sl sc] 37) * (rowL 34 3 hEnc (.slice aot n capt) T * all w)) = q := ⟨_, rfl⟩
              have HPW := Lib.hid hPW
              have HX : Hid (Holds wc (Ar xa A * (refA ya X L * PW))) := by
                show Holds _ _
                rw [← hPW]
                exact HC.out.eqv (by unfold playS; ac_rfl)
              have PC : Hid (∀ (wq : World) (G : Asr), Holds wq (G * PW) → (B + 1 < wq.heap.size ∧ wq.cell? ⟨B + 1, 0, none⟩ = some (.int .i64 h0) ∧ wq.cell? ⟨B + 1, 1, none⟩ = some (.int .i64 h1) ∧ wq.cell? ⟨B + 1, 2, none⟩ = some (.int .i64 h2)) ∧ (B < wq.heap.size ∧ wq.cell? ⟨B, 0, none⟩ = some (.int .i64 kd) ∧ wq.cell? ⟨B, 1, none⟩ = some (.int .i64 nn) ∧ wq.cell? ⟨B, 3, none⟩ = some (.int .i64 at_))) := by
                intro wq G h
                rw [← hPW] at h
                have ha := h.eqv (by ac_rfl : _ = pts (B + 1) (.cells #[.int .i64 h0, .int .i64 h1, .int .i64 h2] 34) * (G * (pts B (.cells #[.int .i64 kd, .int .i64 nn, .int .i64 kk, .int .i64 at_, .int .i64 f0, .int .i64 f1, .int .i64 f2, .bool own, .slice so sl sc] 37) * (rowL 34 3 hEnc (.slice aot n capt) T * all w))))
                have hb := h.eqv (by ac_rfl : _ = pts B (.cells #[.int .i64 kd, .int .i64 nn, .int .i64 kk, .int .i64 at_, .int .i64 f0, .int .i64 f1, .int .i64 f2, .bool own, .slice so sl sc] 37) * (G * (pts (B + 1) (.cells #[.int .i64 h0, .int .i64 h1, .int .i64 h2] 34) * (rowL 34 3 hEnc (.slice aot n capt) T * all w))))
                have a0 := ha.cell 0
                have a1 := ha.cell 1
                have a2 := ha.cell 2
                have b0 := hb.cell 0
                have b1 := hb.cell 1
                have b3 := hb.cell 3
                simp at a0 a1 a2 b0 b1 b3
                exact ⟨⟨ha.lt, a0, a1, a2⟩, hb.lt, b0, b1, b3⟩
              have SRC : Hid (∀ (wq : World) (G : Asr), Holds wq (G * PW) → Src wq so s2 b2) := by
                intro wq G h
                rw [← hPW] at h
                exact src_all (G := G * (pts (B + 1) (.cells #[.int .i64 h0, .int .i64 h1, .int .i64 h2] 34) * (pts B (.cells #[.int .i64 kd, .int .i64 nn, .int .i64 kk, .int .i64 at_, .int .i64 f0, .int .i64 f1, .int .i64 f2, .bool own, .slice so sl sc] 37) * rowL 34 3 hEnc (.slice aot n capt) T))) (h.eqv (by ac_rfl)) OK2.out.1
              obtain ⟨⟨zl, z0, z1, z2⟩, zl2, v0, v1, v3⟩ := PC.out wc (Ar xa A * refA ya X L) (HX.out.eqv (by ac_rfl))
              have hbl := OK2.out.1.len
              clear hPW HC y0 y8 yl
              by_cases t0 : kd = 0
              · subst t0
                as_aux_lemma =>
                  have RA := Lib.hid (fun loc => rel_alloc I.out.r I.out.x nn loc)
                  have AX := Lib.hid (Slab.allocA_calls xa A (refA ya X L * PW) nn wc HX.out)
                  obtain ⟨r, hr⟩ : ∃ q, allocA A nn = q := ⟨_, rfl⟩
                  simp only [hr] at RA AX
                  obtain ⟨ra, ⟨rc, ri, rg⟩, re⟩ := r
                  have AY : Hid (∀ wq F, Holds wq (refA ya X L * F) → Calls Try.prog 16 #[.pointer (some ⟨ya, 0, none⟩), .int .i64 nn] wq (RAl ya X ra L rc ri rg re F wq)) := by
                    intro wq F h
                    refine (ralloc_calls ya X L nn F wq HXX.out (by have := I.out.l; omega) h).mono ?_
                    rintro e w' ⟨loc, rfl, h1, h2⟩
                    obtain ⟨e1, e2, e3, -⟩ := RA.out loc
                    simp only at e1 e2 e3
                    simp only [Prod.mk.injEq] at e1
                    refine ⟨by rw [← e1.1, ← e1.2.1, ← e1.2.2, ← e2], _, e3, allocL_len X L nn loc, h1, h2⟩
                  have LX : Hid (Lens X ra) := (RA.out 0).2.2.2
                  clear hr RA hbl
                  go_wp2_with fail
                  refine (AX.out).mono ?_
                  rintro e w2 ⟨rfl, h2, s2⟩
                  simp only [hdlV, hdl]
                  have S2 := Lib.hid (SC.out.trans s2)
                  have H2 : Hid (Holds w2 (refA ya X L * (Ar xa ra * PW))) := h2.eqv (star_left_comm _ _ _)
                  obtain ⟨⟨-, -, -, -⟩, p2, p0, p1, p3⟩ := PC.out w2 (Ar xa ra * refA ya X L) (h2.eqv (by ac_rfl))
                  obtain ⟨B3, hB3⟩ : ∃ q, w2.heap.size = q := ⟨_, rfl⟩
                  have H3 : Hid (Holds (w2.alloc (.cells #[.int .i64 rc, .int .i64 ri, .int .i64 rg] 34)) (refA ya X L * (pts B3 (.cells #[.int .i64 rc, .int .i64 ri, .int .i64 rg] 34) * (Ar xa ra * PW)))) := by
                    show Holds _ _
                    rw [← hB3]
                    exact (H2.out.alloc _).eqv (star_left_comm _ _ _)
                  have HB3 := Lib.hid hB3
                  clear h2 s2 AX H2 hB3
                  go_wp2_with fail
                  refine (AY.out _ _ H3.out).mono ?_
                  rintro e w3 ⟨rfl, L2, R2, l2, h3, s3⟩
                  have hq := h3.eqv (by ac_rfl : _ = pts B3 (.cells #[.int .i64 rc, .int .i64 ri, .int .i64 rg] 34) * (refA ya X L2 * (Ar xa ra * PW)))
                  have b0 := hq.cell 0
                  have b1 := hq.cell 1
                  have b2 := hq.cell 2
                  have bl := hq.lt
                  simp at b0 b1 b2
                  have S3 : Hid (Sm w w3) := (S2.out.alloc _).trans s3
                  have GF : Hid (Inv X ra L2 (T ++ [(rc, ri, rg)]) (k + 1)) := ⟨R2, LX.out, by have := I.out.l; omega, by have := I.out.t; simp; omega⟩
                  have HAP : Hid (Holds (w3.alloc (.cells #[.int .i64 rc, .int .i64 ri, .int .i64 rg] 34)) (rowL 34 3 hEnc (.slice aot n capt) T * (pts (B + 1) (.cells #[.int .i64 h0, .int .i64 h1, .int .i64 h2] 34) * (pts B (.cells #[.int .i64 0, .int .i64 nn, .int .i64 kk, .int .i64 at_, .int .i64 f0, .int .i64 f1, .int .i64 f2, .bool own, .slice so sl sc] 37) * (Ar xa ra * (refA ya X L2 * all w)))))) := by
                    show Holds _ _
                    have h := ((hq.right).alloc (.cells #[.int .i64 rc, .int .i64 ri, .int .i64 rg] 34)).right
                    rw [← HPW.out] at h
                    exact h.eqv (by ac_rfl)
                  have N1 : Hid (T.length + 1 ≤ maxLen) := by show _ ≤ _; have := I.out.t; unfold maxLen; omega
                  have N2 : Hid ((T.length + 1) * 24 ≤ 140737488355328) := by show _ ≤ _; have := I.out.t; omega
                  rw [HB3.out]
                  have x0 : (rc != rc) = false := by simp
                  have x1 : (ri != ri) = false := by simp
                  have x2 : (rg != rg) = false := by simp
                  have x3 : (re != re) = false := by simp
                  clear hq h3 s3 R2 l2 AY H3 S2 p2 p0 p1 p3 PC SRC HX I zl zl2 z0 z1 z2 v0 v1 v3
                  go_wp2_with (at_builtin; refine wpList_append_one (enc := hEnc) rfl _ _ 32 rfl 34 (.agg #[.int .i64 0, .int .i64 0, .int .i64 0]) 3 24 Try.underlying32 infoH rfl (rc, ri, rg) rfl HAP.out ⟨w3.heap.size, 0, none⟩ 1 rfl rfl (cells_new w3 #[.int .i64 rc, .int .i64 ri, .int .i64 rg] 34 _ rfl) (by simp [hEnc, Value.oneCell']) N1.out N2.out ?_)
                  intro v' w4 h4 s4
                  have HT : Hid (Holds w4 (pts (B + 1) (.cells #[.int .i64 h0, .int .i64 h1, .int .i64 h2] 34) * (pts B (.cells #[.int .i64 0, .int .i64 nn, .int .i64 kk, .int .i64 at_, .int .i64 f0, .int .i64 f1, .int .i64 f2, .bool own, .slice so sl sc] 37) * playS xa ya X ra L2 v' (T ++ [(rc, ri, rg)]) w))) := h4.eqv (by unfold playS; ac_rfl)
                  have SF : Hid (Sm w w4) := (S3.out.alloc _).trans s4
                  clear h4 s4 HAP S3
                  go_wp2_with fail
                  go_meet
                  case rel => exact ⟨_, _, _, GF.out, HT.out, SF.out⟩
              by_cases t1 : kd = 1
              · subst t1
                as_aux_lemma =>
                  have RL := Lib.hid (rel_hold I.out.r h0 h1 h2)
                  have LX := Lib.hid (lens_hold I.out.x h0 h1 h2)
                  have LL := Lib.hid (holdL_len L h0 h1 h2)
                  have TXX : Hid (∀ wq, Holds wq (Ar xa A * (refA ya X L * PW)) → Calls Try.prog 17 #[.pointer (some ⟨xa, 0, none⟩), hdl h0 h1 h2] wq fun e w' => e = .returned (.int .i64 (holdA A h0 h1 h2).e) ∧ Holds w' (Ar xa (holdA A h0 h1 h2).A * (refA ya X L * PW)) ∧ Sm wq w') := fun wq h => Slab.holdA_calls xa A _ h0 h1 h2 wq h
                  obtain ⟨ra, hra⟩ : ∃ q, (holdA A h0 h1 h2).A = q := ⟨_, rfl⟩
                  obtain ⟨re, hre⟩ : ∃ q, (holdA A h0 h1 h2).e = q := ⟨_, rfl⟩
                  simp only [hra, hre] at TXX RL LX
                  have TYY : Hid (∀ wq, Holds wq (refA ya X L * (Ar xa ra * PW)) → Calls Try.prog 18 #[.pointer (some ⟨ya, 0, none⟩), .int .i64 h0, .int .i64 h1, .int .i64 h2] wq fun e w' => e = .returned (.int .i64 (holdL L h0 h1 h2).e) ∧ Holds w' (refA ya X (holdL L h0 h1 h2).L * (Ar xa ra * PW)) ∧ Sm wq w') := fun wq h => hold_calls ya X L _ h0 h1 h2 wq h
                  obtain ⟨rl, hrl⟩ : ∃ q, (holdL L h0 h1 h2).L = q := ⟨_, rfl⟩
                  have hrle : (holdL L h0 h1 h2).e = re := RL.out.1
                  simp only [hrl] at TYY RL LL
                  simp only [hrle] at TYY
                  have TX : Hid (∀ wq, Holds wq (Ar xa A * (refA ya X L * PW)) → Calls Try.prog 17 #[.pointer (some ⟨xa, 0, none⟩), hdl h0 h1 h2] wq fun e w' => e = .returned (.int .i64 re) ∧ Holds w' (refA ya X L * (Ar xa ra * PW)) ∧ Sm wq w' ∧ (w'.cell? ⟨B + 1, 0, none⟩ = some (.int .i64 h0) ∧ w'.cell? ⟨B + 1, 1, none⟩ = some (.int .i64 h1) ∧ w'.cell? ⟨B + 1, 2, none⟩ = some (.int .i64 h2))) := by
                    intro wq h
                    refine (TXX.out wq h).mono ?_
                    rintro e w' ⟨rfl, h1, h2⟩
                    have hz := h1.eqv (by ac_rfl : _ = (Ar xa ra * refA ya X L) * PW)
                    exact ⟨rfl, h1.eqv (star_left_comm _ _ _), h2, ⟨(PC.out w' _ hz).1.2.1, (PC.out w' _ hz).1.2.2.1, (PC.out w' _ hz).1.2.2.2⟩⟩
                  have TY : Hid (∀ wq, Holds wq (refA ya X L * (Ar xa ra * PW)) → Calls Try.prog 18 #[.pointer (some ⟨ya, 0, none⟩), .int .i64 h0, .int .i64 h1, .int .i64 h2] wq fun e w' => e = .returned (.int .i64 re) ∧ Holds w' (refA ya X rl * (Ar xa ra * PW)) ∧ Sm wq w' ∧ (w'.cell? ⟨B + 1, 0, none⟩ = some (.int .i64 h0) ∧ w'.cell? ⟨B + 1, 1, none⟩ = some (.int .i64 h1) ∧ w'.cell? ⟨B + 1, 2, none⟩ = some (.int .i64 h2))) := by
                    intro wq h
                    refine (TYY.out wq h).mono ?_
                    rintro e w' ⟨rfl, h1, h2⟩
                    have hz := h1.eqv (by ac_rfl : _ = (refA ya X rl * Ar xa ra) * PW)
                    exact ⟨rfl, h1, h2, ⟨(PC.out w' _ hz).1.2.1, (PC.out w' _ hz).1.2.2.1, (PC.out w' _ hz).1.2.2.2⟩⟩
                  have GF : Hid (Inv X ra rl T (k + 1)) := ⟨RL.out.2, LX.out, by have := LL.out; have := I.out.l; omega, by have := I.out.t; omega⟩
                  have eb : (re != re) = false := by simp
                  clear RL LX LL TXX TYY hra hre hrl hrle I PC SRC hbl
                  go_wp2_with fail
                  simp only [hdl] at TX
                  have zz : (fun w' : World => w'.cell? ⟨B + 1, 0, none⟩ = some (.int .i64 h0) ∧ w'.cell? ⟨B + 1, 1, none⟩ = some (.int .i64 h1) ∧ w'.cell? ⟨B + 1, 2, none⟩ = some (.int .i64 h2)) wc := ⟨z0, z1, z2⟩
                  go_region_held3 (fun w' => w'.cell? ⟨B + 1, 0, none⟩ = some (.int .i64 h0) ∧ w'.cell? ⟨B + 1, 1, none⟩ = some (.int .i64 h1) ∧ w'.cell? ⟨B + 1, 2, none⟩ = some (.int .i64 h2)) (first | exact x3 | exact x2 | exact zz | go_keep)
                    (first | (go_at_call 17; refine (TX.out _ ?_).mono ?_; (exact HX.out); rintro e w2 ⟨rfl, h2, s2, x2⟩; have H2 := Lib.hid h2; have S2 := Lib.hid s2; clear h2 s2) | (go_at_call 18; refine (TY.out _ ?_).mono ?_; (exact H2.out); rintro e w3 ⟨rfl, h3, s3, x3⟩; have H3 := Lib.hid h3; have S3 := Lib.hid s3; clear h3 s3))
                  have HF := Lib.hid H3.out
                  have SF : Hid (Sm w w3) := (SC.out.drew.trans S2.out).trans S3.out
                  clear HX TX TY H2 H3 S2 S3 x2 x3 zz
                  go_wp2_with fail
                  have HT : Hid (Holds w3 (pts (B + 1) (.cells #[.int .i64 h0, .int .i64 h1, .int .i64 h2] 34) * (pts B (.cells #[.int .i64 1, .int .i64 nn, .int .i64 kk, .int .i64 at_, .int .i64 f0, .int .i64 f1, .int .i64 f2, .bool own, .slice so sl sc] 37) * playS xa ya X ra rl (.slice aot n capt) T w))) := HF.out.eqv (by unfold playS; rw [← HPW.out]; ac_rfl)
                  go_meet
                  case rel => exact ⟨_, _, _, GF.out, HT.out, SF.out⟩
              by_cases t2 : kd = 2
              · subst t2
                as_aux_lemma =>
                  have RL := Lib.hid (rel_drop I.out.r h0 h1 h2)
                  have LX := Lib.hid (lens_drop I.out.x h0 h1 h2)
                  have LL := Lib.hid (dropL_len L h0 h1 h2)
                  have TXX : Hid (∀ wq, Holds wq (Ar xa A * (refA ya X L * PW)) → Calls Try.prog 19 #[.pointer (some ⟨xa, 0, none⟩), hdl h0 h1 h2] wq fun e w' => e = .returned (.int .i64 (dropA A h0 h1 h2).e) ∧ Holds w' (Ar xa (dropA A h0 h1 h2).A * (refA ya X L * PW)) ∧ Sm wq w') := fun wq h => Slab.dropA_calls xa A _ h0 h1 h2 wq h
                  obtain ⟨ra, hra⟩ : ∃ q, (dropA A h0 h1 h2).A = q := ⟨_, rfl⟩
                  obtain ⟨re, hre⟩ : ∃ q, (dropA A h0 h1 h2).e = q := ⟨_, rfl⟩
                  simp only [hra, hre] at TXX RL LX
                  have TYY : Hid (∀ wq, Holds wq (refA ya X L * (Ar xa ra * PW)) → Calls Try.prog 20 #[.pointer (some ⟨ya, 0, none⟩), .int .i64 h0, .int .i64 h1, .int .i64 h2] wq fun e w' => e = .returned (.int .i64 (dropL L h0 h1 h2).e) ∧ Holds w' (refA ya X (dropL L h0 h1 h2).L * (Ar xa ra * PW)) ∧ Sm wq w') := fun wq h => drop_calls ya X L _ h0 h1 h2 wq h
                  obtain ⟨rl, hrl⟩ : ∃ q, (dropL L h0 h1 h2).L = q := ⟨_, rfl⟩
                  have hrle : (dropL L h0 h1 h2).e = re := RL.out.1
                  simp only [hrl] at TYY RL LL
                  simp only [hrle] at TYY
                  have TX : Hid (∀ wq, Holds wq (Ar xa A * (refA ya X L * PW)) → Calls Try.prog 19 #[.pointer (some ⟨xa, 0, none⟩), hdl h0 h1 h2] wq fun e w' => e = .returned (.int .i64 re) ∧ Holds w' (refA ya X L * (Ar xa ra * PW)) ∧ Sm wq w' ∧ (w'.cell? ⟨B + 1, 0, none⟩ = some (.int .i64 h0) ∧ w'.cell? ⟨B + 1, 1, none⟩ = some (.int .i64 h1) ∧ w'.cell? ⟨B + 1, 2, none⟩ = some (.int .i64 h2))) := by
                    intro wq h
                    refine (TXX.out wq h).mono ?_
                    rintro e w' ⟨rfl, h1, h2⟩
                    have hz := h1.eqv (by ac_rfl : _ = (Ar xa ra * refA ya X L) * PW)
                    exact ⟨rfl, h1.eqv (star_left_comm _ _ _), h2, ⟨(PC.out w' _ hz).1.2.1, (PC.out w' _ hz).1.2.2.1, (PC.out w' _ hz).1.2.2.2⟩⟩
                  have TY : Hid (∀ wq, Holds wq (refA ya X L * (Ar xa ra * PW)) → Calls Try.prog 20 #[.pointer (some ⟨ya, 0, none⟩), .int .i64 h0, .int .i64 h1, .int .i64 h2] wq fun e w' => e = .returned (.int .i64 re) ∧ Holds w' (refA ya X rl * (Ar xa ra * PW)) ∧ Sm wq w' ∧ (w'.cell? ⟨B + 1, 0, none⟩ = some (.int .i64 h0) ∧ w'.cell? ⟨B + 1, 1, none⟩ = some (.int .i64 h1) ∧ w'.cell? ⟨B + 1, 2, none⟩ = some (.int .i64 h2))) := by
                    intro wq h
                    refine (TYY.out wq h).mono ?_
                    rintro e w' ⟨rfl, h1, h2⟩
                    have hz := h1.eqv (by ac_rfl : _ = (refA ya X rl * Ar xa ra) * PW)
                    exact ⟨rfl, h1, h2, ⟨(PC.out w' _ hz).1.2.1, (PC.out w' _ hz).1.2.2.1, (PC.out w' _ hz).1.2.2.2⟩⟩
                  have GF : Hid (Inv X ra rl T (k + 1)) := ⟨RL.out.2, LX.out, by have := LL.out; have := I.out.l; omega, by have := I.out.t; omega⟩
                  have eb : (re != re) = false := by simp
                  clear RL LX LL TXX TYY hra hre hrl hrle I PC SRC hbl
                  go_wp2_with fail
                  simp only [hdl] at TX
                  have zz : (fun w' : World => w'.cell? ⟨B + 1, 0, none⟩ = some (.int .i64 h0) ∧ w'.cell? ⟨B + 1, 1, none⟩ = some (.int .i64 h1) ∧ w'.cell? ⟨B + 1, 2, none⟩ = some (.int .i64 h2)) wc := ⟨z0, z1, z2⟩
                  go_region_held3 (fun w' => w'.cell? ⟨B + 1, 0, none⟩ = some (.int .i64 h0) ∧ w'.cell? ⟨B + 1, 1, none⟩ = some (.int .i64 h1) ∧ w'.cell? ⟨B + 1, 2, none⟩ = some (.int .i64 h2)) (first | exact x3 | exact x2 | exact zz | go_keep)
                    (first | (go_at_call 19; refine (TX.out _ ?_).mono ?_; (exact HX.out); rintro e w2 ⟨rfl, h2, s2, x2⟩; have H2 := Lib.hid h2; have S2 := Lib.hid s2; clear h2 s2) | (go_at_call 20; refine (TY.out _ ?_).mono ?_; (exact H2.out); rintro e w3 ⟨rfl, h3, s3, x3⟩; have H3 := Lib.hid h3; have S3 := Lib.hid s3; clear h3 s3))
                  have HF := Lib.hid H3.out
                  have SF : Hid (Sm w w3) := (SC.out.drew.trans S2.out).trans S3.out
                  clear HX TX TY H2 H3 S2 S3 x2 x3 zz
                  go_wp2_with fail
                  have HT : Hid (Holds w3 (pts (B + 1) (.cells #[.int .i64 h0, .int .i64 h1, .int .i64 h2] 34) * (pts B (.cells #[.int .i64 2, .int .i64 nn, .int .i64 kk, .int .i64 at_, .int .i64 f0, .int .i64 f1, .int .i64 f2, .bool own, .slice so sl sc] 37) * playS xa ya X ra rl (.slice aot n capt) T w))) := HF.out.eqv (by unfold playS; rw [← HPW.out]; ac_rfl)
                  go_meet
                  case rel => exact ⟨_, _, _, GF.out, HT.out, SF.out⟩
              by_cases t3 : kd = 3
              · subst t3
                as_aux_lemma =>
                  have RL := Lib.hid (rel_write I.out.r h0 h1 h2 at_ b2 OK2.out.2)
                  have LX := Lib.hid (lens_write I.out.x h0 h1 h2 at_ b2)
                  have LL := Lib.hid (writeL_len L h0 h1 h2 at_ b2)
                  have TXX : Hid (∀ wq, Holds wq (Ar xa A * (refA ya X L * PW)) → Calls Try.prog 21 #[.pointer (some ⟨xa, 0, none⟩), hdl h0 h1 h2, .int .i64 at_, .slice so s2 c2] wq fun e w' => e = .returned (.int .i64 (writeA A h0 h1 h2 at_ b2).e) ∧ Holds w' (Ar xa (writeA A h0 h1 h2 at_ b2).A * (refA ya X L * PW)) ∧ Sm wq w') := fun wq h => Slab.writeA_calls xa A _ h0 h1 h2 at_ so s2 c2 b2 wq h (SRC.out wq (Ar xa A * refA ya X L) (h.eqv (by ac_rfl))) OK2.out.2
                  obtain ⟨ra, hra⟩ : ∃ q, (writeA A h0 h1 h2 at_ b2).A = q := ⟨_, rfl⟩
                  obtain ⟨re, hre⟩ : ∃ q, (writeA A h0 h1 h2 at_ b2).e = q := ⟨_, rfl⟩
                  simp only [hra, hre] at TXX RL LX
                  have TYY : Hid (∀ wq, Holds wq (refA ya X L * (Ar xa ra * PW)) → Calls Try.prog 22 #[.pointer (some ⟨ya, 0, none⟩), .int .i64 h0, .int .i64 h1, .int .i64 h2, .int .i64 at_, .slice so s2 c2] wq fun e w' => e = .returned (.int .i64 (writeL L h0 h1 h2 at_ b2).e) ∧ Holds w' (refA ya X (writeL L h0 h1 h2 at_ b2).L * (Ar xa ra * PW)) ∧ Sm wq w') := fun wq h => write_calls ya X L _ h0 h1 h2 at_ so s2 c2 b2 wq (OkL_of I.out.r) h (fun wz L' hz _ => SRC.out wz (refA ya X L' * Ar xa ra) (hz.eqv (by ac_rfl))) OK2.out.2 hbl (by omega)
                  obtain ⟨rl, hrl⟩ : ∃ q, (writeL L h0 h1 h2 at_ b2).L = q := ⟨_, rfl⟩
                  have hrle : (writeL L h0 h1 h2 at_ b2).e = re := RL.out.1
                  simp only [hrl] at TYY RL LL
                  simp only [hrle] at TYY
                  have TX : Hid (∀ wq, Holds wq (Ar xa A * (refA ya X L * PW)) → Calls Try.prog 21 #[.pointer (some ⟨xa, 0, none⟩), hdl h0 h1 h2, .int .i64 at_, .slice so s2 c2] wq fun e w' => e = .returned (.int .i64 re) ∧ Holds w' (refA ya X L * (Ar xa ra * PW)) ∧ Sm wq w' ∧ (w'.cell? ⟨B + 1, 0, none⟩ = some (.int .i64 h0) ∧ w'.cell? ⟨B + 1, 1, none⟩ = some (.int .i64 h1) ∧ w'.cell? ⟨B + 1, 2, none⟩ = some (.int .i64 h2) ∧ w'.cell? ⟨B, 3, none⟩ = some (.int .i64 at_))) := by
                    intro wq h
                    refine (TXX.out wq h).mono ?_
                    rintro e w' ⟨rfl, h1, h2⟩
                    have hz := h1.eqv (by ac_rfl : _ = (Ar xa ra * refA ya X L) * PW)
                    exact ⟨rfl, h1.eqv (star_left_comm _ _ _), h2, ⟨(PC.out w' _ hz).1.2.1, (PC.out w' _ hz).1.2.2.1, (PC.out w' _ hz).1.2.2.2, (PC.out w' _ hz).2.2.2.2⟩⟩
                  have TY : Hid (∀ wq, Holds wq (refA ya X L * (Ar xa ra * PW)) → Calls Try.prog 22 #[.pointer (some ⟨ya, 0, none⟩), .int .i64 h0, .int .i64 h1, .int .i64 h2, .int .i64 at_, .slice so s2 c2] wq fun e w' => e = .returned (.int .i64 re) ∧ Holds w' (refA ya X rl * (Ar xa ra * PW)) ∧ Sm wq w' ∧ (w'.cell? ⟨B + 1, 0, none⟩ = some (.int .i64 h0) ∧ w'.cell? ⟨B + 1, 1, none⟩ = some (.int .i64 h1) ∧ w'.cell? ⟨B + 1, 2, none⟩ = some (.int .i64 h2) ∧ w'.cell? ⟨B, 3, none⟩ = some (.int .i64 at_))) := by
                    intro wq h
                    refine (TYY.out wq h).mono ?_
                    rintro e w' ⟨rfl, h1, h2⟩
                    have hz := h1.eqv (by ac_rfl : _ = (refA ya X rl * Ar xa ra) * PW)
                    exact ⟨rfl, h1, h2, ⟨(PC.out w' _ hz).1.2.1, (PC.out w' _ hz).1.2.2.1, (PC.out w' _ hz).1.2.2.2, (PC.out w' _ hz).2.2.2.2⟩⟩
                  have GF : Hid (Inv X ra rl T (k + 1)) := ⟨RL.out.2, LX.out, by have := LL.out; have := I.out.l; omega, by have := I.out.t; omega⟩
                  have eb : (re != re) = false := by simp
                  clear RL LX LL TXX TYY hra hre hrl hrle I PC SRC hbl
                  go_wp2_with fail
                  simp only [hdl] at TX
                  have zz : (fun w' : World => w'.cell? ⟨B + 1, 0, none⟩ = some (.int .i64 h0) ∧ w'.cell? ⟨B + 1, 1, none⟩ = some (.int .i64 h1) ∧ w'.cell? ⟨B + 1, 2, none⟩ = some (.int .i64 h2) ∧ w'.cell? ⟨B, 3, none⟩ = some (.int .i64 at_)) wc := ⟨z0, z1, z2, v3⟩
                  go_region_held3 (fun w' => w'.cell? ⟨B + 1, 0, none⟩ = some (.int .i64 h0) ∧ w'.cell? ⟨B + 1, 1, none⟩ = some (.int .i64 h1) ∧ w'.cell? ⟨B + 1, 2, none⟩ = some (.int .i64 h2) ∧ w'.cell? ⟨B, 3, none⟩ = some (.int .i64 at_)) (first | exact x3 | exact x2 | exact zz | go_keep)
                    (first | (go_at_call 21; refine (TX.out _ ?_).mono ?_; (exact HX.out); rintro e w2 ⟨rfl, h2, s2, x2⟩; have H2 := Lib.hid h2; have S2 := Lib.hid s2; clear h2 s2) | (go_at_call 22; refine (TY.out _ ?_).mono ?_; (exact H2.out); rintro e w3 ⟨rfl, h3, s3, x3⟩; have H3 := Lib.hid h3; have S3 := Lib.hid s3; clear h3 s3))
                  have HF := Lib.hid H3.out
                  have SF : Hid (Sm w w3) := (SC.out.drew.trans S2.out).trans S3.out
                  clear HX TX TY H2 H3 S2 S3 x2 x3 zz
                  go_wp2_with fail
                  have HT : Hid (Holds w3 (pts (B + 1) (.cells #[.int .i64 h0, .int .i64 h1, .int .i64 h2] 34) * (pts B (.cells #[.int .i64 3, .int .i64 nn, .int .i64 kk, .int .i64 at_, .int .i64 f0, .int .i64 f1, .int .i64 f2, .bool own, .slice so sl sc] 37) * playS xa ya X ra rl (.slice aot n capt) T w))) := HF.out.eqv (by unfold playS; rw [← HPW.out]; ac_rfl)
                  go_meet
                  case rel => exact ⟨_, _, _, GF.out, HT.out, SF.out⟩
              have u0 : (kd == 0) = false := by simpa using t0
              have u1 : (kd == 1) = false := by simpa using t1
              have u2 : (kd == 2) = false := by simpa using t2
              have u3 : (kd == 3) = false := by simpa using t3
              have HT : Hid (Holds wc (pts (B + 1) (.cells #[.int .i64 h0, .int .i64 h1, .int .i64 h2] 34) * (pts B (.cells #[.int .i64 kd, .int .i64 nn, .int .i64 kk, .int .i64 at_, .int .i64 f0, .int .i64 f1, .int .i64 f2, .bool own, .slice so sl sc] 37) * playS xa ya X A L (.slice aot n capt) T w))) := HX.out.eqv (by unfold playS; rw [← HPW.out]; ac_rfl)
              have GF : Hid (Inv X A L T (k + 1)) := ⟨I.out.r, I.out.x, by have := I.out.l; omega, by have := I.out.t; omega⟩
              clear t0 t1 t2 t3
              go_wp2_with fail
              go_meet
              case rel => exact ⟨_, _, _, GF.out, HT.out, SC.out⟩
          case rest =>
            clear HC SC y0 y8 yl I OK2 hs5
            obtain ⟨A2, L2, T2, I, HD, SD⟩ := hcut
            have hy := HD.out.eqv (star_left_comm _ _ _)
            have y1 := hy.cell 1
            have yl := hy.lt
            simp at y1
            clear hy
            go_upto_if 184 with (fail)
            obtain ⟨W3, hW3⟩ : ∃ q, wc = q := ⟨_, rfl⟩
            rw [hW3] at HD SD y1 yl ⊢
            clear hW3
            go_cut [20] (fun x wc => ∃ m : Int, x = .int .i64 m ∧ wc = W3)
            case first =>
              as_aux_lemma =>
                by_cases hn3 : 300 < nn
                · have e0 : decide (300 < nn) = true := by simpa using hn3
                  go_wp2_with fail
                  go_meet
                  case rel => exact ⟨300, rfl, rfl⟩
                · have e0 : decide (300 < nn) = false := by simpa using hn3
                  go_wp2_with fail
                  go_meet
                  case rel => exact ⟨nn, rfl, rfl⟩
            case rest =>
              as_aux_lemma =>
                clear y1 yl
                obtain ⟨m, rfl, rfl⟩ := hcut
                have RR := rel_read I.out.r h0 h1 h2 at_ m
                have RX := Lib.hid (Slab.readA_calls xa A2 (refA ya X L2 * (pts (B + 1) (.cells #[.int .i64 h0, .int .i64 h1, .int .i64 h2] 34) * (pts B (.cells #[.int .i64 kd, .int .i64 nn, .int .i64 kk, .int .i64 at_, .int .i64 f0, .int .i64 f1, .int .i64 f2, .bool own, .slice so sl sc] 37) * (rowL 34 3 hEnc u9 T2 * all w)))) h0 h1 h2 at_ m wc (HD.out.eqv (by unfold playS; ac_rfl)))
                have RY := Lib.hid (fun (wq : World) (F : Asr) h => read_calls ya X L2 F h0 h1 h2 at_ m wq (OkL_of I.out.r) h)
                have RB := Lib.hid (read_byte I.out.r.wf h0 h1 h2 at_ m)
                obtain ⟨rb, hrb⟩ : ∃ q, (Slab.readA A2 h0 h1 h2 at_ m).b = q := ⟨_, rfl⟩
                obtain ⟨re, hre⟩ : ∃ q, (Slab.readA A2 h0 h1 h2 at_ m).e = q := ⟨_, rfl⟩
                rw [hrb, hre] at RR RX
                rw [hrb] at RB
                simp only [RR.1, RR.2] at RY
                simp only [hdl] at RX
                have hy := HD.out.eqv (star_left_comm _ _ _)
                have y2 := hy.cell 2
                have y3 := hy.cell 3
                have yl := hy.lt
                have z0 := HD.out.cell 0
                have z1 := HD.out.cell 1
                have z2 := HD.out.cell 2
                have zl := HD.out.lt
                simp at y2 y3 z0 z1 z2
                clear hy RR hrb hre HD
                go_wp2_with fail
                refine (RX.out).mono ?_
                rintro e w2 ⟨va, rfl, h2', s2'⟩
                have H2 : Hid (Holds w2 (refA ya X L2 * (rowA 5 1 va rb.length (u8s rb) * (Ar xa A2 * (pts (B + 1) (.cells #[.int .i64 h0, .int .i64 h1, .int .i64 h2] 34) * (pts B (.cells #[.int .i64 kd, .int .i64 nn, .int .i64 kk, .int .i64 at_, .int .i64 f0, .int .i64 f1, .int .i64 f2, .bool own, .slice so sl sc] 37) * (rowL 34 3 hEnc u9 T2 * all w))))))) := h2'.eqv (by ac_rfl)
                have S2 := Lib.hid (SD.out.trans s2')
                have hy := H2.out.eqv (by ac_rfl : _ = pts B (.cells #[.int .i64 kd, .int .i64 nn, .int .i64 kk, .int .i64 at_, .int .i64 f0, .int .i64 f1, .int .i64 f2, .bool own, .slice so sl sc] 37) * (pts (B + 1) (.cells #[.int .i64 h0, .int .i64 h1, .int .i64 h2] 34) * (refA ya X L2 * (rowA 5 1 va rb.length (u8s rb) * (Ar xa A2 * (rowL 34 3 hEnc u9 T2 * all w))))))
                have hz := hy.eqv (star_left_comm _ _ _)
                have y3' := hy.cell 3
                have yl' := hy.lt
                have z0' := hz.cell 0
                have z1' := hz.cell 1
                have z2' := hz.cell 2
                have zl' := hz.lt
                simp at y3' z0' z1' z2'
                clear h2' s2' RX hy hz SD y2 y3 yl z0 z1 z2 zl
                go_wp2_with fail
                refine (RY.out _ _ H2.out).mono ?_
                rintro e W ⟨vb, rfl, h3', s3'⟩
                have H3 : Hid (Holds W (rowA 5 1 va rb.length (u8s rb) * (rowL 3 1 iEnc vb rb * (Ar xa A2 * (refA ya X L2 * (pts (B + 1) (.cells #[.int .i64 h0, .int .i64 h1, .int .i64 h2] 34) * (pts B (.cells #[.int .i64 kd, .int .i64 nn, .int .i64 kk, .int .i64 at_, .int .i64 f0, .int .i64 f1, .int .i64 f2, .bool own, .slice so sl sc] 37) * (rowL 34 3 hEnc u9 T2 * all w)))))))) := h3'.eqv (by ac_rfl)
                have S3 := Lib.hid (S2.out.trans s3')
                clear h3' s3' RY H2 S2 y3' yl' z0' z1' z2' zl'
                have CS : Hid (∀ wq, Below W.heap.size W wq → Calls Try.prog 25 #[va, vb] wq fun e w' => e = .returned (.bool true) ∧ Below W.heap.size W w') := by
                  intro wq hq
                  refine (same_calls va vb rb _ wq RB.out (H3.out.grow hq)).mono ?_
                  rintro e w' ⟨rfl, m, rfl⟩
                  exact ⟨rfl, below_drewN hq m⟩
                have CH : Hid (∀ wq, Below W.heap.size W wq → Calls Try.prog 26 #[.pointer (some ⟨xa, 0, none⟩), .agg #[.int .i64 h0, .int .i64 h1, .int .i64 h2]] wq fun e w' => e = .returned (.int .i64 (heldA A2 h0 h1 h2)) ∧ Below W.heap.size W w') := by
                  intro wq hq
                  refine (Slab.heldA_calls xa A2 _ h0 h1 h2 wq ((H3.out.grow hq).right.right)).mono ?_
                  rintro e w' ⟨rfl, hb⟩
                  exact ⟨rfl, hq.trans (hb.mono hq.size)⟩
                have CHR : Hid (∀ wq, Below W.heap.size W wq → Calls Try.prog 27 #[.pointer (some ⟨ya, 0, none⟩), .int .i64 h0, .int .i64 h1, .int .i64 h2] wq fun e w' => e = .returned (.int .i64 (heldA A2 h0 h1 h2)) ∧ Below W.heap.size W w') := by
                  intro wq hq
                  refine (held_calls ya X L2 _ h0 h1 h2 wq ((H3.out.grow hq).right.right.right)).mono ?_
                  rintro e w' ⟨rfl, rfl⟩
                  exact ⟨by rw [rel_held I.out.r], hq⟩
                have CL : Hid (∀ wq, Below W.heap.size W wq → Calls Try.prog 28 #[.pointer (some ⟨xa, 0, none⟩), .int .i64 kk] wq fun e w' => e = .returned (.int .i64 (liveA A2 kk : Nat)) ∧ Below W.heap.size W w') := by
                  intro wq hq
                  refine (Slab.liveA_calls xa A2 _ wq kk ((H3.out.grow hq).right.right)).mono ?_
                  rintro e w' ⟨rfl, hb⟩
                  exact ⟨rfl, hq.trans (hb.mono hq.size)⟩
                have CLR : Hid (∀ wq, Below W.heap.size W wq → Calls Try.prog 29 #[.pointer (some ⟨ya, 0, none⟩), .int .i64 kk] wq fun e w' => e = .returned (.int .i64 (liveA A2 kk : Nat)) ∧ Below W.heap.size W w') := by
                  intro wq hq
                  refine (live_calls ya X L2 _ kk wq ((H3.out.grow hq).right.right.right)).mono ?_
                  rintro e w' ⟨rfl, rfl⟩
                  exact ⟨by rw [rel_live I.out.r], hq⟩
                have CZ : Hid (∀ wq, Below W.heap.size W wq → Calls Try.prog 14 #[.int .i64 kk] wq fun e w' => e = .returned (.int .i64 (szOf kk)) ∧ Below W.heap.size W w') := by
                  intro wq hq
                  refine (Slab.sizes_calls kk wq).mono ?_
                  rintro e w' ⟨rfl, rfl⟩
                  exact ⟨rfl, hq⟩
                have CZR : Hid (∀ wq, Below W.heap.size W wq → Calls Try.prog 30 #[.int .i64 kk] wq fun e w' => e = .returned (.int .i64 (szOf kk)) ∧ Below W.heap.size W w') := by
                  intro wq hq
                  refine (sizes_calls kk wq).mono ?_
                  rintro e w' ⟨rfl, hb⟩
                  exact ⟨rfl, hq.trans (hb.mono hq.size)⟩
                have HW : Hid (∀ wq, Below W.heap.size W wq → wq.cell? ⟨B + 1, 0, none⟩ = some (.int .i64 h0) ∧ wq.cell? ⟨B + 1, 1, none⟩ = some (.int .i64 h1) ∧ wq.cell? ⟨B + 1, 2, none⟩ = some (.int .i64 h2) ∧ wq.cell? ⟨B, 2, none⟩ = some (.int .i64 kk)) := by
                  intro wq hq
                  have h := H3.out.grow hq
                  have ha := h.eqv (by ac_rfl : _ = pts B (.cells #[.int .i64 kd, .int .i64 nn, .int .i64 kk, .int .i64 at_, .int .i64 f0, .int .i64 f1, .int .i64 f2, .bool own, .slice so sl sc] 37) * (pts (B + 1) (.cells #[.int .i64 h0, .int .i64 h1, .int .i64 h2] 34) * (rowA 5 1 va rb.length (u8s rb) * (rowL 3 1 iEnc vb rb * (Ar xa A2 * (refA ya X L2 * (rowL 34 3 hEnc u9 T2 * all w)))))))
                  have hb := ha.eqv (star_left_comm _ _ _)
                  have a2 := ha.cell 2
                  have b0 := hb.cell 0
                  have b1 := hb.cell 1
                  have b2 := hb.cell 2
                  simp at a2 b0 b1 b2
                  exact ⟨b0, b1, b2, a2⟩
                obtain ⟨hv, hhv⟩ : ∃ q, heldA A2 h0 h1 h2 = q := ⟨_, rfl⟩
                obtain ⟨lv, hlv⟩ : ∃ q, liveA A2 kk = q := ⟨_, rfl⟩
                obtain ⟨sv, hsv⟩ : ∃ q, szOf kk = q := ⟨_, rfl⟩
                rw [hhv] at CH CHR
                rw [hlv] at CL CLR
                rw [hsv] at CZ CZR
                have e0 : (re != re) = false := by simp
                have e1 : (hv != hv) = false := by simp
                have e2 : ((lv : Int) != (lv : Int)) = false := by simp
                have e2n : (lv != lv) = false := by simp
                have e3 : (sv != sv) = false := by simp
                clear hhv hlv hsv RB
                go_wp2_with fail
                refine wp_region_quiet (C := fun w' => Below W.heap.size W w') (by kernel_rfl) (by kernel_rfl) (Below.refl _ _).drew ?_
                repeat (refine wpQuiet_step (fun K hK => ?_); go_simp; first | (refine hK _ ?_; clear hK K) | (refine ⟨_, fun _ _ => rfl, hK _ ?_⟩; clear hK K) | (apply Exists.intro; refine ⟨fun wq hq => ?_, hK _ ?_⟩; (first | (with_reducible exact CS.out wq hq) | (with_reducible exact CH.out wq hq) | (with_reducible exact CHR.out wq hq) | (with_reducible exact CL.out wq hq) | (with_reducible exact CLR.out wq hq) | (with_reducible exact CZ.out wq hq) | (with_reducible exact CZR.out wq hq) | (obtain ⟨f1, f2, f3, f4⟩ := HW.out wq hq; first | (go_simp; done) | (go_simp; rfl))); clear hK K))
                refine wpQuiet_nil ?_
                intro w6 hq6
                have H6 : Hid (Holds w6 (playS xa ya X A2 L2 u9 T2 w)) := by
                  show Holds _ _
                  have h := H3.out.grow hq6
                  have h := h.eqv (by ac_rfl : _ = (rowA 5 1 va rb.length (u8s rb) * (rowL 3 1 iEnc vb rb * (pts (B + 1) (.cells #[.int .i64 h0, .int .i64 h1, .int .i64 h2] 34) * pts B (.cells #[.int .i64 kd, .int .i64 nn, .int .i64 kk, .int .i64 at_, .int .i64 f0, .int .i64 f1, .int .i64 f2, .bool own, .slice so sl sc] 37)))) * (Ar xa A2 * (refA ya X L2 * (rowL 34 3 hEnc u9 T2 * all w))))
                  exact h.right
                have S6 : Hid (Sm w w6) := S3.out.grow hq6
                clear e0 e1 e2 e2n e3 CS CH CHR CL CLR CZ CZR HW H3 S3 hq6
                go_wp2_with fail
                go_roundw
                case rel => exact ⟨k + 1, _, _, _, by omega, by omega, by go_num, I.out, H6.out, S6.out⟩
                case measure => simp [intOf]; omega
    · have FIN := Lib.hid (Holds.below (HH.out.eqv (by unfold playS; ac_rfl : _ = (Ar xa A * (refA ya X L * rowL 34 3 hEnc _ T)) * all w)) HS.out)
      by_cases hka : k < len
      · obtain rfl : k = 150 := by omega
        clear hkl
        go_wp2_with fail
        go_ret
        exact ⟨rfl, FIN.out⟩
      · obtain rfl : k = len := by omega
        clear hkl
        go_wp2_with fail
        go_ret
        exact ⟨rfl, FIN.out⟩
#print axioms plays_walk
end Go.Proofs.Ytmaoboepmbioiaa.Ref15
