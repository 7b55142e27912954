/-
  FramingCuts, the walk.
-/
import Derived.Test.YtibhnkkfaochhaaDoorDec14
import Derived.Deep.RegionWith
import Derived.Deep.DeepCutAuto
import Derived.Deep.CutBlock
import Derived.Deep.RegionLaw
namespace Go.Proofs.YtibhnkkfaochhaaDoor.Dec
open Go.RowKit Go.Sep
open Go.Proofs.YtibhnkkfaochhaaDoor.Tok
set_option maxRecDepth 100000
set_option linter.unusedVariables false
set_option linter.unusedSimpArgs false

set_option maxHeartbeats 16000000 in
theorem cuts_walk (k n : Int) (a : Option Addr) (len cap : Nat) (b : List UInt8) (w : World) (hb : ByS w a len cap b) (hV : Vars w) :
    Calls Tryd.prog 3 #[.int .i64 k, .int .i64 n, .slice a len cap] w fun e w' => e = .returned (.bool true) ∧ Below w.heap.size w w' := by
  have HW := Lib.hid (holds_all w)
  have HB := Lib.hid hb
  have HV := Lib.hid (keepV_all hV)
  have CAP := Lib.hid hb.cap
  clear hb hV
  go_enter Tryd.func3, Tryd.ntmps3
  go_upto_if 25 with (fail)
  go_cut [2] (fun x wc => ∃ m c : Nat, x = .slice a m c ∧ wc = w ∧ m ≤ 3000 ∧ Hid (ByS w a m c (b.take m)))
  case first =>
    by_cases h5 : 3000 < len
    · have e0 : decide ((3000 : Int) < (len : Int)) = true := by simp; omega
      have e1 : decide (3000 < len) = true := by simpa using h5
      have e2 : (3000 : Int) < (len : Int) := by omega
      have e3 : 3000 ≤ cap := by have := CAP.out; omega
      have e4 : (3000 : Int) ≤ (cap : Int) := by omega
      have h5' := Lib.hid h5
      go_wp2_with fail
      go_meet
      case rel => exact ⟨3000, cap, rfl, rfl, Nat.le_refl _, bys_cut HB.out 3000 cap (Nat.le_of_lt h5'.out) e3⟩
    · have e0 : decide ((3000 : Int) < (len : Int)) = false := by simp; omega
      have e1 : decide (3000 < len) = false := by simpa using h5
      have e2 : ¬ (3000 : Int) < (len : Int) := by omega
      have h5' : Hid (len ≤ 3000) := by show _ ≤ _; omega
      go_wp2_with fail
      go_meet
      case rel => exact ⟨len, cap, rfl, rfl, h5'.out, bys_cut HB.out len cap (Nat.le_refl _) CAP.out⟩
  case rest =>
    obtain ⟨m, c, rfl, rfl, m9, HB2⟩ := hcut
    obtain ⟨bs, hbs⟩ : ∃ q, b.take m = q := ⟨_, rfl⟩
    rw [hbs] at HB2
    clear HB CAP hbs
    by_cases hr : newR k n = 0
    · have N1 := Lib.hid (new_fine k n hr (all wc) wc HW.out)
      have HOK := Lib.hid (newR_ok k n hr)
      have HR := Lib.hid hr
      obtain ⟨S0, hS0⟩ : ∃ q, newD k.toNat n.toNat = q := ⟨_, rfl⟩
      rw [hS0] at N1 HOK
      clear hr
      go_wp2_with fail
      refine (N1.out).mono ?_
      rintro e w1 ⟨d1, rfl, h1, s1⟩
      have N2 := Lib.hid (new_fine k n HR.out _ w1 h1)
      rw [hS0] at N2
      have S1 := Lib.hid s1
      clear h1 s1 N1 hS0
      go_wp2_with fail
      refine (N2.out).mono ?_
      rintro e w2 ⟨d2, rfl, h2, s2⟩
      have N3 := Lib.hid (new_fine 1 2 (by decide) _ w2 h2)
      have S2 := Lib.hid (S1.out.trans s2)
      clear h2 s2 N2 S1
      go_wp2_with fail
      refine (N3.out).mono ?_
      rintro e w3 ⟨d3, rfl, h3, s3⟩
      have S3 := Lib.hid (S2.out.trans s3)
      have h4 := (h3.right).eqv (star_left_comm _ _ _ : _ = decA d1 S0 [] * (decA d2 S0 [] * all wc))
      have FX := Lib.hid (feed_calls d1 S0 [] a m c bs (decA d2 S0 [] * all wc) (bys_src HB2.out _) (by omega) (keepV_star HV.out) HOK.out w3 h4)
      clear h3 s3 h4 N3 S2
      go_wp2_with fail
      refine (FX.out).mono ?_
      rintro e w4 ⟨go, rfl, h5, s5⟩
      have S4 := Lib.hid (S3.out.trans s5)
      obtain ⟨⟨Sx, Gx, ux⟩, hF⟩ : ∃ q, feedL S0 bs = q := ⟨_, rfl⟩
      rw [hF] at h5
      have h6 := (h5.eqv (star_left_comm _ _ _)).right
      have h7 := h6.eqv (by ac_rfl : _ = decA d2 S0 [] * (pts go (.cells (bc Gx).toArray 5 (0, 0)) * all wc))
      have FY := Lib.hid (feed_calls d2 S0 [] none 0 0 [] (pts go (.cells (bc Gx).toArray 5 (0, 0)) * all wc) (src_nil _) (by omega) (keepV_star HV.out) HOK.out w4 h7)
      have HFX := Lib.hid hF
      rw [hF]
      simp only
      clear h5 s5 h6 h7 FX S3 hF
      go_wp2_with fail
      refine (FY.out).mono ?_
      rintro e w5 ⟨go2, rfl, h8, s8⟩
      simp only [feedL, List.length_nil, Int.natCast_zero] at h8 ⊢
      have H5 := Lib.hid h8.right
      have S5 := Lib.hid (S4.out.trans s8)
      clear h8 s8 FY S4
      go_wp2_with fail
      go_loopw [16, 17, 20, 10] (fun x16 x17 x20 x10 wl => ∃ (at_ : Nat) (S1 : DS) (G O : List UInt8), x17 = .int .i64 at_ ∧ x20 = .bool S1.done ∧ x10 = .int .i64 S1.e ∧ at_ ≤ m ∧ Hid (feedL S0 (bs.take at_) = (S1, G, at_)) ∧ Hid (OkS S1) ∧ Hid (Holds wl (rowA 5 1 x16 G.length (bc G) * (decA d2 S1 O * (pts go (.cells (bc Gx).toArray 5 (0, 0)) * all wc)))) ∧ Hid (Sm wc wl)) (fun _ x17 _ _ _ => m - (intOf x17).toNat)
      case atStart => exact ⟨0, S0, [], [], rfl, rfl, rfl, Nat.zero_le _, by show _ = _; simp [feedL], HOK.out, rowA_nil H5.out, S5.out⟩
      case round =>
        clear H5 S5
        obtain ⟨at_, S1, G, O, rfl, rfl, rfl, hat, HF1, HOK1, HH, HS⟩ := hrel
        by_cases hgo : at_ < m ∧ stopped S1 = false
        · have hub : at_ < bs.length := by rw [HB2.out.len]; exact hgo.1
          obtain ⟨gb, ob, rfl, hcell⟩ := HB2.out.cell (by omega)
          have HP := Lib.hid (bys_part HB2.out at_ 1 (c - at_) (by omega) (by omega) (by have := HB2.out.cap; omega))
          have hcap := HB2.out.cap
          have hone : (bs.drop at_).take 1 = [bs[at_]] := by
            rw [List.drop_eq_getElem_cons hub]; rfl
          rw [hone] at HP
          have HF2 := Lib.hid (feed_take S0 S1 G bs at_ HF1.out hub (by rw [hgo.2]; simp))
          have hok := HOK1.out.resolve_left (by rw [hgo.2]; simp)
          have HOK2 := Lib.hid (step_ok bs[at_] hok)
          have FS : feedL S1 [bs[at_]] = ((dstep S1 bs[at_]).1, (dstep S1 bs[at_]).2, 1) := by
            rw [feedL, if_neg (by rw [hgo.2]; simp)]
            simp [feedL]
          have OL := step_out S1 bs[at_]
          have GL := feed_out (bs.take at_) S0
          rw [HF1.out] at GL
          simp only [List.length_take] at GL
          have FY := Lib.hid (feed_calls d2 S1 O (some ⟨gb, ob + at_, none⟩) 1 (c - at_) [bs[at_]] ((rowA 5 1 u16 G.length (bc G) * pts go (.cells (bc Gx).toArray 5 (0, 0))) * all wc) (bys_src HP.out _) (by omega) (keepV_star HV.out) (.inr hok) wr (HH.out.eqv (by ac_rfl)))
          rw [FeedC1, FS] at FY
          obtain ⟨S2, hS2⟩ : ∃ q, (dstep S1 bs[at_]).1 = q := ⟨_, rfl⟩
          obtain ⟨O2, hO2⟩ : ∃ q, (dstep S1 bs[at_]).2 = q := ⟨_, rfl⟩
          rw [hS2, hO2] at FY HF2
          rw [hS2] at HOK2
          rw [hO2] at OL
          have hnd : S1.done = false := by have := hgo.2; unfold stopped at this; cases h : S1.done; rfl; rw [h] at this; simp at this
          have hne0 : S1.e = 0 := by have := hgo.2; unfold stopped at this; rw [hnd] at this; simpa using this
          rw [hnd, hne0]
          have i0 : (0 : Int) ≤ (at_ : Int) := by omega
          have i1 : decide ((at_ : Int) < (m : Int)) = true := decide_eq_true (by omega)
          have i2 : IntKind.i64.wrap ((at_ : Int) + 1) = (at_ : Int) + 1 := IntWalk.i64_in _ (by omega)
          have i3 : (at_ : Int) ≤ (at_ : Int) + 1 := by omega
          have i4 : (at_ : Int) + 1 ≤ (c : Int) := by omega
          have m1 : Hid (G.length + O2.length ≤ maxLen) := by show _ ≤ _; unfold maxLen; omega
          have m2 : Hid ((G.length + O2.length) * 1 ≤ 140737488355328) := by show _ ≤ _; omega
          have hlt := hgo.1
          clear hcell hone hok FS hub hnd hne0 hgo hS2 hO2 OL GL HP HF1 HOK1
          go_wp2_with fail
          refine (FY.out).mono ?_
          rintro e w6 ⟨go3, rfl, h6, s6⟩
          simp only at h6 ⊢
          have H6 := Lib.hid (h6.eqv (by ac_rfl : _ = rowA 5 1 u16 G.length (bc G) * (pts go3 (.cells (bc O2).toArray 5 (0, 0)) * (decA d2 S2 O2 * (pts go (.cells (bc Gx).toArray 5 (0, 0)) * all wc)))))
          have NW := Lib.hid (blk_cell h6)
          have S6 := Lib.hid (HS.out.trans s6)
          have hl2 := Lib.hid (bc_len O2)
          clear h6 s6 FY HH HS
          go_wp2_with (at_builtin; refine wpList_append_sep rfl _ _ 22 rfl 5 (.int .u8 0) 1 1 Tryd.underlying22 infoB rfl rfl H6.out ⟨go3, 0, none⟩ O2.length O2.length (bc O2) rfl (by rw [Nat.mul_one]; exact hl2.out) NW.out bc_one m1.out m2.out ?_)
          intro v' w7 h7 s7 hvv
          clear hvv
          have H7 := Lib.hid (((h7.eqv (star_left_comm _ _ _)).right).eqv (by rw [bc_app, ← List.length_append] : _ = rowA 5 1 v' (G ++ O2).length (bc (G ++ O2)) * (decA d2 S2 O2 * (pts go (.cells (bc Gx).toArray 5 (0, 0)) * all wc))))
          have S7 := Lib.hid (S6.out.trans s7)
          clear h7 s7 H6 S6 NW hl2 m1 m2
          go_wp2_with fail
          go_roundw
          case rel => exact ⟨at_ + 1, S2, G ++ O2, O2, by go_num, rfl, rfl, by omega, HF2.out, HOK2.out, H7.out, S7.out⟩
          case measure => simp [intOf]; omega
        · have hx : stopped S1 = true ∨ at_ = bs.length := by
            rw [HB2.out.len]
            cases h : stopped S1
            · right
              have : ¬ at_ < m := fun h2 => hgo ⟨h2, h⟩
              omega
            · exact .inl rfl
          have HE := feed_end S0 S1 G bs at_ HF1.out hx
          rw [HFX.out] at HE
          simp only [Prod.mk.injEq] at HE
          obtain ⟨rfl, rfl, rfl⟩ := HE
          have CV := conv_rowA HH.out
          have CX := conv_blk (c := Gx.length) (HH.out.eqv (by ac_rfl : _ = pts go (.cells (bc Gx).toArray 5 (0, 0)) * (rowA 5 1 u16 Gx.length (bc Gx) * (decA d2 Sx O * all wc))))
          obtain ⟨gs, hgs⟩ : ∃ q, sb Gx = q := ⟨_, rfl⟩
          rw [hgs] at CV CX
          have FIN := Lib.hid (Holds.below (A := _ * _) (by have := HH.out; rw [← star_assoc, ← star_assoc] at this; exact this) HS.out)
          have hcond : (ux < m ∧ (Sx.done = true ∨ (Sx.done = false ∧ Sx.e ≠ 0))) ∨ ux = m := by
            rw [HB2.out.len] at hx
            rcases hx with h | h
            · by_cases h2 : ux < m
              · refine .inl ⟨h2, ?_⟩
                unfold stopped at h
                cases hd : Sx.done
                · rw [hd] at h
                  exact .inr ⟨rfl, by simpa using h⟩
                · exact .inl rfl
              · exact .inr (by omega)
            · exact .inr h
          clear hx hgo HF1 HOK1 HH HS hgs
          rcases hcond with ⟨h1, h2 | ⟨h2, h3⟩⟩ | h1
          · have i1 : decide ((ux : Int) < (m : Int)) = true := decide_eq_true (by omega)
            rw [h2]
            go_wp2_with fail
            go_ret
            exact ⟨rfl, FIN.out⟩
          · have i1 : decide ((ux : Int) < (m : Int)) = true := decide_eq_true (by omega)
            have t3 : ((Sx.e : Int) == 0) = false := beq_eq_false_iff_ne.2 (by omega)
            have t4 : (Sx.e == 0) = false := beq_eq_false_iff_ne.2 h3
            rw [h2]
            go_wp2_with fail
            go_ret
            exact ⟨rfl, FIN.out⟩
          · have i1 : decide ((ux : Int) < (m : Int)) = false := decide_eq_false (by omega)
            go_wp2_with fail
            go_ret
            exact ⟨rfl, FIN.out⟩
    · have N1 := Lib.hid (new_err k n hr (all wc) wc HW.out)
      obtain ⟨r, hr'⟩ : ∃ q, newR k n = q := ⟨_, rfl⟩
      rw [hr'] at N1 hr
      go_wp2_with fail
      refine (N1.out).mono ?_
      rintro e w1 ⟨rfl, b1⟩
      have N2 := Lib.hid (new_err k n (by rw [hr']; exact hr) (all wc) w1 (HW.out.grow b1))
      rw [hr'] at N2
      have B1 := Lib.hid b1
      clear b1
      go_wp2_with fail
      refine (N2.out).mono ?_
      rintro e w2 ⟨rfl, b2⟩
      have B2 : Hid (Below wc.heap.size wc w2) := B1.out.trans (b2.mono B1.out.size)
      have N3 := Lib.hid (new_fine 1 2 (by decide) _ w2 (HW.out.grow B2.out))
      clear b2 B1 N1 N2
      go_wp2_with fail
      refine (N3.out).mono ?_
      rintro e w3 ⟨d3, rfl, h3, s3⟩
      have FIN := Lib.hid (Holds.below (A := _) h3 ((Sm.of_below B2.out).trans s3))
      have t3 : ((r : Int) == 0) = false := beq_eq_false_iff_ne.2 (by omega)
      have t4 : (r == 0) = false := beq_eq_false_iff_ne.2 hr
      clear h3 s3 hr hr' N3
      go_wp2_with fail
      go_ret
      exact ⟨rfl, FIN.out⟩
#print axioms cuts_walk
end Go.Proofs.YtibhnkkfaochhaaDoor.Dec
