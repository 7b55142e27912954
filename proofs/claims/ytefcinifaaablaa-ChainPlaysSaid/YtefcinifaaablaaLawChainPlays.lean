/-
  ChainPlays, the walk.
-/
import Derived.Test.YtefcinifaaablaaChainQ
import Derived.Test.YtefcinifaaablaaChain3
import Derived.Test.YtefcinifaaablaaChainLen
import Derived.Test.YtefcinifaaablaaRef16b
import Derived.Test.YtefcinifaaablaaRef16f
import Derived.Deep.DeepCutAuto
import Derived.Deep.CutBlock
import Derived.Deep.RegionHeld3
namespace Go.Proofs.Ytefcinifaaablaa.Chain
open Go.RowKit Go.Sep
open Go.Proofs.Ytefcinifaaablaa.Slab (szOf szN zeros clsFor Ar Src u8s ReadA ABlk X4 newBad newA newBad_zero liveA liveA_calls)
open Go.Proofs.Ytefcinifaaablaa.Ref15 (WfA WfB ar_wf refA rel_new lens_new rnewA_calls)
set_option maxRecDepth 100000
set_option linter.unusedVariables false
set_option linter.unusedSimpArgs false

set_option maxHeartbeats 8000000 in
theorem cplays_walk (x0 x1 x2 x3 : Int) (ao : Option Addr) (len cap : Nat) (w : World) (hacts : IsRecs w 5 (QAct5 w) ao len cap) :
    Calls Try.prog 5 #[.agg #[.int .i64 x0, .int .i64 x1, .int .i64 x2, .int .i64 x3], .slice ao len cap] w fun e w' => e = .returned (.bool true) ∧ Below w.heap.size w w' := by
  have ACTS := Lib.hid hacts
  have RN := Lib.hid (fun (F : Asr) (w : World) h => rnewA_calls x0 x1 x2 x3 F w h)
  have HX : Hid (newBad (X4 x0 x1 x2 x3) = 0 → ∀ c, c < 4 → 0 ≤ X4 x0 x1 x2 x3 c ∧ X4 x0 x1 x2 x3 c ≤ 4096) := fun h c hc => newBad_zero h c hc
  by_cases hb : newBad (X4 x0 x1 x2 x3) = 0
  rotate_left
  · have NW := Lib.hid (fun w => Slab.new_bad x0 x1 x2 x3 w hb)
    have HB := Lib.hid hb
    obtain ⟨nb, hnb⟩ : ∃ q, newBad (X4 x0 x1 x2 x3) = q := ⟨_, rfl⟩
    have HNB := Lib.hid hnb
    simp only [hnb] at NW
    have hne : (nb != nb) = false := by simp
    have hnz : (nb != 0) = true := by rw [← hnb]; simpa using hb
    clear hacts hb hnb HX ACTS
    go_enter Try.func5, Try.ntmps5
    go_wp2_with fail
    refine (NW.out _).mono ?_
    rintro e w1 ⟨rfl, b1⟩
    have B1 : Hid (Below w.heap.size w w1) := ((Below.refl _ w).alloc (Nat.le_refl _) _).trans (b1.mono (by simp))
    have bl1 : w.heap.size < w1.heap.size := by have := b1.size; simp at this; omega
    have cc : ∀ k, k < 4 → w1.cell? ⟨w.heap.size, k, none⟩ = (w.alloc (.cells #[.int .i64 x0, .int .i64 x1, .int .i64 x2, .int .i64 x3] 26)).cell? ⟨w.heap.size, k, none⟩ := fun k _ => b1.cell (p := ⟨w.heap.size, k, none⟩) (by simp)
    have c0 := (cc 0 (by omega)).trans (by rw [World.cell?_alloc_new])
    have c1 := (cc 1 (by omega)).trans (by rw [World.cell?_alloc_new])
    have c2 := (cc 2 (by omega)).trans (by rw [World.cell?_alloc_new])
    have c3 := (cc 3 (by omega)).trans (by rw [World.cell?_alloc_new])
    simp at c0 c1 c2 c3
    clear b1 cc NW
    go_wp2_with fail
    refine (RN.out emp _ (Holds.emp _)).mono ?_
    rintro e w2 (⟨-, rfl, b2⟩ | ⟨h0, -⟩)
    rotate_left
    · exact absurd h0 HB.out
    have B2 : Hid (Below w.heap.size w w2) := B1.out.trans (b2.mono (by omega))
    rw [HNB.out]
    clear b2 RN
    go_wp2_with fail
    go_ret
    exact ⟨rfl, B2.out⟩
  have HXX := Lib.hid (HX.out hb)
  have NW := Lib.hid (fun (F : Asr) (w : World) h => Slab.newA_calls x0 x1 x2 x3 F w h hb)
  have HA0 := Lib.hid (holds_all w)
  have hx0 : 0 ≤ x0 ∧ x0 ≤ 4096 := HX.out hb 0 (by omega)
  have hx1 : 0 ≤ x1 ∧ x1 ≤ 4096 := HX.out hb 1 (by omega)
  have hx2 : 0 ≤ x2 ∧ x2 ≤ 4096 := HX.out hb 2 (by omega)
  have hx3 : 0 ≤ x3 ∧ x3 ≤ 4096 := HX.out hb 3 (by omega)
  have ws1 : IntKind.i64.wrap (x0 + x1) = x0 + x1 := IntWalk.i64_in _ (by omega)
  have ws2 : IntKind.i64.wrap (x0 + x1 + x2) = x0 + x1 + x2 := IntWalk.i64_in _ (by omega)
  have ws3 : IntKind.i64.wrap (x0 + x1 + x2 + x3) = x0 + x1 + x2 + x3 := IntWalk.i64_in _ (by omega)
  have HZ : Hid (x0 + x1 + x2 + x3 ≤ 300 → ∀ d, d < 4 → sh (newA (X4 x0 x1 x2 x3)) d ≤ 300) := by
    intro hs d hd
    rw [sh_new hd]
    have : d = 0 ∨ d = 1 ∨ d = 2 ∨ d = 3 := by omega
    rcases this with rfl | rfl | rfl | rfl <;> simp only [X4] <;> omega
  obtain ⟨X, hX⟩ : ∃ q, X4 x0 x1 x2 x3 = q := ⟨_, rfl⟩
  rw [hX] at HXX NW RN HZ
  have HB : Hid (newBad X = 0) := by show _ = _; rw [← hX]; exact hb
  obtain ⟨sm, hsm⟩ : ∃ q, x0 + x1 + x2 + x3 = q := ⟨_, rfl⟩
  rw [hsm] at ws3 HZ
  clear hacts hb HX hX hx0 hx1 hx2 hx3
  go_enter Try.func5, Try.ntmps5
  go_wp2_with fail
  refine (NW.out _ _ (HA0.out.alloc _)).mono ?_
  rintro e w1 ⟨xa, rfl, k1, s1⟩
  have K1 := Lib.hid k1
  have S1 := Lib.hid (((Sm.refl w).alloc _).trans s1)
  have hk0 := k1.eqv (star_left_comm _ _ _)
  have c0 := hk0.cell 0
  have c1 := hk0.cell 1
  have c2 := hk0.cell 2
  have c3 := hk0.cell 3
  have cl := hk0.lt
  simp at c0 c1 c2 c3
  clear k1 s1 NW hk0
  go_wp2_with fail
  refine (RN.out _ _ K1.out).mono ?_
  rintro e w2 (⟨h0, -, -⟩ | ⟨-, ya, rfl, k2, s2⟩)
  · exact absurd HB.out h0
  clear c0 c1 c2 c3 cl
  have hk1 := k2.eqv (by ac_rfl : _ = pts w.heap.size (.cells #[.int .i64 x0, .int .i64 x1, .int .i64 x2, .int .i64 x3] 26) * (Ar xa (newA X) * (refA ya X [] * all w)))
  have c0 := hk1.cell 0
  have c1 := hk1.cell 1
  have c2 := hk1.cell 2
  have c3 := hk1.cell 3
  have cl := hk1.lt
  simp at c0 c1 c2 c3
  have S2 := Lib.hid (S1.out.trans s2)
  have WF : Hid (WfA (newA X)) := ar_wf hk1.right
  have H2 : Hid (Holds w2 (Ar xa (newA X) * (RAr X ya (newA X) * all w))) := by
    show Holds _ _
    have h := rar_new HXX.out (hk1.right.eqv (star_left_comm _ _ _))
    exact h.eqv (star_left_comm _ _ _)
  clear k2 s2 hk1 RN K1 S1
  by_cases hs : sm ≤ 300
  rotate_left
  · have es : decide (300 < sm) = true := by simp; omega
    have FIN := Lib.hid (Holds.below (H2.out.eqv (by ac_rfl : _ = (Ar xa (newA X) * RAr X ya (newA X)) * all w)) S2.out)
    go_wp2_with fail
    go_ret
    exact ⟨rfl, FIN.out⟩
  have es : decide (300 < sm) = false := by simp; omega
  have Z := Lib.hid (HZ.out hs)
  have NC := Lib.hid (new_calls xa _ w2 H2.out)
  clear hs HZ
  go_wp2_with fail
  refine (NC.out).mono ?_
  rintro e w3 ⟨c, rfl, h3, s3⟩
  have H3 : Hid (Holds (((w3.alloc (.cells #[.pointer (some ⟨c, 0, none⟩)] 27)).alloc (.cells #[.pointer (some ⟨ya, 0, none⟩), .slice none 0 0, .slice none 0 0, .bool false, .bool false] 46)).alloc (.cells #[.pointer (some ⟨w3.heap.size + 1, 0, none⟩)] 43)) (plC X xa ya (newA X) [⟨c, ch0, w3.heap.size + 1, rch0⟩] (.slice (some ⟨w3.heap.size, 0, none⟩) 1 1) (.slice (some ⟨w3.heap.size + 2, 0, none⟩) 1 1) w)) := by
    show Holds _ _
    have h1 := row_new (h3.alloc (.cells #[.pointer (some ⟨c, 0, none⟩)] 27)) pc ⟨c, ch0, w3.heap.size + 1, rch0⟩ rfl
    have h2 := rc_new ya h1
    have h4 := row_new (h2.alloc (.cells #[.pointer (some ⟨w3.heap.size + 1, 0, none⟩)] 43)) pr ⟨c, ch0, w3.heap.size + 1, rch0⟩ rfl
    simp only [World.size_alloc] at h4
    refine h4.eqv ?_
    unfold plC
    simp only [big, ent, emp_star]
    rw [star_comm (chA c xa ch0 * rcA (w3.heap.size + 1) ya rch0) emp, emp_star]
    show _ = Ar xa (newA X) * (RAr X ya (newA X) * ((chA c xa ch0 * rcA (w3.heap.size + 1) ya rch0) * _))
    unfold ch0
    ac_rfl
  have S3 : Hid (Sm w (((w3.alloc (.cells #[.pointer (some ⟨c, 0, none⟩)] 27)).alloc (.cells #[.pointer (some ⟨ya, 0, none⟩), .slice none 0 0, .slice none 0 0, .bool false, .bool false] 46)).alloc (.cells #[.pointer (some ⟨w3.heap.size + 1, 0, none⟩)] 43))) := (((S2.out.trans s3).alloc _).alloc _).alloc _
  have I0 : Hid (Iv (newA X) [⟨c, ch0, w3.heap.size + 1, rch0⟩] 0) := Iv.init WF.out Z.out _ _
  clear h3 s3 NC H2 S2 WF Z c0 c1 c2 c3 cl
  go_wp2_with fail
  go_loopw [9, 10, 11] (fun va vb x wr => ∃ (k : Nat) (A : List (List ABlk)) (Q : List Ent), k ≤ len ∧ k ≤ 60 ∧ x = .int .i64 k ∧ Hid (Iv A Q k) ∧ Hid (Holds wr (plC X xa ya A Q va vb w)) ∧ Hid (Sm w wr)) (fun _ _ x _ => len - (intOf x).toNat)
  case atStart => exact ⟨0, _, _, Nat.zero_le _, by omega, rfl, I0.out, H3.out, S3.out⟩
  case round =>
    clear H3 S3 I0 HB HA0 ws1 ws2 ws3 hsm es
    obtain ⟨k, A, Q, hk, hk2, rfl, I, HH, HS⟩ := hrel
    by_cases hkl : k < len ∧ k < 60
    · obtain ⟨hka, hkb⟩ := hkl
      obtain ⟨ob, oo, rfl, hlc, hob, hrec⟩ := ACTS.out (by omega)
      obtain ⟨cs, -, ⟨kd, kk, nn, at_, cb, rfl⟩, hc⟩ := hrec k hka
      have hbel := Holds.below (HH.out.eqv (by unfold plC; ac_rfl : _ = (Ar xa A * (RAr X ya A * (big (ent xa ya) Q * (rowL 27 1 pc _ Q * rowL 43 1 pr _ Q)))) * all w)) HS.out
      have d0 : wr.cell? ⟨ob, oo + k * 5, none⟩ = some (.int .i64 kd) := (hbel.cell (p := ⟨ob, oo + k * 5, none⟩) hob).trans (hc 0 _ rfl)
      have d1 : wr.cell? ⟨ob, oo + k * 5 + 1, none⟩ = some (.int .i64 kk) := (hbel.cell (p := ⟨ob, oo + k * 5 + 1, none⟩) hob).trans (hc 1 _ rfl)
      have d2 : wr.cell? ⟨ob, oo + k * 5 + 2, none⟩ = some (.int .i64 nn) := (hbel.cell (p := ⟨ob, oo + k * 5 + 2, none⟩) hob).trans (hc 2 _ rfl)
      have d3 : wr.cell? ⟨ob, oo + k * 5 + 3, none⟩ = some (.int .i64 at_) := (hbel.cell (p := ⟨ob, oo + k * 5 + 3, none⟩) hob).trans (hc 3 _ rfl)
      have d4 : wr.cell? ⟨ob, oo + k * 5 + 4, none⟩ = some (.int .u8 cb) := (hbel.cell (p := ⟨ob, oo + k * 5 + 4, none⟩) hob).trans (hc 4 _ rfl)
      have k0 : (0 : Int) ≤ (k : Int) := by omega
      have k1 : (k : Int) < (len : Int) := by omega
      have q2 : decide ((k : Int) < 60) = true := by simp; omega
      have q3 : decide (k < 60) = true := by simp; omega
      have ob' : ob < wr.heap.size := Nat.lt_of_lt_of_le hob HS.out.size
      obtain ⟨ga, capa, hva, hca, -, -, -⟩ := rowL_cell (HH.out.eqv (by unfold plC; ac_rfl : _ = rowL 27 1 pc _ Q * (Ar xa A * (RAr X ya A * (big (ent xa ya) Q * (rowL 43 1 pr _ Q * all w)))))) pc_len 0 I.out.pos
      obtain ⟨gb, capb, hvb, hcb, -, -, -⟩ := rowL_cell (HH.out.eqv (by unfold plC; ac_rfl : _ = rowL 43 1 pr _ Q * (Ar xa A * (RAr X ya A * (big (ent xa ya) Q * (rowL 27 1 pc _ Q * all w)))))) pr_len 0 I.out.pos
      obtain ⟨n, hn⟩ : ∃ q, Q.length = q := ⟨_, rfl⟩
      have HN := Lib.hid hn
      rw [hn] at hva hca hvb hcb
      subst hva
      subst hvb
      have n1 : 0 < n := by rw [← hn]; exact I.out.pos
      have n9 : n ≤ 60 := by have := I.out.n; omega
      obtain ⟨q, hq⟩ : ∃ q, Int.tmod kk (n : Int) = q := ⟨_, rfl⟩
      have hq1 : q < (n : Int) := by rw [← hq]; exact Int.tmod_lt_of_pos kk (by omega)
      have hq2 : -(n : Int) < q := by rw [← hq]; exact Int.lt_tmod_of_pos kk (by omega)
      obtain ⟨j, hj⟩ := Int.eq_ofNat_of_zero_le (Int.emod_nonneg (q + (n : Int)) (show (n : Int) ≠ 0 by omega))
      have hj1 : (j : Int) < (n : Int) := by rw [← hj]; exact Int.emod_lt_of_pos _ (by omega)
      have hj2 : Int.tmod (q + (n : Int)) (n : Int) = j := by rw [Int.tmod_eq_emod_of_nonneg (by omega)]; exact hj
      have hjl : Hid (j < Q.length) := by show _ < _; rw [hn]; omega
      have n0 : ¬ ((n : Int) = 0) := by omega
      have n0b : ((n : Int) == 0) = false := by simp; omega
      have n0n : ¬ (n = 0) := by omega
      have j0 : (0 : Int) ≤ (j : Int) := by omega
      have j1 : j < n := by omega
      have HA := Lib.hid (HH.out.alloc (.cells #[.int .i64 kd, .int .i64 kk, .int .i64 nn, .int .i64 at_, .int .u8 cb] 49))
      have SA := Lib.hid (HS.out.alloc (.cells #[.int .i64 kd, .int .i64 kk, .int .i64 nn, .int .i64 at_, .int .u8 cb] 49))
      clear hbel hc hrec hob hn hj
      go_upto_block 2 with (fail)
      obtain ⟨B, hB⟩ : ∃ q, wr.heap.size = q := ⟨_, rfl⟩
      rw [hB] at HA
      rw [hB]
      obtain ⟨W1, hW1⟩ : ∃ q, wr.alloc (.cells #[.int .i64 kd, .int .i64 kk, .int .i64 nn, .int .i64 at_, .int .u8 cb] 49) = q := ⟨_, rfl⟩
      rw [hW1] at HA SA ⊢
      clear hW1 hB HH HS d0 d1 d2 d3 d4 ob' hq hq1 hq2 hj2 n0 n0b n0n
      go_cut [9, 10] (fun va vb wd => ∃ (A2 : List (List ABlk)) (Q2 : List Ent), Hid (Iv A2 Q2 (k + 1)) ∧ Hid (j < Q2.length) ∧ Hid (Holds wd (pts B (.cells #[.int .i64 kd, .int .i64 kk, .int .i64 nn, .int .i64 at_, .int .u8 cb] 49) * plC X xa ya A2 Q2 va vb w)) ∧ Hid (Sm w wd))
      case first =>
        as_aux_lemma =>
          obtain ⟨PW, hPW⟩ : ∃ q, pts B (.cells #[.int .i64 kd, .int .i64 kk, .int .i64 nn, .int .i64 at_, .int .u8 cb] 49) * (rowL 27 1 pc (.slice (some ⟨ga, 0, none⟩) n capa) Q * (rowL 43 1 pr (.slice (some ⟨gb, 0, none⟩) n capb) Q * all w)) = q := ⟨_, rfl⟩
          have HPW := Lib.hid hPW
          have HX : Hid (Holds W1 (Ar xa A * (RAr X ya A * (big (ent xa ya) Q * PW)))) := by
            show Holds _ _
            rw [← hPW]
            exact HA.out.eqv (by unfold plC; ac_rfl)
          obtain ⟨⟨c0, K0, r0, R0⟩, hqq⟩ : ∃ q, Q[j]'(hjl.out) = q := ⟨_, rfl⟩
          have QQ : Hid (Q[j]'(hjl.out) = ⟨c0, K0, r0, R0⟩) := hqq
          have PC : Hid (∀ (wq : World) (G : Asr), Holds wq (G * PW) → (wq.cell? ⟨ga, j, none⟩ = some (.pointer (some ⟨c0, 0, none⟩)) ∧ wq.cell? ⟨gb, j, none⟩ = some (.pointer (some ⟨r0, 0, none⟩))) ∧ (ga < wq.heap.size ∧ gb < wq.heap.size ∧ B < wq.heap.size ∧ wq.cell? ⟨B, 2, none⟩ = some (.int .i64 nn) ∧ wq.cell? ⟨B, 4, none⟩ = some (.int .u8 cb) ∧ wq.cell? ⟨B, 0, none⟩ = some (.int .i64 kd))) := by
            intro wq G h
            rw [← hPW] at h
            have ha := h.eqv (by ac_rfl : _ = rowL 27 1 pc (.slice (some ⟨ga, 0, none⟩) n capa) Q * (G * (pts B (.cells #[.int .i64 kd, .int .i64 kk, .int .i64 nn, .int .i64 at_, .int .u8 cb] 49) * (rowL 43 1 pr (.slice (some ⟨gb, 0, none⟩) n capb) Q * all w))))
            have hb := h.eqv (by ac_rfl : _ = rowL 43 1 pr (.slice (some ⟨gb, 0, none⟩) n capb) Q * (G * (pts B (.cells #[.int .i64 kd, .int .i64 kk, .int .i64 nn, .int .i64 at_, .int .u8 cb] 49) * (rowL 27 1 pc (.slice (some ⟨ga, 0, none⟩) n capa) Q * all w))))
            have hc := h.eqv (by ac_rfl : _ = pts B (.cells #[.int .i64 kd, .int .i64 kk, .int .i64 nn, .int .i64 at_, .int .u8 cb] 49) * (G * (rowL 43 1 pr (.slice (some ⟨gb, 0, none⟩) n capb) Q * (rowL 27 1 pc (.slice (some ⟨ga, 0, none⟩) n capa) Q * all w))))
            obtain ⟨g, cap2, e1, -, hg, hrc, -⟩ := rowL_cell ha pc_len j hjl.out
            obtain ⟨g', cap2', e1', -, hg', hrc', -⟩ := rowL_cell hb pr_len j hjl.out
            simp at e1 e1'
            obtain ⟨rfl, -⟩ := e1
            obtain ⟨rfl, -⟩ := e1'
            have r0 := hrc 0 (by omega)
            have r1 := hrc' 0 (by omega)
            rw [hqq] at r0 r1
            simp only [pc, pr, Nat.mul_one, Nat.add_zero, List.getElem?_cons_zero] at r0 r1
            have a2 := hc.cell 2
            have a4 := hc.cell 4
            have a0 := hc.cell 0
            simp at a2 a4 a0
            exact ⟨⟨r0, r1⟩, hg, hg', hc.lt, a2, a4, a0⟩
          have hc := HX.out.eqv (by ac_rfl : _ = (Ar xa A * (RAr X ya A * big (ent xa ya) Q)) * PW)
          obtain ⟨⟨z0, z1⟩, zla, zlb, zlB, b2, b4, b0⟩ := PC.out W1 _ hc
          clear hPW HA hc hqq
          by_cases t0 : kd = 0
          · subst t0
            as_aux_lemma =>
              have NC := Lib.hid (new_calls xa _ W1 HX.out)
              clear HX
              go_wp2_with fail
              refine (NC.out).mono ?_
              rintro e w2 ⟨c, rfl, h2, s2⟩
              have S2 := Lib.hid (SA.out.trans s2)
              obtain ⟨⟨z0', z1'⟩, zla', zlb', zlB', b2', b4', b0'⟩ := PC.out w2 _ (h2.eqv (by ac_rfl : _ = (chA c xa ⟨[], 0, 0, false, false⟩ * (Ar xa A * (RAr X ya A * big (ent xa ya) Q))) * PW))
              have HAP : Hid (Holds (w2.alloc (.cells #[.pointer (some ⟨c, 0, none⟩)] 27)) (rowL 27 1 pc (.slice (some ⟨ga, 0, none⟩) n capa) Q * (chA c xa ch0 * (Ar xa A * (RAr X ya A * (big (ent xa ya) Q * (pts B (.cells #[.int .i64 0, .int .i64 kk, .int .i64 nn, .int .i64 at_, .int .u8 cb] 49) * (rowL 43 1 pr (.slice (some ⟨gb, 0, none⟩) n capb) Q * all w)))))))) := by
                show Holds _ _
                have h := (h2.alloc (.cells #[.pointer (some ⟨c, 0, none⟩)] 27)).right
                rw [← HPW.out] at h
                exact h.eqv (by unfold ch0; ac_rfl)
              have N1 : Hid (Q.length + 1 ≤ maxLen) := by show _ ≤ _; rw [HN.out]; unfold maxLen; omega
              have N2 : Hid ((Q.length + 1) * 8 ≤ 140737488355328) := by show _ ≤ _; rw [HN.out]; omega
              clear h2 s2 NC SA z0 z1 zla zlb zlB b2 b4 b0 z0' z1' zla' zlb' zlB' b2' b4' b0' PC
              go_wp2_with (at_builtin; refine wpList_append_one (enc := pc) rfl _ _ 42 rfl 27 (.pointer none) 1 8 Try.underlying42 infoPC rfl (⟨c, ch0, 0, rch0⟩ : Ent) rfl HAP.out ⟨w2.heap.size, 0, none⟩ 1 rfl rfl (cells_new w2 #[.pointer (some ⟨c, 0, none⟩)] 27 _ rfl) (by simp [pc, Value.oneCell']) N1.out N2.out ?_)
              intro va' w4 h4 s4
              have S4 : Hid (Sm w w4) := (S2.out.alloc _).trans s4
              have HBP : Hid (Holds ((w4.alloc (.cells #[.pointer (some ⟨ya, 0, none⟩), .slice none 0 0, .slice none 0 0, .bool false, .bool false] 46)).alloc (.cells #[.pointer (some ⟨w4.heap.size, 0, none⟩)] 43)) (rowL 43 1 pr (.slice (some ⟨gb, 0, none⟩) n capb) Q * (rcA w4.heap.size ya rch0 * (rowL 27 1 pc va' (Q ++ [⟨c, ch0, 0, rch0⟩]) * (chA c xa ch0 * (Ar xa A * (RAr X ya A * (big (ent xa ya) Q * (pts B (.cells #[.int .i64 0, .int .i64 kk, .int .i64 nn, .int .i64 at_, .int .u8 cb] 49) * all w))))))))) := by
                show Holds _ _
                have h := ((rc_new ya h4).alloc (.cells #[.pointer (some ⟨w4.heap.size, 0, none⟩)] 43)).right
                exact h.eqv (by ac_rfl)
              clear h4 s4 HAP S2
              go_wp2_with (at_builtin; refine wpList_append_one (enc := pr) rfl _ _ 47 rfl 43 (.pointer none) 1 8 Try.underlying47 infoPR rfl (⟨c, ch0, w4.heap.size, rch0⟩ : Ent) rfl HBP.out ⟨w4.heap.size + 1, 0, none⟩ 1 rfl rfl (cells_newg (w4.alloc (.cells #[.pointer (some ⟨ya, 0, none⟩), .slice none 0 0, .slice none 0 0, .bool false, .bool false] 46)) #[.pointer (some ⟨w4.heap.size, 0, none⟩)] 43 _ rfl (w4.heap.size + 1) (by simp)) (by simp [pr, Value.oneCell']) N1.out N2.out ?_)
              intro vb' w5 h5 s5
              have S5 : Hid (Sm w w5) := ((S4.out.alloc _).alloc _).trans s5
              have HT : Hid (Holds w5 (pts B (.cells #[.int .i64 0, .int .i64 kk, .int .i64 nn, .int .i64 at_, .int .u8 cb] 49) * plC X xa ya A (Q ++ [⟨c, ch0, w4.heap.size, rch0⟩]) va' vb' w)) := by
                show Holds _ _
                rw [rowL_flat (enc2 := pc) (k := Q ++ [⟨c, ch0, w4.heap.size, rch0⟩]) (v := va') (by simp [pc])] at h5
                refine h5.eqv ?_
                unfold plC
                rw [big_append]
                simp only [big, ent]
                rw [star_comm (chA c xa ch0 * rcA w4.heap.size ya rch0) emp, emp_star]
                ac_rfl
              have GF : Hid (Iv A (Q ++ [⟨c, ch0, w4.heap.size, rch0⟩]) (k + 1)) := I.out.new _ _
              have JF : Hid (j < (Q ++ [(⟨c, ch0, w4.heap.size, rch0⟩ : Ent)]).length) := by show _ < _; have := hjl.out; simp; omega
              clear h5 s5 HBP S4 N1 N2
              go_wp2_with fail
              go_meet
              case rel => exact ⟨_, _, GF.out, JF.out, HT.out, S5.out⟩
          by_cases t1 : kd = 1
          · subst t1
            as_aux_lemma =>
              obtain ⟨m, hm, hm9, -⟩ := and_lo 14 (by decide) nn
              simp only [show (2 ^ 14 - 1 : Nat) = 16383 from rfl, show (2 ^ 14 : Nat) = 16384 from rfl] at hm hm9
              replace hm : bits .and .i64 nn 16383 = m := hm
              have MK := run_make_u8 m (by omega)
              obtain ⟨OTH, hOTH⟩ : ∃ q, big (ent xa ya) (Q.eraseIdx j) = q := ⟨_, rfl⟩
              have HOTH := Lib.hid hOTH
              have HY0 : Hid (Holds (W1.alloc (.cells (Array.replicate m (Value.int .u8 0)) 5)) (pts W1.heap.size (.cells (u8s (List.replicate m 0)).toArray 5 (0, 0)) * (chA c0 xa K0 * (Ar xa A * (rcA r0 ya R0 * (RAr X ya A * (OTH * PW))))))) := by
                show Holds _ _
                have h := HX.out
                rw [big_out hjl.out QQ.out, hOTH] at h
                have h := h.alloc (.cells (Array.replicate m (Value.int .u8 0)) 5)
                rw [show (u8s (List.replicate m 0)).toArray = Array.replicate m (Value.int .u8 0) by simp [u8s]]
                exact h.eqv (by ac_rfl)
              have SY0 := Lib.hid (SA.out.alloc (.cells (Array.replicate m (Value.int .u8 0)) 5))
              clear hOTH HX SA
              go_wp2_with fail
              obtain ⟨Bb, hBb⟩ : ∃ q, W1.heap.size = q := ⟨_, rfl⟩
              obtain ⟨W2, hW2⟩ : ∃ q, W1.alloc (.cells (Array.replicate m (Value.int .u8 0)) 5) = q := ⟨_, rfl⟩
              rw [hW2, hBb] at HY0
              rw [hW2] at SY0 ⊢
              rw [hBb]
              clear hW2 hBb MK z0 z1 zla zlb zlB b2 b4 b0
              go_loopw [15] (fun x wl => ∃ (i : Nat) (bs : List Int), i ≤ m ∧ x = .int .i64 i ∧ Hid (bs.length = m) ∧ Hid (∀ v ∈ bs, 0 ≤ v ∧ v < 256) ∧ Hid (Holds wl (pts Bb (.cells (u8s bs).toArray 5 (0, 0)) * (chA c0 xa K0 * (Ar xa A * (rcA r0 ya R0 * (RAr X ya A * (OTH * PW))))))) ∧ Hid (Sm w wl)) (fun x _ => m - (intOf x).toNat)
              case atStart => exact ⟨0, _, Nat.zero_le _, rfl, by simp [Hid], fun v hv => by have := (List.mem_replicate.1 hv).2; omega, HY0.out, SY0.out⟩
              case round =>
                clear HY0 SY0
                obtain ⟨i, bs, hi, rfl, HBL, HB8, HL, SL⟩ := hrel
                have hl9 := HL.out.lt
                obtain ⟨⟨z0, z1⟩, zla, zlb, zlB, b2, b4, b0⟩ := PC.out wr _ (HL.out.eqv (by ac_rfl : _ = (pts Bb (.cells (u8s bs).toArray 5 (0, 0)) * (chA c0 xa K0 * (Ar xa A * (rcA r0 ya R0 * (RAr X ya A * OTH))))) * PW))
                by_cases him : i < m
                · have i0 : (0 : Int) ≤ (i : Int) := by omega
                  have i1 : (i : Int) < (m : Int) := by omega
                  have i2 : decide ((i : Int) < (m : Int)) = true := by simp; omega
                  have fz := HL.out.frozen i
                  have cell : ∃ u, wr.cell? ⟨Bb, i, none⟩ = some u := by
                    rw [HL.out.cell]
                    have hb := HBL.out
                    exact ⟨_, Array.getElem?_eq_getElem (show i < (u8s bs).toArray.size by simp [u8s, hb]; exact him)⟩
                  obtain ⟨u, hu⟩ := cell
                  have NX : Hid (∀ z : Int, 0 ≤ z ∧ z < 256 → Holds (wr.setCell ⟨Bb, i, none⟩ (.int .u8 z)) (pts Bb (.cells (u8s (bs.set i z)).toArray 5 (0, 0)) * (chA c0 xa K0 * (Ar xa A * (rcA r0 ya R0 * (RAr X ya A * (OTH * PW))))))) := by
                    intro z hz
                    have h := HL.out.store i (.int .u8 z)
                    simpa [u8s, List.map_set] using h
                  have N8 : Hid (∀ z : Int, 0 ≤ z ∧ z < 256 → ∀ v ∈ bs.set i z, 0 ≤ v ∧ v < 256) := by
                    intro z hz v hv
                    rcases List.mem_or_eq_of_mem_set hv with h | h
                    · exact HB8.out v h
                    · rw [h]; exact hz
                  have SN : Hid (∀ z : Int, Sm w (wr.setCell ⟨Bb, i, none⟩ (.int .u8 z))) := fun z => SL.out.setCell _ _
                  have RG : Hid (∀ z : Int, 0 ≤ IntKind.u8.wrap z ∧ IntKind.u8.wrap z < 256) := by intro z; rw [IntKind.wrap_u8]; omega
                  clear HL SL
                  go_wp2_with fail
                  go_roundw
                  case rel => exact ⟨i + 1, bs.set i _, by omega, by go_num, by show _ = _; rw [List.length_set]; exact HBL.out, N8.out _ (RG.out _), NX.out _ (RG.out _), SN.out _⟩
                  case measure => simp [intOf]; omega
                · obtain rfl : i = m := by omega
                  clear him hi
                  have HY : Hid (Holds wr (chA c0 xa K0 * (Ar xa A * (pts Bb (.cells (u8s bs).toArray 5 (0, 0)) * (rcA r0 ya R0 * (RAr X ya A * (OTH * PW))))))) := HL.out.eqv (by ac_rfl)
                  clear HL b2 b4 b0 hm
                  have GG := I.out.append hjl.out QQ.out bs HB8.out
                  simp only at GG
                  have OKK := Lib.hid (I.out.at_ j hjl.out)
                  rw [QQ.out] at OKK
                  have AX : Hid (∀ wq, Holds wq (chA c0 xa K0 * (Ar xa A * (pts Bb (.cells (u8s bs).toArray 5 (0, 0)) * (rcA r0 ya R0 * (RAr X ya A * (OTH * PW)))))) → Calls Try.prog 12 #[.pointer (some ⟨c0, 0, none⟩), .slice (some ⟨Bb, 0, none⟩) i i] wq (AppC (appA A K0 bs) c0 xa (pts Bb (.cells (u8s bs).toArray 5 (0, 0)) * (rcA r0 ya R0 * (RAr X ya A * (OTH * PW)))) wq)) := fun wq h => append_calls c0 xa K0 A (pts Bb (.cells (u8s bs).toArray 5 (0, 0)) * (rcA r0 ya R0 * (RAr X ya A * (OTH * PW)))) (some ⟨Bb, 0, none⟩) i i bs wq OKK.out.ok (bytes_pts HBL.out (by omega) HB8.out) h
                  obtain ⟨ap, hap⟩ : ∃ q, appA A K0 bs = q := ⟨_, rfl⟩
                  have AY : Hid (∀ wq K1 A1, Holds wq (rcA r0 ya R0 * (RAr X ya A * (pts Bb (.cells (u8s bs).toArray 5 (0, 0)) * (chA c0 xa K1 * (Ar xa A1 * (OTH * PW)))))) → Calls Try.prog 19 #[.pointer (some ⟨r0, 0, none⟩), .slice (some ⟨Bb, 0, none⟩) i i] wq (RAppC X r0 ya (rappA A R0 bs) (pts Bb (.cells (u8s bs).toArray 5 (0, 0)) * (chA c0 xa K1 * (Ar xa A1 * (OTH * PW)))) wq)) := by
                    intro wq K1 A1 h
                    have hl := HBL.out
                    have h1 := OKK.out.n
                    have h2 := OKK.out.l
                    simp only at h1 h2
                    have t := rappend_calls X r0 ya R0 A (pts Bb (.cells (u8s bs).toArray 5 (0, 0)) * (chA c0 xa K1 * (Ar xa A1 * (OTH * PW)))) ⟨Bb, 0, none⟩ i bs wq (by rw [← h2]; omega) (by rw [← h2]; exact OKK.out.ok.cls) OKK.out.bl (fun wz G hz => by rw [hl]; exact (bytes_pts (T := 5) hl (by omega) HB8.out).src wz G hz) (by omega) h
                    rw [hl] at t
                    exact t
                  obtain ⟨rp, hrp⟩ : ∃ q, rappA A R0 bs = q := ⟨_, rfl⟩
                  rw [hap, hrp] at GG
                  rw [hap] at AX
                  rw [hrp] at AY
                  obtain ⟨A1, K1, re⟩ := ap
                  obtain ⟨A2, R1, re'⟩ := rp
                  obtain ⟨ge, gr, gi⟩ := GG
                  simp only at ge gr gi
                  replace ge := ge.symm
                  subst ge
                  have GR := Lib.hid gr
                  have GI := Lib.hid gi
                  clear hap hrp gr gi
                  have TX : Hid (∀ wq, Holds wq (chA c0 xa K0 * (Ar xa A * (pts Bb (.cells (u8s bs).toArray 5 (0, 0)) * (rcA r0 ya R0 * (RAr X ya A * (OTH * PW)))))) → Calls Try.prog 12 #[.pointer (some ⟨c0, 0, none⟩), .slice (some ⟨Bb, 0, none⟩) i i] wq fun e w' => e = .returned (.int .i64 re) ∧ Holds w' (rcA r0 ya R0 * (RAr X ya A * (pts Bb (.cells (u8s bs).toArray 5 (0, 0)) * (chA c0 xa K1 * (Ar xa A1 * (OTH * PW)))))) ∧ Sm wq w' ∧ (w'.cell? ⟨ga, j, none⟩ = some (.pointer (some ⟨c0, 0, none⟩)) ∧ w'.cell? ⟨gb, j, none⟩ = some (.pointer (some ⟨r0, 0, none⟩)))) := by
                    intro wq h
                    refine (AX.out wq h).mono ?_
                    rintro e w' ⟨rfl, h1, h2⟩
                    exact ⟨rfl, h1.eqv (by ac_rfl), h2, (PC.out w' (chA c0 xa K1 * (Ar xa A1 * (pts Bb (.cells (u8s bs).toArray 5 (0, 0)) * (rcA r0 ya R0 * (RAr X ya A * OTH))))) (h1.eqv (by ac_rfl))).1⟩
                  have TY : Hid (∀ wq, Holds wq (rcA r0 ya R0 * (RAr X ya A * (pts Bb (.cells (u8s bs).toArray 5 (0, 0)) * (chA c0 xa K1 * (Ar xa A1 * (OTH * PW)))))) → Calls Try.prog 19 #[.pointer (some ⟨r0, 0, none⟩), .slice (some ⟨Bb, 0, none⟩) i i] wq fun e w' => e = .returned (.int .i64 re) ∧ Holds w' (RAr X ya A1 * (rcA r0 ya R1 * (pts Bb (.cells (u8s bs).toArray 5 (0, 0)) * (chA c0 xa K1 * (Ar xa A1 * (OTH * PW)))))) ∧ Sm wq w' ∧ (w'.cell? ⟨ga, j, none⟩ = some (.pointer (some ⟨c0, 0, none⟩)) ∧ w'.cell? ⟨gb, j, none⟩ = some (.pointer (some ⟨r0, 0, none⟩)))) := by
                    intro wq h
                    refine (AY.out wq K1 A1 h).mono ?_
                    rintro e w' ⟨rfl, h1, h2⟩
                    have h3 := rar_write (h1.eqv (star_left_comm _ _ _)) GR.out.symm
                    exact ⟨rfl, h3, h2, (PC.out w' (RAr X ya A1 * (rcA r0 ya R1 * (pts Bb (.cells (u8s bs).toArray 5 (0, 0)) * (chA c0 xa K1 * (Ar xa A1 * OTH))))) (h3.eqv (by ac_rfl))).1⟩
                  have eb : (re != re) = false := by simp
                  clear AX AY
                  go_wp2_with fail
                  have zz : (fun w' : World => w'.cell? ⟨ga, j, none⟩ = some (.pointer (some ⟨c0, 0, none⟩)) ∧ w'.cell? ⟨gb, j, none⟩ = some (.pointer (some ⟨r0, 0, none⟩))) wr := ⟨z0, z1⟩
                  go_region_held3 (fun w' => w'.cell? ⟨ga, j, none⟩ = some (.pointer (some ⟨c0, 0, none⟩)) ∧ w'.cell? ⟨gb, j, none⟩ = some (.pointer (some ⟨r0, 0, none⟩))) (first | exact x3 | exact x2 | exact zz | go_keep) (first | (go_at_call 12; refine (TX.out _ ?_).mono ?_; (exact HY.out); rintro e w2 ⟨rfl, h2, s2, x2⟩; have H2 := Lib.hid h2; have S2 := Lib.hid s2; clear h2 s2) | (go_at_call 19; refine (TY.out _ ?_).mono ?_; (exact H2.out); rintro e w3 ⟨rfl, h3, s3, x3⟩; have H3 := Lib.hid h3; have S3 := Lib.hid s3; clear h3 s3))
                  have HF := Lib.hid H3.out
                  have SF : Hid (Sm w w3) := (SL.out.drew.trans S2.out).trans S3.out
                  clear HY TX TY H2 H3 S2 S3 x2 x3 zz
                  go_wp2_with fail
                  have HT : Hid (Holds w3 (pts B (.cells #[.int .i64 1, .int .i64 kk, .int .i64 nn, .int .i64 at_, .int .u8 cb] 49) * plC X xa ya A1 (Q.set j ⟨c0, K1, r0, R1⟩) (.slice (some ⟨ga, 0, none⟩) n capa) (.slice (some ⟨gb, 0, none⟩) n capb) w)) := by
                    show Holds _ _
                    have h := HF.out
                    rw [← HPW.out, ← HOTH.out] at h
                    have h9 := h.eqv (by ac_rfl : _ = (pts Bb (.cells (u8s bs).toArray 5 (0, 0))) * (chA c0 xa K1 * (Ar xa A1 * (RAr X ya A1 * (rcA r0 ya R1 * (big (ent xa ya) (Q.eraseIdx j) * (pts B (.cells #[.int .i64 1, .int .i64 kk, .int .i64 nn, .int .i64 at_, .int .u8 cb] 49) * (rowL 27 1 pc (.slice (some ⟨ga, 0, none⟩) n capa) Q * (rowL 43 1 pr (.slice (some ⟨gb, 0, none⟩) n capb) Q * all w)))))))))
                    refine h9.right.eqv ?_
                    unfold plC
                    rw [big_in hjl.out, row_set (q2 := ⟨c0, K1, r0, R1⟩) hjl.out QQ.out rfl, row_setR (q2 := ⟨c0, K1, r0, R1⟩) hjl.out QQ.out rfl]
                    ac_rfl
                  have JF : Hid (j < (Q.set j (⟨c0, K1, r0, R1⟩ : Ent)).length) := by show _ < _; have := hjl.out; simpa using this
                  go_meet
                  case rel => exact ⟨_, _, GI.out, JF.out, HT.out, SF.out⟩
          by_cases t2 : kd = 2
          · subst t2
            as_aux_lemma =>
              have OKK := Lib.hid (I.out.at_ j hjl.out)
              rw [QQ.out] at OKK
              have o1 := OKK.out.n
              have o2 := OKK.out.l
              have o3 := OKK.out.fd
              have o4 := OKK.out.bl
              simp only at o1 o2 o3 o4
              obtain ⟨OTH, hOTH⟩ : ∃ q, big (ent xa ya) (Q.eraseIdx j) = q := ⟨_, rfl⟩
              have HOTH := Lib.hid hOTH
              have HY : Hid (Holds W1 (chA c0 xa K0 * (Ar xa A * (rcA r0 ya R0 * (RAr X ya A * (OTH * PW)))))) := by
                show Holds _ _
                have h := HX.out
                rw [big_out hjl.out QQ.out, hOTH] at h
                exact h.eqv (by ac_rfl)
              have SX := Lib.hid (share_calls c0 xa K0 A _ W1 (by omega) HY.out)
              have SYY := Lib.hid (fun (F : Asr) (wq : World) h => rshare_calls X r0 ya R0 A F wq (by rw [← o2]; omega) o4 h)
              have KL := Lib.hid o2
              clear hOTH HX o1 o2 o4 b2 b4 b0
              cases hfr : K0.freed with
              | true =>
                have hfr2 : R0.freed = true := by rw [← o3]; exact hfr
                unfold ShareC at SX
                unfold RShareC at SYY
                simp only [hfr, hfr2, if_true] at SX SYY
                clear hfr hfr2 o3
                go_wp2_with fail
                refine (SX.out).mono ?_
                rintro e w2 ⟨rfl, h2, s2⟩
                have H2 : Hid (Holds w2 (rcA r0 ya R0 * (RAr X ya A * (chA c0 xa K0 * (Ar xa A * (OTH * PW)))))) := h2.eqv (by ac_rfl)
                have S2 := Lib.hid (SA.out.trans s2)
                obtain ⟨⟨z0', z1'⟩, zla', zlb', zlB', b2', b4', b0'⟩ := PC.out w2 _ (h2.eqv (by ac_rfl : _ = (rcA r0 ya R0 * (RAr X ya A * (chA c0 xa K0 * (Ar xa A * OTH)))) * PW))
                clear h2 s2 SX z0 z1 zla zlb zlB b2' b4' b0'
                go_wp2_with fail
                refine (SYY.out _ _ H2.out).mono ?_
                rintro e w3 ⟨rfl, h3, s3⟩
                have SF := Lib.hid (S2.out.trans s3)
                have HT : Hid (Holds w3 (pts B (.cells #[.int .i64 2, .int .i64 kk, .int .i64 nn, .int .i64 at_, .int .u8 cb] 49) * plC X xa ya A Q (.slice (some ⟨ga, 0, none⟩) n capa) (.slice (some ⟨gb, 0, none⟩) n capb) w)) := by
                  show Holds _ _
                  have h := h3
                  rw [← HPW.out, ← HOTH.out] at h
                  refine h.eqv ?_
                  unfold plC
                  rw [big_out hjl.out QQ.out]
                  ac_rfl
                clear h3 s3 SYY H2 S2
                have GF := Lib.hid I.out.le
                go_wp2_with fail
                go_meet
                case rel => exact ⟨_, _, GF.out, hjl.out, HT.out, SF.out⟩
              | false =>
                have hfr2 : R0.freed = false := by rw [← o3]; exact hfr
                unfold ShareC at SX
                unfold RShareC at SYY
                simp only [hfr, hfr2] at SX SYY
                simp only [Bool.false_eq_true, if_false] at SX SYY
                have GI : Hid (∀ o o2, Iv (holdsA A K0.l) (Q.set j ⟨c0, { K0 with shared := true }, r0, { R0 with shared := true }⟩ ++ [⟨o, { K0 with shared := true }, o2, { R0 with shared := true }⟩]) (k + 1)) := fun o o2 => I.out.share (by omega) hjl.out QQ.out hfr o o2
                have KL2 : holdsA A R0.l = holdsA A K0.l := by rw [KL.out]
                simp only [KL2] at SYY
                clear KL2
                obtain ⟨A1, hA1⟩ : ∃ q, holdsA A K0.l = q := ⟨_, rfl⟩
                obtain ⟨K1, hK1⟩ : ∃ q, ({ K0 with shared := true } : Ch) = q := ⟨_, rfl⟩
                obtain ⟨R1, hR1⟩ : ∃ q, ({ R0 with shared := true } : RCh) = q := ⟨_, rfl⟩
                simp only [hfr] at hK1
                simp only [hfr2] at hR1
                rw [hA1] at SX SYY GI
                simp only [hfr, hK1] at SX GI
                simp only [hfr2, hR1] at SYY GI
                clear hfr hfr2 o3 hA1 hK1 hR1 KL
                go_wp2_with fail
                refine (SX.out).mono ?_
                rintro e w2 ⟨o, rfl, h2, s2⟩
                have H2 : Hid (Holds w2 (rcA r0 ya R0 * (RAr X ya A * (chA o xa K1 * (chA c0 xa K1 * (Ar xa A1 * (OTH * PW))))))) := h2.eqv (by ac_rfl)
                have S2 := Lib.hid (SA.out.trans s2)
                obtain ⟨⟨z0', z1'⟩, zla', zlb', zlB', b2', b4', b0'⟩ := PC.out w2 _ (h2.eqv (by ac_rfl : _ = (rcA r0 ya R0 * (RAr X ya A * (chA o xa K1 * (chA c0 xa K1 * (Ar xa A1 * OTH))))) * PW))
                clear h2 s2 SX SA z0 z1 zla zlb zlB b2' b4' b0'
                go_wp2_with fail
                refine (SYY.out _ _ H2.out).mono ?_
                rintro e w3 ⟨o2, rfl, h3, s3⟩
                have S3 := Lib.hid (S2.out.trans s3)
                have HAP : Hid (Holds (w3.alloc (.cells #[.pointer (some ⟨o, 0, none⟩)] 27)) (rowL 27 1 pc (.slice (some ⟨ga, 0, none⟩) n capa) Q * (rcA o2 ya R1 * (rcA r0 ya R1 * (RAr X ya A1 * (chA o xa K1 * (chA c0 xa K1 * (Ar xa A1 * (OTH * (pts B (.cells #[.int .i64 2, .int .i64 kk, .int .i64 nn, .int .i64 at_, .int .u8 cb] 49) * (rowL 43 1 pr (.slice (some ⟨gb, 0, none⟩) n capb) Q * all w))))))))))) := by
                  show Holds _ _
                  have h := (h3.alloc (.cells #[.pointer (some ⟨o, 0, none⟩)] 27)).right
                  rw [← HPW.out] at h
                  exact h.eqv (by ac_rfl)
                have N1 : Hid (Q.length + 1 ≤ maxLen) := by show _ ≤ _; rw [HN.out]; unfold maxLen; omega
                have N2 : Hid ((Q.length + 1) * 8 ≤ 140737488355328) := by show _ ≤ _; rw [HN.out]; omega
                clear h3 s3 SYY H2 S2 z0' z1' zla' zlb' zlB' PC
                go_wp2_with (at_builtin; refine wpList_append_one (enc := pc) rfl _ _ 42 rfl 27 (.pointer none) 1 8 Try.underlying42 infoPC rfl (⟨o, K1, o2, R1⟩ : Ent) rfl HAP.out ⟨w3.heap.size, 0, none⟩ 1 rfl rfl (cells_new w3 #[.pointer (some ⟨o, 0, none⟩)] 27 _ rfl) (by simp [pc, Value.oneCell']) N1.out N2.out ?_)
                intro va' w4 h4 s4
                have S4 : Hid (Sm w w4) := (S3.out.alloc _).trans s4
                have HBP : Hid (Holds (w4.alloc (.cells #[.pointer (some ⟨o2, 0, none⟩)] 43)) (rowL 43 1 pr (.slice (some ⟨gb, 0, none⟩) n capb) Q * (rowL 27 1 pc va' (Q ++ [⟨o, K1, o2, R1⟩]) * (rcA o2 ya R1 * (rcA r0 ya R1 * (RAr X ya A1 * (chA o xa K1 * (chA c0 xa K1 * (Ar xa A1 * (OTH * (pts B (.cells #[.int .i64 2, .int .i64 kk, .int .i64 nn, .int .i64 at_, .int .u8 cb] 49) * all w))))))))))) := by
                  show Holds _ _
                  have h := (h4.alloc (.cells #[.pointer (some ⟨o2, 0, none⟩)] 43)).right
                  exact h.eqv (by ac_rfl)
                clear h4 s4 HAP S3
                go_wp2_with (at_builtin; refine wpList_append_one (enc := pr) rfl _ _ 47 rfl 43 (.pointer none) 1 8 Try.underlying47 infoPR rfl (⟨o, K1, o2, R1⟩ : Ent) rfl HBP.out ⟨w4.heap.size, 0, none⟩ 1 rfl rfl (cells_new w4 #[.pointer (some ⟨o2, 0, none⟩)] 43 _ rfl) (by simp [pr, Value.oneCell']) N1.out N2.out ?_)
                intro vb' w5 h5 s5
                have S5 : Hid (Sm w w5) := (S4.out.alloc _).trans s5
                have HT : Hid (Holds w5 (pts B (.cells #[.int .i64 2, .int .i64 kk, .int .i64 nn, .int .i64 at_, .int .u8 cb] 49) * plC X xa ya A1 (Q.set j ⟨c0, K1, r0, R1⟩ ++ [⟨o, K1, o2, R1⟩]) va' vb' w)) := by
                  show Holds _ _
                  have h := h5
                  rw [rowL_flat (enc2 := pc) (k := Q.set j ⟨c0, K1, r0, R1⟩ ++ [⟨o, K1, o2, R1⟩]) (v := va') (by rw [List.map_append, List.map_append, map_set_same pc Q j hjl.out _ (by rw [QQ.out]; rfl)]), rowL_flat (enc2 := pr) (k := Q.set j ⟨c0, K1, r0, R1⟩ ++ [⟨o, K1, o2, R1⟩]) (v := vb') (by rw [List.map_append, List.map_append, map_set_same pr Q j hjl.out _ (by rw [QQ.out]; rfl)]), ← HOTH.out] at h
                  refine h.eqv ?_
                  unfold plC
                  rw [big_append, big_in hjl.out]
                  simp only [big, ent]
                  rw [star_comm (chA o xa K1 * rcA o2 ya R1) emp, emp_star]
                  ac_rfl
                have GF := Lib.hid (GI.out o o2)
                have JF : Hid (j < (Q.set j (⟨c0, K1, r0, R1⟩ : Ent) ++ [(⟨o, K1, o2, R1⟩ : Ent)]).length) := by show _ < _; have := hjl.out; simp; omega
                clear h5 s5 HBP S4 N1 N2 GI
                go_wp2_with fail
                go_meet
                case rel => exact ⟨_, _, GF.out, JF.out, HT.out, S5.out⟩
          by_cases t3 : kd = 3
          · subst t3
            as_aux_lemma =>
              obtain ⟨OTH, hOTH⟩ : ∃ q, big (ent xa ya) (Q.eraseIdx j) = q := ⟨_, rfl⟩
              have HOTH := Lib.hid hOTH
              have HY : Hid (Holds W1 (chA c0 xa K0 * (Ar xa A * (rcA r0 ya R0 * (RAr X ya A * (OTH * PW)))))) := by
                show Holds _ _
                have h := HX.out
                rw [big_out hjl.out QQ.out, hOTH] at h
                exact h.eqv (by ac_rfl)
              clear hOTH HX b2 b4 b0
              have GG := I.out.free hjl.out QQ.out
              simp only at GG
              have OKK := Lib.hid (I.out.at_ j hjl.out)
              rw [QQ.out] at OKK
              have AX : Hid (∀ wq, Holds wq (chA c0 xa K0 * (Ar xa A * (rcA r0 ya R0 * (RAr X ya A * (OTH * PW))))) → Calls Try.prog 22 #[.pointer (some ⟨c0, 0, none⟩)] wq (AppC ⟨freeC A K0, { K0 with freed := true }, freeE K0⟩ c0 xa (rcA r0 ya R0 * (RAr X ya A * (OTH * PW))) wq)) := fun wq h => free_calls c0 xa K0 A (rcA r0 ya R0 * (RAr X ya A * (OTH * PW))) wq (by have := OKK.out.n; simp only at this; omega) h
              have AY : Hid (∀ wq K1 A1, Holds wq (rcA r0 ya R0 * (RAr X ya A * (chA c0 xa K1 * (Ar xa A1 * (OTH * PW))))) → Calls Try.prog 23 #[.pointer (some ⟨r0, 0, none⟩)] wq (RAppC X r0 ya ⟨freeC A K0, { R0 with freed := true }, freeE K0⟩ (chA c0 xa K1 * (Ar xa A1 * (OTH * PW))) wq)) := by
                intro wq K1 A1 h
                have h1 := OKK.out.n
                have h2 := OKK.out.l
                have h3 := OKK.out.fd
                simp only at h1 h2 h3
                have t := rfree_calls X r0 ya R0 A (chA c0 xa K1 * (Ar xa A1 * (OTH * PW))) wq (by rw [← h2]; omega) h
                unfold RFreeC at t
                have e1 : (if R0.freed = true then A else dropsA A R0.l) = freeC A K0 := by rw [← h2, ← h3]; rfl
                have e2 : (if R0.freed = true then (16 : Int) else 0) = freeE K0 := by rw [← h3]; rfl
                rw [e1, e2] at t
                exact t
              obtain ⟨A1, hA1⟩ : ∃ q, freeC A K0 = q := ⟨_, rfl⟩
              obtain ⟨K1, hK1⟩ : ∃ q, ({ K0 with freed := true } : Ch) = q := ⟨_, rfl⟩
              obtain ⟨R1, hR1⟩ : ∃ q, ({ R0 with freed := true } : RCh) = q := ⟨_, rfl⟩
              obtain ⟨re, hre⟩ : ∃ q, freeE K0 = q := ⟨_, rfl⟩
              obtain ⟨A2, hA2⟩ : ∃ q, A1 = q := ⟨_, rfl⟩
              rw [hA1, hK1, hre] at AX
              rw [hA1, hR1, hre, hA2] at AY
              rw [hA1, hK1, hR1] at GG
              have GR : Hid (er A2 = er A1) := by show _ = _; rw [hA2]
              have GI := Lib.hid GG
              clear hA1 hK1 hR1 hre GG hA2
              have TX : Hid (∀ wq, Holds wq (chA c0 xa K0 * (Ar xa A * (rcA r0 ya R0 * (RAr X ya A * (OTH * PW))))) → Calls Try.prog 22 #[.pointer (some ⟨c0, 0, none⟩)] wq fun e w' => e = .returned (.int .i64 re) ∧ Holds w' (rcA r0 ya R0 * (RAr X ya A * (chA c0 xa K1 * (Ar xa A1 * (OTH * PW))))) ∧ Sm wq w' ∧ (w'.cell? ⟨ga, j, none⟩ = some (.pointer (some ⟨c0, 0, none⟩)) ∧ w'.cell? ⟨gb, j, none⟩ = some (.pointer (some ⟨r0, 0, none⟩)))) := by
                intro wq h
                refine (AX.out wq h).mono ?_
                rintro e w' ⟨rfl, h1, h2⟩
                exact ⟨rfl, h1.eqv (by ac_rfl), h2, (PC.out w' (chA c0 xa K1 * (Ar xa A1 * (rcA r0 ya R0 * (RAr X ya A * OTH)))) (h1.eqv (by ac_rfl))).1⟩
              have TY : Hid (∀ wq, Holds wq (rcA r0 ya R0 * (RAr X ya A * (chA c0 xa K1 * (Ar xa A1 * (OTH * PW))))) → Calls Try.prog 23 #[.pointer (some ⟨r0, 0, none⟩)] wq fun e w' => e = .returned (.int .i64 re) ∧ Holds w' (RAr X ya A1 * (rcA r0 ya R1 * (chA c0 xa K1 * (Ar xa A1 * (OTH * PW))))) ∧ Sm wq w' ∧ (w'.cell? ⟨ga, j, none⟩ = some (.pointer (some ⟨c0, 0, none⟩)) ∧ w'.cell? ⟨gb, j, none⟩ = some (.pointer (some ⟨r0, 0, none⟩)))) := by
                intro wq h
                refine (AY.out wq K1 A1 h).mono ?_
                rintro e w' ⟨rfl, h1, h2⟩
                have h3 := rar_write (h1.eqv (star_left_comm _ _ _)) GR.out.symm
                exact ⟨rfl, h3, h2, (PC.out w' (RAr X ya A1 * (rcA r0 ya R1 * (chA c0 xa K1 * (Ar xa A1 * OTH)))) (h3.eqv (by ac_rfl))).1⟩
              have eb : (re != re) = false := by simp
              clear AX AY
              go_wp2_with fail
              have zz : (fun w' : World => w'.cell? ⟨ga, j, none⟩ = some (.pointer (some ⟨c0, 0, none⟩)) ∧ w'.cell? ⟨gb, j, none⟩ = some (.pointer (some ⟨r0, 0, none⟩))) W1 := ⟨z0, z1⟩
              go_region_held3 (fun w' => w'.cell? ⟨ga, j, none⟩ = some (.pointer (some ⟨c0, 0, none⟩)) ∧ w'.cell? ⟨gb, j, none⟩ = some (.pointer (some ⟨r0, 0, none⟩))) (first | exact x3 | exact x2 | exact zz | go_keep) (first | (go_at_call 22; refine (TX.out _ ?_).mono ?_; (exact HY.out); rintro e w2 ⟨rfl, h2, s2, x2⟩; have H2 := Lib.hid h2; have S2 := Lib.hid s2; clear h2 s2) | (go_at_call 23; refine (TY.out _ ?_).mono ?_; (exact H2.out); rintro e w3 ⟨rfl, h3, s3, x3⟩; have H3 := Lib.hid h3; have S3 := Lib.hid s3; clear h3 s3))
              have HF := Lib.hid H3.out
              have SF : Hid (Sm w w3) := (SA.out.drew.trans S2.out).trans S3.out
              clear HY TX TY H2 H3 S2 S3 x2 x3 zz
              go_wp2_with fail
              have HT : Hid (Holds w3 (pts B (.cells #[.int .i64 3, .int .i64 kk, .int .i64 nn, .int .i64 at_, .int .u8 cb] 49) * plC X xa ya A1 (Q.set j ⟨c0, K1, r0, R1⟩) (.slice (some ⟨ga, 0, none⟩) n capa) (.slice (some ⟨gb, 0, none⟩) n capb) w)) := by
                show Holds _ _
                have h := HF.out
                rw [← HPW.out, ← HOTH.out] at h
                refine h.eqv ?_
                unfold plC
                rw [big_in hjl.out, row_set (q2 := ⟨c0, K1, r0, R1⟩) hjl.out QQ.out rfl, row_setR (q2 := ⟨c0, K1, r0, R1⟩) hjl.out QQ.out rfl]
                ac_rfl
              have JF : Hid (j < (Q.set j (⟨c0, K1, r0, R1⟩ : Ent)).length) := by show _ < _; have := hjl.out; simpa using this
              go_meet
              case rel => exact ⟨_, _, GI.out, JF.out, HT.out, SF.out⟩
          have u0 : (kd == 0) = false := by simpa using t0
          have u1 : (kd == 1) = false := by simpa using t1
          have u2 : (kd == 2) = false := by simpa using t2
          have u3 : (kd == 3) = false := by simpa using t3
          have HT : Hid (Holds W1 (pts B (.cells #[.int .i64 kd, .int .i64 kk, .int .i64 nn, .int .i64 at_, .int .u8 cb] 49) * plC X xa ya A Q (.slice (some ⟨ga, 0, none⟩) n capa) (.slice (some ⟨gb, 0, none⟩) n capb) w)) := HX.out.eqv (by unfold plC; rw [← HPW.out]; ac_rfl)
          have GF := Lib.hid I.out.le
          clear t0 t1 t2 t3
          go_wp2_with fail
          go_meet
          case rel => exact ⟨_, _, GF.out, hjl.out, HT.out, SA.out⟩
      case rest =>
        as_aux_lemma =>
          clear HA SA I HN hjl
          obtain ⟨A, Q, I, hjl, HD, SD⟩ := hcut
          obtain ⟨ga, capa, hva, hca, -, -, -⟩ := rowL_cell (HD.out.eqv (by unfold plC; ac_rfl : _ = rowL 27 1 pc u9 Q * (pts B (.cells #[.int .i64 kd, .int .i64 kk, .int .i64 nn, .int .i64 at_, .int .u8 cb] 49) * (Ar xa A * (RAr X ya A * (big (ent xa ya) Q * (rowL 43 1 pr u10 Q * all w))))))) pc_len 0 I.out.pos
          obtain ⟨gb, capb, hvb, hcb, -, -, -⟩ := rowL_cell (HD.out.eqv (by unfold plC; ac_rfl : _ = rowL 43 1 pr u10 Q * (pts B (.cells #[.int .i64 kd, .int .i64 kk, .int .i64 nn, .int .i64 at_, .int .u8 cb] 49) * (Ar xa A * (RAr X ya A * (big (ent xa ya) Q * (rowL 27 1 pc u9 Q * all w))))))) pr_len 0 I.out.pos
          obtain ⟨n, hn⟩ : ∃ q, Q.length = q := ⟨_, rfl⟩
          have HN := Lib.hid hn
          rw [hn] at hva hca hvb hcb
          subst hva
          subst hvb
          have n9 : n ≤ 61 := by have := I.out.n; omega
          have j1 : j < n := by rw [← hn]; exact hjl.out
          have jz : (j : Int) < (n : Int) := by omega
          clear hn
          obtain ⟨PW, hPW⟩ : ∃ q, pts B (.cells #[.int .i64 kd, .int .i64 kk, .int .i64 nn, .int .i64 at_, .int .u8 cb] 49) * (rowL 27 1 pc (.slice (some ⟨ga, 0, none⟩) n capa) Q * (rowL 43 1 pr (.slice (some ⟨gb, 0, none⟩) n capb) Q * all w)) = q := ⟨_, rfl⟩
          have HPW := Lib.hid hPW
          obtain ⟨OTH, hOTH⟩ : ∃ q, big (ent xa ya) (Q.eraseIdx j) = q := ⟨_, rfl⟩
          have HOTH := Lib.hid hOTH
          obtain ⟨⟨c0, K0, r0, R0⟩, hqq⟩ : ∃ q, Q[j]'(hjl.out) = q := ⟨_, rfl⟩
          have QQ : Hid (Q[j]'(hjl.out) = ⟨c0, K0, r0, R0⟩) := hqq
          have HX : Hid (Holds wc (rcA r0 ya R0 * (chA c0 xa K0 * (Ar xa A * (RAr X ya A * (OTH * PW)))))) := by
            show Holds _ _
            have h := HD.out
            unfold plC at h
            rw [big_out hjl.out QQ.out, hOTH] at h
            rw [← hPW]
            exact h.eqv (by ac_rfl)
          have BACK : Hid (∀ wq, Holds wq (rcA r0 ya R0 * (chA c0 xa K0 * (Ar xa A * (RAr X ya A * (OTH * PW))))) → Holds wq (plC X xa ya A Q (.slice (some ⟨ga, 0, none⟩) n capa) (.slice (some ⟨gb, 0, none⟩) n capb) w)) := by
            intro wq h
            rw [← hPW, ← hOTH] at h
            have h2 := (h.eqv (by ac_rfl : _ = pts B (.cells #[.int .i64 kd, .int .i64 kk, .int .i64 nn, .int .i64 at_, .int .u8 cb] 49) * (Ar xa A * (RAr X ya A * ((chA c0 xa K0 * (rcA r0 ya R0 * big (ent xa ya) (Q.eraseIdx j))) * (rowL 27 1 pc (.slice (some ⟨ga, 0, none⟩) n capa) Q * (rowL 43 1 pr (.slice (some ⟨gb, 0, none⟩) n capb) Q * all w))))))).right
            unfold plC
            rw [big_out hjl.out QQ.out]
            exact h2
          have PC : Hid (∀ (wq : World) (G : Asr), Holds wq (G * PW) → (∀ i (hi : i < Q.length), wq.cell? ⟨ga, i, none⟩ = some (.pointer (some ⟨Q[i].c, 0, none⟩)) ∧ wq.cell? ⟨gb, i, none⟩ = some (.pointer (some ⟨Q[i].r, 0, none⟩))) ∧ (ga < wq.heap.size ∧ gb < wq.heap.size ∧ B < wq.heap.size ∧ wq.cell? ⟨B, 2, none⟩ = some (.int .i64 nn) ∧ wq.cell? ⟨B, 3, none⟩ = some (.int .i64 at_))) := by
            intro wq G h
            rw [← hPW] at h
            have ha := h.eqv (by ac_rfl : _ = rowL 27 1 pc (.slice (some ⟨ga, 0, none⟩) n capa) Q * (G * (pts B (.cells #[.int .i64 kd, .int .i64 kk, .int .i64 nn, .int .i64 at_, .int .u8 cb] 49) * (rowL 43 1 pr (.slice (some ⟨gb, 0, none⟩) n capb) Q * all w))))
            have hb := h.eqv (by ac_rfl : _ = rowL 43 1 pr (.slice (some ⟨gb, 0, none⟩) n capb) Q * (G * (pts B (.cells #[.int .i64 kd, .int .i64 kk, .int .i64 nn, .int .i64 at_, .int .u8 cb] 49) * (rowL 27 1 pc (.slice (some ⟨ga, 0, none⟩) n capa) Q * all w))))
            have hc := h.eqv (by ac_rfl : _ = pts B (.cells #[.int .i64 kd, .int .i64 kk, .int .i64 nn, .int .i64 at_, .int .u8 cb] 49) * (G * (rowL 43 1 pr (.slice (some ⟨gb, 0, none⟩) n capb) Q * (rowL 27 1 pc (.slice (some ⟨ga, 0, none⟩) n capa) Q * all w))))
            have a2 := hc.cell 2
            have a3 := hc.cell 3
            simp at a2 a3
            obtain ⟨g1, cp1, e1, -, hg1, -, -⟩ := rowL_cell ha pc_len j hjl.out
            obtain ⟨g2, cp2, e2, -, hg2, -, -⟩ := rowL_cell hb pr_len j hjl.out
            simp at e1 e2
            obtain ⟨rfl, -⟩ := e1
            obtain ⟨rfl, -⟩ := e2
            refine ⟨fun i hi => ?_, hg1, hg2, hc.lt, a2, a3⟩
            obtain ⟨g, cap2, e1, -, hg, hrc, -⟩ := rowL_cell ha pc_len i hi
            obtain ⟨g', cap2', e1', -, hg', hrc', -⟩ := rowL_cell hb pr_len i hi
            simp at e1 e1'
            obtain ⟨rfl, -⟩ := e1
            obtain ⟨rfl, -⟩ := e1'
            have r0 := hrc 0 (by omega)
            have r1 := hrc' 0 (by omega)
            simp only [pc, pr, Nat.mul_one, Nat.add_zero, List.getElem?_cons_zero] at r0 r1
            exact ⟨r0, r1⟩
          have PJ : Hid (∀ (wq : World) (G : Asr), Holds wq (G * PW) → (wq.cell? ⟨ga, j, none⟩ = some (.pointer (some ⟨c0, 0, none⟩)) ∧ wq.cell? ⟨gb, j, none⟩ = some (.pointer (some ⟨r0, 0, none⟩)) ∧ wq.cell? ⟨B, 2, none⟩ = some (.int .i64 nn) ∧ wq.cell? ⟨B, 3, none⟩ = some (.int .i64 at_)) ∧ (ga < wq.heap.size ∧ gb < wq.heap.size ∧ B < wq.heap.size)) := by
            intro wq G h
            obtain ⟨p1, p2, p3, p4, p5, p6⟩ := PC.out wq G h
            obtain ⟨q1, q2⟩ := p1 j hjl.out
            rw [hqq] at q1 q2
            exact ⟨⟨q1, q2, p5, p6⟩, p2, p3, p4⟩
          have OKK := Lib.hid (I.out.at_ j hjl.out)
          rw [hqq] at OKK
          have k9 := OKK.out.bl
          have kl := OKK.out.lg
          have kn := OKK.out.n
          have kR := OKK.out.l
          have kf := OKK.out.fd
          simp only at k9 kl kn kR kf
          obtain ⟨⟨z0, z1, z2, z3⟩, zla, zlb, zlB⟩ := PJ.out wc _ (HX.out.eqv (by ac_rfl : _ = (rcA r0 ya R0 * (chA c0 xa K0 * (Ar xa A * (RAr X ya A * OTH)))) * PW))
          obtain ⟨vl, vbb, hrc0⟩ := rc_open HX.out
          obtain ⟨bo, bcap, ebb, hbc⟩ := rowA_slice (hrc0.eqv (by unfold rbs; ac_rfl : _ = rowA 5 1 vbb R0.bytes.length (u8s R0.bytes) * (rcH r0 ya vl vbb R0 * (rls vl R0.l * (chA c0 xa K0 * (Ar xa A * (RAr X ya A * (OTH * PW))))))))
          subst ebb
          have csn := rc_seen hrc0
          have s2 := csn.c2
          have s4 := csn.c4
          have sl := csn.lt
          have CHG : Hid (∀ wq, Below wc.heap.size wc wq → Calls Try.prog 24 #[.pointer (some ⟨r0, 0, none⟩)] wq fun e w' => e = .returned (.int .i64 (sizes R0.l)) ∧ Below wc.heap.size wc w') := by
            intro wq hq
            refine (rcharge_calls r0 ya R0 _ wq (by rw [← kR]; omega) (by rw [← kR]; exact OKK.out.ok.cls) (HX.out.grow hq)).mono ?_
            rintro e w' ⟨rfl, hb⟩
            exact ⟨rfl, hq.trans (hb.mono hq.size)⟩
          have hle : (R0.bytes.length : Int) ≤ 1048576 := by omega
          have RDL : Hid (K0.freed = false → K0.long = R0.bytes.length) := fun _ => kl
          have RDC : Hid (K0.freed = false → K0.charge = sizes R0.l) := fun h => I.out.charge hjl.out QQ.out h
          have RD := Lib.hid (I.out.read hjl.out QQ.out at_ (bits .and .i64 nn 255))
          clear hPW hOTH hqq HD csn hrc0 hbc k9 kl kn kR
          obtain ⟨lg, hlg⟩ : ∃ q, R0.bytes.length = q := ⟨_, rfl⟩
          obtain ⟨cg, hcg⟩ : ∃ q, sizes R0.l = q := ⟨_, rfl⟩
          rw [hlg] at s2 hle RDL
          rw [hcg] at CHG RDC
          clear hlg hcg
          go_wp2_with fail
          refine (CHG.out _ (Below.refl _ _)).mono ?_
          rintro e w1 ⟨rfl, hb1⟩
          have H1 := Lib.hid (HX.out.grow hb1)
          have S1 := Lib.hid (SD.out.grow hb1)
          obtain ⟨⟨z0', z1', z2', z3'⟩, zla', zlb', zlB'⟩ := PJ.out w1 _ (H1.out.eqv (by ac_rfl : _ = (rcA r0 ya R0 * (chA c0 xa K0 * (Ar xa A * (RAr X ya A * OTH)))) * PW))
          have s4' : w1.cell? ⟨r0, 4, none⟩ = some (.bool R0.freed) := (hb1.cell (p := ⟨r0, 4, none⟩) sl).trans s4
          have sl' : r0 < w1.heap.size := Nat.lt_of_lt_of_le sl hb1.size
          clear hb1 HX SD CHG z0 z1 z2 z3 zla zlb zlB s2 s4 sl
          go_upto_if 211 with (fail)
          go_cut [20, 21] (fun x y wx => wx = w1 ∧ x = .int .i64 (if K0.freed then 0 else (lg : Int)) ∧ y = .int .i64 (if K0.freed then 0 else cg))
          case first =>
            as_aux_lemma =>
              have KF := Lib.hid kf
              obtain ⟨fr, hfr⟩ : ∃ q, R0.freed = q := ⟨_, rfl⟩
              have kf2 : K0.freed = fr := by rw [KF.out, hfr]
              have KF2 := Lib.hid kf2
              rw [hfr] at s4' ⊢
              clear hfr kf2 kf
              cases fr with
              | true =>
                go_wp2_with fail
                go_meet
                case rel => exact ⟨rfl, by rw [KF2.out]; rfl, by rw [KF2.out]; rfl⟩
              | false =>
                go_wp2_with fail
                go_meet
                case rel => exact ⟨rfl, by rw [KF2.out]; rfl, by rw [KF2.out]; rfl⟩
          case rest =>
          as_aux_lemma =>
            obtain ⟨rfl, rfl, rfl⟩ := hcut
            have LEN : Hid (∀ wq (F : Asr), Holds wq (chA c0 xa K0 * (Ar xa A * F)) → Calls Try.prog 13 #[.pointer (some ⟨c0, 0, none⟩)] wq fun e w' => e = .returned (.int .i64 (if K0.freed then 0 else (lg : Int))) ∧ Below wq.heap.size wq w') := by
              intro wq F h
              have t := len_calls c0 xa K0 A F wq h
              cases hf : K0.freed with
              | true => rw [hf] at t; exact t
              | false => rw [hf, RDL.out hf] at t; exact t
            have CHC : Hid (∀ wq (F : Asr), Holds wq (chA c0 xa K0 * (Ar xa A * F)) → Calls Try.prog 14 #[.pointer (some ⟨c0, 0, none⟩)] wq fun e w' => e = .returned (.int .i64 (if K0.freed then 0 else cg)) ∧ Below wq.heap.size wq w') := by
              intro wq F h
              have t := charge_calls c0 xa K0 A F wq h
              cases hf : K0.freed with
              | true => rw [hf] at t; exact t
              | false => rw [hf, RDC.out hf] at t; exact t
            obtain ⟨lv, hlv⟩ : ∃ q, (if K0.freed then 0 else (lg : Int)) = q := ⟨_, rfl⟩
            obtain ⟨cv, hcv⟩ : ∃ q, (if K0.freed then 0 else cg) = q := ⟨_, rfl⟩
            rw [hlv] at LEN
            rw [hcv] at CHC
            rw [hlv, hcv]
            clear hlv hcv RDL RDC s4' sl' kf hle
            obtain ⟨zn, hzn⟩ : ∃ q, bits .and .i64 nn 255 = q := ⟨_, rfl⟩
            rw [hzn] at RD
            have RX : Hid (∀ (wq : World) (F : Asr), Holds wq (chA c0 xa K0 * (Ar xa A * F)) → Calls Try.prog 17 #[.pointer (some ⟨c0, 0, none⟩), .int .i64 at_, .int .i64 zn] wq (ReadK (readC A K0 at_ zn) (chA c0 xa K0 * (Ar xa A * F)) wq)) := fun wq F h => cread_calls c0 xa K0 A F at_ zn wq OKK.out.ok h
            have RY : Hid (∀ (wq : World) (F : Asr), Holds wq (rcA r0 ya R0 * F) → Calls Try.prog 25 #[.pointer (some ⟨r0, 0, none⟩), .int .i64 at_, .int .i64 zn] wq (ReadK (readC A K0 at_ zn) (rcA r0 ya R0 * F) wq)) := by
              intro wq F h
              have t := rread_calls r0 ya R0 F at_ zn wq OKK.out.bl h
              have e : rreadC R0 at_ zn = readC A K0 at_ zn := RD.out
              rw [e] at t
              exact t
            obtain ⟨⟨rb, re⟩, hrr⟩ : ∃ q, readC A K0 at_ zn = q := ⟨_, rfl⟩
            rw [hrr] at RX RY
            clear hrr RD
            have TX : Hid (∀ wq, Holds wq (chA c0 xa K0 * (Ar xa A * (rcA r0 ya R0 * (RAr X ya A * (OTH * PW))))) → Calls Try.prog 17 #[.pointer (some ⟨c0, 0, none⟩), .int .i64 at_, .int .i64 zn] wq fun e w' => ∃ v, e = .returned (.tuple #[v, .int .i64 re]) ∧ Holds w' (rcA r0 ya R0 * (rowA 5 1 v rb.length (u8s rb) * (chA c0 xa K0 * (Ar xa A * (RAr X ya A * (OTH * PW)))))) ∧ Sm wq w' ∧ (w'.cell? ⟨ga, j, none⟩ = some (.pointer (some ⟨c0, 0, none⟩)) ∧ w'.cell? ⟨gb, j, none⟩ = some (.pointer (some ⟨r0, 0, none⟩)) ∧ w'.cell? ⟨B, 2, none⟩ = some (.int .i64 nn) ∧ w'.cell? ⟨B, 3, none⟩ = some (.int .i64 at_))) := by
              intro wq h
              refine (RX.out wq _ h).mono ?_
              rintro e w' ⟨v, rfl, h1, h2⟩
              exact ⟨v, rfl, h1.eqv (by ac_rfl), h2, (PJ.out w' (rowA 5 1 v rb.length (u8s rb) * (chA c0 xa K0 * (Ar xa A * (rcA r0 ya R0 * (RAr X ya A * OTH))))) (h1.eqv (by ac_rfl))).1⟩
            have TY : Hid (∀ wq v, Holds wq (rcA r0 ya R0 * (rowA 5 1 v rb.length (u8s rb) * (chA c0 xa K0 * (Ar xa A * (RAr X ya A * (OTH * PW)))))) → Calls Try.prog 25 #[.pointer (some ⟨r0, 0, none⟩), .int .i64 at_, .int .i64 zn] wq fun e w' => ∃ v2, e = .returned (.tuple #[v2, .int .i64 re]) ∧ Holds w' (rowA 5 1 v2 rb.length (u8s rb) * (rcA r0 ya R0 * (rowA 5 1 v rb.length (u8s rb) * (chA c0 xa K0 * (Ar xa A * (RAr X ya A * (OTH * PW))))))) ∧ Sm wq w' ∧ (w'.cell? ⟨ga, j, none⟩ = some (.pointer (some ⟨c0, 0, none⟩)) ∧ w'.cell? ⟨gb, j, none⟩ = some (.pointer (some ⟨r0, 0, none⟩)) ∧ w'.cell? ⟨B, 2, none⟩ = some (.int .i64 nn) ∧ w'.cell? ⟨B, 3, none⟩ = some (.int .i64 at_))) := by
              intro wq v h
              refine (RY.out wq _ h).mono ?_
              rintro e w' ⟨v2, rfl, h1, h2⟩
              exact ⟨v2, rfl, h1, h2, (PJ.out w' (rowA 5 1 v2 rb.length (u8s rb) * (rcA r0 ya R0 * (rowA 5 1 v rb.length (u8s rb) * (chA c0 xa K0 * (Ar xa A * (RAr X ya A * OTH)))))) (h1.eqv (by ac_rfl))).1⟩
            have HX1 : Hid (Holds wc (chA c0 xa K0 * (Ar xa A * (rcA r0 ya R0 * (RAr X ya A * (OTH * PW)))))) := H1.out.eqv (by ac_rfl)
            clear RX RY H1
            go_wp2_with fail
            have zz : (fun w' : World => w'.cell? ⟨ga, j, none⟩ = some (.pointer (some ⟨c0, 0, none⟩)) ∧ w'.cell? ⟨gb, j, none⟩ = some (.pointer (some ⟨r0, 0, none⟩)) ∧ w'.cell? ⟨B, 2, none⟩ = some (.int .i64 nn) ∧ w'.cell? ⟨B, 3, none⟩ = some (.int .i64 at_)) wc := ⟨z0', z1', z2', z3'⟩
            go_region_held3 (fun w' : World => w'.cell? ⟨ga, j, none⟩ = some (.pointer (some ⟨c0, 0, none⟩)) ∧ w'.cell? ⟨gb, j, none⟩ = some (.pointer (some ⟨r0, 0, none⟩)) ∧ w'.cell? ⟨B, 2, none⟩ = some (.int .i64 nn) ∧ w'.cell? ⟨B, 3, none⟩ = some (.int .i64 at_)) (first | exact x2 | exact zz | go_keep) (first | (go_at_call 17; refine (TX.out _ ?_).mono ?_; (exact HX1.out); rintro e w2 ⟨va, rfl, h2, s2, x2⟩; have H2 := Lib.hid h2; have S2 := Lib.hid s2; clear h2 s2))
            have HY1 := Lib.hid H2.out
            have SY1 : Hid (Sm w w2) := S1.out.drew.trans S2.out
            clear HX1 TX H2 S2 S1 zz z0' z1' z2' z3' zla' zlb' zlB'
            obtain ⟨⟨z0', z1', z2', z3'⟩, zla', zlb', zlB'⟩ := PJ.out w2 (rcA r0 ya R0 * (rowA 5 1 va rb.length (u8s rb) * (chA c0 xa K0 * (Ar xa A * (RAr X ya A * OTH))))) (HY1.out.eqv (by ac_rfl))
            clear x2
            go_wp2_with fail
            have zz : (fun w' : World => w'.cell? ⟨ga, j, none⟩ = some (.pointer (some ⟨c0, 0, none⟩)) ∧ w'.cell? ⟨gb, j, none⟩ = some (.pointer (some ⟨r0, 0, none⟩)) ∧ w'.cell? ⟨B, 2, none⟩ = some (.int .i64 nn) ∧ w'.cell? ⟨B, 3, none⟩ = some (.int .i64 at_)) w2 := ⟨z0', z1', z2', z3'⟩
            go_region_held3 (fun w' : World => w'.cell? ⟨ga, j, none⟩ = some (.pointer (some ⟨c0, 0, none⟩)) ∧ w'.cell? ⟨gb, j, none⟩ = some (.pointer (some ⟨r0, 0, none⟩)) ∧ w'.cell? ⟨B, 2, none⟩ = some (.int .i64 nn) ∧ w'.cell? ⟨B, 3, none⟩ = some (.int .i64 at_)) (first | exact x3 | exact zz | go_keep) (first | (go_at_call 25; refine (TY.out _ va ?_).mono ?_; (exact HY1.out); rintro e w3 ⟨vb, rfl, h3, s3, x3⟩; have H3 := Lib.hid h3; have S3 := Lib.hid s3; clear h3 s3))
            have SZ1 : Hid (Sm w w3) := SY1.out.drew.trans S3.out
            obtain ⟨sa, sca, ea, srca⟩ := src_row (H3.out.eqv (by ac_rfl : _ = rowA 5 1 va rb.length (u8s rb) * (rowA 5 1 vb rb.length (u8s rb) * (rcA r0 ya R0 * (chA c0 xa K0 * (Ar xa A * (RAr X ya A * (OTH * PW))))))))
            obtain ⟨sb, scb, eb, srcb⟩ := src_row H3.out
            have HP : Hid (Holds w3 (plC X xa ya A Q (.slice (some ⟨ga, 0, none⟩) n capa) (.slice (some ⟨gb, 0, none⟩) n capb) w)) := BACK.out w3 ((H3.out.eqv (by ac_rfl : _ = (rowA 5 1 va rb.length (u8s rb) * rowA 5 1 vb rb.length (u8s rb)) * (rcA r0 ya R0 * (chA c0 xa K0 * (Ar xa A * (RAr X ya A * (OTH * PW))))))).right)
            have HC3 : Hid (Holds w3 (chA c0 xa K0 * (Ar xa A * (RAr X ya A * (rcA r0 ya R0 * (OTH * PW)))))) := (H3.out.eqv (by ac_rfl : _ = (rowA 5 1 va rb.length (u8s rb) * rowA 5 1 vb rb.length (u8s rb)) * (chA c0 xa K0 * (Ar xa A * (RAr X ya A * (rcA r0 ya R0 * (OTH * PW))))))).right
            subst ea
            subst eb
            have cva := src_conv (sc := sca) srca
            have cvb := src_conv (sc := scb) srcb
            obtain ⟨str, hstr⟩ : ∃ q, strOfNums rb = q := ⟨_, rfl⟩
            rw [hstr] at cva cvb
            have ere : (re != re) = false := by simp
            have elv : (lv != lv) = false := by simp
            have ecv : (cv != cv) = false := by simp
            clear HY1 TY H3 S3 SY1 zz z0' z1' z2' z3' zla' zlb' zlB' srca srcb hstr x3
            obtain ⟨⟨z0', z1', z2', z3'⟩, zla', zlb', zlB'⟩ := PJ.out w3 (chA c0 xa K0 * (Ar xa A * (RAr X ya A * (rcA r0 ya R0 * OTH)))) (HC3.out.eqv (by ac_rfl))
            go_wp2_with fail
            refine (LEN.out _ _ HC3.out).mono ?_
            rintro e w4 ⟨rfl, hb4⟩
            have HC4 := Lib.hid (HC3.out.grow hb4)
            have HP4 := Lib.hid (HP.out.grow hb4)
            have S4 := Lib.hid (SZ1.out.grow hb4)
            clear cva cvb hb4 z0' z1' z2' z3' zla' zlb' zlB' HC3 HP SZ1 LEN
            obtain ⟨⟨z0', z1', z2', z3'⟩, zla', zlb', zlB'⟩ := PJ.out w4 (chA c0 xa K0 * (Ar xa A * (RAr X ya A * (rcA r0 ya R0 * OTH)))) (HC4.out.eqv (by ac_rfl))
            go_wp2_with fail
            refine (CHC.out _ _ HC4.out).mono ?_
            rintro e w5 ⟨rfl, hb5⟩
            have HP5 := Lib.hid (HP4.out.grow hb5)
            have S5 := Lib.hid (S4.out.grow hb5)
            clear hb5 z0' z1' z2' z3' zla' zlb' zlB' HC4 HP4 S4 CHC PJ BACK HPW HOTH PC
            go_wp2_with fail
            go_loopw [26] (fun x wl => ∃ i : Nat, i ≤ n ∧ x = .int .i64 i ∧ Hid (Holds wl (plC X xa ya A Q (.slice (some ⟨ga, 0, none⟩) n capa) (.slice (some ⟨gb, 0, none⟩) n capb) w)) ∧ Hid (Sm w wl)) (fun x _ => n - (intOf x).toNat)
            case atStart => exact ⟨0, Nat.zero_le _, rfl, HP5.out, S5.out⟩
            case round =>
              as_aux_lemma =>
                clear HP5 S5
                obtain ⟨i, hi, rfl, HL, SL⟩ := hrel
                have PCC : Hid (∀ wq, Holds wq (plC X xa ya A Q (.slice (some ⟨ga, 0, none⟩) n capa) (.slice (some ⟨gb, 0, none⟩) n capb) w) → (ga < wq.heap.size ∧ gb < wq.heap.size) ∧ ∀ i (hi : i < Q.length), wq.cell? ⟨ga, i, none⟩ = some (.pointer (some ⟨Q[i].c, 0, none⟩)) ∧ wq.cell? ⟨gb, i, none⟩ = some (.pointer (some ⟨Q[i].r, 0, none⟩))) := by
                  intro wq h
                  have ha := h.eqv (by unfold plC; ac_rfl : _ = rowL 27 1 pc (.slice (some ⟨ga, 0, none⟩) n capa) Q * (Ar xa A * (RAr X ya A * (big (ent xa ya) Q * (rowL 43 1 pr (.slice (some ⟨gb, 0, none⟩) n capb) Q * all w)))))
                  have hb := h.eqv (by unfold plC; ac_rfl : _ = rowL 43 1 pr (.slice (some ⟨gb, 0, none⟩) n capb) Q * (Ar xa A * (RAr X ya A * (big (ent xa ya) Q * (rowL 27 1 pc (.slice (some ⟨ga, 0, none⟩) n capa) Q * all w)))))
                  obtain ⟨g1, cp1, e1, -, hg1, -, -⟩ := rowL_cell ha pc_len j hjl.out
                  obtain ⟨g2, cp2, e2, -, hg2, -, -⟩ := rowL_cell hb pr_len j hjl.out
                  simp at e1 e2
                  obtain ⟨rfl, -⟩ := e1
                  obtain ⟨rfl, -⟩ := e2
                  refine ⟨⟨hg1, hg2⟩, fun i hi => ?_⟩
                  obtain ⟨g, cap2, e1, -, hg, hrc, -⟩ := rowL_cell ha pc_len i hi
                  obtain ⟨g', cap2', e1', -, hg', hrc', -⟩ := rowL_cell hb pr_len i hi
                  simp at e1 e1'
                  obtain ⟨rfl, -⟩ := e1
                  obtain ⟨rfl, -⟩ := e1'
                  have r0 := hrc 0 (by omega)
                  have r1 := hrc' 0 (by omega)
                  simp only [pc, pr, Nat.mul_one, Nat.add_zero, List.getElem?_cons_zero] at r0 r1
                  exact ⟨r0, r1⟩
                by_cases hin : i < n
                · have hiq : i < Q.length := by rw [HN.out]; exact hin
                  have i0 : (0 : Int) ≤ (i : Int) := by omega
                  have i1 : (i : Int) < (n : Int) := by omega
                  have i2 : decide ((i : Int) < (n : Int)) = true := by simp; omega
                  obtain ⟨⟨zla, zlb⟩, zc⟩ := PCC.out wr HL.out
                  obtain ⟨z0, z1⟩ := zc j hjl.out
                  obtain ⟨z2, z3⟩ := zc i hiq
                  obtain ⟨⟨ci, Ki, ri, Ri⟩, hqi⟩ : ∃ q, Q[i] = q := ⟨_, rfl⟩
                  have AL := I.out.alike hjl.out hiq QQ.out hqi
                  have OKI := I.out.at_ i hiq
                  rw [hqi] at OKI
                  have hn1 := OKK.out.n
                  have hn2 := OKI.n
                  have hl1 := OKK.out.l
                  simp only at hn1 hn2 hl1 AL
                  have TX : Hid (∀ wq, Holds wq (plC X xa ya A Q (.slice (some ⟨ga, 0, none⟩) n capa) (.slice (some ⟨gb, 0, none⟩) n capb) w) → Calls Try.prog 26 #[.pointer (some ⟨c0, 0, none⟩), .pointer (some ⟨ci, 0, none⟩)] wq fun e w' => e = .returned (.bool (alikeC K0 Ki)) ∧ Below wq.heap.size wq w') := by
                    intro wq h
                    have h1 := h
                    unfold plC at h1
                    rw [big_out hjl.out QQ.out] at h1
                    have h2 := h
                    unfold plC at h2
                    rw [big_out hiq hqi] at h2
                    exact alike_calls c0 ci xa K0 Ki A (RAr X ya A * (rcA r0 ya R0 * (big (ent xa ya) (Q.eraseIdx j) * (rowL 27 1 pc (.slice (some ⟨ga, 0, none⟩) n capa) Q * (rowL 43 1 pr (.slice (some ⟨gb, 0, none⟩) n capb) Q * all w))))) (RAr X ya A * (rcA ri ya Ri * (big (ent xa ya) (Q.eraseIdx i) * (rowL 27 1 pc (.slice (some ⟨ga, 0, none⟩) n capa) Q * (rowL 43 1 pr (.slice (some ⟨gb, 0, none⟩) n capb) Q * all w))))) wq (by omega) (h1.eqv (by ac_rfl)) (h2.eqv (by ac_rfl))
                  have TY : Hid (∀ wq, Holds wq (plC X xa ya A Q (.slice (some ⟨ga, 0, none⟩) n capa) (.slice (some ⟨gb, 0, none⟩) n capb) w) → Calls Try.prog 27 #[.pointer (some ⟨r0, 0, none⟩), .pointer (some ⟨ri, 0, none⟩)] wq fun e w' => e = .returned (.bool (alikeC K0 Ki)) ∧ ∃ m, w' = wq.drewN m) := by
                    intro wq h
                    have h1 := h
                    unfold plC at h1
                    rw [big_out hjl.out QQ.out] at h1
                    have h2 := h
                    unfold plC at h2
                    rw [big_out hiq hqi] at h2
                    have t := ralike_calls r0 ri ya R0 Ri (chA c0 xa K0 * (Ar xa A * (RAr X ya A * (big (ent xa ya) (Q.eraseIdx j) * (rowL 27 1 pc (.slice (some ⟨ga, 0, none⟩) n capa) Q * (rowL 43 1 pr (.slice (some ⟨gb, 0, none⟩) n capb) Q * all w)))))) (chA ci xa Ki * (Ar xa A * (RAr X ya A * (big (ent xa ya) (Q.eraseIdx i) * (rowL 27 1 pc (.slice (some ⟨ga, 0, none⟩) n capa) Q * (rowL 43 1 pr (.slice (some ⟨gb, 0, none⟩) n capb) Q * all w)))))) wq (by rw [← hl1]; omega) (h1.eqv (by ac_rfl)) (h2.eqv (by ac_rfl))
                    rw [AL] at t
                    exact t
                  obtain ⟨bb, hbb⟩ : ∃ q, alikeC K0 Ki = q := ⟨_, rfl⟩
                  rw [hbb] at TX TY
                  rw [QQ.out] at z0 z1
                  rw [hqi] at z2 z3
                  simp only at z0 z1 z2 z3
                  have TX2 : Hid (∀ wq, Holds wq (plC X xa ya A Q (.slice (some ⟨ga, 0, none⟩) n capa) (.slice (some ⟨gb, 0, none⟩) n capb) w) → Calls Try.prog 26 #[.pointer (some ⟨c0, 0, none⟩), .pointer (some ⟨ci, 0, none⟩)] wq fun e w' => e = .returned (.bool bb) ∧ Holds w' (plC X xa ya A Q (.slice (some ⟨ga, 0, none⟩) n capa) (.slice (some ⟨gb, 0, none⟩) n capb) w) ∧ Sm wq w' ∧ (w'.cell? ⟨ga, j, none⟩ = some (.pointer (some ⟨c0, 0, none⟩)) ∧ w'.cell? ⟨gb, j, none⟩ = some (.pointer (some ⟨r0, 0, none⟩)) ∧ w'.cell? ⟨ga, i, none⟩ = some (.pointer (some ⟨ci, 0, none⟩)) ∧ w'.cell? ⟨gb, i, none⟩ = some (.pointer (some ⟨ri, 0, none⟩)))) := by
                    intro wq h
                    refine (TX.out wq h).mono ?_
                    rintro e w' ⟨rfl, hb⟩
                    have h' := h.grow hb
                    obtain ⟨-, zc⟩ := PCC.out w' h'
                    obtain ⟨y0, y1⟩ := zc j hjl.out
                    obtain ⟨y2, y3⟩ := zc i hiq
                    rw [QQ.out] at y0 y1
                    rw [hqi] at y2 y3
                    exact ⟨rfl, h', .of_below hb, y0, y1, y2, y3⟩
                  have TY2 : Hid (∀ wq, Holds wq (plC X xa ya A Q (.slice (some ⟨ga, 0, none⟩) n capa) (.slice (some ⟨gb, 0, none⟩) n capb) w) → Calls Try.prog 27 #[.pointer (some ⟨r0, 0, none⟩), .pointer (some ⟨ri, 0, none⟩)] wq fun e w' => e = .returned (.bool bb) ∧ Holds w' (plC X xa ya A Q (.slice (some ⟨ga, 0, none⟩) n capa) (.slice (some ⟨gb, 0, none⟩) n capb) w) ∧ Sm wq w' ∧ (w'.cell? ⟨ga, j, none⟩ = some (.pointer (some ⟨c0, 0, none⟩)) ∧ w'.cell? ⟨gb, j, none⟩ = some (.pointer (some ⟨r0, 0, none⟩)) ∧ w'.cell? ⟨ga, i, none⟩ = some (.pointer (some ⟨ci, 0, none⟩)) ∧ w'.cell? ⟨gb, i, none⟩ = some (.pointer (some ⟨ri, 0, none⟩)))) := by
                    intro wq h
                    refine (TY.out wq h).mono ?_
                    rintro e w' ⟨rfl, m, rfl⟩
                    have hb := below_drewN (Below.refl wq.heap.size wq) m
                    have h' := h.grow hb
                    obtain ⟨-, zc⟩ := PCC.out _ h'
                    obtain ⟨y0, y1⟩ := zc j hjl.out
                    obtain ⟨y2, y3⟩ := zc i hiq
                    rw [QQ.out] at y0 y1
                    rw [hqi] at y2 y3
                    exact ⟨rfl, h', .of_below hb, y0, y1, y2, y3⟩
                  have ebb : (bb != bb) = false := by simp
                  clear TX TY zc OKI hn1 hn2 hl1 AL hqi hbb PCC
                  go_wp2_with fail
                  have zz : (fun w' : World => w'.cell? ⟨ga, j, none⟩ = some (.pointer (some ⟨c0, 0, none⟩)) ∧ w'.cell? ⟨gb, j, none⟩ = some (.pointer (some ⟨r0, 0, none⟩)) ∧ w'.cell? ⟨ga, i, none⟩ = some (.pointer (some ⟨ci, 0, none⟩)) ∧ w'.cell? ⟨gb, i, none⟩ = some (.pointer (some ⟨ri, 0, none⟩))) wr := ⟨z0, z1, z2, z3⟩
                  go_region_held3 (fun w' : World => w'.cell? ⟨ga, j, none⟩ = some (.pointer (some ⟨c0, 0, none⟩)) ∧ w'.cell? ⟨gb, j, none⟩ = some (.pointer (some ⟨r0, 0, none⟩)) ∧ w'.cell? ⟨ga, i, none⟩ = some (.pointer (some ⟨ci, 0, none⟩)) ∧ w'.cell? ⟨gb, i, none⟩ = some (.pointer (some ⟨ri, 0, none⟩))) (first | exact x3 | exact x2 | exact zz | go_keep) (first | (go_at_call 26; refine (TX2.out _ ?_).mono ?_; (exact HL.out); rintro e w2 ⟨rfl, h2, s2, x2⟩; have H2 := Lib.hid h2; have S2 := Lib.hid s2; clear h2 s2) | (go_at_call 27; refine (TY2.out _ ?_).mono ?_; (exact H2.out); rintro e w3 ⟨rfl, h3, s3, x3⟩; have H3 := Lib.hid h3; have S3 := Lib.hid s3; clear h3 s3))
                  have HF := Lib.hid H3.out
                  have SF : Hid (Sm w w3) := (SL.out.drew.trans S2.out).trans S3.out
                  clear HL TX2 TY2 H2 H3 S2 S3 x2 x3 zz z0 z1 z2 z3
                  go_wp2_with fail
                  go_roundw
                  case rel => exact ⟨i + 1, by omega, by go_num, HF.out, SF.out⟩
                  case measure => simp [intOf]; omega
                · obtain rfl : i = n := by omega
                  clear hin hi PCC
                  go_wp2_with fail
                  go_loopw [27] (fun x wl => ∃ d : Nat, d ≤ 4 ∧ x = .int .i64 d ∧ Hid (Holds wl (plC X xa ya A Q (.slice (some ⟨ga, 0, none⟩) i capa) (.slice (some ⟨gb, 0, none⟩) i capb) w)) ∧ Hid (Sm w wl)) (fun x _ => 4 - (intOf x).toNat)
                  case atStart => exact ⟨0, by omega, rfl, HL.out, SL.out⟩
                  case round =>
                    as_aux_lemma =>
                      clear HL SL
                      obtain ⟨d, hd, rfl, HL, SL⟩ := hrel
                      by_cases hd4 : d < 4
                      · have d0 : (0 : Int) ≤ (d : Int) := by omega
                        have d1 : (d : Int) < 4 := by omega
                        have d2 : decide ((d : Int) < 4) = true := by simp; omega
                        have LX := Lib.hid (liveA_calls xa A _ wr (d : Int) (HL.out.eqv (by unfold plC; rfl : _ = Ar xa A * (RAr X ya A * (big (ent xa ya) Q * (rowL 27 1 pc (.slice (some ⟨ga, 0, none⟩) i capa) Q * (rowL 43 1 pr (.slice (some ⟨gb, 0, none⟩) i capb) Q * all w)))))))
                        have LY := Lib.hid (fun (wq : World) (F : Asr) h => r_live X ya A F (d : Int) wq h)
                        obtain ⟨lx, hlx⟩ : ∃ q, liveA A (d : Int) = q := ⟨_, rfl⟩
                        rw [hlx] at LX LY
                        have elx : ((lx : Int) != (lx : Int)) = false := by simp
                        have elx2 : (lx != lx) = false := by simp
                        clear hlx
                        go_wp2_with fail
                        refine (LX.out).mono ?_
                        rintro e w2 ⟨rfl, hb⟩
                        have H2 : Hid (Holds w2 (RAr X ya A * (Ar xa A * (big (ent xa ya) Q * (rowL 27 1 pc (.slice (some ⟨ga, 0, none⟩) i capa) Q * (rowL 43 1 pr (.slice (some ⟨gb, 0, none⟩) i capb) Q * all w)))))) := (HL.out.grow hb).eqv (by unfold plC; ac_rfl)
                        have S2 := Lib.hid (SL.out.grow hb)
                        clear hb LX HL SL
                        go_wp2_with fail
                        refine (LY.out _ _ H2.out).mono ?_
                        rintro e w3 ⟨rfl, h3, s3⟩
                        have H3 : Hid (Holds w3 (plC X xa ya A Q (.slice (some ⟨ga, 0, none⟩) i capa) (.slice (some ⟨gb, 0, none⟩) i capb) w)) := h3.eqv (by unfold plC; ac_rfl)
                        have S3 := Lib.hid (S2.out.trans s3)
                        clear h3 s3 LY H2 S2
                        go_wp2_with fail
                        go_roundw
                        case rel => exact ⟨d + 1, by omega, by go_num, H3.out, S3.out⟩
                        case measure => simp [intOf]; omega
                      · obtain rfl : d = 4 := by omega
                        clear hd4 hd
                        go_wp2_with fail
                        go_roundw
                        case rel => exact ⟨k + 1, _, _, by omega, by omega, by go_num, I.out, HL.out, SL.out⟩
                        case measure => simp [intOf]; omega
    · have FIN := Lib.hid (Holds.below (HH.out.eqv (by unfold plC; ac_rfl : _ = (Ar xa A * (RAr X ya A * (big (ent xa ya) Q * (rowL 27 1 pc _ Q * rowL 43 1 pr _ Q)))) * all w)) HS.out)
      by_cases hka : k < len
      · obtain rfl : k = 60 := by omega
        clear hkl
        go_wp2_with fail
        go_ret
        exact ⟨rfl, FIN.out⟩
      · obtain rfl : k = len := by omega
        clear hkl
        go_wp2_with fail
        go_ret
        exact ⟨rfl, FIN.out⟩
#print axioms cplays_walk
end Go.Proofs.Ytefcinifaaablaa.Chain
