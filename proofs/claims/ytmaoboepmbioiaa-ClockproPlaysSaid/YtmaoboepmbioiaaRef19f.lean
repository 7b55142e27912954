/-
  The document's clock (ref19): Evict, Remove.
-/
import Derived.Test.YtmaoboepmbioiaaRef19e
namespace Go.Proofs.Ytmaoboepmbioiaa.Clock
open Go.RowKit Go.Sep
set_option maxRecDepth 100000
set_option linter.unusedVariables false
set_option linter.unusedSimpArgs false

set_option maxHeartbeats 1000000 in
theorem revict_calls (b : Nat) (S : CS) (F : Asr) (w : World) (hb : Bnd S) (hrk : Holds w (rk b S * F)) :
    Calls Try.prog 38 #[.pointer (some ⟨b, 0, none⟩)] w (RTurnC (evictS S) b F w) := by
  have HC := Lib.hid hrk
  have B := Lib.hid hb
  clear hrk hb
  go_enter Try.func38, Try.ntmps38
  go_wp2_with fail
  go_loopg [] (allMarks S) (fun k wr => ∃ S', Hid (Bnd S') ∧ Hid (allMarks S' ≤ k) ∧ Hid (evictS S' = evictS S) ∧ Hid (Holds wr (rk b S' * F)) ∧ Hid (Sm w wr))
  case atStart => exact ⟨S, B.out, Nat.le_refl _, rfl, HC.out, Sm.refl w⟩
  case round =>
    clear HC B
    obtain ⟨S', B', M', E', H', K'⟩ := hrel
    obtain ⟨v1, v2, v3, hw⟩ := rk_open H'.out
    obtain ⟨al, c0, c1, c2, c3, c4, cf⟩ := rk_seen hw
    obtain ⟨ao1, cap1, hv1, -, -⟩ := pgs_slice (rkO_c hw)
    obtain ⟨ao2, cap2, hv2, -, -⟩ := pgs_slice (rkO_h hw)
    subst hv1 hv2
    have tot := B'.out.tot
    have TQ := Lib.hid (fun h0 => turnCold_keeps S' h0)
    have TR := Lib.hid (fun (wq : World) h0 h => rturnCold_calls b S' F wq B'.out h0 h)
    have hth : thereS S' = S'.cold.length + S'.hot.length := rfl
    have EV := Lib.hid (evict_step S')
    rw [hth] at EV TQ TR
    obtain ⟨m, hm⟩ : ∃ m, S'.cold.length = m := ⟨_, rfl⟩
    obtain ⟨n, hn⟩ : ∃ n, S'.hot.length = n := ⟨_, rfl⟩
    rw [hm, hn] at EV TQ TR tot
    rw [hm] at c2
    rw [hn] at c3
    have bw : IntKind.i64.wrap ((m : Int) + (n : Int)) = (m : Int) + (n : Int) := IntWalk.i64_in _ (by omega)
    clear hw cf hm hn hth c0 c1 c4 tot
    by_cases h0 : 0 < m + n
    · have K := Lib.hid (TQ.out h0)
      have TC := Lib.hid (fun (wq : World) h => TR.out wq h0 h)
      have ST : Hid (evictS S = if (turnColdS S').ok then turnColdS S' else evictS (turnColdS S').S) := by show _ = _; rw [← E'.out, EV.out, if_pos h0]
      have d0 : decide ((0 : Int) < (m : Int) + (n : Int)) = true := by simp; omega
      have d0n : decide (0 < m + n) = true := by simp; omega
      clear h0 E' EV TQ TR
      obtain ⟨r, hr⟩ : ∃ r, turnColdS S' = r := ⟨_, rfl⟩
      rw [hr] at TC K ST
      clear hr
      obtain ⟨rS, rid, rok⟩ := r
      cases rok with
      | true =>
        go_wp2_with fail
        go_quiet (fail)
        go_wp2_with fail
        refine (TC.out (wr.drewN _) H'.out).mono ?_
        rintro e w2 ⟨rfl, k1, k2⟩
        have H2 := Lib.hid k1
        have K2 := Lib.hid ((K'.out.drewN _).trans k2)
        clear k1 k2
        go_wp2_with fail
        go_ret2
        exact ⟨by rw [ST.out]; try rfl, by rw [ST.out]; exact H2.out, K2.out⟩
      | false =>
        go_wp2_with fail
        go_quiet (fail)
        go_wp2_with fail
        refine (TC.out (wr.drewN _) H'.out).mono ?_
        rintro e w2 ⟨rfl, k1, k2⟩
        have H2 := Lib.hid k1
        have K2 := Lib.hid ((K'.out.drewN _).trans k2)
        clear k1 k2
        go_wp2_with fail
        go_roundg (gk - 1)
        case measure => have := (K.out.no rfl).2.2.1; have := M'.out; simp only at *; omega
        case rel => exact ⟨rS, K.out.bnd B'.out, by show _ ≤ _; have := (K.out.no rfl).2.2.1; have := M'.out; simp only at *; omega, by show _ = _; rw [ST.out]; rfl, H2.out, K2.out⟩
    · have ST : Hid (evictS S = ⟨S', 0, false⟩) := by show _ = _; rw [← E'.out, EV.out, if_neg h0]
      have d0 : decide ((0 : Int) < (m : Int) + (n : Int)) = false := by simp; omega
      have d0n : decide (0 < m + n) = false := by simp; omega
      clear h0 E' EV TQ TR
      go_wp2_with fail
      go_quiet (fail)
      go_wp2_with fail
      go_ret2
      exact ⟨by rw [ST.out]; try rfl, by rw [ST.out]; exact H'.out, K'.out.drewN _⟩
#print axioms revict_calls

/-- what Remove leaves -/
theorem uq_out_len {l : List Pg} (h : l.length ≤ 8500) : l.length ≤ 100000 := by omega
set_option maxHeartbeats 1000000 in
theorem rremove_calls (b : Nat) (S : CS) (F : Asr) (w : World) (id : Int) (hu : Uq S) (hb : Bnd S) (hrk : Holds w (rk b S * F)) :
    Calls Try.prog 40 #[.pointer (some ⟨b, 0, none⟩), .int .i64 id] w fun e w' => e = .returned (.bool (kindS S id != 0)) ∧ Holds w' (rk b (removeS S id) * F) ∧ Sm w w' := by
  have tot := hb.tot
  obtain ⟨v1, v2, v3, hw⟩ := rk_open hrk
  obtain ⟨al, c0, c1, c2, c3, c4, cf⟩ := rk_seen hw
  have PC := Lib.hid (place_calls v1 S.cold _ id w (rkO_c hw))
  have PH := Lib.hid (place_calls v2 S.hot _ id w (rkO_h hw))
  have PT := Lib.hid (place_calls v3 S.test _ id w (rkO_t hw))
  rcases place_or S.cold id with ⟨e1, g1⟩ | ⟨k, e1, g1⟩
  · rw [e1] at PC
    simp only [toI] at PC
    rcases place_or S.hot id with ⟨e2, g2⟩ | ⟨k, e2, g2⟩
    · rw [e2] at PH
      simp only [toI] at PH
      rcases place_or S.test id with ⟨e3, g3⟩ | ⟨k, e3, g3⟩
      · rw [e3] at PT
        simp only [toI] at PT
        have RS : Hid ((kindS S id != 0) = false) := by show _ = _; simp [kindS, g1, g2, g3]
        have TS : Hid (removeS S id = S) := by show _ = _; unfold removeS; rw [outOf_no g1, outOf_no g2, outOf_no g3]
        have HC := Lib.hid hrk
        clear e1 g1 e2 g2 e3 g3 hu hb tot hrk hw cf c0 c1
        go_enter Try.func40, Try.ntmps40
        go_wp2_with fail
        refine (PC.out).mono ?_
        rintro e w' ⟨rfl, rfl⟩
        go_wp2_with fail
        refine (PH.out).mono ?_
        rintro e w' ⟨rfl, rfl⟩
        go_wp2_with fail
        refine (PT.out).mono ?_
        rintro e w' ⟨rfl, rfl⟩
        go_wp2_with fail
        go_ret
        exact ⟨by rw [RS.out]; try rfl, by rw [TS.out]; exact HC.out, Sm.refl _⟩
      · obtain ⟨hk, hid, -⟩ := place_lt e3
        rw [e3] at PT
        simp only [toI] at PT
        have OC := Lib.hid (out_calls v3 S.test k _ w hk (by omega) (rkO_t hw))
        have RS : Hid ((kindS S id != 0) = true) := by show _ = _; simp [kindS, g1, g2, g3]
        have TS : Hid (removeS S id = { S with test := S.test.eraseIdx k }) := by show _ = _; unfold removeS; rw [outOf_no g1, outOf_no g2, outOf_at hu.t k hk hid]
        have d3 : decide ((0 : Int) ≤ (k : Int)) = true := by simp
        clear e1 g1 e2 g2 e3 g3 hu hb tot hrk hw cf c0 c1 hk hid
        go_enter Try.func40, Try.ntmps40
        go_wp2_with fail
        refine (PC.out).mono ?_
        rintro e w' ⟨rfl, rfl⟩
        go_wp2_with fail
        refine (PH.out).mono ?_
        rintro e w' ⟨rfl, rfl⟩
        go_wp2_with fail
        refine (PT.out).mono ?_
        rintro e w' ⟨rfl, rfl⟩
        go_wp2_with fail
        refine (OC.out).mono ?_
        rintro e w1 ⟨v', rfl, h1, s1⟩
        obtain ⟨TL, hTL⟩ : ∃ q, S.test.eraseIdx k = q := ⟨_, rfl⟩
        rw [hTL] at h1 TS
        clear hTL
        obtain ⟨aoz, capz, hvz, -, -⟩ := pgs_slice h1
        subst hvz
        have h2 : Holds w1 (rhd b S.most S.target v1 v2 v3 * (pgsA v1 S.cold * (pgsA v2 S.hot * (pgsA (.slice aoz TL.length capz) TL * F)))) :=
          Holds.right (h1.eqv (by ac_rfl : _ = pgsA v3 S.test * _))
        have z := h2.cell 4
        have zl := h2.lt
        have zf := h2.frozen 4
        have h3 := Holds.store h2 4 (.slice aoz TL.length capz)
        have H3 : Hid (Holds (w1.setCell ⟨b, 4, none⟩ (.slice aoz TL.length capz)) (rk b (removeS S id) * F)) := by
          show Holds _ _
          rw [TS.out]
          refine rk_shut (v1 := v1) (v2 := v2) (v3 := (.slice aoz TL.length capz)) (h3.eqv ?_)
          unfold rkO rhd; simp only; ac_rfl
        have K3 : Hid (Sm w (w1.setCell ⟨b, 4, none⟩ (.slice aoz TL.length capz))) := s1.setCell _ _
        simp at z
        clear h1 h2 h3 s1
        go_wp2_with fail
        go_ret
        exact ⟨by rw [RS.out]; try rfl, H3.out, K3.out⟩
    · obtain ⟨hk, hid, -⟩ := place_lt e2
      rw [e2] at PH
      simp only [toI] at PH
      have OC := Lib.hid (out_calls v2 S.hot k _ w hk (by omega) (rkO_h hw))
      have RS : Hid ((kindS S id != 0) = true) := by show _ = _; simp [kindS, g1, g2]
      have TS : Hid (removeS S id = { S with hot := S.hot.eraseIdx k }) := by show _ = _; unfold removeS; rw [outOf_no g1, outOf_no (hu.ht id g2), outOf_at hu.h k hk hid]
      have d3 : decide ((0 : Int) ≤ (k : Int)) = true := by simp
      clear e1 g1 e2 g2 hu hb tot hrk hw cf c0 c1 hk hid
      go_enter Try.func40, Try.ntmps40
      go_wp2_with fail
      refine (PC.out).mono ?_
      rintro e w' ⟨rfl, rfl⟩
      go_wp2_with fail
      refine (PH.out).mono ?_
      rintro e w' ⟨rfl, rfl⟩
      go_wp2_with fail
      refine (OC.out).mono ?_
      rintro e w1 ⟨v', rfl, h1, s1⟩
      obtain ⟨TL, hTL⟩ : ∃ q, S.hot.eraseIdx k = q := ⟨_, rfl⟩
      rw [hTL] at h1 TS
      clear hTL
      obtain ⟨aoz, capz, hvz, -, -⟩ := pgs_slice h1
      subst hvz
      have h2 : Holds w1 (rhd b S.most S.target v1 v2 v3 * (pgsA v1 S.cold * (pgsA v3 S.test * (pgsA (.slice aoz TL.length capz) TL * F)))) :=
        Holds.right (h1.eqv (by ac_rfl : _ = pgsA v2 S.hot * _))
      have z := h2.cell 3
      have zl := h2.lt
      have zf := h2.frozen 3
      have h3 := Holds.store h2 3 (.slice aoz TL.length capz)
      have H3 : Hid (Holds (w1.setCell ⟨b, 3, none⟩ (.slice aoz TL.length capz)) (rk b (removeS S id) * F)) := by
        show Holds _ _
        rw [TS.out]
        refine rk_shut (v1 := v1) (v2 := (.slice aoz TL.length capz)) (v3 := v3) (h3.eqv ?_)
        unfold rkO rhd; simp only; ac_rfl
      have K3 : Hid (Sm w (w1.setCell ⟨b, 3, none⟩ (.slice aoz TL.length capz))) := s1.setCell _ _
      simp at z
      clear h1 h2 h3 s1
      go_wp2_with fail
      go_ret
      exact ⟨by rw [RS.out]; try rfl, H3.out, K3.out⟩
  · obtain ⟨hk, hid, -⟩ := place_lt e1
    rw [e1] at PC
    simp only [toI] at PC
    have OC := Lib.hid (out_calls v1 S.cold k _ w hk (by omega) (rkO_c hw))
    have RS : Hid ((kindS S id != 0) = true) := by show _ = _; simp [kindS, g1]
    have TS : Hid (removeS S id = { S with cold := S.cold.eraseIdx k }) := by show _ = _; unfold removeS; rw [outOf_no (hu.ch id g1).1, outOf_no (hu.ch id g1).2, outOf_at hu.c k hk hid]
    have d3 : decide ((0 : Int) ≤ (k : Int)) = true := by simp
    clear e1 g1 hu hb tot hrk hw cf c0 c1 hk hid
    go_enter Try.func40, Try.ntmps40
    go_wp2_with fail
    refine (PC.out).mono ?_
    rintro e w' ⟨rfl, rfl⟩
    go_wp2_with fail
    refine (OC.out).mono ?_
    rintro e w1 ⟨v', rfl, h1, s1⟩
    obtain ⟨TL, hTL⟩ : ∃ q, S.cold.eraseIdx k = q := ⟨_, rfl⟩
    rw [hTL] at h1 TS
    clear hTL
    obtain ⟨aoz, capz, hvz, -, -⟩ := pgs_slice h1
    subst hvz
    have h2 : Holds w1 (rhd b S.most S.target v1 v2 v3 * (pgsA v2 S.hot * (pgsA v3 S.test * (pgsA (.slice aoz TL.length capz) TL * F)))) :=
      Holds.right (h1.eqv (by ac_rfl : _ = pgsA v1 S.cold * _))
    have z := h2.cell 2
    have zl := h2.lt
    have zf := h2.frozen 2
    have h3 := Holds.store h2 2 (.slice aoz TL.length capz)
    have H3 : Hid (Holds (w1.setCell ⟨b, 2, none⟩ (.slice aoz TL.length capz)) (rk b (removeS S id) * F)) := by
      show Holds _ _
      rw [TS.out]
      refine rk_shut (v1 := (.slice aoz TL.length capz)) (v2 := v2) (v3 := v3) (h3.eqv ?_)
      unfold rkO rhd; simp only; ac_rfl
    have K3 : Hid (Sm w (w1.setCell ⟨b, 2, none⟩ (.slice aoz TL.length capz))) := s1.setCell _ _
    simp at z
    clear h1 h2 h3 s1
    go_wp2_with fail
    go_ret
    exact ⟨by rw [RS.out]; try rfl, H3.out, K3.out⟩
#print axioms rremove_calls
end Go.Proofs.Ytmaoboepmbioiaa.Clock
