/-
  The document's clock (ref19): Add.
-/
import Derived.Test.YtmaoboepmbioiaaRef19f
namespace Go.Proofs.Ytmaoboepmbioiaa.Clock
open Go.RowKit Go.Sep
set_option maxRecDepth 100000
set_option linter.unusedVariables false
set_option linter.unusedSimpArgs false

theorem rk_slices {w : World} {b : Nat} {S : CS} {F : Asr} (h : Holds w (rk b S * F)) : ∃ ao1 cap1 ao2 cap2 ao3 cap3, Holds w (rkO b S.most S.target (.slice ao1 S.cold.length cap1) (.slice ao2 S.hot.length cap2) (.slice ao3 S.test.length cap3) S.cold S.hot S.test * F) ∧ RSeen w b S.most S.target (.slice ao1 S.cold.length cap1) (.slice ao2 S.hot.length cap2) (.slice ao3 S.test.length cap3) := by
  obtain ⟨v1, v2, v3, hw⟩ := rk_open h
  obtain ⟨ao1, cap1, rfl, -, -⟩ := pgs_slice (rkO_c hw)
  obtain ⟨ao2, cap2, rfl, -, -⟩ := pgs_slice (rkO_h hw)
  obtain ⟨ao3, cap3, rfl, -, -⟩ := pgs_slice (rkO_t hw)
  exact ⟨_, _, _, _, _, _, hw, rk_seen hw⟩
def RAddC (r : Added) (b : Nat) (F : Asr) (w : World) (e : Ending) (w' : World) : Prop :=
  ∃ v, e = .returned (.tuple #[v, .int .i64 r.e]) ∧ Holds w' (rowL 3 1 iEnc v r.l * (rk b r.S * F)) ∧ Sm w w'
set_option maxHeartbeats 8000000 in
theorem radd_calls (b : Nat) (S : CS) (F : Asr) (w : World) (id : Int) (hu : Uq S) (hb : Bnd S) (htot : S.cold.length + S.hot.length + S.test.length ≤ 8400) (hrk : Holds w (rk b S * F)) :
    Calls Try.prog 34 #[.pointer (some ⟨b, 0, none⟩), .int .i64 id] w (RAddC (addS S id) b F w) := by
  have HC := Lib.hid hrk
  obtain ⟨v1, v2, v3, hw⟩ := rk_open hrk
  obtain ⟨al, c0, c1, c2, c3, c4, cf⟩ := rk_seen hw
  have PC := Lib.hid (place_calls v1 S.cold _ id w (rkO_c hw))
  have PH := Lib.hid (place_calls v2 S.hot _ id w (rkO_h hw))
  have PT := Lib.hid (place_calls v3 S.test _ id w (rkO_t hw))
  rcases place_or S.cold id with ⟨e1, g1⟩ | ⟨k1, e1, g1⟩
  rotate_left
  · rw [e1] at PC
    simp only [toI] at PC
    have RES : Hid (addS S id = ⟨S, [], 13⟩) := by show _ = _; unfold addS; rw [g1]; rfl
    have d3 : decide ((0 : Int) ≤ (k1 : Int)) = true := by simp
    clear e1 g1 hu hb htot hrk hw cf c0 c1
    go_enter Try.func34, Try.ntmps34
    go_wp2_with fail
    refine (PC.out).mono ?_
    rintro e w' ⟨rfl, rfl⟩
    go_wp2_with fail
    go_ret2
    exact ⟨_, by rw [RES.out]; try rfl, by rw [RES.out]; exact rowL_nil HC.out, Sm.refl _⟩
  rw [e1] at PC
  simp only [toI] at PC
  rcases place_or S.hot id with ⟨e2, g2⟩ | ⟨k2, e2, g2⟩
  rotate_left
  · rw [e2] at PH
    simp only [toI] at PH
    have RES : Hid (addS S id = ⟨S, [], 13⟩) := by show _ = _; unfold addS; rw [g1, g2]; rfl
    have d3 : decide ((0 : Int) ≤ (k2 : Int)) = true := by simp
    clear e1 g1 e2 g2 hu hb htot hrk hw cf c0 c1
    go_enter Try.func34, Try.ntmps34
    go_wp2_with fail
    refine (PC.out).mono ?_
    rintro e w' ⟨rfl, rfl⟩
    go_wp2_with fail
    refine (PH.out).mono ?_
    rintro e w' ⟨rfl, rfl⟩
    go_wp2_with fail
    go_ret2
    exact ⟨_, by rw [RES.out]; try rfl, by rw [RES.out]; exact rowL_nil HC.out, Sm.refl _⟩
  rw [e2] at PH
  simp only [toI] at PH
  rcases place_or S.test id with ⟨e3, g3⟩ | ⟨k, e3, g3⟩
  · rw [e3] at PT
    simp only [toI] at PT
    have RES : Hid (addS S id = ⟨finalS 0 id (roomL S []).S, (roomL S []).l, 0⟩) := by
      show _ = _
      unfold addS
      rw [g1, g2, g3]; rfl
    have B0 := Lib.hid hb
    have T0 := Lib.hid htot
    clear e1 g1 e2 g2 e3 g3 hu hb htot hrk hw cf c0 c1
    go_enter Try.func34, Try.ntmps34
    go_wp2_with fail
    refine (PC.out).mono ?_
    rintro e w' ⟨rfl, rfl⟩
    go_wp2_with fail
    refine (PH.out).mono ?_
    rintro e w' ⟨rfl, rfl⟩
    go_wp2_with fail
    refine (PT.out).mono ?_
    rintro e w' ⟨rfl, rfl⟩
    go_wp2_with fail
    have K0 : Hid (Sm w w) := Sm.refl w
    clear PC PH PT c2 c3 c4 al
    go_loopg [7] (thereS S) (fun k v wr => ∃ (S' : CS) (l' : List Int), Hid (Bnd S') ∧ Hid (thereS S' ≤ k) ∧ Hid (l'.length + thereS S' ≤ 8500) ∧ Hid (S'.cold.length + S'.hot.length + S'.test.length ≤ 8400) ∧ Hid (roomL S' l' = roomL S []) ∧ Hid (Holds wr (rowL 3 1 iEnc v l' * (rk b S' * F))) ∧ Hid (Sm w wr))
    case atStart => exact ⟨S, [], B0.out, Nat.le_refl _, by show _ ≤ _; have := T0.out; unfold thereS; simp; omega, T0.out, rfl, rowL_nil (show Holds _ _ from HC.out), by first | exact K0.out | exact K0.out.drewN _⟩
    case round =>
      clear HC K0 B0 T0
      obtain ⟨S', l', B', M', LB', TT', E', H', K'⟩ := hrel
      have hck := H'.out.eqv (star_left_comm _ _ _)
      obtain ⟨ao1, cap1, ao2, cap2, ao3, cap3, hw, al, c0, c1, c2, c3, c4, cf⟩ := rk_slices hck
      have hth : thereS S' = S'.cold.length + S'.hot.length := rfl
      obtain ⟨m, hm⟩ : ∃ m, S'.cold.length = m := ⟨_, rfl⟩
      obtain ⟨n, hn⟩ : ∃ n, S'.hot.length = n := ⟨_, rfl⟩
      obtain ⟨x, hx⟩ : ∃ x, S'.most = x := ⟨_, rfl⟩
      have tt := TT'.out
      rw [hm, hn] at tt hth
      rw [hm] at c2
      rw [hn] at c3
      rw [hx] at c0
      have bw : IntKind.i64.wrap ((m : Int) + (n : Int)) = (m : Int) + (n : Int) := IntWalk.i64_in _ (by omega)
      by_cases h0 : S'.most ≤ (thereS S' : Int)
      · have EV := Lib.hid (fun (G : Asr) (wq : World) h => revict_calls b S' G wq B'.out h)
        have EK := Lib.hid (evict_ok S')
        have NE : Hid (roomL (evictS S').S (l' ++ [(evictS S').id]) = roomL S []) := by show _ = _; rw [← room_step h0 B'.out.m1]; exact E'.out
        have NB : Hid (Bnd (evictS S').S) := EK.out.bnd B'.out
        have NT : Hid (thereS (evictS S').S + 1 = thereS S') := by
          show _ = _
          have := EK.out.there
          have := B'.out.m1
          omega
        have NTT : Hid ((evictS S').S.cold.length + (evictS S').S.hot.length + (evictS S').S.test.length ≤ 8400) := Nat.le_trans EK.out.tot TT'.out
        have d0 : decide (x ≤ (m : Int) + (n : Int)) = true := by rw [← hx]; simp; omega
        obtain ⟨r, hr⟩ : ∃ r, evictS S' = r := ⟨_, rfl⟩
        rw [hr] at EV NE NB NT NTT
        obtain ⟨rS, rid, rok⟩ := r
        have CK := Lib.hid hck
        clear hr h0 E' EK hck hw cf hm hn hx hth tt c1 c4
        go_wp2_with fail
        go_quiet (fail)
        go_wp2_with fail
        refine (EV.out _ (wr.drewN _) CK.out).mono ?_
        rintro e w1 ⟨rfl, k1, k2⟩
        have hrow := k1.eqv (star_left_comm _ _ _)
        obtain ⟨ao, cap, hv, hcap⟩ := rowA_slice hrow
        obtain ⟨n, hn⟩ : ∃ n, l'.length = n := ⟨_, rfl⟩
        rw [hn] at hv hcap
        subst hv
        have HR := Lib.hid hrow
        have K1 := Lib.hid ((K'.out.drewN _).trans k2)
        have HL : Hid (l'.length + 1 ≤ maxLen) := by show _ ≤ _; have := LB'.out; unfold maxLen; omega
        have HL2 : Hid ((l'.length + 1) * 8 ≤ 140737488355328) := by show _ ≤ _; have := LB'.out; omega
        have NL : Hid ((l' ++ [rid]).length + thereS rS ≤ 8500) := by show _ ≤ _; have h1 := LB'.out; have h2 := NT.out; simp only [List.length_append, List.length_cons, List.length_nil]; omega
        have NM : Hid (thereS rS ≤ gk - 1 ∧ gk - 1 < gk) := by show _ ∧ _; have h1 := M'.out; have h2 := NT.out; omega
        have HA := Lib.hid ((HR.out.alloc (.cells #[.int .i64 rid] 3)).right)
        clear k1 k2 hrow hcap H' K' CK EV LB' M' d0 c0 c2 c3 al hn HR bw
        go_wp2_with (at_builtin; refine wpList_append_one (enc := iEnc) rfl _ _ 48 rfl 3 (.int .i64 0) 1 8 Try.underlying48 infoI rfl rid rfl HA.out ⟨w1.heap.size, 0, none⟩ 1 rfl rfl (cells_new w1 #[.int .i64 rid] 3 _ rfl) (by simp [iEnc, Value.oneCell']) HL.out HL2.out ?_)
        intro v' w2 h2 s2
        have H2 := Lib.hid h2
        have K2 := Lib.hid ((K1.out.alloc _).trans s2)
        clear h2 s2 HA K1
        go_wp2_with fail
        go_roundg (gk - 1)
        case measure => exact NM.out.2
        case rel => exact ⟨rS, l' ++ [rid], NB.out, NM.out.1, NL.out, NTT.out, NE.out, H2.out, K2.out⟩
      · have d0 : decide (x ≤ (m : Int) + (n : Int)) = false := by rw [← hx]; simp; omega
        have RES2 : Hid (addS S id = ⟨finalS 0 id S', l', 0⟩) := by show _ = _; rw [RES.out, ← E'.out, room_stop h0]
        have LN : Hid (S'.cold.length = m ∧ S'.hot.length = n) := ⟨hm, hn⟩
        have HF : Hid (Holds wr (pgsA (.slice ao1 S'.cold.length cap1) S'.cold * (rhd b S'.most S'.target (.slice ao1 S'.cold.length cap1) (.slice ao2 S'.hot.length cap2) (.slice ao3 S'.test.length cap3) * (pgsA (.slice ao2 S'.hot.length cap2) S'.hot * (pgsA (.slice ao3 S'.test.length cap3) S'.test * (rowL 3 1 iEnc u7 l' * F)))))) := by
          show Holds _ _
          exact hw.eqv (by unfold rkO; ac_rfl)
        have tt' := TT'.out
        have B1 : Hid (S'.cold.length + 1 ≤ maxLen) := by show _ ≤ _; unfold maxLen; omega
        have B2 : Hid ((S'.cold.length + 1) * 16 ≤ 140737488355328) := by show _ ≤ _; omega
        have HA : Hid (∀ k, Holds ((wr.drewN k).alloc (.cells #[.int .i64 id, .bool false] 168)) (pgsA (.slice ao1 S'.cold.length cap1) S'.cold * (rhd b S'.most S'.target (.slice ao1 S'.cold.length cap1) (.slice ao2 S'.hot.length cap2) (.slice ao3 S'.test.length cap3) * (pgsA (.slice ao2 S'.hot.length cap2) S'.hot * (pgsA (.slice ao3 S'.test.length cap3) S'.test * (rowL 3 1 iEnc u7 l' * F)))))) := fun k => (Holds.alloc (w := wr.drewN k) HF.out (.cells #[.int .i64 id, .bool false] 168)).right
        have Lm : S'.cold.length = m := by have := LN.out; omega
        have HLN := Lib.hid Lm
        rw [Lm] at B1 B2
        clear h0 E' RES hck hm hn hx hth hw cf M' H' tt tt' LN HF Lm
        go_wp2_with fail
        go_quiet (fail)
        go_wp2_with (at_builtin; refine wpList_append_one (enc := pEnc) rfl _ _ 69 rfl 168 (.agg #[.int .i64 0, .bool false]) 2 16 Try.underlying69 infoP rfl (⟨id, false⟩ : Pg) (by rw [HLN.out]; rfl) (HA.out _) ⟨wr.heap.size, 0, none⟩ 1 rfl rfl (cells_new wr #[.int .i64 id, .bool false] 168 _ rfl) (by simp [pEnc, Value.oneCell']) (by rw [HLN.out]; exact B1.out) (by rw [HLN.out]; exact B2.out) ?_)
        intro va w2 h2 s2
        have h2 : Holds w2 (pgsA va (S'.cold ++ [(⟨id, false⟩ : Pg)]) * (rhd b S'.most S'.target (.slice ao1 S'.cold.length cap1) (.slice ao2 S'.hot.length cap2) (.slice ao3 S'.test.length cap3) * (pgsA (.slice ao2 S'.hot.length cap2) S'.hot * (pgsA (.slice ao3 S'.test.length cap3) S'.test * (rowL 3 1 iEnc u7 l' * F))))) := h2
        obtain ⟨ao4, cap4, hva, -⟩ := pgs_slice h2
        rw [List.length_append, List.length_cons, List.length_nil] at hva
        subst hva
        obtain ⟨xl, x0, x1, x2, x3, x4, xf⟩ := app_seen (xs := (S'.cold ++ [(⟨id, false⟩ : Pg)]).flatMap pEnc) (n := (S'.cold ++ [(⟨id, false⟩ : Pg)]).length) h2
        have xfj := xf 2
        have h3 := Holds.store (h2.eqv (star_left_comm _ _ _)) 2 (.slice ao4 (S'.cold.length + 1) cap4)
        have K2 : Hid (Sm w (w2.setCell ⟨b, 2, none⟩ (.slice ao4 (S'.cold.length + 1) cap4))) := (((K'.out.drewN _).alloc _).trans s2).setCell _ _
        have CF : Hid (Holds (w2.setCell ⟨b, 2, none⟩ (.slice ao4 (S'.cold.length + 1) cap4)) (rk b { S' with cold := S'.cold ++ [⟨id, false⟩] } * (rowL 3 1 iEnc u7 l' * F))) := by
          show Holds _ _
          refine rk_shut (v1 := (.slice ao4 (S'.cold.length + 1) cap4)) (v2 := (.slice ao2 S'.hot.length cap2)) (v3 := .slice ao3 S'.test.length cap3) (h3.eqv ?_)
          unfold rkO rhd; simp only; ac_rfl
        clear h2 h3 s2 HA K' xf
        go_wp2_with fail
        go_ret2
        rw [RES2.out]
        exact ⟨_, rfl, CF.out.eqv (star_left_comm _ _ _), K2.out⟩
  · obtain ⟨hk, hkid, -⟩ := place_lt e3
    rw [e3] at PT
    simp only [toI] at PT
    have OC := Lib.hid (out_calls v3 S.test k _ w hk (by omega) (rkO_t hw))
    have OE : Hid (outOf S.test id = S.test.eraseIdx k) := outOf_at hu.t k hk hkid
    obtain ⟨T, hT⟩ : ∃ T, T = ({ S with test := outOf S.test id, target := min S.most (S.target + 1) } : CS) := ⟨_, rfl⟩
    have hol : (outOf S.test id).length ≤ S.test.length := List.length_filter_le _ _
    have tb1 := hb.t1
    have tb2 := hb.t2
    have tb3 := hb.m2
    have tb4 := hb.m1
    have B0 : Hid (Bnd T) := by
      show Bnd _
      rw [hT]
      exact ⟨hb.m1, hb.m2, by simp only; omega, by simp only; omega, by simp only; omega⟩
    have T0 : Hid (T.cold.length + T.hot.length + T.test.length ≤ 8400) := by show _ ≤ _; rw [hT]; simp only; omega
    have RES : Hid (addS S id = ⟨finalS 3 id (roomL T []).S, (roomL T []).l, 0⟩) := by
      show _ = _
      unfold addS
      rw [g1, g2, g3, hT]; rfl
    have HT := Lib.hid hT
    have d3 : decide ((0 : Int) ≤ (k : Int)) = true := by simp
    have d4 : decide ((k : Int) < 0) = false := by simp
    clear e1 g1 e2 g2 e3 g3 hu hb htot hrk hw cf hk hkid hol hT c0 c1
    go_enter Try.func34, Try.ntmps34
    go_wp2_with fail
    refine (PC.out).mono ?_
    rintro e w' ⟨rfl, rfl⟩
    go_wp2_with fail
    refine (PH.out).mono ?_
    rintro e w' ⟨rfl, rfl⟩
    go_wp2_with fail
    refine (PT.out).mono ?_
    rintro e w' ⟨rfl, rfl⟩
    go_wp2_with fail
    refine (OC.out).mono ?_
    rintro e w1 ⟨v', rfl, h1, s1⟩
    obtain ⟨TL, hTL⟩ : ∃ q, S.test.eraseIdx k = q := ⟨_, rfl⟩
    rw [hTL] at h1 OE
    clear hTL
    obtain ⟨aoz, capz, hvz, -, -⟩ := pgs_slice h1
    subst hvz
    have h2 : Holds w1 (rhd b S.most S.target v1 v2 v3 * (pgsA v1 S.cold * (pgsA v2 S.hot * (pgsA (.slice aoz TL.length capz) TL * F)))) :=
      Holds.right (h1.eqv (by ac_rfl : _ = pgsA v3 S.test * _))
    have z0 := h2.cell 0
    have z1 := h2.cell 1
    have z4 := h2.cell 4
    have zl := h2.lt
    have zf := h2.frozen 4
    have zf1 := h2.frozen 1
    simp at z0 z1 z4
    have h3 := Holds.store h2 4 (.slice aoz TL.length capz)
    have h3 : Holds (w1.setCell ⟨b, 4, none⟩ (.slice aoz TL.length capz)) (rhd b S.most S.target v1 v2 (.slice aoz TL.length capz) * (pgsA v1 S.cold * (pgsA v2 S.hot * (pgsA (.slice aoz TL.length capz) TL * F)))) := h3
    have h4 := Holds.store h3 1 (.int .i64 (S.target + 1))
    have K3 : Hid (Sm w (w1.setCell ⟨b, 4, none⟩ (.slice aoz TL.length capz))) := s1.setCell _ _
    have HX : Hid (¬ S.target < S.most → Holds (w1.setCell ⟨b, 4, none⟩ (.slice aoz TL.length capz)) (rk b T * F)) := by
      intro hle
      rw [HT.out]
      have he : min S.most (S.target + 1) = S.target := by omega
      rw [he, OE.out]
      refine rk_shut (v1 := v1) (v2 := v2) (v3 := (.slice aoz TL.length capz)) (h3.eqv ?_)
      unfold rkO; simp only; ac_rfl
    have HY : Hid (S.target < S.most → Holds ((w1.setCell ⟨b, 4, none⟩ (.slice aoz TL.length capz)).setCell ⟨b, 1, none⟩ (.int .i64 (S.target + 1))) (rk b T * F)) := by
      intro hle
      rw [HT.out]
      have he : min S.most (S.target + 1) = S.target + 1 := by omega
      rw [he, OE.out]
      refine rk_shut (v1 := v1) (v2 := v2) (v3 := (.slice aoz TL.length capz)) (h4.eqv ?_)
      unfold rkO rhd; simp only; ac_rfl
    obtain ⟨x, hx⟩ : ∃ x, S.most = x := ⟨_, rfl⟩
    obtain ⟨y, hy⟩ : ∃ y, S.target = y := ⟨_, rfl⟩
    rw [hx] at z0 HX HY tb2 tb3 tb4
    rw [hy] at z1 HX HY tb1 tb2
    have y9 : y ≤ 4096 := by omega
    clear h1 h2 h3 h4 s1 OC PC PH PT c2 c3 c4 OE HT hx hy tb2 tb3 tb4
    have bw : IntKind.i64.wrap (y + 1) = y + 1 := IntWalk.i64_in _ (by omega)
    by_cases hd : y < x
    · have d0 : decide (y < x) = true := by simpa using hd
      have HC0 := Lib.hid (HY.out hd)
      clear HX HY hd HC
      go_wp2_with fail
      go_quiet (fail)
      go_wp2_with fail
      have K0 := Lib.hid (K3.out.setCell ⟨b, 1, none⟩ (.int .i64 (y + 1)))
      clear z0 z1 z4 zl zf zf1 K3 bw d0 tb1 y9 al
      go_loopg [7] (thereS T) (fun k v wr => ∃ (S' : CS) (l' : List Int), Hid (Bnd S') ∧ Hid (thereS S' ≤ k) ∧ Hid (l'.length + thereS S' ≤ 8500) ∧ Hid (S'.cold.length + S'.hot.length + S'.test.length ≤ 8400) ∧ Hid (roomL S' l' = roomL T []) ∧ Hid (Holds wr (rowL 3 1 iEnc v l' * (rk b S' * F))) ∧ Hid (Sm w wr))
      case atStart => exact ⟨T, [], B0.out, Nat.le_refl _, by show _ ≤ _; have := T0.out; unfold thereS; simp; omega, T0.out, rfl, rowL_nil (show Holds _ _ from HC0.out), by first | exact K0.out | exact K0.out.drewN _⟩
      case round =>
        clear HC0 K0 B0 T0
        obtain ⟨S', l', B', M', LB', TT', E', H', K'⟩ := hrel
        have hck := H'.out.eqv (star_left_comm _ _ _)
        obtain ⟨ao1, cap1, ao2, cap2, ao3, cap3, hw, al, c0, c1, c2, c3, c4, cf⟩ := rk_slices hck
        have hth : thereS S' = S'.cold.length + S'.hot.length := rfl
        obtain ⟨m, hm⟩ : ∃ m, S'.cold.length = m := ⟨_, rfl⟩
        obtain ⟨n, hn⟩ : ∃ n, S'.hot.length = n := ⟨_, rfl⟩
        obtain ⟨x, hx⟩ : ∃ x, S'.most = x := ⟨_, rfl⟩
        have tt := TT'.out
        rw [hm, hn] at tt hth
        rw [hm] at c2
        rw [hn] at c3
        rw [hx] at c0
        have bw : IntKind.i64.wrap ((m : Int) + (n : Int)) = (m : Int) + (n : Int) := IntWalk.i64_in _ (by omega)
        by_cases h0 : S'.most ≤ (thereS S' : Int)
        · have EV := Lib.hid (fun (G : Asr) (wq : World) h => revict_calls b S' G wq B'.out h)
          have EK := Lib.hid (evict_ok S')
          have NE : Hid (roomL (evictS S').S (l' ++ [(evictS S').id]) = roomL T []) := by show _ = _; rw [← room_step h0 B'.out.m1]; exact E'.out
          have NB : Hid (Bnd (evictS S').S) := EK.out.bnd B'.out
          have NT : Hid (thereS (evictS S').S + 1 = thereS S') := by
            show _ = _
            have := EK.out.there
            have := B'.out.m1
            omega
          have NTT : Hid ((evictS S').S.cold.length + (evictS S').S.hot.length + (evictS S').S.test.length ≤ 8400) := Nat.le_trans EK.out.tot TT'.out
          have d0 : decide (x ≤ (m : Int) + (n : Int)) = true := by rw [← hx]; simp; omega
          obtain ⟨r, hr⟩ : ∃ r, evictS S' = r := ⟨_, rfl⟩
          rw [hr] at EV NE NB NT NTT
          obtain ⟨rS, rid, rok⟩ := r
          have CK := Lib.hid hck
          clear hr h0 E' EK hck hw cf hm hn hx hth tt c1 c4
          go_wp2_with fail
          go_quiet (fail)
          go_wp2_with fail
          refine (EV.out _ (wr.drewN _) CK.out).mono ?_
          rintro e w1 ⟨rfl, k1, k2⟩
          have hrow := k1.eqv (star_left_comm _ _ _)
          obtain ⟨ao, cap, hv, hcap⟩ := rowA_slice hrow
          obtain ⟨n, hn⟩ : ∃ n, l'.length = n := ⟨_, rfl⟩
          rw [hn] at hv hcap
          subst hv
          have HR := Lib.hid hrow
          have K1 := Lib.hid ((K'.out.drewN _).trans k2)
          have HL : Hid (l'.length + 1 ≤ maxLen) := by show _ ≤ _; have := LB'.out; unfold maxLen; omega
          have HL2 : Hid ((l'.length + 1) * 8 ≤ 140737488355328) := by show _ ≤ _; have := LB'.out; omega
          have NL : Hid ((l' ++ [rid]).length + thereS rS ≤ 8500) := by show _ ≤ _; have h1 := LB'.out; have h2 := NT.out; simp only [List.length_append, List.length_cons, List.length_nil]; omega
          have NM : Hid (thereS rS ≤ gk - 1 ∧ gk - 1 < gk) := by show _ ∧ _; have h1 := M'.out; have h2 := NT.out; omega
          have HA := Lib.hid ((HR.out.alloc (.cells #[.int .i64 rid] 3)).right)
          clear k1 k2 hrow hcap H' K' CK EV LB' M' d0 c0 c2 c3 al hn HR bw
          go_wp2_with (at_builtin; refine wpList_append_one (enc := iEnc) rfl _ _ 48 rfl 3 (.int .i64 0) 1 8 Try.underlying48 infoI rfl rid rfl HA.out ⟨w1.heap.size, 0, none⟩ 1 rfl rfl (cells_new w1 #[.int .i64 rid] 3 _ rfl) (by simp [iEnc, Value.oneCell']) HL.out HL2.out ?_)
          intro v' w2 h2 s2
          have H2 := Lib.hid h2
          have K2 := Lib.hid ((K1.out.alloc _).trans s2)
          clear h2 s2 HA K1
          go_wp2_with fail
          go_roundg (gk - 1)
          case measure => exact NM.out.2
          case rel => exact ⟨rS, l' ++ [rid], NB.out, NM.out.1, NL.out, NTT.out, NE.out, H2.out, K2.out⟩
        · have d0 : decide (x ≤ (m : Int) + (n : Int)) = false := by rw [← hx]; simp; omega
          have RES2 : Hid (addS S id = ⟨finalS 3 id S', l', 0⟩) := by show _ = _; rw [RES.out, ← E'.out, room_stop h0]
          have LN : Hid (S'.cold.length = m ∧ S'.hot.length = n) := ⟨hm, hn⟩
          have HF : Hid (Holds wr (pgsA (.slice ao2 S'.hot.length cap2) S'.hot * (rhd b S'.most S'.target (.slice ao1 S'.cold.length cap1) (.slice ao2 S'.hot.length cap2) (.slice ao3 S'.test.length cap3) * (pgsA (.slice ao1 S'.cold.length cap1) S'.cold * (pgsA (.slice ao3 S'.test.length cap3) S'.test * (rowL 3 1 iEnc u7 l' * F)))))) := by
            show Holds _ _
            exact hw.eqv (by unfold rkO; ac_rfl)
          have tt' := TT'.out
          have B1 : Hid (S'.hot.length + 1 ≤ maxLen) := by show _ ≤ _; unfold maxLen; omega
          have B2 : Hid ((S'.hot.length + 1) * 16 ≤ 140737488355328) := by show _ ≤ _; omega
          have HA : Hid (∀ k, Holds ((wr.drewN k).alloc (.cells #[.int .i64 id, .bool false] 168)) (pgsA (.slice ao2 S'.hot.length cap2) S'.hot * (rhd b S'.most S'.target (.slice ao1 S'.cold.length cap1) (.slice ao2 S'.hot.length cap2) (.slice ao3 S'.test.length cap3) * (pgsA (.slice ao1 S'.cold.length cap1) S'.cold * (pgsA (.slice ao3 S'.test.length cap3) S'.test * (rowL 3 1 iEnc u7 l' * F)))))) := fun k => (Holds.alloc (w := wr.drewN k) HF.out (.cells #[.int .i64 id, .bool false] 168)).right
          have Ln : S'.hot.length = n := by have := LN.out; omega
          have HLN := Lib.hid Ln
          rw [Ln] at B1 B2
          clear h0 E' RES hck hm hn hx hth hw cf M' H' tt tt' LN HF Ln
          go_wp2_with fail
          go_quiet (fail)
          go_wp2_with (at_builtin; refine wpList_append_one (enc := pEnc) rfl _ _ 69 rfl 168 (.agg #[.int .i64 0, .bool false]) 2 16 Try.underlying69 infoP rfl (⟨id, false⟩ : Pg) (by rw [HLN.out]; rfl) (HA.out _) ⟨wr.heap.size, 0, none⟩ 1 rfl rfl (cells_new wr #[.int .i64 id, .bool false] 168 _ rfl) (by simp [pEnc, Value.oneCell']) (by rw [HLN.out]; exact B1.out) (by rw [HLN.out]; exact B2.out) ?_)
          intro va w2 h2 s2
          have h2 : Holds w2 (pgsA va (S'.hot ++ [(⟨id, false⟩ : Pg)]) * (rhd b S'.most S'.target (.slice ao1 S'.cold.length cap1) (.slice ao2 S'.hot.length cap2) (.slice ao3 S'.test.length cap3) * (pgsA (.slice ao1 S'.cold.length cap1) S'.cold * (pgsA (.slice ao3 S'.test.length cap3) S'.test * (rowL 3 1 iEnc u7 l' * F))))) := h2
          obtain ⟨ao4, cap4, hva, -⟩ := pgs_slice h2
          rw [List.length_append, List.length_cons, List.length_nil] at hva
          subst hva
          obtain ⟨xl, x0, x1, x2, x3, x4, xf⟩ := app_seen (xs := (S'.hot ++ [(⟨id, false⟩ : Pg)]).flatMap pEnc) (n := (S'.hot ++ [(⟨id, false⟩ : Pg)]).length) h2
          have xfj := xf 3
          have h3 := Holds.store (h2.eqv (star_left_comm _ _ _)) 3 (.slice ao4 (S'.hot.length + 1) cap4)
          have K2 : Hid (Sm w (w2.setCell ⟨b, 3, none⟩ (.slice ao4 (S'.hot.length + 1) cap4))) := (((K'.out.drewN _).alloc _).trans s2).setCell _ _
          have CF : Hid (Holds (w2.setCell ⟨b, 3, none⟩ (.slice ao4 (S'.hot.length + 1) cap4)) (rk b { S' with hot := S'.hot ++ [⟨id, false⟩] } * (rowL 3 1 iEnc u7 l' * F))) := by
            show Holds _ _
            refine rk_shut (v1 := (.slice ao1 S'.cold.length cap1)) (v2 := (.slice ao4 (S'.hot.length + 1) cap4)) (v3 := .slice ao3 S'.test.length cap3) (h3.eqv ?_)
            unfold rkO rhd; simp only; ac_rfl
          have B4 : Hid (Bnd { S' with hot := S'.hot ++ [⟨id, false⟩] }) := by
            show Bnd _
            have := TT'.out
            exact ⟨B'.out.m1, B'.out.m2, B'.out.t1, B'.out.t2, by simp; omega⟩
          clear h2 h3 s2 HA K' xf
          obtain ⟨U, hU⟩ : ∃ U : CS, { S' with hot := S'.hot ++ [⟨id, false⟩] } = U := ⟨_, rfl⟩
          have RES3 : Hid (addS S id = ⟨coolS 1 U, l', 0⟩) := by show _ = _; rw [RES2.out, ← hU]; rfl
          rw [hU] at CF B4
          go_wp2_with fail
          obtain ⟨w9, hw9⟩ : ∃ w9, w2.setCell ⟨b, 3, none⟩ (.slice ao4 (S'.hot.length + 1) cap4) = w9 := ⟨_, rfl⟩
          rw [hw9] at CF K2 ⊢
          clear hw9 hU RES2 B' TT' x0 x1 x2 x3 x4 xl xfj c0 c1 c2 c3 c4 al LB' B1 B2
          go_loopg [] (coolM U) (fun k wr => ∃ S', Hid (Bnd S') ∧ Hid (coolM S' ≤ k) ∧ Hid (coolS 1 S' = coolS 1 U) ∧ Hid (Holds wr (rk b S' * (rowL 3 1 iEnc u7 l' * F))) ∧ Hid (Sm w wr))
          case atStart => exact ⟨U, B4.out, Nat.le_refl _, rfl, CF.out, K2.out⟩
          case round =>
            clear CF K2 B4
            rename_i wz
            obtain ⟨S2, B', M', E', H', K'⟩ := hrel
            obtain ⟨ao1, cap1, ao2, cap2, ao3, cap3, hw, al, c0, c1, c2, c3, c4, cf⟩ := rk_slices H'.out
            have m1 := B'.out.m1
            have m2 := B'.out.m2
            have t1 := B'.out.t1
            have t2 := B'.out.t2
            have tot := B'.out.tot
            by_cases hc : max (S2.most - S2.target) 1 < (S2.hot.length : Int)
            · have hne : S2.hot ≠ [] := by rintro e; rw [e] at hc; simp at hc; omega
              have TH := Lib.hid (fun (wq : World) h => rturnHot_calls b S2 (rowL 3 1 iEnc u7 l' * F) wq B'.out hne h)
              have NM := Lib.hid (turnHot_m hne)
              have NE : Hid (coolS 1 (turnHotS S2) = coolS 1 U) := by show _ = _; rw [← cool_step (by omega) hc]; exact E'.out
              obtain ⟨n, hn⟩ : ∃ n, S2.hot.length = n := ⟨_, rfl⟩
              obtain ⟨x, hx⟩ : ∃ x, S2.most = x := ⟨_, rfl⟩
              obtain ⟨y, hy⟩ : ∃ y, S2.target = y := ⟨_, rfl⟩
              rw [hx] at c0 m1 m2 t2 hc
              rw [hy] at c1 t1 t2 hc
              rw [hn] at c3 hc
              have bw : IntKind.i64.wrap (x - y) = x - y := IntWalk.i64_in _ (by omega)
              have d0 : decide (x - y < (n : Int)) = true := by simp; omega
              have d1 : decide ((1 : Int) < (n : Int)) = true := by simp; omega
              have d1n : decide (1 < n) = true := by simp; omega
              clear hw hne hc E' cf hn hx hy c2 c4 tot
              go_wp2_with fail
              go_quiet (fail)
              go_wp2_with fail
              refine (TH.out (World.drewN _ _) H'.out).mono ?_
              rintro e w1 ⟨rfl, k1, k2⟩
              have H2 := Lib.hid k1
              have K2 := Lib.hid ((K'.out.drewN _).trans k2)
              clear k1 k2
              go_wp2_with fail
              go_roundg (gk - 1)
              case measure => have := NM.out; have := M'.out; omega
              case rel => exact ⟨turnHotS S2, turnHot_bnd B'.out, by show _ ≤ _; have := NM.out; have := M'.out; omega, NE.out, H2.out, K2.out⟩
            · have NE : Hid (addS S id = ⟨S2, l', 0⟩) := by show _ = _; rw [RES3.out, ← E'.out, cool_stop hc]
              obtain ⟨n, hn⟩ : ∃ n, S2.hot.length = n := ⟨_, rfl⟩
              obtain ⟨x, hx⟩ : ∃ x, S2.most = x := ⟨_, rfl⟩
              obtain ⟨y, hy⟩ : ∃ y, S2.target = y := ⟨_, rfl⟩
              rw [hx] at c0 m1 m2 t2 hc
              rw [hy] at c1 t1 t2 hc
              rw [hn] at c3 hc
              have bw : IntKind.i64.wrap (x - y) = x - y := IntWalk.i64_in _ (by omega)
              by_cases hd : x - y < (n : Int)
              · have d0 : decide (x - y < (n : Int)) = true := by simp; omega
                have d1 : decide ((1 : Int) < (n : Int)) = false := by simp; omega
                have d1n : decide (1 < n) = false := by simp; omega
                clear hw hc E' cf hn hx hy c2 c4 tot hd
                go_wp2_with fail
                go_quiet (fail)
                go_wp2_with fail
                go_ret2
                rw [NE.out]
                exact ⟨_, rfl, H'.out.eqv (star_left_comm _ _ _), K'.out.drewN _⟩
              · have d0 : decide (x - y < (n : Int)) = false := by simp; omega
                clear hw hc E' cf hn hx hy c2 c4 tot hd
                go_wp2_with fail
                go_quiet (fail)
                go_wp2_with fail
                go_ret2
                rw [NE.out]
                exact ⟨_, rfl, H'.out.eqv (star_left_comm _ _ _), K'.out.drewN _⟩
    · have d0 : decide (y < x) = false := by simpa using hd
      have HC0 := Lib.hid (HX.out hd)
      clear HX HY hd HC
      go_wp2_with fail
      go_quiet (fail)
      go_wp2_with fail
      have K0 := Lib.hid K3.out
      clear z0 z1 z4 zl zf zf1 K3 bw d0 tb1 y9 al
      go_loopg [7] (thereS T) (fun k v wr => ∃ (S' : CS) (l' : List Int), Hid (Bnd S') ∧ Hid (thereS S' ≤ k) ∧ Hid (l'.length + thereS S' ≤ 8500) ∧ Hid (S'.cold.length + S'.hot.length + S'.test.length ≤ 8400) ∧ Hid (roomL S' l' = roomL T []) ∧ Hid (Holds wr (rowL 3 1 iEnc v l' * (rk b S' * F))) ∧ Hid (Sm w wr))
      case atStart => exact ⟨T, [], B0.out, Nat.le_refl _, by show _ ≤ _; have := T0.out; unfold thereS; simp; omega, T0.out, rfl, rowL_nil (show Holds _ _ from HC0.out), by first | exact K0.out | exact K0.out.drewN _⟩
      case round =>
        clear HC0 K0 B0 T0
        obtain ⟨S', l', B', M', LB', TT', E', H', K'⟩ := hrel
        have hck := H'.out.eqv (star_left_comm _ _ _)
        obtain ⟨ao1, cap1, ao2, cap2, ao3, cap3, hw, al, c0, c1, c2, c3, c4, cf⟩ := rk_slices hck
        have hth : thereS S' = S'.cold.length + S'.hot.length := rfl
        obtain ⟨m, hm⟩ : ∃ m, S'.cold.length = m := ⟨_, rfl⟩
        obtain ⟨n, hn⟩ : ∃ n, S'.hot.length = n := ⟨_, rfl⟩
        obtain ⟨x, hx⟩ : ∃ x, S'.most = x := ⟨_, rfl⟩
        have tt := TT'.out
        rw [hm, hn] at tt hth
        rw [hm] at c2
        rw [hn] at c3
        rw [hx] at c0
        have bw : IntKind.i64.wrap ((m : Int) + (n : Int)) = (m : Int) + (n : Int) := IntWalk.i64_in _ (by omega)
        by_cases h0 : S'.most ≤ (thereS S' : Int)
        · have EV := Lib.hid (fun (G : Asr) (wq : World) h => revict_calls b S' G wq B'.out h)
          have EK := Lib.hid (evict_ok S')
          have NE : Hid (roomL (evictS S').S (l' ++ [(evictS S').id]) = roomL T []) := by show _ = _; rw [← room_step h0 B'.out.m1]; exact E'.out
          have NB : Hid (Bnd (evictS S').S) := EK.out.bnd B'.out
          have NT : Hid (thereS (evictS S').S + 1 = thereS S') := by
            show _ = _
            have := EK.out.there
            have := B'.out.m1
            omega
          have NTT : Hid ((evictS S').S.cold.length + (evictS S').S.hot.length + (evictS S').S.test.length ≤ 8400) := Nat.le_trans EK.out.tot TT'.out
          have d0 : decide (x ≤ (m : Int) + (n : Int)) = true := by rw [← hx]; simp; omega
          obtain ⟨r, hr⟩ : ∃ r, evictS S' = r := ⟨_, rfl⟩
          rw [hr] at EV NE NB NT NTT
          obtain ⟨rS, rid, rok⟩ := r
          have CK := Lib.hid hck
          clear hr h0 E' EK hck hw cf hm hn hx hth tt c1 c4
          go_wp2_with fail
          go_quiet (fail)
          go_wp2_with fail
          refine (EV.out _ (wr.drewN _) CK.out).mono ?_
          rintro e w1 ⟨rfl, k1, k2⟩
          have hrow := k1.eqv (star_left_comm _ _ _)
          obtain ⟨ao, cap, hv, hcap⟩ := rowA_slice hrow
          obtain ⟨n, hn⟩ : ∃ n, l'.length = n := ⟨_, rfl⟩
          rw [hn] at hv hcap
          subst hv
          have HR := Lib.hid hrow
          have K1 := Lib.hid ((K'.out.drewN _).trans k2)
          have HL : Hid (l'.length + 1 ≤ maxLen) := by show _ ≤ _; have := LB'.out; unfold maxLen; omega
          have HL2 : Hid ((l'.length + 1) * 8 ≤ 140737488355328) := by show _ ≤ _; have := LB'.out; omega
          have NL : Hid ((l' ++ [rid]).length + thereS rS ≤ 8500) := by show _ ≤ _; have h1 := LB'.out; have h2 := NT.out; simp only [List.length_append, List.length_cons, List.length_nil]; omega
          have NM : Hid (thereS rS ≤ gk - 1 ∧ gk - 1 < gk) := by show _ ∧ _; have h1 := M'.out; have h2 := NT.out; omega
          have HA := Lib.hid ((HR.out.alloc (.cells #[.int .i64 rid] 3)).right)
          clear k1 k2 hrow hcap H' K' CK EV LB' M' d0 c0 c2 c3 al hn HR bw
          go_wp2_with (at_builtin; refine wpList_append_one (enc := iEnc) rfl _ _ 48 rfl 3 (.int .i64 0) 1 8 Try.underlying48 infoI rfl rid rfl HA.out ⟨w1.heap.size, 0, none⟩ 1 rfl rfl (cells_new w1 #[.int .i64 rid] 3 _ rfl) (by simp [iEnc, Value.oneCell']) HL.out HL2.out ?_)
          intro v' w2 h2 s2
          have H2 := Lib.hid h2
          have K2 := Lib.hid ((K1.out.alloc _).trans s2)
          clear h2 s2 HA K1
          go_wp2_with fail
          go_roundg (gk - 1)
          case measure => exact NM.out.2
          case rel => exact ⟨rS, l' ++ [rid], NB.out, NM.out.1, NL.out, NTT.out, NE.out, H2.out, K2.out⟩
        · have d0 : decide (x ≤ (m : Int) + (n : Int)) = false := by rw [← hx]; simp; omega
          have RES2 : Hid (addS S id = ⟨finalS 3 id S', l', 0⟩) := by show _ = _; rw [RES.out, ← E'.out, room_stop h0]
          have LN : Hid (S'.cold.length = m ∧ S'.hot.length = n) := ⟨hm, hn⟩
          have HF : Hid (Holds wr (pgsA (.slice ao2 S'.hot.length cap2) S'.hot * (rhd b S'.most S'.target (.slice ao1 S'.cold.length cap1) (.slice ao2 S'.hot.length cap2) (.slice ao3 S'.test.length cap3) * (pgsA (.slice ao1 S'.cold.length cap1) S'.cold * (pgsA (.slice ao3 S'.test.length cap3) S'.test * (rowL 3 1 iEnc u7 l' * F)))))) := by
            show Holds _ _
            exact hw.eqv (by unfold rkO; ac_rfl)
          have tt' := TT'.out
          have B1 : Hid (S'.hot.length + 1 ≤ maxLen) := by show _ ≤ _; unfold maxLen; omega
          have B2 : Hid ((S'.hot.length + 1) * 16 ≤ 140737488355328) := by show _ ≤ _; omega
          have HA : Hid (∀ k, Holds ((wr.drewN k).alloc (.cells #[.int .i64 id, .bool false] 168)) (pgsA (.slice ao2 S'.hot.length cap2) S'.hot * (rhd b S'.most S'.target (.slice ao1 S'.cold.length cap1) (.slice ao2 S'.hot.length cap2) (.slice ao3 S'.test.length cap3) * (pgsA (.slice ao1 S'.cold.length cap1) S'.cold * (pgsA (.slice ao3 S'.test.length cap3) S'.test * (rowL 3 1 iEnc u7 l' * F)))))) := fun k => (Holds.alloc (w := wr.drewN k) HF.out (.cells #[.int .i64 id, .bool false] 168)).right
          have Ln : S'.hot.length = n := by have := LN.out; omega
          have HLN := Lib.hid Ln
          rw [Ln] at B1 B2
          clear h0 E' RES hck hm hn hx hth hw cf M' H' tt tt' LN HF Ln
          go_wp2_with fail
          go_quiet (fail)
          go_wp2_with (at_builtin; refine wpList_append_one (enc := pEnc) rfl _ _ 69 rfl 168 (.agg #[.int .i64 0, .bool false]) 2 16 Try.underlying69 infoP rfl (⟨id, false⟩ : Pg) (by rw [HLN.out]; rfl) (HA.out _) ⟨wr.heap.size, 0, none⟩ 1 rfl rfl (cells_new wr #[.int .i64 id, .bool false] 168 _ rfl) (by simp [pEnc, Value.oneCell']) (by rw [HLN.out]; exact B1.out) (by rw [HLN.out]; exact B2.out) ?_)
          intro va w2 h2 s2
          have h2 : Holds w2 (pgsA va (S'.hot ++ [(⟨id, false⟩ : Pg)]) * (rhd b S'.most S'.target (.slice ao1 S'.cold.length cap1) (.slice ao2 S'.hot.length cap2) (.slice ao3 S'.test.length cap3) * (pgsA (.slice ao1 S'.cold.length cap1) S'.cold * (pgsA (.slice ao3 S'.test.length cap3) S'.test * (rowL 3 1 iEnc u7 l' * F))))) := h2
          obtain ⟨ao4, cap4, hva, -⟩ := pgs_slice h2
          rw [List.length_append, List.length_cons, List.length_nil] at hva
          subst hva
          obtain ⟨xl, x0, x1, x2, x3, x4, xf⟩ := app_seen (xs := (S'.hot ++ [(⟨id, false⟩ : Pg)]).flatMap pEnc) (n := (S'.hot ++ [(⟨id, false⟩ : Pg)]).length) h2
          have xfj := xf 3
          have h3 := Holds.store (h2.eqv (star_left_comm _ _ _)) 3 (.slice ao4 (S'.hot.length + 1) cap4)
          have K2 : Hid (Sm w (w2.setCell ⟨b, 3, none⟩ (.slice ao4 (S'.hot.length + 1) cap4))) := (((K'.out.drewN _).alloc _).trans s2).setCell _ _
          have CF : Hid (Holds (w2.setCell ⟨b, 3, none⟩ (.slice ao4 (S'.hot.length + 1) cap4)) (rk b { S' with hot := S'.hot ++ [⟨id, false⟩] } * (rowL 3 1 iEnc u7 l' * F))) := by
            show Holds _ _
            refine rk_shut (v1 := (.slice ao1 S'.cold.length cap1)) (v2 := (.slice ao4 (S'.hot.length + 1) cap4)) (v3 := .slice ao3 S'.test.length cap3) (h3.eqv ?_)
            unfold rkO rhd; simp only; ac_rfl
          have B4 : Hid (Bnd { S' with hot := S'.hot ++ [⟨id, false⟩] }) := by
            show Bnd _
            have := TT'.out
            exact ⟨B'.out.m1, B'.out.m2, B'.out.t1, B'.out.t2, by simp; omega⟩
          clear h2 h3 s2 HA K' xf
          obtain ⟨U, hU⟩ : ∃ U : CS, { S' with hot := S'.hot ++ [⟨id, false⟩] } = U := ⟨_, rfl⟩
          have RES3 : Hid (addS S id = ⟨coolS 1 U, l', 0⟩) := by show _ = _; rw [RES2.out, ← hU]; rfl
          rw [hU] at CF B4
          go_wp2_with fail
          obtain ⟨w9, hw9⟩ : ∃ w9, w2.setCell ⟨b, 3, none⟩ (.slice ao4 (S'.hot.length + 1) cap4) = w9 := ⟨_, rfl⟩
          rw [hw9] at CF K2 ⊢
          clear hw9 hU RES2 B' TT' x0 x1 x2 x3 x4 xl xfj c0 c1 c2 c3 c4 al LB' B1 B2
          go_loopg [] (coolM U) (fun k wr => ∃ S', Hid (Bnd S') ∧ Hid (coolM S' ≤ k) ∧ Hid (coolS 1 S' = coolS 1 U) ∧ Hid (Holds wr (rk b S' * (rowL 3 1 iEnc u7 l' * F))) ∧ Hid (Sm w wr))
          case atStart => exact ⟨U, B4.out, Nat.le_refl _, rfl, CF.out, K2.out⟩
          case round =>
            clear CF K2 B4
            rename_i wz
            obtain ⟨S2, B', M', E', H', K'⟩ := hrel
            obtain ⟨ao1, cap1, ao2, cap2, ao3, cap3, hw, al, c0, c1, c2, c3, c4, cf⟩ := rk_slices H'.out
            have m1 := B'.out.m1
            have m2 := B'.out.m2
            have t1 := B'.out.t1
            have t2 := B'.out.t2
            have tot := B'.out.tot
            by_cases hc : max (S2.most - S2.target) 1 < (S2.hot.length : Int)
            · have hne : S2.hot ≠ [] := by rintro e; rw [e] at hc; simp at hc; omega
              have TH := Lib.hid (fun (wq : World) h => rturnHot_calls b S2 (rowL 3 1 iEnc u7 l' * F) wq B'.out hne h)
              have NM := Lib.hid (turnHot_m hne)
              have NE : Hid (coolS 1 (turnHotS S2) = coolS 1 U) := by show _ = _; rw [← cool_step (by omega) hc]; exact E'.out
              obtain ⟨n, hn⟩ : ∃ n, S2.hot.length = n := ⟨_, rfl⟩
              obtain ⟨x, hx⟩ : ∃ x, S2.most = x := ⟨_, rfl⟩
              obtain ⟨y, hy⟩ : ∃ y, S2.target = y := ⟨_, rfl⟩
              rw [hx] at c0 m1 m2 t2 hc
              rw [hy] at c1 t1 t2 hc
              rw [hn] at c3 hc
              have bw : IntKind.i64.wrap (x - y) = x - y := IntWalk.i64_in _ (by omega)
              have d0 : decide (x - y < (n : Int)) = true := by simp; omega
              have d1 : decide ((1 : Int) < (n : Int)) = true := by simp; omega
              have d1n : decide (1 < n) = true := by simp; omega
              clear hw hne hc E' cf hn hx hy c2 c4 tot
              go_wp2_with fail
              go_quiet (fail)
              go_wp2_with fail
              refine (TH.out (World.drewN _ _) H'.out).mono ?_
              rintro e w1 ⟨rfl, k1, k2⟩
              have H2 := Lib.hid k1
              have K2 := Lib.hid ((K'.out.drewN _).trans k2)
              clear k1 k2
              go_wp2_with fail
              go_roundg (gk - 1)
              case measure => have := NM.out; have := M'.out; omega
              case rel => exact ⟨turnHotS S2, turnHot_bnd B'.out, by show _ ≤ _; have := NM.out; have := M'.out; omega, NE.out, H2.out, K2.out⟩
            · have NE : Hid (addS S id = ⟨S2, l', 0⟩) := by show _ = _; rw [RES3.out, ← E'.out, cool_stop hc]
              obtain ⟨n, hn⟩ : ∃ n, S2.hot.length = n := ⟨_, rfl⟩
              obtain ⟨x, hx⟩ : ∃ x, S2.most = x := ⟨_, rfl⟩
              obtain ⟨y, hy⟩ : ∃ y, S2.target = y := ⟨_, rfl⟩
              rw [hx] at c0 m1 m2 t2 hc
              rw [hy] at c1 t1 t2 hc
              rw [hn] at c3 hc
              have bw : IntKind.i64.wrap (x - y) = x - y := IntWalk.i64_in _ (by omega)
              by_cases hd : x - y < (n : Int)
              · have d0 : decide (x - y < (n : Int)) = true := by simp; omega
                have d1 : decide ((1 : Int) < (n : Int)) = false := by simp; omega
                have d1n : decide (1 < n) = false := by simp; omega
                clear hw hc E' cf hn hx hy c2 c4 tot hd
                go_wp2_with fail
                go_quiet (fail)
                go_wp2_with fail
                go_ret2
                rw [NE.out]
                exact ⟨_, rfl, H'.out.eqv (star_left_comm _ _ _), K'.out.drewN _⟩
              · have d0 : decide (x - y < (n : Int)) = false := by simp; omega
                clear hw hc E' cf hn hx hy c2 c4 tot hd
                go_wp2_with fail
                go_quiet (fail)
                go_wp2_with fail
                go_ret2
                rw [NE.out]
                exact ⟨_, rfl, H'.out.eqv (star_left_comm _ _ _), K'.out.drewN _⟩
#print axioms radd_calls
end Go.Proofs.Ytmaoboepmbioiaa.Clock
