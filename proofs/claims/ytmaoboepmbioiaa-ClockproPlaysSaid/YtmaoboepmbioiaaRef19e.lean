/-
  The document's clock (ref19): turnCold.
-/
import Derived.Test.YtmaoboepmbioiaaRef19d
namespace Go.Proofs.Ytmaoboepmbioiaa.Clock
open Go.RowKit Go.Sep
set_option maxRecDepth 100000
set_option linter.unusedVariables false
set_option linter.unusedSimpArgs false

def RTurnC (r : Went) (b : Nat) (F : Asr) (w : World) (e : Ending) (w' : World) : Prop := e = .returned (.tuple #[.int .i64 r.id, .bool r.ok]) ∧ Holds w' (rk b r.S * F) ∧ Sm w w'
theorem erase0 {p : Pg} {t l : List Pg} (h : l = p :: t) : l.eraseIdx 0 = t := by rw [h]; rfl
set_option maxHeartbeats 8000000 in
theorem rturnCold_calls (b : Nat) (S : CS) (F : Asr) (w : World) (hb : Bnd S) (h0 : 0 < thereS S) (hrk : Holds w (rk b S * F)) :
    Calls Try.prog 92 #[.pointer (some ⟨b, 0, none⟩)] w (RTurnC (turnColdS S) b F w) := by
  have HC := Lib.hid hrk
  have B := Lib.hid hb
  have T0 := Lib.hid h0
  clear hrk hb h0
  go_enter Try.func92, Try.ntmps92
  go_wp2_with fail
  go_loopg [] (chillM S) (fun k wr => ∃ S', Hid (Bnd S') ∧ Hid (0 < thereS S') ∧ Hid (chillM S' ≤ k) ∧ Hid (chillS S' = chillS S) ∧ Hid (Holds wr (rk b S' * F)) ∧ Hid (Sm w wr))
  case atStart => exact ⟨S, B.out, T0.out, Nat.le_refl _, rfl, HC.out, Sm.refl w⟩
  case round =>
    clear HC B T0
    obtain ⟨S', B', T', M', E', H', K'⟩ := hrel
    obtain ⟨v1, v2, v3, hw⟩ := rk_open H'.out
    obtain ⟨al, c0, c1, c2, c3, c4, cf⟩ := rk_seen hw
    have cf2 := cf 2
    obtain ⟨ao1, cap1, hv1, hcap1, -⟩ := pgs_slice (rkO_c hw)
    obtain ⟨ao2, cap2, hv2, hcap2, -⟩ := pgs_slice (rkO_h hw)
    obtain ⟨ao3, cap3, hv3, hcap3, -⟩ := pgs_slice (rkO_t hw)
    subst hv1 hv2 hv3
    by_cases hc : S'.cold.length = 0
    · have hne : S'.hot ≠ [] := by
        have := T'.out; unfold thereS at this
        rintro e; rw [e] at this; simp at this; omega
      have TH := Lib.hid (rturnHot_calls b S' F wr B'.out hne H'.out)
      have NM := Lib.hid (chill_m hne hc)
      have NE : Hid (chillS (turnHotS S') = chillS S) := by show _ = _; rw [← chill_step hc hne]; exact E'.out
      have NT : Hid (0 < thereS (turnHotS S')) := by show _ < _; rw [(turnHot_most S').2.2.2.1]; exact T'.out
      have hpos : 0 < S'.hot.length := List.length_pos_iff.2 hne
      obtain ⟨n, hn⟩ : ∃ n, S'.hot.length = n := ⟨_, rfl⟩
      rw [hn] at c3 hpos
      have d0 : decide ((0 : Int) < (n : Int)) = true := by simp; omega
      have d0n : decide (0 < n) = true := by simp; omega
      rw [hc] at c2
      clear hw hne hc T' E' H' c0 c1 c4 cf cf2 hn hcap1 hcap2 hcap3
      go_wp2_with fail
      refine (TH.out).mono ?_
      rintro e w1 ⟨rfl, k1, k2⟩
      have H2 := Lib.hid k1
      have K2 := Lib.hid (K'.out.trans k2)
      clear k1 k2
      go_wp2_with fail
      go_roundg (gk - 1)
      case measure => have := NM.out; have := M'.out; omega
      case rel => exact ⟨turnHotS S', turnHot_bnd B'.out, NT.out, by show _ ≤ _; have := NM.out; have := M'.out; omega, NE.out, H2.out, K2.out⟩
    · have NE : Hid (turnColdS S = coldS S') := by show _ = _; rw [turnColdS_eq, ← E'.out, chill_stop hc]
      obtain ⟨p, t, hp⟩ : ∃ p t, S'.cold = p :: t := by
        cases h : S'.cold with
        | nil => exact absurd (by rw [h]; rfl) hc
        | cons p t => exact ⟨p, t, rfl⟩
      have tot := B'.out.tot
      obtain ⟨g, cap, hgv, hcap, hg, g0, g1, -⟩ := pgs_cell (rkO_c hw) 0 (by omega)
      simp at hgv
      obtain ⟨rfl, rfl⟩ := hgv
      simp only [hp, List.getElem_cons_zero] at g0 g1
      have hlen : S'.cold.length = t.length + 1 := by rw [hp]; rfl
      have OC := Lib.hid (fun (wq : World) (G : Asr) (h : Holds wq (pgsA (.slice (some ⟨g, 0, none⟩) S'.cold.length cap1) S'.cold * G)) => out_calls _ S'.cold 0 G wq (by omega) (by omega) h)
      have OT := Lib.hid (fun (wq : World) (l : List Pg) (v : Value) (G : Asr) (hl : 0 < l.length) (hl2 : l.length ≤ 100000) (h : Holds wq (pgsA v l * G)) => out_calls v l 0 G wq hl hl2 h)
      obtain ⟨n, hn⟩ : ∃ n, S'.cold.length = n := ⟨_, rfl⟩
      rw [hn] at c2 hcap hc
      have HN := Lib.hid hn
      have HP := Lib.hid hp
      obtain ⟨i, m⟩ := p
      have n1 : 1 ≤ n := by omega
      have hA : Hid (Holds (wr.alloc (.cells #[.int .i64 i, .bool m] 168)) (pgsA (.slice (some ⟨g, 0, none⟩) S'.cold.length cap1) S'.cold * (rhd b S'.most S'.target (.slice (some ⟨g, 0, none⟩) S'.cold.length cap1) (.slice ao2 S'.hot.length cap2) (.slice ao3 S'.test.length cap3) * (pgsA (.slice ao2 S'.hot.length cap2) S'.hot * (pgsA (.slice ao3 S'.test.length cap3) S'.test * (pts wr.heap.size (.cells #[.int .i64 i, .bool m] 168) * F)))))) := by
        show Holds _ _
        refine (hw.alloc (.cells #[.int .i64 i, .bool m] 168)).eqv ?_
        unfold rkO; ac_rfl
      obtain ⟨L, hL⟩ : ∃ L, wr.heap.size = L := ⟨_, rfl⟩
      have HL := Lib.hid hL
      have ER : Hid (S'.cold.eraseIdx 0 = t) := by show _ = _; exact erase0 hp
      have TT : Hid (t.length + 1 + S'.hot.length + S'.test.length ≤ 8500) := by show _ ≤ _; omega
      have dn : ((n : Int) == 0) = false := by simp; omega
      clear hw hp hlen hn cf hL T' M' E' H' hc hcap1 hcap2 hcap3 hcap tot c0 c1
      go_wp2_with fail
      rw [← HN.out]
      refine (OC.out _ _ hA.out).mono ?_
      rintro e w1 ⟨v', rfl, h1, s1⟩
      rw [HL.out, ER.out] at h1
      have h2 : Holds w1 (rhd b S'.most S'.target (.slice (some ⟨g, 0, none⟩) S'.cold.length cap1) (.slice ao2 S'.hot.length cap2) (.slice ao3 S'.test.length cap3) * (pgsA v' t * (pgsA (.slice ao2 S'.hot.length cap2) S'.hot * (pgsA (.slice ao3 S'.test.length cap3) S'.test * (pts L (.cells #[.int .i64 i, .bool m] 168) * F))))) :=
        Holds.right (h1.eqv (by ac_rfl : _ = pgsA (.slice (some ⟨g, 0, none⟩) S'.cold.length cap1) S'.cold * _))
      obtain ⟨ao', cap', hv', hcap', -⟩ := pgs_slice (h2.eqv (star_left_comm _ _ _))
      subst hv'
      have h3 := Holds.store h2 2 (.slice ao' t.length cap')
      have h4 : Holds (w1.setCell ⟨b, 2, none⟩ (.slice ao' t.length cap')) (pts L (.cells #[.int .i64 i, .bool m] 168) * (rhd b S'.most S'.target (.slice ao' t.length cap') (.slice ao2 S'.hot.length cap2) (.slice ao3 S'.test.length cap3) * (pgsA (.slice ao' t.length cap') t * (pgsA (.slice ao2 S'.hot.length cap2) S'.hot * (pgsA (.slice ao3 S'.test.length cap3) S'.test * F))))) := h3.eqv (by unfold rhd; ac_rfl)
      have bl := h2.lt
      have b3 := h2.cell 2
      have bf := h2.frozen 2
      have hl0 := h2.eqv (by ac_rfl : _ = pts L (.cells #[.int .i64 i, .bool m] 168) * (rhd b S'.most S'.target (.slice (some ⟨g, 0, none⟩) S'.cold.length cap1) (.slice ao2 S'.hot.length cap2) (.slice ao3 S'.test.length cap3) * (pgsA (.slice ao' t.length cap') t * (pgsA (.slice ao2 S'.hot.length cap2) S'.hot * (pgsA (.slice ao3 S'.test.length cap3) S'.test * F)))))
      have ll := hl0.lt
      have l1 := hl0.cell 1
      have lf := hl0.frozen 1
      simp at l1
      have H4 := Lib.hid h4
      have S4 : Hid (Sm w (w1.setCell ⟨b, 2, none⟩ (.slice ao' t.length cap'))) := ((K'.out.alloc _).trans s1).setCell _ _
      simp only [HL.out]
      clear h1 h2 h3 h4 hl0 s1 OC hA K'
      cases m with
      | true =>
        have H5 := Lib.hid (H4.out.store 1 (.bool false))
        have S5 := Lib.hid (S4.out.setCell ⟨L, 1, none⟩ (.bool false))
        go_wp2_with fail
        obtain ⟨wq, hq⟩ : ∃ wq, (w1.setCell ⟨b, 2, none⟩ (.slice ao' t.length cap')).setCell ⟨L, 1, none⟩ (.bool false) = wq := ⟨_, rfl⟩
        rw [hq]
        rw [hq] at H5 S5
        have H6 : Holds wq (pgsA (.slice ao2 S'.hot.length cap2) S'.hot * (rhd b S'.most S'.target (.slice ao' t.length cap') (.slice ao2 S'.hot.length cap2) (.slice ao3 S'.test.length cap3) * (pgsA (.slice ao' t.length cap') t * (pgsA (.slice ao3 S'.test.length cap3) S'.test * (pts L (.cells #[.int .i64 i, .bool false] 168) * F))))) := H5.out.eqv (by ac_rfl : pts L (.cells #[.int .i64 i, .bool false] 168) * _ = _)
        obtain ⟨ql, q0, q1, q2, q3, q4, qf⟩ := app_seen H6
        have qf3 := qf 3
        have hl0 := H6.eqv (by ac_rfl : _ = pts L (.cells #[.int .i64 i, .bool false] 168) * (rhd b S'.most S'.target (.slice ao' t.length cap') (.slice ao2 S'.hot.length cap2) (.slice ao3 S'.test.length cap3) * (pgsA (.slice ao' t.length cap') t * (pgsA (.slice ao2 S'.hot.length cap2) S'.hot * (pgsA (.slice ao3 S'.test.length cap3) S'.test * F)))))
        have lc0 := hl0.cell 0
        have lc1 := hl0.cell 1
        have lc := hl0.lt
        simp at lc0 lc1
        have HA := Lib.hid ((H6.alloc (.cells #[.int .i64 i, .bool false] 168)).right)
        obtain ⟨T, hT⟩ : ∃ T : CS, T = { S' with cold := t, hot := S'.hot ++ [(⟨i, false⟩ : Pg)] } := ⟨_, rfl⟩
        have RS : Hid (turnColdS S = ⟨coolS 0 T, 0, false⟩) := by
          show _ = _
          rw [NE.out, hT]
          unfold coldS; rw [HP.out]; rfl
        have BT : Hid (Bnd T) := by
          show Bnd _
          have := TT.out
          rw [hT]
          exact ⟨B'.out.m1, B'.out.m2, B'.out.t1, B'.out.t2, by simp; omega⟩
        have B1 : Hid (S'.hot.length + 1 ≤ maxLen) := by show _ ≤ _; have := TT.out; unfold maxLen; omega
        have B2 : Hid ((S'.hot.length + 1) * 16 ≤ 140737488355328) := by show _ ≤ _; have := TT.out; omega
        have HT := Lib.hid hT
        clear H4 H5 H6 hl0 S4 hq qf bf lf l1 ll bl g0 g1 c2 c3 c4 al hg hT cf2 b3
        go_region_law ((refine step_append_sep rfl _ _ 69 rfl 168 (.agg #[.int .i64 0, .bool false]) 2 16 Try.underlying69 infoP rfl (by rfl) HA.out ⟨wq.heap.size, 0, none⟩ 1 1 [.int .i64 i, .bool false] (by rfl) rfl (cells_new wq #[.int .i64 i, .bool false] 168 _ rfl) (by simp [Value.oneCell']) B1.out B2.out ?_; intro va wa ha sa ea; obtain ⟨ao4, cap4, hva, -⟩ := rowA_slice ha; subst hva; obtain ⟨xl, x0, x1, x2, x3, x4, xf⟩ := app_seen ha; have xf3 := xf 3))
        all_goals
          have h7 := Holds.store (ha.eqv (star_left_comm _ _ _)) 3 (.slice ao4 (S'.hot.length + 1) cap4)
          have h8 : Holds (wa.setCell ⟨b, 3, none⟩ (.slice ao4 (S'.hot.length + 1) cap4)) (pgsA (.slice ao4 (S'.hot.length + 1) cap4) (S'.hot ++ [(⟨i, false⟩ : Pg)]) * (rhd b S'.most S'.target (.slice ao' t.length cap') (.slice ao4 (S'.hot.length + 1) cap4) (.slice ao3 S'.test.length cap3) * (pgsA (.slice ao' t.length cap') t * (pgsA (.slice ao3 S'.test.length cap3) S'.test * (pts L (.cells #[.int .i64 i, .bool false] 168) * F))))) :=
            pgs_snoc (h7.eqv (star_left_comm _ _ _)) rfl rfl
          have H9 : Hid (Holds (wa.setCell ⟨b, 3, none⟩ (.slice ao4 (S'.hot.length + 1) cap4)) (rk b T * F)) := by
            show Holds _ _
            rw [HT.out]
            refine rk_shut (v1 := .slice ao' t.length cap') (v2 := .slice ao4 (S'.hot.length + 1) cap4) (v3 := .slice ao3 S'.test.length cap3) (Holds.right (A := pts L (.cells #[.int .i64 i, .bool false] 168)) (h8.eqv ?_))
            unfold rkO; simp only; ac_rfl
          have S9 : Hid (Sm w (wa.setCell ⟨b, 3, none⟩ (.slice ao4 (S'.hot.length + 1) cap4))) := ((S5.out.alloc _).drew.trans sa).setCell _ _
          clear ha sa ea h7 h8 xf HA x0 x1 x2 x3 x4 xf3 xl
          go_wp2_with fail
          obtain ⟨w9, hw9⟩ : ∃ w9, wa.setCell ⟨b, 3, none⟩ (.slice ao4 (S'.hot.length + 1) cap4) = w9 := ⟨_, rfl⟩
          rw [hw9] at H9 S9
          rw [hw9]
          clear hw9
          go_loopg [] (coolM T) (fun k wr => ∃ S', Hid (Bnd S') ∧ Hid (coolM S' ≤ k) ∧ Hid (coolS 0 S' = coolS 0 T) ∧ Hid (Holds wr (rk b S' * F)) ∧ Hid (Sm w wr))
          case atStart => exact ⟨T, BT.out, Nat.le_refl _, rfl, H9.out, S9.out⟩
          case round =>
            clear H9 S9 BT B'
            obtain ⟨S2, B', M', E', H', K'⟩ := hrel
            obtain ⟨v1, v2, v3, hw⟩ := rk_open H'.out
            obtain ⟨al, c0, c1, c2, c3, c4, cf⟩ := rk_seen hw
            obtain ⟨ao2, cap2, hv2, hcap2, -⟩ := pgs_slice (rkO_h hw)
            subst hv2
            have m1 := B'.out.m1
            have m2 := B'.out.m2
            have t1 := B'.out.t1
            have t2 := B'.out.t2
            have tot := B'.out.tot
            by_cases hc : max (S2.most - S2.target) 0 < (S2.hot.length : Int)
            · have hne : S2.hot ≠ [] := by rintro e; rw [e] at hc; simp at hc; omega
              have TH := Lib.hid (fun (wq : World) h => rturnHot_calls b S2 F wq B'.out hne h)
              have NM := Lib.hid (turnHot_m hne)
              have NE : Hid (coolS 0 (turnHotS S2) = coolS 0 T) := by show _ = _; rw [← cool_step (by omega) hc]; exact E'.out
              obtain ⟨n, hn⟩ : ∃ n, S2.hot.length = n := ⟨_, rfl⟩
              obtain ⟨x, hx⟩ : ∃ x, S2.most = x := ⟨_, rfl⟩
              obtain ⟨y, hy⟩ : ∃ y, S2.target = y := ⟨_, rfl⟩
              rw [hx] at c0 m1 m2 t2 hc
              rw [hy] at c1 t1 t2 hc
              rw [hn] at c3 hc
              have bw : IntKind.i64.wrap (x - y) = x - y := IntWalk.i64_in _ (by omega)
              have d0 : decide (x - y < (n : Int)) = true := by simp; omega
              have d1 : decide ((0 : Int) < (n : Int)) = true := by simp; omega
              have d1n : decide (0 < n) = true := by simp; omega
              clear hw hne hc E' cf hn hx hy hcap2 c2 c4 tot
              go_wp2_with fail
              go_quiet (fail)
              go_wp2_with fail
              refine (TH.out (wr.drewN _) H'.out).mono ?_
              rintro e w1 ⟨rfl, k1, k2⟩
              have H2 := Lib.hid k1
              have K2 := Lib.hid ((K'.out.drewN _).trans k2)
              clear k1 k2
              go_wp2_with fail
              go_roundg (gk - 1)
              case measure => have := NM.out; have := M'.out; omega
              case rel => exact ⟨turnHotS S2, turnHot_bnd B'.out, by show _ ≤ _; have := NM.out; have := M'.out; omega, NE.out, H2.out, K2.out⟩
            · have NE : Hid (turnColdS S = ⟨S2, 0, false⟩) := by show _ = _; rw [RS.out, ← E'.out, cool_stop hc]
              obtain ⟨n, hn⟩ : ∃ n, S2.hot.length = n := ⟨_, rfl⟩
              obtain ⟨x, hx⟩ : ∃ x, S2.most = x := ⟨_, rfl⟩
              obtain ⟨y, hy⟩ : ∃ y, S2.target = y := ⟨_, rfl⟩
              rw [hx] at c0 m1 m2 t2 hc
              rw [hy] at c1 t1 t2 hc
              rw [hn] at c3 hc
              have bw : IntKind.i64.wrap (x - y) = x - y := IntWalk.i64_in _ (by omega)
              by_cases hd : x - y < (n : Int)
              · have d0 : decide (x - y < (n : Int)) = true := by simp; omega
                have d1 : decide ((0 : Int) < (n : Int)) = false := by simp; omega
                have d1n : decide (0 < n) = false := by simp; omega
                clear hw hc E' cf hn hx hy hcap2 c2 c4 tot hd
                go_wp2_with fail
                go_quiet (fail)
                go_wp2_with fail
                go_ret2
                exact ⟨by rw [NE.out]; try rfl, by rw [NE.out]; exact H'.out, K'.out.drewN _⟩
              · have d0 : decide (x - y < (n : Int)) = false := by simp; omega
                clear hw hc E' cf hn hx hy hcap2 c2 c4 tot hd
                go_wp2_with fail
                go_quiet (fail)
                go_wp2_with fail
                go_ret2
                exact ⟨by rw [NE.out]; try rfl, by rw [NE.out]; exact H'.out, K'.out.drewN _⟩
      | false =>
        go_wp2_with fail
        obtain ⟨wq, hq⟩ : ∃ wq, w1.setCell ⟨b, 2, none⟩ (.slice ao' t.length cap') = wq := ⟨_, rfl⟩
        rw [hq]
        rw [hq] at H4 S4
        have H6 : Holds wq (pgsA (.slice ao3 S'.test.length cap3) S'.test * (rhd b S'.most S'.target (.slice ao' t.length cap') (.slice ao2 S'.hot.length cap2) (.slice ao3 S'.test.length cap3) * (pgsA (.slice ao' t.length cap') t * (pgsA (.slice ao2 S'.hot.length cap2) S'.hot * (pts L (.cells #[.int .i64 i, .bool false] 168) * F))))) := H4.out.eqv (by ac_rfl : pts L (.cells #[.int .i64 i, .bool false] 168) * _ = _)
        obtain ⟨ql, q0, q1, q2, q3, q4, qf⟩ := app_seen H6
        have qf3 := qf 4
        have hl0 := H6.eqv (by ac_rfl : _ = pts L (.cells #[.int .i64 i, .bool false] 168) * (rhd b S'.most S'.target (.slice ao' t.length cap') (.slice ao2 S'.hot.length cap2) (.slice ao3 S'.test.length cap3) * (pgsA (.slice ao' t.length cap') t * (pgsA (.slice ao2 S'.hot.length cap2) S'.hot * (pgsA (.slice ao3 S'.test.length cap3) S'.test * F)))))
        have lc0 := hl0.cell 0
        have lc1 := hl0.cell 1
        have lc := hl0.lt
        simp at lc0 lc1
        have HA := Lib.hid ((H6.alloc (.cells #[.int .i64 i, .bool false] 168)).right)
        have RS : Hid (turnColdS S = if S'.most < ((S'.test.length + 1 : Nat) : Int) then ⟨{ S' with cold := t, test := (S'.test ++ [(⟨i, false⟩ : Pg)]).tail, target := max 1 (S'.target - 1) }, i, true⟩ else ⟨{ S' with cold := t, test := S'.test ++ [(⟨i, false⟩ : Pg)] }, i, true⟩) := by
          show _ = _
          rw [NE.out]
          unfold coldS; rw [HP.out]; rfl
        have B1 : Hid (S'.test.length + 1 ≤ maxLen) := by show _ ≤ _; have := TT.out; unfold maxLen; omega
        have B2 : Hid ((S'.test.length + 1) * 16 ≤ 140737488355328) := by show _ ≤ _; have := TT.out; omega
        clear H4 H6 hl0 hq qf bf lf l1 ll bl g0 g1 c2 c3 c4 al hg cf2 b3
        go_region_law ((refine step_append_sep rfl _ _ 69 rfl 168 (.agg #[.int .i64 0, .bool false]) 2 16 Try.underlying69 infoP rfl (by rfl) HA.out ⟨wq.heap.size, 0, none⟩ 1 1 [.int .i64 i, .bool false] (by rfl) rfl (cells_new wq #[.int .i64 i, .bool false] 168 _ rfl) (by simp [Value.oneCell']) B1.out B2.out ?_; intro va wa ha sa ea; obtain ⟨ao4, cap4, hva, -⟩ := rowA_slice ha; subst hva; obtain ⟨xl, x0, x1, x2, x3, x4, xf⟩ := app_seen ha; have xf3 := xf 4))
        all_goals
          have h7 := Holds.store (ha.eqv (star_left_comm _ _ _)) 4 (.slice ao4 (S'.test.length + 1) cap4)
          have h8 : Holds (wa.setCell ⟨b, 4, none⟩ (.slice ao4 (S'.test.length + 1) cap4)) (pgsA (.slice ao4 (S'.test.length + 1) cap4) (S'.test ++ [(⟨i, false⟩ : Pg)]) * (rhd b S'.most S'.target (.slice ao' t.length cap') (.slice ao2 S'.hot.length cap2) (.slice ao4 (S'.test.length + 1) cap4) * (pgsA (.slice ao' t.length cap') t * (pgsA (.slice ao2 S'.hot.length cap2) S'.hot * (pts L (.cells #[.int .i64 i, .bool false] 168) * F))))) :=
            pgs_snoc (h7.eqv (star_left_comm _ _ _)) rfl rfl
          have H8 := Lib.hid h8
          have S9 : Hid (Sm w (wa.setCell ⟨b, 4, none⟩ (.slice ao4 (S'.test.length + 1) cap4))) := ((S4.out.alloc _).drew.trans sa).setCell _ _
          clear ha sa ea h7 h8 xf HA x0 x1 x2 x3 x4 xf3 xl q0 q1 q2 q3 q4 ql lc0 lc1 lc
          go_wp2_with fail
          obtain ⟨w9, hw9⟩ : ∃ w9, wa.setCell ⟨b, 4, none⟩ (.slice ao4 (S'.test.length + 1) cap4) = w9 := ⟨_, rfl⟩
          rw [hw9] at H8 S9
          rw [hw9]
          obtain ⟨yl, y0, y1, y2, y3, y4, yf⟩ := app_seen H8.out
          have yf4 := yf 4
          have yf1 := yf 1
          have hl0 := H8.out.eqv (by ac_rfl : _ = pts L (.cells #[.int .i64 i, .bool false] 168) * (rhd b S'.most S'.target (.slice ao' t.length cap') (.slice ao2 S'.hot.length cap2) (.slice ao4 (S'.test.length + 1) cap4) * (pgsA (.slice ao4 (S'.test.length + 1) cap4) (S'.test ++ [(⟨i, false⟩ : Pg)]) * (pgsA (.slice ao' t.length cap') t * (pgsA (.slice ao2 S'.hot.length cap2) S'.hot * F)))))
          have lc0 := hl0.cell 0
          have lc := hl0.lt
          simp at lc0
          have LT : Hid ((S'.test ++ [(⟨i, false⟩ : Pg)] : List Pg).length = S'.test.length + 1) := by show _ = _; simp
          obtain ⟨n, hn⟩ : ∃ n, S'.test.length = n := ⟨_, rfl⟩
          obtain ⟨x, hx⟩ : ∃ x, S'.most = x := ⟨_, rfl⟩
          have tt := TT.out
          rw [hn] at y4 RS LT H8 tt
          rw [hx] at y0 RS
          have HX := Lib.hid hx
          clear hw9 yf hl0 hn hx B1 B2
          by_cases hg : x < ((n + 1 : Nat) : Int)
          · have RS' : Hid (turnColdS S = ⟨{ S' with cold := t, test := (S'.test ++ [(⟨i, false⟩ : Pg)]).tail, target := max 1 (S'.target - 1) }, i, true⟩) := by show _ = _; rw [RS.out, if_pos hg, ← HX.out]
            have d0 : decide (x < ((n + 1 : Nat) : Int)) = true := by simpa using hg
            have d0' : decide (x < (n : Int) + 1) = true := by simp at hg ⊢; omega
            have OT' := Lib.hid (fun k => OT.out (w9.drewN k) (S'.test ++ [(⟨i, false⟩ : Pg)]) (.slice ao4 (n + 1) cap4) _ (by rw [LT.out]; omega) (by rw [LT.out]; omega) H8.out)
            clear hg OT tt
            go_wp2_with fail
            go_quiet (fail)
            go_wp2_with fail
            refine (OT'.out _).mono ?_
            rintro e w2 ⟨v', rfl, h1, s1⟩
            have e0 : (S'.test ++ [(⟨i, false⟩ : Pg)] : List Pg).eraseIdx 0 = (S'.test ++ [(⟨i, false⟩ : Pg)]).tail := by cases S'.test <;> rfl
            obtain ⟨TL, hTL⟩ : ∃ q, (S'.test ++ [(⟨i, false⟩ : Pg)]).tail = q := ⟨_, rfl⟩
            rw [e0, hTL] at h1
            rw [hTL] at RS'
            obtain ⟨ao5, cap5, hv5, -⟩ := pgs_slice h1
            subst hv5
            have h2 : Holds w2 (rhd b S'.most S'.target (.slice ao' t.length cap') (.slice ao2 S'.hot.length cap2) (.slice ao4 (n + 1) cap4) * (pgsA (.slice ao5 TL.length cap5) TL * (pgsA (.slice ao' t.length cap') t * (pgsA (.slice ao2 S'.hot.length cap2) S'.hot * (pts L (.cells #[.int .i64 i, .bool false] 168) * F))))) :=
              Holds.right (h1.eqv (by ac_rfl : _ = pgsA (.slice ao4 (n + 1) cap4) (S'.test ++ [(⟨i, false⟩ : Pg)]) * _))
            have z4 := h2.cell 4
            have zl := h2.lt
            have zf4 := h2.frozen 4
            have h3 := Holds.store h2 4 (.slice ao5 TL.length cap5)
            have h3 : Holds (w2.setCell ⟨b, 4, none⟩ (.slice ao5 TL.length cap5)) (rhd b S'.most S'.target (.slice ao' t.length cap') (.slice ao2 S'.hot.length cap2) (.slice ao5 TL.length cap5) * (pgsA (.slice ao5 TL.length cap5) TL * (pgsA (.slice ao' t.length cap') t * (pgsA (.slice ao2 S'.hot.length cap2) S'.hot * (pts L (.cells #[.int .i64 i, .bool false] 168) * F))))) := h3
            have z1 := h2.cell 1
            have zf1 := h2.frozen 1
            simp at z1 z4
            have hl2 := h2.eqv (by ac_rfl : _ = pts L (.cells #[.int .i64 i, .bool false] 168) * (rhd b S'.most S'.target (.slice ao' t.length cap') (.slice ao2 S'.hot.length cap2) (.slice ao4 (n + 1) cap4) * (pgsA (.slice ao5 TL.length cap5) TL * (pgsA (.slice ao' t.length cap') t * (pgsA (.slice ao2 S'.hot.length cap2) S'.hot * F)))))
            have zc0 := hl2.cell 0
            have zc := hl2.lt
            simp at zc0
            have h4 := Holds.store h3 1 (.int .i64 (S'.target - 1))
            have K9 := Lib.hid (((S9.out.drewN _).trans s1).setCell ⟨b, 4, none⟩ (.slice ao5 TL.length cap5))
            have H3 : Hid (S'.target ≤ 1 → Holds (w2.setCell ⟨b, 4, none⟩ (.slice ao5 TL.length cap5)) (rk b { S' with cold := t, test := TL, target := max 1 (S'.target - 1) } * F)) := by
              intro hle
              have he : max 1 (S'.target - 1) = S'.target := by have := B'.out.t1; omega
              rw [he]
              refine rk_shut (v1 := .slice ao' t.length cap') (v2 := .slice ao2 S'.hot.length cap2) (v3 := .slice ao5 TL.length cap5) (Holds.right (A := pts L (.cells #[.int .i64 i, .bool false] 168)) (h3.eqv ?_))
              unfold rkO; simp only; ac_rfl
            have H4 : Hid (1 < S'.target → Holds ((w2.setCell ⟨b, 4, none⟩ (.slice ao5 TL.length cap5)).setCell ⟨b, 1, none⟩ (.int .i64 (S'.target - 1))) (rk b { S' with cold := t, test := TL, target := max 1 (S'.target - 1) } * F)) := by
              intro hle
              have he : max 1 (S'.target - 1) = S'.target - 1 := by omega
              rw [he]
              refine rk_shut (v1 := .slice ao' t.length cap') (v2 := .slice ao2 S'.hot.length cap2) (v3 := .slice ao5 TL.length cap5) (Holds.right (A := pts L (.cells #[.int .i64 i, .bool false] 168)) (h4.eqv ?_))
              unfold rkO rhd; simp only; ac_rfl
            have tb1 := B'.out.t1
            have tb2 := B'.out.t2
            have tb3 := B'.out.m2
            obtain ⟨y, hy⟩ : ∃ y, S'.target = y := ⟨_, rfl⟩
            rw [hy] at z1 H3 H4 tb1 tb2 RS'
            have hy9 : y ≤ 4096 := by omega
            clear h1 h2 h3 h4 s1 hl2 OT' H8 S9 e0 hTL y0 y1 y2 y3 y4 yl yf4 yf1 lc0 lc tb2 tb3 hy
            have bw : IntKind.i64.wrap (y - 1) = y - 1 := IntWalk.i64_in _ (by omega)
            by_cases hd : 1 < y
            · have d1 : decide (1 < y) = true := by simpa using hd
              have H5 := Lib.hid (H4.out hd)
              clear H3 H4 hd
              go_wp2_with fail
              go_ret2
              exact ⟨by rw [RS'.out]; try rfl, by rw [RS'.out]; exact H5.out, K9.out.setCell _ _⟩
            · have d1 : decide (1 < y) = false := by simpa using hd
              have H5 := Lib.hid (H3.out (by omega))
              clear H3 H4 hd
              go_wp2_with fail
              go_ret2
              exact ⟨by rw [RS'.out]; try rfl, by rw [RS'.out]; exact H5.out, K9.out⟩
          · have RS' : Hid (turnColdS S = ⟨{ S' with cold := t, test := S'.test ++ [(⟨i, false⟩ : Pg)] }, i, true⟩) := by show _ = _; rw [RS.out, if_neg hg, ← HX.out]
            have d0 : decide (x < ((n + 1 : Nat) : Int)) = false := by simpa using hg
            have d0' : decide (x < (n : Int) + 1) = false := by simp at hg ⊢; omega
            have H9 : Hid (Holds w9 (rk b { S' with cold := t, test := S'.test ++ [(⟨i, false⟩ : Pg)] } * F)) := by
              show Holds _ _
              refine rk_shut (v1 := .slice ao' t.length cap') (v2 := .slice ao2 S'.hot.length cap2) (v3 := .slice ao4 (n + 1) cap4) (Holds.right (A := pts L (.cells #[.int .i64 i, .bool false] 168)) (H8.out.eqv ?_))
              unfold rkO; simp only; ac_rfl
            clear hg OT tt H8
            go_wp2_with fail
            go_quiet (fail)
            go_wp2_with fail
            go_ret2
            exact ⟨by rw [RS'.out]; try rfl, by rw [RS'.out]; exact H9.out, S9.out.drewN _⟩
#print axioms rturnCold_calls
end Go.Proofs.Ytmaoboepmbioiaa.Clock
