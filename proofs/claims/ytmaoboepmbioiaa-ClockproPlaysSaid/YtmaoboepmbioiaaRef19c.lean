/-
  The document's clock (ref19): turnHot.
-/
import Derived.Test.YtmaoboepmbioiaaRef19b
namespace Go.Proofs.Ytmaoboepmbioiaa.Clock
open Go.RowKit Go.Sep
set_option maxRecDepth 100000
set_option linter.unusedVariables false
set_option linter.unusedSimpArgs false

theorem pgs_snoc {w : World} {v : Value} {l : List Pg} {p : Pg} {F : Asr} {n : Nat} {xs : List Value} (h : Holds w (rowA 168 2 v n xs * F)) (hn : n = l.length + 1) (hx : xs = l.flatMap pEnc ++ pEnc p) : Holds w (pgsA v (l ++ [p]) * F) := by
  subst hn hx
  exact rowL_snoc h rfl
theorem app_seen {w : World} {b n : Nat} {m t : Int} {v v1 v2 v3 : Value} {xs : List Value} {G : Asr} (H : Holds w (rowA 168 2 v n xs * (rhd b m t v1 v2 v3 * G))) : RSeen w b m t v1 v2 v3 := by
  have hh := H.eqv (star_left_comm _ _ _)
  exact ⟨hh.lt, hh.cell 0, hh.cell 1, hh.cell 2, hh.cell 3, hh.cell 4, hh.frozen⟩
theorem hot_out {S : CS} {p : Pg} {t : List Pg} (h : S.hot = p :: t) : S.hot.eraseIdx 0 = t := by rw [h]; rfl
set_option maxHeartbeats 4000000 in
theorem rturnHot_calls (b : Nat) (S : CS) (F : Asr) (w : World) (hb : Bnd S) (h0 : S.hot ≠ []) (hrk : Holds w (rk b S * F)) :
    Calls Try.prog 90 #[.pointer (some ⟨b, 0, none⟩)] w fun e w' => e = .returned (.tuple #[]) ∧ Holds w' (rk b (turnHotS S) * F) ∧ Sm w w' := by
  obtain ⟨v1, v2, v3, hw⟩ := rk_open hrk
  obtain ⟨p, t, hp⟩ : ∃ p t, S.hot = p :: t := by
    cases e : S.hot with
    | nil => exact absurd e h0
    | cons p t => exact ⟨p, t, rfl⟩
  have sn := rk_seen hw
  have tot := hb.tot
  obtain ⟨g, cap, rfl, hcap, hg, g0, g1, -⟩ := pgs_cell (rkO_h hw) 0 (by rw [hp]; simp)
  simp only [hp, List.getElem_cons_zero] at g0 g1
  obtain ⟨al, c0, c1, c2, c3, c4, cf⟩ := sn
  obtain ⟨aoc, capc, hv1, hcapc, -⟩ := pgs_slice (rkO_c hw)
  subst hv1
  have hlen : S.hot.length = t.length + 1 := by rw [hp]; rfl
  have OC := Lib.hid (fun (wq : World) (G : Asr) (h : Holds wq (pgsA (.slice (some ⟨g, 0, none⟩) S.hot.length cap) S.hot * G)) => out_calls _ S.hot 0 G wq (by omega) (by omega) h)
  obtain ⟨n, hn⟩ : ∃ n, S.hot.length = n := ⟨_, rfl⟩
  rw [hn] at c3 hcap
  have HN := Lib.hid hn
  have HP := Lib.hid hp
  obtain ⟨i, m⟩ := p
  have n1 : 1 ≤ n := by omega
  have hA : Hid (Holds (w.alloc (.cells #[.int .i64 i, .bool m] 168)) (pgsA (.slice (some ⟨g, 0, none⟩) S.hot.length cap) S.hot * (rhd b S.most S.target (.slice aoc S.cold.length capc) (.slice (some ⟨g, 0, none⟩) S.hot.length cap) v3 * (pgsA (.slice aoc S.cold.length capc) S.cold * (pgsA v3 S.test * (pts w.heap.size (.cells #[.int .i64 i, .bool m] 168) * F)))))) := by
    show Holds _ _
    refine (hw.alloc (.cells #[.int .i64 i, .bool m] 168)).eqv ?_
    unfold rkO; ac_rfl
  obtain ⟨L, hL⟩ : ∃ L, w.heap.size = L := ⟨_, rfl⟩
  have HL := Lib.hid hL
  have ER : Hid (S.hot.eraseIdx 0 = t) := by show _ = _; rw [hp]; rfl
  have TL : Hid (t.length + 1 ≤ 8500) := by show _ ≤ _; omega
  clear hw hrk h0 hp hlen hn cf hL
  go_enter Try.func90, Try.ntmps90
  go_wp2_with fail
  rw [← HN.out]
  refine (OC.out _ _ hA.out).mono ?_
  rintro e w1 ⟨v', rfl, h1, s1⟩
  rw [HL.out, ER.out] at h1
  have h2 : Holds w1 (rhd b S.most S.target (.slice aoc S.cold.length capc) (.slice (some ⟨g, 0, none⟩) S.hot.length cap) v3 * (pgsA v' t * (pgsA (.slice aoc S.cold.length capc) S.cold * (pgsA v3 S.test * (pts L (.cells #[.int .i64 i, .bool m] 168) * F))))) :=
    Holds.right (h1.eqv (by ac_rfl : _ = pgsA (.slice (some ⟨g, 0, none⟩) S.hot.length cap) S.hot * _))
  obtain ⟨ao', cap', hv', hcap', -⟩ := pgs_slice (h2.eqv (star_left_comm _ _ _))
  subst hv'
  have h3 := Holds.store h2 3 (.slice ao' t.length cap')
  have h4 : Holds (w1.setCell ⟨b, 3, none⟩ (.slice ao' t.length cap')) (pts L (.cells #[.int .i64 i, .bool m] 168) * (rhd b S.most S.target (.slice aoc S.cold.length capc) (.slice ao' t.length cap') v3 * (pgsA (.slice ao' t.length cap') t * (pgsA (.slice aoc S.cold.length capc) S.cold * (pgsA v3 S.test * F))))) := h3.eqv (by unfold rhd; ac_rfl)
  have bl := h2.lt
  have b3 := h2.cell 3
  have bf := h2.frozen 3
  have hl0 := h2.eqv (by ac_rfl : _ = pts L (.cells #[.int .i64 i, .bool m] 168) * (rhd b S.most S.target (.slice aoc S.cold.length capc) (.slice (some ⟨g, 0, none⟩) S.hot.length cap) v3 * (pgsA (.slice ao' t.length cap') t * (pgsA (.slice aoc S.cold.length capc) S.cold * (pgsA v3 S.test * F)))))
  have ll := hl0.lt
  have l1 := hl0.cell 1
  have lf := hl0.frozen 1
  simp at l1
  have H4 := Lib.hid h4
  have S4 : Hid (Sm w (w1.setCell ⟨b, 3, none⟩ (.slice ao' t.length cap'))) := (((Sm.refl w).alloc _).trans s1).setCell _ _
  simp only [HL.out]
  clear h1 h2 h3 h4 hl0 s1 OC hA
  cases m with
  | true =>
    have H5 := Lib.hid (H4.out.store 1 (.bool false))
    have S5 := Lib.hid (S4.out.setCell ⟨L, 1, none⟩ (.bool false))
    go_wp2_with fail
    obtain ⟨wq, hq⟩ : ∃ wq, (w1.setCell ⟨b, 3, none⟩ (.slice ao' t.length cap')).setCell ⟨L, 1, none⟩ (.bool false) = wq := ⟨_, rfl⟩
    rw [hq]
    rw [hq] at H5 S5
    have H6 : Holds wq (pgsA (.slice ao' t.length cap') t * (rhd b S.most S.target (.slice aoc S.cold.length capc) (.slice ao' t.length cap') v3 * (pgsA (.slice aoc S.cold.length capc) S.cold * (pgsA v3 S.test * (pts L (.cells #[.int .i64 i, .bool false] 168) * F))))) := H5.out.eqv (by ac_rfl : pts L (.cells #[.int .i64 i, .bool false] 168) * _ = _)
    obtain ⟨ql, q0, q1, q2, q3, q4, qf⟩ := app_seen H6
    have qf3 := qf 3
    have hl0 := H6.eqv (by ac_rfl : _ = pts L (.cells #[.int .i64 i, .bool false] 168) * (rhd b S.most S.target (.slice aoc S.cold.length capc) (.slice ao' t.length cap') v3 * (pgsA (.slice ao' t.length cap') t * (pgsA (.slice aoc S.cold.length capc) S.cold * (pgsA v3 S.test * F)))))
    have lc0 := hl0.cell 0
    have lc1 := hl0.cell 1
    have lc := hl0.lt
    simp at lc0 lc1
    have HA := Lib.hid ((H6.alloc (.cells #[.int .i64 i, .bool false] 168)).right)
    have tl := TL.out
    have RS : Hid (turnHotS S = { S with hot := t ++ [⟨i, false⟩] }) := by
      show _ = _
      unfold turnHotS; rw [HP.out]; rfl
    have B1 : Hid (t.length + 1 ≤ maxLen) := by show _ ≤ _; unfold maxLen; omega
    have B2 : Hid ((t.length + 1) * 16 ≤ 140737488355328) := by show _ ≤ _; omega
    clear H4 H5 H6 hl0 S4 hq qf bf lf l1 ll bl g0 g1 c0 c1 c2 c3 c4 al hg tl
    go_region_law ((refine step_append_sep rfl _ _ 69 rfl 168 (.agg #[.int .i64 0, .bool false]) 2 16 Try.underlying69 infoP rfl (by rfl) HA.out ⟨wq.heap.size, 0, none⟩ 1 1 [.int .i64 i, .bool false] (by rfl) rfl (cells_new wq #[.int .i64 i, .bool false] 168 _ rfl) (by simp [Value.oneCell']) B1.out B2.out ?_; intro va wa ha sa ea; obtain ⟨ao2, cap2, hva, -⟩ := rowA_slice ha; subst hva; obtain ⟨xl, x0, x1, x2, x3, x4, xf⟩ := app_seen ha; have xf3 := xf 3))
    all_goals
      have h7 := Holds.store (ha.eqv (star_left_comm _ _ _)) 3 (.slice ao2 (t.length + 1) cap2)
      have h8 : Holds (wa.setCell ⟨b, 3, none⟩ (.slice ao2 (t.length + 1) cap2)) (pgsA (.slice ao2 (t.length + 1) cap2) (t ++ [⟨i, false⟩]) * (rhd b S.most S.target (.slice aoc S.cold.length capc) (.slice ao2 (t.length + 1) cap2) v3 * (pgsA (.slice aoc S.cold.length capc) S.cold * (pgsA v3 S.test * (pts L (.cells #[.int .i64 i, .bool false] 168) * F))))) :=
        pgs_snoc (h7.eqv (star_left_comm _ _ _)) rfl rfl
      have H9 : Hid (Holds (wa.setCell ⟨b, 3, none⟩ (.slice ao2 (t.length + 1) cap2)) (rk b (turnHotS S) * F)) := by
        show Holds _ _
        rw [RS.out]
        refine rk_shut (v1 := (.slice aoc S.cold.length capc)) (v2 := .slice ao2 (t.length + 1) cap2) (v3 := v3) (Holds.right (A := pts L (.cells #[.int .i64 i, .bool false] 168)) (h8.eqv ?_))
        unfold rkO; simp only; ac_rfl
      have S9 : Hid (Sm w (wa.setCell ⟨b, 3, none⟩ (.slice ao2 (t.length + 1) cap2))) := ((S5.out.alloc _).drew.trans sa).setCell _ _
      clear ha sa ea h7 h8 xf HA
      go_wp2_with fail
      go_end0
      exact ⟨rfl, H9.out, S9.out⟩
  | false =>
    go_wp2_with fail
    have H5 := Lib.hid H4.out
    have S5 := Lib.hid S4.out
    obtain ⟨wq, hq⟩ : ∃ wq, w1.setCell ⟨b, 3, none⟩ (.slice ao' t.length cap') = wq := ⟨_, rfl⟩
    rw [hq]
    rw [hq] at H5 S5
    have H6 : Holds wq (pgsA (.slice aoc S.cold.length capc) S.cold * (rhd b S.most S.target (.slice aoc S.cold.length capc) (.slice ao' t.length cap') v3 * (pgsA (.slice ao' t.length cap') t * (pgsA v3 S.test * (pts L (.cells #[.int .i64 i, .bool false] 168) * F))))) := H5.out.eqv (by ac_rfl : pts L (.cells #[.int .i64 i, .bool false] 168) * _ = _)
    obtain ⟨ql, q0, q1, q2, q3, q4, qf⟩ := app_seen H6
    have qf3 := qf 2
    have hl0 := H6.eqv (by ac_rfl : _ = pts L (.cells #[.int .i64 i, .bool false] 168) * (rhd b S.most S.target (.slice aoc S.cold.length capc) (.slice ao' t.length cap') v3 * (pgsA (.slice ao' t.length cap') t * (pgsA (.slice aoc S.cold.length capc) S.cold * (pgsA v3 S.test * F)))))
    have lc0 := hl0.cell 0
    have lc1 := hl0.cell 1
    have lc := hl0.lt
    simp at lc0 lc1
    have HA := Lib.hid ((H6.alloc (.cells #[.int .i64 i, .bool false] 168)).right)
    have tl := TL.out
    have RS : Hid (turnHotS S = { S with hot := t, cold := S.cold ++ [⟨i, false⟩] }) := by
      show _ = _
      unfold turnHotS; rw [HP.out]; rfl
    have B1 : Hid (S.cold.length + 1 ≤ maxLen) := by show _ ≤ _; unfold maxLen; omega
    have B2 : Hid ((S.cold.length + 1) * 16 ≤ 140737488355328) := by show _ ≤ _; omega
    clear H4 H5 H6 hl0 S4 hq qf bf lf l1 ll bl g0 g1 c0 c1 c2 c3 c4 al hg tl
    go_region_law ((refine step_append_sep rfl _ _ 69 rfl 168 (.agg #[.int .i64 0, .bool false]) 2 16 Try.underlying69 infoP rfl (by rfl) HA.out ⟨wq.heap.size, 0, none⟩ 1 1 [.int .i64 i, .bool false] (by rfl) rfl (cells_new wq #[.int .i64 i, .bool false] 168 _ rfl) (by simp [Value.oneCell']) B1.out B2.out ?_; intro va wa ha sa ea; obtain ⟨ao2, cap2, hva, -⟩ := rowA_slice ha; subst hva; obtain ⟨xl, x0, x1, x2, x3, x4, xf⟩ := app_seen ha; have xf3 := xf 2))
    all_goals
      have h7 := Holds.store (ha.eqv (star_left_comm _ _ _)) 2 (.slice ao2 (S.cold.length + 1) cap2)
      have h8 : Holds (wa.setCell ⟨b, 2, none⟩ (.slice ao2 (S.cold.length + 1) cap2)) (pgsA (.slice ao2 (S.cold.length + 1) cap2) (S.cold ++ [⟨i, false⟩]) * (rhd b S.most S.target (.slice ao2 (S.cold.length + 1) cap2) (.slice ao' t.length cap') v3 * (pgsA (.slice ao' t.length cap') t * (pgsA v3 S.test * (pts L (.cells #[.int .i64 i, .bool false] 168) * F))))) :=
        pgs_snoc (h7.eqv (star_left_comm _ _ _)) rfl rfl
      have H9 : Hid (Holds (wa.setCell ⟨b, 2, none⟩ (.slice ao2 (S.cold.length + 1) cap2)) (rk b (turnHotS S) * F)) := by
        show Holds _ _
        rw [RS.out]
        refine rk_shut (v1 := .slice ao2 (S.cold.length + 1) cap2) (v2 := (.slice ao' t.length cap')) (v3 := v3) (Holds.right (A := pts L (.cells #[.int .i64 i, .bool false] 168)) (h8.eqv ?_))
        unfold rkO; simp only; ac_rfl
      have S9 : Hid (Sm w (wa.setCell ⟨b, 2, none⟩ (.slice ao2 (S.cold.length + 1) cap2))) := ((S5.out.alloc _).drew.trans sa).setCell _ _
      clear ha sa ea h7 h8 xf HA
      go_wp2_with fail
      go_end0
      exact ⟨rfl, H9.out, S9.out⟩
#print axioms rturnHot_calls
end Go.Proofs.Ytmaoboepmbioiaa.Clock
