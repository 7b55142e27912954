/-
  Layer 16: the document's Free.
-/
import Derived.Test.YtefcinifaaablaaRef16
namespace Go.Proofs.Ytefcinifaaablaa.Chain
open Go.RowKit Go.Sep
open Go.Proofs.Ytefcinifaaablaa.Slab (szOf szN szN_val clsFor ABlk allocA dropA holdA writeA readA Took u8s Src)
set_option maxRecDepth 100000
set_option linter.unusedVariables false
set_option linter.unusedSimpArgs false

def RFreeC (X : Nat → Int) (r y : Nat) (R : RCh) (A : List (List ABlk)) (F : Asr) (w : World) (e : Ending) (w' : World) : Prop :=
  e = .returned (.int .i64 (if R.freed then 16 else 0)) ∧ Holds w' (rcA r y { R with freed := true } * (RAr X y (if R.freed then A else dropsA A R.l) * F)) ∧ Sm w w'
set_option maxHeartbeats 4000000 in
theorem rfree_calls (X : Nat → Int) (r y : Nat) (R : RCh) (A : List (List ABlk)) (F : Asr) (w : World) (h9 : R.l.length ≤ 20000) (hw : Holds w (rcA r y R * (RAr X y A * F))) :
    Calls Try.prog 23 #[.pointer (some ⟨r, 0, none⟩)] w (RFreeC X r y R A F w) := by
  have HW := Lib.hid hw
  obtain ⟨v, vb, h0⟩ := rc_open hw
  obtain ⟨ao, cap, e1, hcap⟩ := rowA_slice (h0.eqv (star_left_comm _ _ _))
  subst e1
  have cs := rc_seen h0
  have x4 := cs.c4
  have xl := cs.lt
  obtain ⟨m, hm⟩ : ∃ q, R.l.length = q := ⟨_, rfl⟩
  rw [hm] at h9
  have HM := Lib.hid hm
  have H0 : Hid (Holds w (rls (.slice ao m cap) R.l * (rcH r y (.slice ao m cap) vb R * (rbs vb R.bytes * (RAr X y A * F))))) := by
    show Holds _ _
    rw [← hm]
    exact h0.eqv (star_left_comm _ _ _)
  clear hw h0 cs hcap hm
  cases hfr : R.freed with
  | true =>
    have HFR := Lib.hid hfr
    rw [hfr] at x4
    have EK : Hid (({ R with freed := true } : RCh) = R) := by show _ = _; rw [← hfr]
    clear hfr
    go_enter Try.func23, Try.ntmps23
    go_wp2_with fail
    go_ret
    refine ⟨by rw [HFR.out]; rfl, ?_, Sm.refl w⟩
    rw [EK.out, HFR.out]
    exact HW.out
  | false =>
    have HFR := Lib.hid hfr
    rw [hfr] at x4
    clear hfr HW
    go_enter Try.func23, Try.ntmps23
    go_wp2_with fail
    go_loopw [3] (fun x wl => ∃ q : Nat, q ≤ m ∧ x = .int .i64 q ∧ Hid (Holds wl (rls (.slice ao m cap) R.l * (rcH r y (.slice ao m cap) vb R * (rbs vb R.bytes * (RAr X y (dropsA A (R.l.take q)) * F))))) ∧ Hid (Sm w wl)) (fun x _ => m - (intOf x).toNat)
    case atStart => exact ⟨0, Nat.zero_le _, rfl, H0.out, Sm.refl w⟩
    case round =>
      clear H0 x4 xl
      obtain ⟨q, hq, rfl, H3, S3⟩ := hrel
      have cs := rc_seen (H3.out.eqv (star_left_comm _ _ _))
      have c0 := cs.c0
      have c1 := cs.c1
      have cl := cs.lt
      by_cases hqm : q < m
      · have hql : q < R.l.length := by rw [HM.out]; exact hqm
        obtain ⟨g, cap2, e1, -, hg, hrc, -⟩ := rowL_cell H3.out hEnc_len q hql
        simp at e1
        obtain ⟨hao, -⟩ := e1
        have ND : Hid (dropH (dropsA A (R.l.take q)) R.l[q] = dropsA A (R.l.take (q + 1))) := by
          show _ = _
          rw [List.take_succ_eq_append_getElem hql]
          unfold dropsA
          rw [List.foldl_append]; rfl
        have GC : Hid (∀ (wq : World) (G : Asr), Holds wq (rls (.slice (some ⟨g, 0, none⟩) m cap) R.l * G) → wq.cell? ⟨g, q * 3, none⟩ = some (.int .i64 R.l[q].1) ∧ wq.cell? ⟨g, q * 3 + 1, none⟩ = some (.int .i64 R.l[q].2.1) ∧ wq.cell? ⟨g, q * 3 + 2, none⟩ = some (.int .i64 R.l[q].2.2)) := by
          intro wq G h
          obtain ⟨g2, cap3, e2, -, -, hc2, -⟩ := rowL_cell h hEnc_len q hql
          simp at e2
          obtain ⟨rfl, -⟩ := e2
          exact ⟨hc2 0 (by omega), hc2 1 (by omega), hc2 2 (by omega)⟩
        obtain ⟨⟨h0, h1, h2⟩, hh⟩ : ∃ z, R.l[q] = z := ⟨_, rfl⟩
        rw [hh] at ND
        simp only [hh] at GC
        have DR := Lib.hid (fun (wq : World) (G : Asr) h => r_drop X y (dropsA A (R.l.take q)) G h0 h1 h2 wq h)
        have ND2 : Hid ((dropA (dropsA A (R.l.take q)) h0 h1 h2).A = dropsA A (R.l.take (q + 1))) := ND.out
        have j0 : (0 : Int) ≤ (q : Int) := by omega
        have j1 : (q : Int) < (m : Int) := by omega
        subst hao
        clear hrc hh cs ND
        obtain ⟨P, hP⟩ : ∃ z, rls (.slice (some ⟨g, 0, none⟩) m cap) R.l * (rcH r y (.slice (some ⟨g, 0, none⟩) m cap) vb R * (rbs vb R.bytes * F)) = z := ⟨_, rfl⟩
        have HXP : Hid (Holds wr (RAr X y (dropsA A (R.l.take q)) * P)) := by show Holds _ _; rw [← hP]; exact H3.out.eqv (by ac_rfl)
        have PS : Hid (∀ (wq : World) (G : Asr), Holds wq (G * P) → wq.cell? ⟨r, 0, none⟩ = some (.pointer (some ⟨y, 0, none⟩)) ∧ wq.cell? ⟨r, 1, none⟩ = some (.slice (some ⟨g, 0, none⟩) m cap) ∧ wq.cell? ⟨g, q * 3, none⟩ = some (.int .i64 h0) ∧ wq.cell? ⟨g, q * 3 + 1, none⟩ = some (.int .i64 h1) ∧ wq.cell? ⟨g, q * 3 + 2, none⟩ = some (.int .i64 h2)) := by
          intro wq G h
          rw [← hP] at h
          have hv := rc_seen (h.eqv (by ac_rfl : _ = rcH r y (.slice (some ⟨g, 0, none⟩) m cap) vb R * (G * (rls (.slice (some ⟨g, 0, none⟩) m cap) R.l * (rbs vb R.bytes * F)))))
          obtain ⟨a0, a1, a2⟩ := GC.out wq _ (h.eqv (star_left_comm _ _ _))
          exact ⟨hv.c0, hv.c1, a0, a1, a2⟩
        have BK : Hid (∀ (wq : World) (A4 : List (List ABlk)), Holds wq (RAr X y A4 * P) → Holds wq (rls (.slice (some ⟨g, 0, none⟩) m cap) R.l * (rcH r y (.slice (some ⟨g, 0, none⟩) m cap) vb R * (rbs vb R.bytes * (RAr X y A4 * F))))) := by
          intro wq A4 h
          rw [← hP] at h
          exact h.eqv (by ac_rfl)
        have zz := PS.out wr _ HXP.out
        have S4 := Lib.hid S3.out
        clear hP H3 S3 GC
        go_upto_region 6 with (fail)
        go_region_held3 (fun w' => w'.cell? ⟨r, 0, none⟩ = some (.pointer (some ⟨y, 0, none⟩)) ∧ w'.cell? ⟨r, 1, none⟩ = some (.slice (some ⟨g, 0, none⟩) m cap) ∧ w'.cell? ⟨g, q * 3, none⟩ = some (.int .i64 h0) ∧ w'.cell? ⟨g, q * 3 + 1, none⟩ = some (.int .i64 h1) ∧ w'.cell? ⟨g, q * 3 + 2, none⟩ = some (.int .i64 h2)) (first | exact x2 | exact zz | go_keep) (first | (go_at_call 52; refine (DR.out _ P ?_).mono ?_; (exact HXP.out); rintro e w2 ⟨rfl, h2', s2⟩; have x2 := PS.out w2 _ h2'; have H2 := Lib.hid (BK.out w2 _ h2'); have S2 := Lib.hid (S4.out.drew.trans s2); clear h2' s2))
        rw [ND2.out] at H2
        go_wp2_with fail
        go_roundw
        case rel => exact ⟨q + 1, by omega, by go_num, H2.out, S2.out⟩
        case measure => simp [intOf]; omega
      · obtain rfl : m = q := by omega
        have ET : Hid (dropsA A (R.l.take m) = dropsA A R.l) := by show _ = _; rw [List.take_of_length_le (by rw [HM.out]; exact Nat.le_refl _)]
        rw [ET.out] at H3
        have hc := H3.out.eqv (star_left_comm _ _ _)
        have c4 := cs.c4
        have cf := hc.frozen 4
        have hst := Holds.store hc 4 (.bool true)
        have HST := Lib.hid hst
        clear hc cs hst ET
        go_wp2_with fail
        go_ret
        refine ⟨by rw [HFR.out]; rfl, ?_, S3.out.setCell _ _⟩
        rw [HFR.out]
        exact rc_shut (v := .slice ao m cap) (vb := vb) (R := { R with freed := true }) HST.out
#print axioms rfree_calls
end Go.Proofs.Ytefcinifaaablaa.Chain
