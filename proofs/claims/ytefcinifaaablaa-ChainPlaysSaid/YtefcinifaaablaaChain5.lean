/-
  Layer 16: Free.
-/
import Derived.Test.YtefcinifaaablaaChain4
import Derived.Test.YtefcinifaaablaaChainLen
namespace Go.Proofs.Ytefcinifaaablaa.Chain
open Go.RowKit Go.Sep
open Go.Proofs.Ytefcinifaaablaa.Slab (szOf szN szN_val clsFor Ar hdl hdlV ABlk allocA dropA holdA writeA readA Took Src u8s)
set_option maxRecDepth 100000
set_option linter.unusedVariables false
set_option linter.unusedSimpArgs false

def freeE (K : Ch) : Int := if K.freed then 16 else 0
def freeC (A : List (List ABlk)) (K : Ch) : List (List ABlk) := if K.freed then A else dropsA A K.l
def FreeC (c a : Nat) (K : Ch) (A : List (List ABlk)) (F : Asr) (w : World) (e : Ending) (w' : World) : Prop :=
  e = .returned (.int .i64 (freeE K)) ∧ Holds w' (chA c a { K with freed := true } * (Ar a (freeC A K) * F)) ∧ Sm w w'
set_option maxHeartbeats 4000000 in
theorem free_calls (c a : Nat) (K : Ch) (A : List (List ABlk)) (F : Asr) (w : World) (h9 : K.l.length ≤ 20000) (hw : Holds w (chA c a K * (Ar a A * F))) :
    Calls Try.prog 22 #[.pointer (some ⟨c, 0, none⟩)] w (FreeC c a K A F w) := by
  have ST := Lib.hid (state_calls c a K A F w hw)
  have HW := Lib.hid hw
  clear hw
  cases hfr : K.freed with
  | true =>
    unfold stateE at ST
    rw [hfr] at ST
    have EK : Hid (({ K with freed := true } : Ch) = K) := by show _ = _; rw [← hfr]
    have HFR := Lib.hid hfr
    clear hfr
    go_enter Try.func22, Try.ntmps22
    go_wp2_with fail
    refine (ST.out).mono ?_
    rintro e w1 ⟨rfl, hb1⟩
    go_wp2_with fail
    go_ret
    refine ⟨by unfold freeE; rw [HFR.out]; rfl, ?_, .of_below hb1⟩
    rw [EK.out]
    unfold freeC
    rw [HFR.out]
    exact HW.out.grow hb1
  | false =>
    unfold stateE at ST
    rw [hfr] at ST
    have HFR := Lib.hid hfr
    obtain ⟨m, hm⟩ : ∃ q, K.l.length = q := ⟨_, rfl⟩
    rw [hm] at h9
    have HM := Lib.hid hm
    clear hfr hm
    go_enter Try.func22, Try.ntmps22
    go_wp2_with fail
    refine (ST.out).mono ?_
    rintro e w1 ⟨rfl, hb1⟩
    have H1 := HW.out.grow hb1
    have S1 : Hid (Sm w w1) := .of_below hb1
    obtain ⟨v, h1⟩ := ch_open H1
    obtain ⟨ao, cap, e1, hcap⟩ := rowA_slice (h1.eqv (star_left_comm _ _ _))
    subst e1
    have H2 := Lib.hid h1
    have cs := ch_seen h1
    have x1 := cs.c1
    have xl := cs.lt
    rw [HM.out] at x1 hcap
    clear hb1 ST HW H1 h1 cs
    go_wp2_with fail
    go_loopw [16] (fun x wl => ∃ q : Nat, q ≤ m ∧ x = .int .i64 q ∧ Hid (Holds wl (hls (.slice ao m cap) K.l * (chH c a (.slice ao m cap) K * (Ar a (dropsA A (K.l.take q)) * F)))) ∧ Hid (Sm w wl)) (fun x _ => m - (intOf x).toNat)
    case atStart => exact ⟨0, Nat.zero_le _, rfl, (show Holds _ _ by have := H2.out.eqv (star_left_comm _ _ _); rw [HM.out] at this; exact this), S1.out⟩
    case round =>
      clear H2 S1 x1 xl
      obtain ⟨q, hq, rfl, H3, S3⟩ := hrel
      by_cases hqm : q < m
      · have hql : q < K.l.length := by rw [HM.out]; exact hqm
        obtain ⟨g, cap2, e1, -, hg, hrc, -⟩ := rowL_cell H3.out hEnc_len q hql
        simp at e1
        obtain ⟨hao, -⟩ := e1
        have k0 := hrc 0 (by omega)
        have k1 := hrc 1 (by omega)
        have k2 := hrc 2 (by omega)
        have ND : Hid (dropH (dropsA A (K.l.take q)) K.l[q] = dropsA A (K.l.take (q + 1))) := by
          show _ = _
          rw [List.take_succ_eq_append_getElem hql]
          unfold dropsA
          rw [List.foldl_append]; rfl
        obtain ⟨⟨h0, h1, h2⟩, hh⟩ : ∃ z, K.l[q] = z := ⟨_, rfl⟩
        rw [hh] at k0 k1 k2 ND
        simp only [hEnc, Nat.add_zero, List.getElem?_cons_zero, List.getElem?_cons_succ] at k0 k1 k2
        have DR := Lib.hid (fun (wq : World) (G : Asr) h => Slab.dropA_calls a (dropsA A (K.l.take q)) G h0 h1 h2 wq h)
        have ND2 : Hid ((Slab.dropA (dropsA A (K.l.take q)) h0 h1 h2).A = dropsA A (K.l.take (q + 1))) := ND.out
        have cs := ch_seen (H3.out.eqv (star_left_comm _ _ _))
        have c0 := cs.c0
        have cl := cs.lt
        have HX := Lib.hid (H3.out.alloc (.cells #[.int .i64 h0, .int .i64 h1, .int .i64 h2] 106))
        obtain ⟨B8, hB8⟩ : ∃ z, wr.heap.size = z := ⟨_, rfl⟩
        have j0 : (0 : Int) ≤ (q : Int) := by omega
        have j1 : (q : Int) < (m : Int) := by omega
        subst hao
        clear hrc hh cs ND
        simp only [hdl] at DR
        go_upto_region 7 with (fail)
        have S4 := Lib.hid (S3.out.alloc (.cells #[.int .i64 h0, .int .i64 h1, .int .i64 h2] 106))
        obtain ⟨W1, hW1⟩ : ∃ z, wr.alloc (.cells #[.int .i64 h0, .int .i64 h1, .int .i64 h2] 106) = z := ⟨_, rfl⟩
        rw [hB8] at HX
        rw [hW1] at HX S4 ⊢
        obtain ⟨P, hP⟩ : ∃ z, pts B8 (.cells #[.int .i64 h0, .int .i64 h1, .int .i64 h2] 106) * (hls (.slice (some ⟨g, 0, none⟩) m cap) K.l * (chH c a (.slice (some ⟨g, 0, none⟩) m cap) K * F)) = z := ⟨_, rfl⟩
        have HXP : Hid (Holds W1 (Ar a (dropsA A (K.l.take q)) * P)) := by show Holds _ _; rw [← hP]; exact HX.out.eqv (by ac_rfl)
        have PS : Hid (∀ (wq : World) (G : Asr), Holds wq (G * P) → wq.cell? ⟨c, 0, none⟩ = some (.pointer (some ⟨a, 0, none⟩)) ∧ wq.cell? ⟨B8, 0, none⟩ = some (.int .i64 h0) ∧ wq.cell? ⟨B8, 1, none⟩ = some (.int .i64 h1) ∧ wq.cell? ⟨B8, 2, none⟩ = some (.int .i64 h2)) := by
          intro wq G h
          rw [← hP] at h
          have hv := ch_seen (h.eqv (by ac_rfl : _ = chH c a (.slice (some ⟨g, 0, none⟩) m cap) K * (G * (pts B8 (.cells #[.int .i64 h0, .int .i64 h1, .int .i64 h2] 106) * (hls (.slice (some ⟨g, 0, none⟩) m cap) K.l * F)))))
          have hz := h.eqv (star_left_comm _ _ _)
          have a0 := hz.cell 0
          have a1 := hz.cell 1
          have a2 := hz.cell 2
          simp at a0 a1 a2
          exact ⟨hv.c0, a0, a1, a2⟩
        have BK : Hid (∀ (wq : World) (A4 : List (List ABlk)), Holds wq (Ar a A4 * P) → Holds wq (hls (.slice (some ⟨g, 0, none⟩) m cap) K.l * (chH c a (.slice (some ⟨g, 0, none⟩) m cap) K * (Ar a A4 * F)))) := by
          intro wq A4 h
          rw [← hP] at h
          exact (h.eqv (by ac_rfl : _ = pts B8 (.cells #[.int .i64 h0, .int .i64 h1, .int .i64 h2] 106) * (hls (.slice (some ⟨g, 0, none⟩) m cap) K.l * (chH c a (.slice (some ⟨g, 0, none⟩) m cap) K * (Ar a A4 * F))))).right
        have zz := PS.out W1 _ HXP.out
        clear hP hW1 hB8 HX H3 S3
        go_region_held3 (fun w' => w'.cell? ⟨c, 0, none⟩ = some (.pointer (some ⟨a, 0, none⟩)) ∧ w'.cell? ⟨B8, 0, none⟩ = some (.int .i64 h0) ∧ w'.cell? ⟨B8, 1, none⟩ = some (.int .i64 h1) ∧ w'.cell? ⟨B8, 2, none⟩ = some (.int .i64 h2)) (first | exact x2 | exact zz | go_keep) (first | (go_at_call 56; refine (DR.out _ P ?_).mono ?_; (exact HXP.out); rintro e w2 ⟨rfl, h2', s2⟩; have x2 := PS.out w2 _ h2'; have H2 := Lib.hid (BK.out w2 _ h2'); have S2 := Lib.hid (S4.out.drew.trans s2); clear h2' s2))
        rw [ND2.out] at H2
        go_wp2_with fail
        go_roundw
        case rel => exact ⟨q + 1, by omega, by go_num, H2.out, S2.out⟩
        case measure => simp [intOf]; omega
      · obtain rfl : m = q := by omega
        have ET : Hid (dropsA A (K.l.take m) = dropsA A K.l) := by show _ = _; rw [List.take_of_length_le (by rw [HM.out]; exact Nat.le_refl _)]
        rw [ET.out] at H3
        have hc := H3.out.eqv (star_left_comm _ _ _)
        have cs := ch_seen hc
        have cl := cs.lt
        have cv := cs.c5
        have cf := hc.frozen 5
        have hst := Holds.store hc 5 (.bool true)
        have HST := Lib.hid hst
        clear hc cs hst ET
        go_wp2_with fail
        go_ret
        refine ⟨by unfold freeE; rw [HFR.out]; rfl, ?_, S3.out.setCell _ _⟩
        unfold freeC
        rw [HFR.out]
        have hx := HST.out
        rw [← HM.out] at hx
        exact ch_shut (v := .slice ao K.l.length cap) (K := { K with freed := true }) hx
#print axioms free_calls
end Go.Proofs.Ytefcinifaaablaa.Chain
