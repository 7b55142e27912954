/-
  Layer 16: Share.
-/
import Derived.Test.YtefcinifaaablaaChain4
import Derived.Test.YtefcinifaaablaaChainLen
namespace Go.Proofs.Ytefcinifaaablaa.Chain
open Go.RowKit Go.Sep
open Go.Proofs.Ytefcinifaaablaa.Slab (szOf szN szN_val clsFor Ar hdl hdlV ABlk allocA dropA holdA writeA readA Took Src u8s)
set_option maxRecDepth 100000
set_option linter.unusedVariables false
set_option linter.unusedSimpArgs false

def holdH (A : List (List ABlk)) (h : Hd) : List (List ABlk) := (holdA A h.1 h.2.1 h.2.2).A
def holdsA (A : List (List ABlk)) (l : List Hd) : List (List ABlk) := l.foldl holdH A
def ShareC (c a : Nat) (K : Ch) (A : List (List ABlk)) (F : Asr) (w : World) (e : Ending) (w' : World) : Prop :=
  if K.freed then e = .returned (.tuple #[.pointer none, .int .i64 16]) ∧ Holds w' (chA c a K * (Ar a A * F)) ∧ Sm w w'
  else ∃ o, e = .returned (.tuple #[.pointer (some ⟨o, 0, none⟩), .int .i64 0]) ∧ Holds w' (chA o a { K with shared := true } * (chA c a { K with shared := true } * (Ar a (holdsA A K.l) * F))) ∧ Sm w w'
theorem run_append_no (g : Nat) (ty : TypeId) (w : World) (hg : w.heap[g]? = some (.cells #[] 106 (0, 0))) : (Builtin.append_ #[100, 100] ty #[.slice (some ⟨g, 0, none⟩) 0 0, .slice none 0 0]).run Try.prog w = .ok (.slice (some ⟨g, 0, none⟩) 0 0) w := by
  obtain ⟨i, hi, hz, hs, hb⟩ := info_parts (P := Try.prog) (e := 106) infoH
  simp [Builtin.append_, run_underlying Try.underlying100, sizeOf, typeInfo, hi, Builtin.lenOf, Builtin.firstCells, loadCells, loadCellsFrom, storeCells]
set_option maxHeartbeats 4000000 in
theorem share_calls (c a : Nat) (K : Ch) (A : List (List ABlk)) (F : Asr) (w : World) (h9 : K.l.length ≤ 20000) (hw : Holds w (chA c a K * (Ar a A * F))) :
    Calls Try.prog 20 #[.pointer (some ⟨c, 0, none⟩)] w (ShareC c a K A F w) := by
  have ST := Lib.hid (state_calls c a K A F w hw)
  have HW := Lib.hid hw
  clear hw
  cases hfr : K.freed with
  | true =>
    unfold stateE at ST
    rw [hfr] at ST
    have HFR := Lib.hid hfr
    clear hfr
    go_enter Try.func20, Try.ntmps20
    go_wp2_with fail
    refine (ST.out).mono ?_
    rintro e w1 ⟨rfl, hb1⟩
    go_wp2_with fail
    go_ret2
    unfold ShareC
    rw [if_pos HFR.out]
    exact ⟨rfl, HW.out.grow hb1, .of_below hb1⟩
  | false =>
    unfold stateE at ST
    rw [hfr] at ST
    have HFR := Lib.hid hfr
    obtain ⟨m, hm⟩ : ∃ q, K.l.length = q := ⟨_, rfl⟩
    rw [hm] at h9
    have HM := Lib.hid hm
    clear hfr hm
    go_enter Try.func20, Try.ntmps20
    go_wp2_with fail
    refine (ST.out).mono ?_
    rintro e w1 ⟨rfl, hb1⟩
    have H1 := HW.out.grow hb1
    have S1 : Hid (Sm w w1) := .of_below hb1
    obtain ⟨v, h1⟩ := ch_open H1
    obtain ⟨ao, cap, e1, hcap⟩ := rowA_slice (h1.eqv (star_left_comm _ _ _))
    subst e1
    have hst := Holds.store h1 4 (.bool true)
    have H2 : Hid (Holds (w1.setCell ⟨c, 4, none⟩ (.bool true)) (chH c a (.slice ao K.l.length cap) { K with shared := true } * (hls (.slice ao K.l.length cap) K.l * (Ar a A * F)))) := hst
    have S2 : Hid (Sm w (w1.setCell ⟨c, 4, none⟩ (.bool true))) := S1.out.setCell _ _
    have cs0 := ch_seen h1
    have xl0 := cs0.lt
    have xf0 := cs0.f 4
    have xv0 := cs0.c4
    clear hb1 ST HW H1 h1 cs0 hst S1
    go_upto_region 5 with (fail)
    obtain ⟨W2, hW2⟩ : ∃ q, w1.setCell ⟨c, 4, none⟩ (.bool true) = q := ⟨_, rfl⟩
    rw [hW2] at H2 S2 ⊢
    have cs := ch_seen H2.out
    have x0 := cs.c0
    have x1 := cs.c1
    have x2 := cs.c2
    have x3 := cs.c3
    have x4 := cs.c4
    have x5 := cs.c5
    have xl := cs.lt
    rw [HM.out] at x1 hcap H2
    simp only at x2 x3 x4 x5
    clear cs hW2 xl0 xf0 xv0
    have HO := H2.out.alloc (.cells #[.pointer (some ⟨a, 0, none⟩), .slice ao m cap, .int .i64 K.long, .int .i64 K.charge, .bool true, .bool K.freed] 102)
    obtain ⟨O, hO⟩ : ∃ q, W2.heap.size = q := ⟨_, rfl⟩
    have HO2 := HO.alloc (.cells #[] 106)
    rw [World.size_alloc, hO] at HO2
    have SO : Hid (Sm w ((W2.alloc (.cells #[.pointer (some ⟨a, 0, none⟩), .slice ao m cap, .int .i64 K.long, .int .i64 K.charge, .bool true, .bool K.freed] 102)).alloc (.cells #[] 106))) := (S2.out.alloc _).alloc _
    have xo1 : ((W2.alloc (.cells #[.pointer (some ⟨a, 0, none⟩), .slice ao m cap, .int .i64 K.long, .int .i64 K.charge, .bool true, .bool K.freed] 102)).alloc (.cells #[] 106)).cell? ⟨c, 1, none⟩ = some (.slice ao m cap) := (World.cell?_alloc_lt _ _ _ (by simp; omega)).trans ((World.cell?_alloc_lt _ _ _ xl).trans x1)
    have HE := Lib.hid (show Holds _ (rowA 106 3 (.slice (some ⟨O + 1, 0, none⟩) 0 0) 0 [] * _) from rowA_mk' HO2 (Nat.le_refl _) (Nat.zero_le _) rfl rfl)
    have HH := Lib.hid HO2
    have xlo : c < W2.heap.size + 1 + 1 := by omega
    clear HO HO2
    go_upto_region 6 with (fail)
    have x0 := x0
    go_cut [] (fun wc => ∃ (ao' : Option Addr) (cap' : Nat), Hid (Holds wc (hls (.slice ao' m cap') K.l * (chH O a (.slice ao' m cap') { K with shared := true } * (chA c a { K with shared := true } * (Ar a A * F))))) ∧ Hid (Sm w wc))
    case first =>
      have HROW := Lib.hid (HH.out.eqv (by ac_rfl : _ = hls (.slice ao m cap) K.l * (pts (O + 1) (.cells #[] 106) * (pts O (.cells #[.pointer (some ⟨a, 0, none⟩), .slice ao m cap, .int .i64 K.long, .int .i64 K.charge, .bool true, .bool K.freed] 102) * (chH c a (.slice ao m cap) { K with shared := true } * (Ar a A * F))))))
      have CAS := (rowA_cases HROW.out).2
      have BK : Hid (∀ (wq : World) (ao' : Option Addr) (cap' : Nat), Holds wq (hls (.slice ao' m cap') K.l * (pts O (.cells #[.pointer (some ⟨a, 0, none⟩), .slice ao' m cap', .int .i64 K.long, .int .i64 K.charge, .bool true, .bool K.freed] 102) * (chH c a (.slice ao m cap) { K with shared := true } * (hls (.slice ao m cap) K.l * (Ar a A * F))))) → Holds wq (hls (.slice ao' m cap') K.l * (chH O a (.slice ao' m cap') { K with shared := true } * (chA c a { K with shared := true } * (Ar a A * F))))) := by
        intro wq ao' cap' h
        have h2 := h.eqv (by ac_rfl : _ = chH c a (.slice ao m cap) { K with shared := true } * (hls (.slice ao m cap) K.l * (hls (.slice ao' m cap') K.l * (pts O (.cells #[.pointer (some ⟨a, 0, none⟩), .slice ao' m cap', .int .i64 K.long, .int .i64 K.charge, .bool true, .bool K.freed] 102) * (Ar a A * F)))))
        exact (ch_shut h2).eqv (by unfold chH; ac_rfl)
      have NEWS : Hid (∀ (g : Nat), ao = some ⟨g, 0, none⟩ → ∀ j u, (K.l.flatMap hEnc)[j]? = some u → ((W2.alloc (.cells #[.pointer (some ⟨a, 0, none⟩), .slice ao m cap, .int .i64 K.long, .int .i64 K.charge, .bool true, .bool K.freed] 102)).alloc (.cells #[] 106)).cell? ((⟨g, 0, none⟩ : Addr).add j) = some u) := by
        intro g hg j u hu
        subst hg
        have hl : (K.l.flatMap hEnc).length = m * 3 := by rw [← HM.out]; exact (rowA_cases HROW.out).1
        have hj : j < (K.l.flatMap hEnc).length := (List.getElem?_eq_some_iff.1 hu).1
        obtain ⟨g2, cap2, e2, -, -, hc, -⟩ := rowA_cell HROW.out (by rw [HM.out]; omega)
        simp at e2
        obtain ⟨rfl, -⟩ := e2
        rw [Addr.add_lit, Nat.zero_add, hc j (by rw [HM.out]; omega)]
        exact hu
      have ON : Hid (∀ u ∈ K.l.flatMap hEnc, u.oneCell' = true) := by
        intro u hu
        obtain ⟨x, -, hx⟩ := List.mem_flatMap.1 hu
        simp only [hEnc, List.mem_cons, List.not_mem_nil, or_false] at hx
        rcases hx with rfl | rfl | rfl <;> rfl
      have HL : Hid ((K.l.flatMap hEnc).length = m * 3) := by
        show _ = _
        rw [← HM.out]
        exact (rowA_cases HROW.out).1
      rcases CAS with ⟨e1, e2, -⟩ | ⟨g, cap2, cur, e1, -⟩
      · rw [HM.out] at e2
        subst e2
        simp only [Value.slice.injEq] at e1
        obtain ⟨rfl, -, rfl⟩ := e1
        have RN := Lib.hid (fun ty => run_append_no (O + 1) ty _ (HH.out.at))
        have hn := (H2.out.alloc (.cells #[.pointer (some ⟨a, 0, none⟩), .slice (some ⟨O + 1, 0, none⟩) 0 0, .int .i64 K.long, .int .i64 K.charge, .bool true, .bool K.freed] 102)).alloc (.cells #[] 106)
        rw [World.size_alloc, hO] at hn
        have hnil : K.l = [] := List.eq_nil_of_length_eq_zero HM.out
        have hrow : Holds _ (rowA 106 3 (.slice (some ⟨O + 1, 0, none⟩) 0 0) 0 [] * _) := rowA_mk' hn (Nat.le_refl _) (Nat.zero_le _) rfl rfl
        have hls0 : hls (.slice (some ⟨O + 1, 0, none⟩) 0 0) K.l = rowA 106 3 (.slice (some ⟨O + 1, 0, none⟩) 0 0) 0 [] := by rw [hnil]; rfl
        have HN := Lib.hid (BK.out _ (some ⟨O + 1, 0, none⟩) 0 (by rw [hls0]; exact hrow))
        have SN : Hid (Sm w ((W2.alloc (.cells #[.pointer (some ⟨a, 0, none⟩), .slice (some ⟨O + 1, 0, none⟩) 0 0, .int .i64 K.long, .int .i64 K.charge, .bool true, .bool K.freed] 102)).alloc (.cells #[] 106))) := (S2.out.alloc _).alloc _
        clear HE BK NEWS ON HL hn hnil hrow hls0
        go_wp2_with (at_builtin; refine wpList_append_run rfl _ _ _ rfl _ _ (RN.out _) ?_)
        go_meet
        case rel => exact ⟨some ⟨O + 1, 0, none⟩, 0, HN.out, SN.out⟩
      · simp only [Value.slice.injEq] at e1
        obtain ⟨e1, -, rfl⟩ := e1
        have NW := Lib.hid (NEWS.out g e1)
        subst e1
        have N1 : Hid (0 + m ≤ maxLen) := by show _ ≤ _; unfold maxLen; omega
        have N2 : Hid ((0 + m) * 24 ≤ 140737488355328) := by show _ ≤ _; omega
        clear HH HROW NEWS
        go_wp2_with (at_builtin; refine wpList_append_sep rfl _ _ 100 rfl 106 (.agg #[.int .i64 0, .int .i64 0, .int .i64 0]) 3 24 Try.underlying100 infoH rfl rfl HE.out ⟨g, 0, none⟩ m _ (K.l.flatMap hEnc) rfl HL.out NW.out ON.out N1.out N2.out ?_)
        intro v' w' h' s' hx
        clear hx
        obtain ⟨ao', cap', hv', -⟩ := rowA_slice h'
        subst hv'
        have hs := h'.eqv (star_left_comm _ _ _)
        have oc1 := hs.cell 1
        have olt := hs.lt
        have ofz := hs.frozen 1
        have hst := hs.store 1 (.slice ao' (0 + m) cap')
        simp at oc1
        have h3 := hst.eqv (star_left_comm _ _ _)
        simp only [Nat.zero_add, List.nil_append] at h3
        have eh : hls (.slice ao' m cap') K.l = rowA 106 3 (.slice ao' m cap') m (K.l.flatMap hEnc) := by unfold hls rowL; rw [HM.out]
        have HN := Lib.hid (BK.out _ ao' cap' (by rw [eh]; exact h3))
        have SN : Hid (Sm w (w'.setCell ⟨O, 1, none⟩ (.slice ao' m cap'))) := (SO.out.trans s').setCell _ _
        clear h' s' hs hst h3 eh HE BK NW ON HL
        go_wp2_with fail
        go_meet
        case rel => exact ⟨ao', cap', HN.out, SN.out⟩
    case rest =>
      obtain ⟨ao', cap', H4, S4⟩ := hcut
      clear HE HH SO H2 S2 x0 x1 x2 x3 x4 x5 xo1 xlo xl
      have ho := H4.out.eqv (star_left_comm _ _ _)
      have cs := ch_seen ho
      have x1 := cs.c1
      have xl := cs.lt
      clear ho cs
      go_wp2_with fail
      go_loopw [29] (fun x wl => ∃ q : Nat, q ≤ m ∧ x = .int .i64 q ∧ Hid (Holds wl (hls (.slice ao' m cap') K.l * (chH O a (.slice ao' m cap') { K with shared := true } * (chA c a { K with shared := true } * (Ar a (holdsA A (K.l.take q)) * F))))) ∧ Hid (Sm w wl)) (fun x _ => m - (intOf x).toNat)
      case atStart => exact ⟨0, Nat.zero_le _, rfl, H4.out, S4.out⟩
      case round =>
        clear H4 S4 x1 xl
        obtain ⟨q, hq, rfl, H3, S3⟩ := hrel
        by_cases hqm : q < m
        · have hql : q < K.l.length := by rw [HM.out]; exact hqm
          obtain ⟨g, cap2, e1, -, hg, hrc, -⟩ := rowL_cell H3.out hEnc_len q hql
          simp at e1
          obtain ⟨hao, -⟩ := e1
          have k0 := hrc 0 (by omega)
          have k1 := hrc 1 (by omega)
          have k2 := hrc 2 (by omega)
          have ND : Hid (holdH (holdsA A (K.l.take q)) K.l[q] = holdsA A (K.l.take (q + 1))) := by
            show _ = _
            rw [List.take_succ_eq_append_getElem hql]
            unfold holdsA
            rw [List.foldl_append]; rfl
          obtain ⟨⟨h0, h1, h2⟩, hh⟩ : ∃ z, K.l[q] = z := ⟨_, rfl⟩
          rw [hh] at k0 k1 k2 ND
          simp only [hEnc, Nat.add_zero, List.getElem?_cons_zero, List.getElem?_cons_succ] at k0 k1 k2
          have DR := Lib.hid (fun (wq : World) (G : Asr) h => Slab.holdA_calls a (holdsA A (K.l.take q)) G h0 h1 h2 wq h)
          have ND2 : Hid ((Slab.holdA (holdsA A (K.l.take q)) h0 h1 h2).A = holdsA A (K.l.take (q + 1))) := ND.out
          obtain ⟨vc, cs⟩ := chA_seen (H3.out.eqv (by ac_rfl : _ = chA c a { K with shared := true } * (hls (.slice ao' m cap') K.l * (chH O a (.slice ao' m cap') { K with shared := true } * (Ar a (holdsA A (K.l.take q)) * F)))))
          have c0 := cs.c0
          have cl := cs.lt
          have HX := Lib.hid (H3.out.alloc (.cells #[.int .i64 h0, .int .i64 h1, .int .i64 h2] 106))
          obtain ⟨B8, hB8⟩ : ∃ z, wr.heap.size = z := ⟨_, rfl⟩
          have j0 : (0 : Int) ≤ (q : Int) := by omega
          have j1 : (q : Int) < (m : Int) := by omega
          subst hao
          clear hrc hh cs ND
          simp only [hdl] at DR
          go_upto_region 10 with (fail)
          have S4 := Lib.hid (S3.out.alloc (.cells #[.int .i64 h0, .int .i64 h1, .int .i64 h2] 106))
          obtain ⟨W1, hW1⟩ : ∃ z, wr.alloc (.cells #[.int .i64 h0, .int .i64 h1, .int .i64 h2] 106) = z := ⟨_, rfl⟩
          rw [hB8] at HX
          rw [hW1] at HX S4 ⊢
          obtain ⟨P, hP⟩ : ∃ z, pts B8 (.cells #[.int .i64 h0, .int .i64 h1, .int .i64 h2] 106) * (hls (.slice (some ⟨g, 0, none⟩) m cap') K.l * (chH O a (.slice (some ⟨g, 0, none⟩) m cap') { K with shared := true } * (chA c a { K with shared := true } * F))) = z := ⟨_, rfl⟩
          have HXP : Hid (Holds W1 (Ar a (holdsA A (K.l.take q)) * P)) := by show Holds _ _; rw [← hP]; exact HX.out.eqv (by ac_rfl)
          have PS : Hid (∀ (wq : World) (G : Asr), Holds wq (G * P) → wq.cell? ⟨c, 0, none⟩ = some (.pointer (some ⟨a, 0, none⟩)) ∧ wq.cell? ⟨B8, 0, none⟩ = some (.int .i64 h0) ∧ wq.cell? ⟨B8, 1, none⟩ = some (.int .i64 h1) ∧ wq.cell? ⟨B8, 2, none⟩ = some (.int .i64 h2)) := by
            intro wq G h
            rw [← hP] at h
            obtain ⟨vq, hv⟩ := chA_seen (h.eqv (by ac_rfl : _ = chA c a { K with shared := true } * (G * (pts B8 (.cells #[.int .i64 h0, .int .i64 h1, .int .i64 h2] 106) * (hls (.slice (some ⟨g, 0, none⟩) m cap') K.l * (chH O a (.slice (some ⟨g, 0, none⟩) m cap') { K with shared := true } * F))))))
            have hz := h.eqv (star_left_comm _ _ _)
            have a0 := hz.cell 0
            have a1 := hz.cell 1
            have a2 := hz.cell 2
            simp at a0 a1 a2
            exact ⟨hv.c0, a0, a1, a2⟩
          have BK : Hid (∀ (wq : World) (A4 : List (List ABlk)), Holds wq (Ar a A4 * P) → Holds wq (hls (.slice (some ⟨g, 0, none⟩) m cap') K.l * (chH O a (.slice (some ⟨g, 0, none⟩) m cap') { K with shared := true } * (chA c a { K with shared := true } * (Ar a A4 * F))))) := by
            intro wq A4 h
            rw [← hP] at h
            exact (h.eqv (by ac_rfl : _ = pts B8 (.cells #[.int .i64 h0, .int .i64 h1, .int .i64 h2] 106) * (hls (.slice (some ⟨g, 0, none⟩) m cap') K.l * (chH O a (.slice (some ⟨g, 0, none⟩) m cap') { K with shared := true } * (chA c a { K with shared := true } * (Ar a A4 * F)))))).right
          have zz := PS.out W1 _ HXP.out
          clear hP hW1 hB8 HX H3 S3
          go_region_held3 (fun w' => w'.cell? ⟨c, 0, none⟩ = some (.pointer (some ⟨a, 0, none⟩)) ∧ w'.cell? ⟨B8, 0, none⟩ = some (.int .i64 h0) ∧ w'.cell? ⟨B8, 1, none⟩ = some (.int .i64 h1) ∧ w'.cell? ⟨B8, 2, none⟩ = some (.int .i64 h2)) (first | exact x2 | exact zz | go_keep) (first | (go_at_call 54; refine (DR.out _ P ?_).mono ?_; (exact HXP.out); rintro e w2 ⟨rfl, h2', s2⟩; have x2 := PS.out w2 _ h2'; have H2 := Lib.hid (BK.out w2 _ h2'); have S2 := Lib.hid (S4.out.drew.trans s2); clear h2' s2))
          rw [ND2.out] at H2
          go_wp2_with fail
          go_roundw
          case rel => exact ⟨q + 1, by omega, by go_num, H2.out, S2.out⟩
          case measure => simp [intOf]; omega
        · obtain rfl : m = q := by omega
          have ET : Hid (holdsA A (K.l.take m) = holdsA A K.l) := by show _ = _; rw [List.take_of_length_le (by rw [HM.out]; exact Nat.le_refl _)]
          rw [ET.out] at H3
          clear ET
          go_wp2_with fail
          go_ret2
          unfold ShareC
          rw [if_neg (by rw [HFR.out]; simp)]
          refine ⟨O, rfl, ?_, S3.out⟩
          have h3 := H3.out.eqv (star_left_comm _ _ _)
          exact ch_shut (v := .slice ao' m cap') (K := { K with shared := true }) h3
#print axioms share_calls
end Go.Proofs.Ytefcinifaaablaa.Chain
