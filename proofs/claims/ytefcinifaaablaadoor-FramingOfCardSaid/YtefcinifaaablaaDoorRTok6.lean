/-
  The document's layers 4 and 6: Names, length.
-/
import Derived.Test.YtefcinifaaablaaDoorRTok5
import Derived.Test.YtefcinifaaablaaDoorSameP
namespace Go.Proofs.YtefcinifaaablaaDoor.Tok
open Go.RowKit Go.Sep
set_option maxRecDepth 100000
set_option linter.unusedVariables false
set_option linter.unusedSimpArgs false

set_option maxHeartbeats 8000000 in
theorem rnames_calls (ao : Option Addr) (n cap : Nat) (fs : List (ByteArray × ByteArray)) (name : ByteArray) (hn : name.size ≤ 1048576) (w : World) (hF : Fds w ao n fs) (hO : FdOk fs) :
    Calls Tryd.prog 25 #[.slice ao n cap, .string name] w (NamesC (namesL name fs) w) := by
  have GC := Lib.hid (rget_calls ao n cap fs name w hF hO.nm hn (by have := hF.len; have := hO.n; omega) (by have := hO.j name; omega))
  have HJ := Lib.hid (hO.j name)
  have HL : Hid (namesL name fs = (splitL (joinL (getV name fs))).bind fun ws => if (ws.all isL) = true then some (ws.map lowL) else none) := rfl
  obtain ⟨R, hR⟩ : ∃ q, namesL name fs = q := ⟨_, rfl⟩
  rw [hR] at HL ⊢
  obtain ⟨vn, hvn⟩ : ∃ q, (getV name fs).length = q := ⟨_, rfl⟩
  rw [hvn] at GC
  obtain ⟨J, hJ⟩ : ∃ q, joinL (getV name fs) = q := ⟨_, rfl⟩
  rw [hJ] at GC HL HJ
  have SPC := Lib.hid (fun (wq : World) (F : Asr) h => rsplit_calls (sb J) (by rw [sb_size]; have := HJ.out; omega) F wq h)
  unfold SplitC at SPC
  rw [bl_sb] at SPC
  clear hF hO hR hvn hJ
  cases hsp : splitL J with
  | none =>
    have hl : Hid (R = none) := by have h := HL.out; rw [hsp] at h; exact h
    simp only [hsp] at SPC
    clear HL hsp
    go_enter Tryd.func25, Tryd.ntmps25
    go_wp2_with fail
    refine (GC.out).mono ?_
    rintro e w1 ⟨rfl, b1⟩
    have B1 := Lib.hid b1
    clear b1 GC
    go_wp2_with fail
    refine (SPC.out _ (all w1) (holds_all w1)).mono ?_
    rintro e w2 ⟨rfl, h2, s2⟩
    have B2 : Hid (Below w.heap.size w w2) := B1.out.trans ((Holds.below (A := emp) (by rw [emp_star]; exact h2) s2).mono B1.out.size)
    clear h2 s2 SPC
    go_wp2_with fail
    go_ret2
    rw [hl.out]
    exact ⟨rfl, B2.out⟩
  | some ws =>
    have HW := Lib.hid (split_ok hsp)
    simp only [hsp] at SPC
    have HR : Hid (R = if (ws.all isL) = true then some (ws.map lowL) else none) := by
      have h := HL.out
      rw [hsp] at h
      exact h
    clear HL hsp
    go_enter Tryd.func25, Tryd.ntmps25
    go_wp2_with fail
    refine (GC.out).mono ?_
    rintro e w1 ⟨rfl, b1⟩
    have B1 := Lib.hid b1
    clear b1 GC
    go_wp2_with fail
    refine (SPC.out _ (all w1) (holds_all w1)).mono ?_
    rintro e w2 ⟨a2, c2, cp2, rfl, h2, s2⟩
    have H2 : Hid (Holds w2 (rowL 9 1 strE (.slice none 0 0) [] * (rowL 9 1 strE (.slice a2 ws.length cp2) ws * all w1))) := rowL_nil h2
    have S2 := Lib.hid s2
    clear h2 s2 SPC
    obtain ⟨m, hm⟩ : ∃ q, ws.length = q := ⟨_, rfl⟩
    rw [hm] at H2 ⊢
    have HM := Lib.hid hm
    have m9 : m ≤ 1000000 := by have h1 := HW.out.1; have h2 := HJ.out; omega
    clear hm
    go_wp2_with fail
    go_loopw [10, 11] (fun y x wl => ∃ (i : Nat) (a3 : Option Addr) (c3 : Nat), x = .int .i64 i ∧ y = .slice a3 i c3 ∧ i ≤ m ∧ Hid ((ws.take i).all isL = true) ∧ Hid (Holds wl (rowL 9 1 strE (.slice a3 i c3) ((ws.take i).map lowL) * (rowL 9 1 strE (.slice a2 m cp2) ws * all w1))) ∧ Hid (Sm w1 wl)) (fun _ x _ => m - (intOf x).toNat)
    case atStart => exact ⟨0, none, 0, rfl, rfl, Nat.zero_le _, rfl, H2.out, S2.out⟩
    case round =>
      clear H2 S2
      obtain ⟨i, a3, c3, rfl, rfl, hi, HK, HH, HS⟩ := hrel
      by_cases him : i < m
      · have hiw : i < ws.length := by rw [HM.out]; exact him
        obtain ⟨g, cp3, e1, -, hg, hrc, -⟩ := rowL_cell (HH.out.eqv (star_left_comm _ _ _)) strE_len i hiw
        rw [HM.out] at e1
        simp only [Value.slice.injEq, true_and] at e1
        obtain ⟨rfl, rfl⟩ := e1
        have c0 := hrc 0 (by omega)
        have htk : ws.take (i + 1) = ws.take i ++ [ws[i]] := List.take_succ_eq_append_getElem hiw
        have hwl := HW.out.2 ws[i] (List.getElem_mem hiw)
        obtain ⟨wd, hwd⟩ : ∃ q, ws[i] = q := ⟨_, rfl⟩
        have HWI : Hid (ws[i] = wd) := hwd
        rw [hwd] at c0 htk hwl
        simp only [strE, Nat.mul_one, Nat.add_zero, List.getElem?_cons_zero] at c0
        have hsz : (sb wd).size ≤ 1048576 := by rw [sb_size]; have := HJ.out; omega
        have IC := Lib.hid (ris_calls (sb wd) hsz)
        have LC := Lib.hid (rlower_calls (sb wd) hsz)
        rw [bl_sb] at IC LC
        have HTK := Lib.hid htk
        have i0 : (0 : Int) ≤ (i : Int) := by omega
        have i1 : (i : Int) < (m : Int) := by omega
        have hlen : Hid (((ws.take i).map lowL).length = i) := by show _ = _; simp; omega
        have N1 : Hid (((ws.take i).map lowL).length + 1 ≤ maxLen) := by show _ ≤ _; rw [hlen.out]; unfold maxLen; omega
        have N2 : Hid ((((ws.take i).map lowL).length + 1) * 16 ≤ 140737488355328) := by show _ ≤ _; rw [hlen.out]; omega
        obtain ⟨tk, htk2⟩ : ∃ q, isL wd = q := ⟨_, rfl⟩
        rw [htk2] at IC
        have HK2 : Hid ((ws.take (i + 1)).all isL = tk) := by show _ = _; rw [HTK.out, List.all_append, HK.out]; simp [htk2]
        have FIN : Hid (∀ (w4 : World) (v' : Value), Holds w4 (rowL 9 1 strE v' ((ws.take i).map lowL ++ [lowL wd]) * (rowL 9 1 strE (.slice (some ⟨g, 0, none⟩) m cp2) ws * all w1)) → ∃ a4 c4, v' = .slice a4 (i + 1) c4 ∧ Holds w4 (rowL 9 1 strE (.slice a4 (i + 1) c4) ((ws.take (i + 1)).map lowL) * (rowL 9 1 strE (.slice (some ⟨g, 0, none⟩) m cp2) ws * all w1))) := by
          intro w4 v' h
          obtain ⟨a4, c4, ev, -⟩ := rowA_slice h
          have hl2 : ((ws.take i).map lowL ++ [lowL wd]).length = i + 1 := by rw [List.length_append, hlen.out]; rfl
          rw [hl2] at ev
          subst ev
          refine ⟨a4, c4, rfl, ?_⟩
          rw [HTK.out, List.map_append]
          exact h
        have HBAD : Hid (tk = false → R = none) := by
          intro h
          rw [HR.out, if_neg]
          intro ha
          have := List.all_eq_true.1 ha wd (by rw [← HWI.out]; exact List.getElem_mem hiw)
          rw [htk2, h] at this
          cases this
        clear hrc hwd htk hwl htk2 hsz HWI
        cases tk with
        | true =>
          go_wp2_with fail
          refine (IC.out _).mono ?_
          rintro e w3 ⟨rfl, b3⟩
          have H3 := Lib.hid (HH.out.grow b3)
          have S3 := Lib.hid (HS.out.grow b3)
          have cc : w3.cell? ⟨g, i, none⟩ = some (.string (sb wd)) := (b3.cell (p := ⟨g, i, none⟩) hg).trans c0
          have hg3 : g < w3.heap.size := Nat.lt_of_lt_of_le hg b3.size
          clear b3 IC HH HS c0 hg
          go_wp2_with fail
          refine (LC.out _).mono ?_
          rintro e w5 ⟨rfl, b5⟩
          have HAP : Hid (Holds (w5.alloc (.cells #[.string (sb (lowL wd))] 9)) (rowL 9 1 strE (.slice a3 i c3) ((ws.take i).map lowL) * (rowL 9 1 strE (.slice (some ⟨g, 0, none⟩) m cp2) ws * all w1))) := ((H3.out.grow b5).alloc (.cells #[.string (sb (lowL wd))] 9)).right
          have S5 := Lib.hid (S3.out.grow b5)
          clear b5 LC H3 S3
          go_wp2_with (at_builtin; refine wpList_append_one (enc := strE) rfl _ _ 53 rfl 9 (.string ⟨#[]⟩) 1 16 Tryd.underlying53 infoS rfl (lowL wd) rfl HAP.out ⟨w5.heap.size, 0, none⟩ 1 rfl rfl (cells_new w5 #[.string (sb (lowL wd))] 9 _ rfl) (by simp [strE, Value.oneCell']) N1.out N2.out ?_)
          intro v' w6 h6 s6
          try rw [← List.map_take] at h6
          obtain ⟨a4, c4, rfl, h7⟩ := FIN.out w6 v' h6
          have H7 := Lib.hid h7
          have S7 : Hid (Sm w1 w6) := (S5.out.alloc _).trans s6
          clear h6 h7 s6 HAP S5 FIN HBAD
          go_wp2_with fail
          go_roundw
          case rel => exact ⟨i + 1, a4, c4, by go_num, rfl, by omega, HK2.out, H7.out, S7.out⟩
          case measure => simp [intOf]; omega
        | false =>
          have HB := Lib.hid (Holds.below (HH.out.eqv (star_assoc _ _ _).symm) HS.out)
          have hr := Lib.hid (HBAD.out rfl)
          have B2 : Hid (Below w.heap.size w wr) := B1.out.trans (HB.out.mono B1.out.size)
          clear HK2 FIN HBAD HR HK HH HS N1 N2 hlen HTK
          go_wp2_with fail
          refine (IC.out _).mono ?_
          rintro e w3 ⟨rfl, b3⟩
          have B3 : Hid (Below w.heap.size w w3) := B2.out.trans (b3.mono B2.out.size)
          clear b3 IC
          go_wp2_with fail
          go_ret2
          rw [hr.out]
          exact ⟨rfl, B3.out⟩
      · obtain rfl : i = m := by omega
        have et : ws.take i = ws := List.take_of_length_le (by rw [HM.out]; exact Nat.le_refl _)
        have hr : R = some (ws.map lowL) := by rw [HR.out, if_pos]; rw [← et]; exact HK.out
        have HF : Hid (Holds wr (rowL 9 1 strE (.slice a3 (ws.map lowL).length c3) (ws.map lowL) * all w)) := by
          have h := HH.out
          rw [et] at h
          have hl : (ws.map lowL).length = i := by rw [List.length_map, HM.out]
          show Holds _ _
          rw [hl]
          have h2 := (h.eqv (by ac_rfl : _ = rowL 9 1 strE (.slice a2 i cp2) ws * (rowL 9 1 strE (.slice a3 i c3) (ws.map lowL) * all w1))).right
          exact all_less B1.out h2
        have SF : Hid (Sm w wr) := (Sm.of_below B1.out).trans HS.out
        have HRR := Lib.hid hr
        have hl : Hid ((ws.map lowL).length = i) := by show _ = _; rw [List.length_map, HM.out]
        clear HH HR hr et
        go_wp2_with fail
        go_ret2
        rw [HRR.out]
        exact ⟨a3, c3, by rw [hl.out]; rfl, HF.out, SF.out⟩
#print axioms rnames_calls
theorem getV_low {a b : ByteArray} (h : lowL (bl a) = lowL (bl b)) (fs : List (ByteArray × ByteArray)) : getV a fs = getV b fs := by
  unfold getV sameB
  rw [h]
theorem getV_cl2 (fs : List (ByteArray × ByteArray)) : getV cl2S fs = getV clS fs := getV_low (by decide) fs
set_option maxHeartbeats 8000000 in
theorem rlength_calls (ao : Option Addr) (n cap : Nat) (fs : List (ByteArray × ByteArray)) (w : World) (hF : Fds w ao n fs) (hO : FdOk fs) :
    Calls Tryd.prog 23 #[.slice ao n cap] w fun e w' => e = .returned (.tuple #[.int .i64 (lenL fs).n, .bool (lenL fs).has, .int .i64 (lenL fs).e]) ∧ Below w.heap.size w w' := by
  have GC := Lib.hid (rget_calls ao n cap fs cl2S w hF hO.nm (by decide) (by have := hF.len; have := hO.n; omega) (by have := hO.j cl2S; omega))
  have HL : Hid (lenL fs = if getV clS fs = [] then ⟨0, false, 0⟩ else lenS (splitL (joinL (getV clS fs)))) := rfl
  have HJ := Lib.hid (hO.j clS)
  obtain ⟨L, hL⟩ : ∃ q, lenL fs = q := ⟨_, rfl⟩
  rw [hL] at HL ⊢
  obtain ⟨V, hV⟩ : ∃ q, getV clS fs = q := ⟨_, rfl⟩
  rw [getV_cl2, hV] at GC
  rw [hV] at HL HJ
  unfold cl2S at GC
  clear hF hO hL hV
  by_cases h0 : V = []
  · subst h0
    have hl : L = ⟨0, false, 0⟩ := by have h := HL.out; rw [if_pos rfl] at h; exact h
    subst hl
    clear HL HJ
    go_enter Tryd.func23, Tryd.ntmps23
    go_wp2_with fail
    refine (GC.out).mono ?_
    rintro e w1 ⟨rfl, b1⟩
    go_wp2_with fail
    go_ret3
    exact ⟨rfl, b1⟩
  have hvl : ¬ V.length = 0 := fun h => h0 (List.eq_nil_of_length_eq_zero h)
  have HL2 : Hid (L = lenS (splitL (joinL V))) := by have h := HL.out; rw [if_neg h0] at h; exact h
  obtain ⟨vn, hvn⟩ : ∃ q, V.length = q := ⟨_, rfl⟩
  rw [hvn] at GC hvl
  have v0 : ((vn : Int) == 0) = false := beq_eq_false_iff_ne.2 (by omega)
  have v0n : (vn == 0) = false := by simpa using hvl
  obtain ⟨J, hJ⟩ : ∃ q, joinL V = q := ⟨_, rfl⟩
  rw [hJ] at GC HL2 HJ
  have SPC := Lib.hid (fun (wq : World) (F : Asr) h => rsplit_calls (sb J) (by rw [sb_size]; have := HJ.out; omega) F wq h)
  unfold SplitC at SPC
  rw [bl_sb] at SPC
  clear HL h0 hvn hJ
  cases hsp : splitL J with
  | none =>
    have hl : L = ⟨0, true, 32⟩ := by have h := HL2.out; rw [hsp] at h; exact h
    subst hl
    simp only [hsp] at SPC
    clear HL2 hsp
    go_enter Tryd.func23, Tryd.ntmps23
    go_wp2_with fail
    refine (GC.out).mono ?_
    rintro e w1 ⟨rfl, b1⟩
    have B1 := Lib.hid b1
    clear b1 GC
    go_wp2_with fail
    refine (SPC.out _ (all w1) (holds_all w1)).mono ?_
    rintro e w2 ⟨rfl, h2, s2⟩
    have B2 : Hid (Below w.heap.size w w2) := B1.out.trans ((Holds.below (A := emp) (by rw [emp_star]; exact h2) s2).mono B1.out.size)
    clear h2 s2 SPC
    go_wp2_with fail
    go_ret3
    exact ⟨rfl, B2.out⟩
  | some ws =>
    have HW := Lib.hid (split_ok hsp)
    simp only [hsp] at SPC
    have HL3 : Hid (L = if ws = [] then ⟨0, true, 32⟩ else lenW ws) := by
      have h := HL2.out
      rw [hsp] at h
      exact h
    clear HL2 hsp
    go_enter Tryd.func23, Tryd.ntmps23
    go_wp2_with fail
    refine (GC.out).mono ?_
    rintro e w1 ⟨rfl, b1⟩
    have B1 := Lib.hid b1
    clear b1 GC
    go_wp2_with fail
    refine (SPC.out _ (all w1) (holds_all w1)).mono ?_
    rintro e w2 ⟨a2, c2, cp2, rfl, h2, s2⟩
    have H2 := Lib.hid h2
    have S2 := Lib.hid s2
    clear h2 s2 SPC
    obtain ⟨m, hm⟩ : ∃ q, ws.length = q := ⟨_, rfl⟩
    rw [hm] at H2 ⊢
    have HM := Lib.hid hm
    by_cases hm0 : m = 0
    · have hl : L = ⟨0, true, 32⟩ := by
        have h := HL3.out
        rw [if_pos (List.eq_nil_of_length_eq_zero (by rw [hm]; exact hm0))] at h
        exact h
      have B2 : Hid (Below w.heap.size w w2) := B1.out.trans ((Holds.below H2.out S2.out).mono B1.out.size)
      subst hl
      have z0 : ((m : Int) == 0) = true := by rw [hm0]; rfl
      have z0n : (m == 0) = true := by rw [hm0]; rfl
      clear HL3 HW hm H2 S2 HM
      go_wp2_with fail
      go_ret3
      exact ⟨rfl, B2.out⟩
    · have z0 : ((m : Int) == 0) = false := beq_eq_false_iff_ne.2 (by omega)
      have z0n : (m == 0) = false := by simpa using hm0
      have HL4 : Hid (L = lenW ws) := by
        have h := HL3.out
        rw [if_neg (by intro e; rw [e] at hm; simp at hm; omega)] at h
        exact h
      have m9 : m ≤ 1000000 := by have h1 := HW.out.1; have h2 := HJ.out; omega
      clear HL3 hm
      go_wp2_with fail
      go_loopw [9, 10] (fun y x wl => ∃ i nn : Nat, x = .int .i64 i ∧ y = .int .i64 nn ∧ i ≤ m ∧ nn ≤ 1099511627776 ∧ Hid (lenR (if i = 0 then none else some nn) (ws.drop i) = lenR none ws) ∧ Hid (Holds wl (rowL 9 1 strE (.slice a2 m cp2) ws * all w1)) ∧ Hid (Sm w1 wl)) (fun _ x _ => m - (intOf x).toNat)
      case atStart => exact ⟨0, 0, rfl, rfl, Nat.zero_le _, by omega, rfl, H2.out, S2.out⟩
      case round =>
        clear H2 S2
        obtain ⟨i, nn, rfl, rfl, hi, hnn, HR, HH, HS⟩ := hrel
        by_cases him : i < m
        · have hiw : i < ws.length := by rw [HM.out]; exact him
          obtain ⟨g, cp3, e1, -, hg, hrc, -⟩ := rowL_cell HH.out strE_len i hiw
          rw [HM.out] at e1
          simp only [Value.slice.injEq, true_and] at e1
          obtain ⟨rfl, rfl⟩ := e1
          have c0 := hrc 0 (by omega)
          have hdr := List.drop_eq_getElem_cons hiw
          have hwl := HW.out.2 ws[i] (List.getElem_mem hiw)
          obtain ⟨wd, hwd⟩ : ∃ q, ws[i] = q := ⟨_, rfl⟩
          rw [hwd] at c0 hdr hwl
          simp only [strE, Nat.mul_one, Nat.add_zero, List.getElem?_cons_zero] at c0
          have NC := Lib.hid (rnumber_calls (sb wd) 1099511627776 (by omega) (by omega) (by rw [sb_size]; have := HJ.out; omega) wr)
          rw [bl_sb] at NC
          have hr := HR.out
          rw [hdr, lenR_cons] at hr
          have hnle : (numL 1099511627776 wd).n ≤ 1099511627776 := by
            unfold numL
            split
            · exact numL_le _ _ _ (by omega)
            · simp
          obtain ⟨⟨v, ok⟩, hnv⟩ : ∃ q, numL 1099511627776 wd = q := ⟨_, rfl⟩
          rw [hnv] at NC hr hnle
          simp only at NC hr hnle
          have HR2 := Lib.hid hr
          have i0 : (0 : Int) ≤ (i : Int) := by omega
          have i1 : (i : Int) < (m : Int) := by omega
          clear hrc hwd hdr hwl hnv hr
          have ERR : Hid (lenR none ws = none → L = ⟨0, true, 32⟩) := by intro h; rw [HL4.out]; unfold lenW; rw [h]
          cases ok with
          | false =>
            have hl : L = ⟨0, true, 32⟩ := ERR.out (by rw [← HR2.out, if_neg (by simp)])
            subst hl
            clear HR HR2 ERR HL4 hnle
            go_wp2_with fail
            refine (NC.out).mono ?_
            rintro e w3 ⟨rfl, b3⟩
            have B3 : Hid (Below w.heap.size w w3) := (B1.out.trans ((Holds.below HH.out HS.out).mono B1.out.size)).trans (b3.mono (Nat.le_trans B1.out.size (Holds.below HH.out HS.out).size))
            clear b3 NC
            go_wp2_with fail
            go_ret3
            exact ⟨rfl, B3.out⟩
          | true =>
            by_cases hok : i = 0 ∨ v = nn
            · have HN : Hid (lenR (if i + 1 = 0 then none else some v) (ws.drop (i + 1)) = lenR none ws) := by
                show _ = _
                rw [← HR2.out, if_neg (by omega), if_pos]
                refine ⟨rfl, ?_⟩
                by_cases h0 : i = 0
                · rw [if_pos h0]; exact .inl rfl
                · rw [if_neg h0]
                  rcases hok with h | h
                  · exact absurd h h0
                  · rw [h]; exact .inr rfl
              have fi : (decide ((0 : Int) < (i : Int)) && ((v : Int) != (nn : Int))) = false := by
                rcases hok with h | h
                · subst h; simp
                · subst h; simp
              by_cases h0 : i = 0
              · subst h0
                clear HR HR2 ERR hok fi
                go_wp2_with fail
                refine (NC.out).mono ?_
                rintro e w3 ⟨rfl, b3⟩
                have H3 := Lib.hid (HH.out.grow b3)
                have S3 := Lib.hid (HS.out.grow b3)
                clear b3 NC HH HS
                go_wp2_with fail
                go_roundw
                case rel => exact ⟨1, v, by go_num, rfl, by omega, hnle, HN.out, H3.out, S3.out⟩
                case measure => simp [intOf]; omega
              · have hv : v = nn := by rcases hok with h | h; exact absurd h h0; exact h
                subst hv
                have p0 : decide ((0 : Int) < (i : Int)) = true := by simp; omega
                have p0n : decide (0 < i) = true := by simp; omega
                have pe : ((v : Int) != (v : Int)) = false := by simp
                clear HR HR2 ERR hok fi
                go_wp2_with fail
                refine (NC.out).mono ?_
                rintro e w3 ⟨rfl, b3⟩
                have H3 := Lib.hid (HH.out.grow b3)
                have S3 := Lib.hid (HS.out.grow b3)
                clear b3 NC HH HS
                go_wp2_with fail
                go_roundw
                case rel => exact ⟨i + 1, v, by go_num, rfl, by omega, hnle, HN.out, H3.out, S3.out⟩
                case measure => simp [intOf]; omega
            · have hi0 : i ≠ 0 := fun h => hok (.inl h)
              have hvn : v ≠ nn := fun h => hok (.inr h)
              have hl : L = ⟨0, true, 32⟩ := ERR.out (by
                rw [← HR2.out, if_neg]
                rw [if_neg hi0]
                rintro ⟨-, h | h⟩
                · cases h
                · exact hvn (Option.some.inj h).symm)
              subst hl
              have p0 : decide ((0 : Int) < (i : Int)) = true := by simp; omega
              have p0n : decide (0 < i) = true := by simp; omega
              have pe : ((v : Int) != (nn : Int)) = true := by simp; omega
              have pen : (v != nn) = true := by simpa using hvn
              clear HR HR2 ERR HL4 hnle hok hi0 hvn
              go_wp2_with fail
              refine (NC.out).mono ?_
              rintro e w3 ⟨rfl, b3⟩
              have B3 : Hid (Below w.heap.size w w3) := (B1.out.trans ((Holds.below HH.out HS.out).mono B1.out.size)).trans (b3.mono (Nat.le_trans B1.out.size (Holds.below HH.out HS.out).size))
              clear b3 NC
              go_wp2_with fail
              go_ret3
              exact ⟨rfl, B3.out⟩
        · obtain rfl : i = m := by omega
          have hres : lenR none ws = some nn := by
            rw [← HR.out, if_neg (by omega), List.drop_of_length_le (by rw [HM.out]; exact Nat.le_refl _)]
            rfl
          have FIN : Hid (Below w.heap.size w wr) := B1.out.trans ((Holds.below HH.out HS.out).mono B1.out.size)
          by_cases hb : 1048576 < nn
          · have hl : L = ⟨0, true, 3⟩ := by rw [HL4.out]; unfold lenW; rw [hres]; simp only [if_pos hb]
            have e1 : decide ((1048576 : Int) < (nn : Int)) = true := by simp; omega
            have e1n : decide (1048576 < nn) = true := by simpa using hb
            subst hl
            clear HR HL4 hres HH HS
            go_wp2_with fail
            go_ret3
            exact ⟨rfl, FIN.out⟩
          · have hl : L = ⟨nn, true, 0⟩ := by rw [HL4.out]; unfold lenW; rw [hres]; simp only [if_neg hb]
            have e1 : decide ((1048576 : Int) < (nn : Int)) = false := by simp; omega
            have e1n : decide (1048576 < nn) = false := by simpa using hb
            subst hl
            clear HR HL4 hres HH HS
            go_wp2_with fail
            go_ret3
            exact ⟨rfl, FIN.out⟩
#print axioms rlength_calls
end Go.Proofs.YtefcinifaaablaaDoor.Tok
