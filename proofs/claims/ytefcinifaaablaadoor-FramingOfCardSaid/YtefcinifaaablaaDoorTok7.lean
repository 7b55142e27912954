/-
  Layer 4: Names; layer 6: framed, OfRequest.
-/
import Derived.Test.YtefcinifaaablaaDoorTok6
namespace Go.Proofs.YtefcinifaaablaaDoor.Tok
open Go.RowKit Go.Sep
set_option maxRecDepth 100000
set_option linter.unusedVariables false
set_option linter.unusedSimpArgs false

theorem all_less {w w1 w2 : World} {A : Asr} (hb : Below w.heap.size w w1) (h : Holds w2 (A * all w1)) : Holds w2 (A * all w) := by
  obtain ⟨x, ⟨h1, h2, hd, rfl, a, rfl⟩, k⟩ := h
  have eqb : ∀ b, b < w.heap.size → w1.heap[b]? = w.heap[b]? := fun b hlt => hb.block b hlt
  refine ⟨_, ⟨h1, fun b => w.heap[b]?, fun b => ?_, rfl, a, rfl⟩, fun b o ho => ?_⟩
  · rcases hd b with e | e
    · exact .inl e
    · right
      by_cases hlt : b < w.heap.size
      · show w.heap[b]? = none
        rw [← eqb b hlt]; exact e
      · exact Array.getElem?_eq_none (by omega)
  · refine k b o ?_
    have ho : (h1 b).or (w.heap[b]?) = some o := ho
    show (h1 b).or (w1.heap[b]?) = some o
    cases e : h1 b with
    | some p => rw [e] at ho; exact ho
    | none =>
      rw [e] at ho
      simp only [Option.none_or] at ho ⊢
      have hlt : b < w.heap.size := (Array.getElem?_eq_some_iff.1 ho).1
      rw [eqb b hlt]; exact ho
def NamesC (o : Option (List (List UInt8))) (w : World) (e : Ending) (w' : World) : Prop := match o with
  | none => e = .returned (.tuple #[.slice none 0 0, .bool false]) ∧ Below w.heap.size w w'
  | some ns => ∃ ao c, e = .returned (.tuple #[.slice ao ns.length c, .bool true]) ∧ Holds w' (rowL 9 1 strE (.slice ao ns.length c) ns * all w) ∧ Sm w w'
set_option maxHeartbeats 8000000 in
theorem names_calls (ao : Option Addr) (n cap : Nat) (fs : List (ByteArray × ByteArray)) (name : ByteArray) (hn : name.size ≤ 1048576) (w : World) (hF : Fds w ao n fs) (hO : FdOk fs) :
    Calls Tryd.prog 22 #[.slice ao n cap, .string name] w (NamesC (namesL name fs) w) := by
  have GC := Lib.hid (get_calls ao n cap fs name w hF hO.nm hn (by have := hF.len; have := hO.n; omega) (by have := hO.j name; omega))
  have HJ := Lib.hid (hO.j name)
  have HL : Hid (namesL name fs = (splitL (joinL (getV name fs))).bind fun ws => if (ws.all isL) = true then some (ws.map lowL) else none) := rfl
  obtain ⟨R, hR⟩ : ∃ q, namesL name fs = q := ⟨_, rfl⟩
  rw [hR] at HL ⊢
  obtain ⟨vn, hvn⟩ : ∃ q, (getV name fs).length = q := ⟨_, rfl⟩
  rw [hvn] at GC
  obtain ⟨J, hJ⟩ : ∃ q, joinL (getV name fs) = q := ⟨_, rfl⟩
  rw [hJ] at GC HL HJ
  have SPC := Lib.hid (fun (wq : World) (F : Asr) h => split_calls (sb J) (by rw [sb_size]; have := HJ.out; omega) F wq h)
  unfold SplitC at SPC
  rw [bl_sb] at SPC
  clear hF hO hR hvn hJ
  cases hsp : splitL J with
  | none =>
    have hl : Hid (R = none) := by have h := HL.out; rw [hsp] at h; exact h
    simp only [hsp] at SPC
    clear HL hsp
    go_enter Tryd.func22, Tryd.ntmps22
    go_wp2_with fail
    refine (GC.out).mono ?_
    rintro e w1 ⟨rfl, b1⟩
    have B1 := Lib.hid b1
    clear b1 GC
    go_wp2_with fail
    refine (SPC.out _ (all w1) (holds_all w1)).mono ?_
    rintro e w2 ⟨rfl, h2, s2⟩
    have B2 : Hid (Below w.heap.size w w2) := B1.out.trans ((Holds.below (A := emp) (by rw [emp_star]; exact h2) s2).mono B1.out.size)
    clear h2 s2 SPC
    go_wp2_with fail
    go_loopw [9, 10, 26] (fun z y x wl => z = .bool false ∧ y = .slice none 0 0 ∧ x = .int .i64 0 ∧ wl = w2) (fun _ _ x _ => 0)
    case atStart => exact ⟨rfl, rfl, rfl, rfl⟩
    case round =>
      obtain ⟨rfl, rfl, rfl, rfl⟩ := hrel
      go_wp2_with fail
      go_ret2
      rw [hl.out]
      exact ⟨rfl, B2.out⟩
  | some ws =>
    have HW := Lib.hid (split_ok hsp)
    simp only [hsp] at SPC
    have HR : Hid (R = if (ws.all isL) = true then some (ws.map lowL) else none) := by
      have h := HL.out
      rw [hsp] at h
      exact h
    clear HL hsp
    go_enter Tryd.func22, Tryd.ntmps22
    go_wp2_with fail
    refine (GC.out).mono ?_
    rintro e w1 ⟨rfl, b1⟩
    have B1 := Lib.hid b1
    clear b1 GC
    go_wp2_with fail
    refine (SPC.out _ (all w1) (holds_all w1)).mono ?_
    rintro e w2 ⟨a2, c2, cp2, rfl, h2, s2⟩
    have H2 : Hid (Holds w2 (rowL 9 1 strE (.slice none 0 0) [] * (rowL 9 1 strE (.slice a2 ws.length cp2) ws * all w1))) := rowL_nil h2
    have S2 := Lib.hid s2
    clear h2 s2 SPC
    obtain ⟨m, hm⟩ : ∃ q, ws.length = q := ⟨_, rfl⟩
    rw [hm] at H2 ⊢
    have HM := Lib.hid hm
    have m9 : m ≤ 1000000 := by have h1 := HW.out.1; have h2 := HJ.out; omega
    clear hm
    go_wp2_with fail
    go_loopw [9, 10, 26] (fun z y x wl => ∃ (i : Nat) (a3 : Option Addr) (c3 : Nat) (ok : Bool), x = .int .i64 i ∧ y = .slice a3 i c3 ∧ z = .bool ok ∧ i ≤ m ∧ Hid ((ws.take i).all isL = ok) ∧ Hid (Holds wl (rowL 9 1 strE (.slice a3 i c3) ((ws.take i).map lowL) * (rowL 9 1 strE (.slice a2 m cp2) ws * all w1))) ∧ Hid (Sm w1 wl)) (fun _ _ x _ => m - (intOf x).toNat)
    case atStart => exact ⟨0, none, 0, true, rfl, rfl, rfl, Nat.zero_le _, rfl, H2.out, S2.out⟩
    case round =>
      clear H2 S2
      obtain ⟨i, a3, c3, ok, rfl, rfl, rfl, hi, HK, HH, HS⟩ := hrel
      by_cases him : i < m
      · have hiw : i < ws.length := by rw [HM.out]; exact him
        obtain ⟨g, cp3, e1, -, hg, hrc, -⟩ := rowL_cell (HH.out.eqv (star_left_comm _ _ _)) strE_len i hiw
        rw [HM.out] at e1
        simp only [Value.slice.injEq, true_and] at e1
        obtain ⟨rfl, rfl⟩ := e1
        have c0 := hrc 0 (by omega)
        have htk : ws.take (i + 1) = ws.take i ++ [ws[i]] := List.take_succ_eq_append_getElem hiw
        have hwl := HW.out.2 ws[i] (List.getElem_mem hiw)
        obtain ⟨wd, hwd⟩ : ∃ q, ws[i] = q := ⟨_, rfl⟩
        rw [hwd] at c0 htk hwl
        simp only [strE, Nat.mul_one, Nat.add_zero, List.getElem?_cons_zero] at c0
        have hsz : (sb wd).size ≤ 1048576 := by rw [sb_size]; have := HJ.out; omega
        have IC := Lib.hid (is_calls (sb wd) hsz)
        have LC := Lib.hid (lower_calls (sb wd) hsz)
        rw [bl_sb] at IC LC
        have HTK := Lib.hid htk
        have i0 : (0 : Int) ≤ (i : Int) := by omega
        have i1 : (i : Int) < (m : Int) := by omega
        have hlen : Hid (((ws.take i).map lowL).length = i) := by show _ = _; simp; omega
        have N1 : Hid (((ws.take i).map lowL).length + 1 ≤ maxLen) := by show _ ≤ _; rw [hlen.out]; unfold maxLen; omega
        have N2 : Hid ((((ws.take i).map lowL).length + 1) * 16 ≤ 140737488355328) := by show _ ≤ _; rw [hlen.out]; omega
        obtain ⟨tk, htk2⟩ : ∃ q, isL wd = q := ⟨_, rfl⟩
        rw [htk2] at IC
        have HK2 : Hid ((ws.take (i + 1)).all isL = (ok && tk)) := by show _ = _; rw [HTK.out, List.all_append, HK.out]; simp [htk2]
        have FIN : Hid (∀ (w4 : World) (v' : Value), Holds w4 (rowL 9 1 strE v' ((ws.take i).map lowL ++ [lowL wd]) * (rowL 9 1 strE (.slice (some ⟨g, 0, none⟩) m cp2) ws * all w1)) → ∃ a4 c4, v' = .slice a4 (i + 1) c4 ∧ Holds w4 (rowL 9 1 strE (.slice a4 (i + 1) c4) ((ws.take (i + 1)).map lowL) * (rowL 9 1 strE (.slice (some ⟨g, 0, none⟩) m cp2) ws * all w1))) := by
          intro w4 v' h
          obtain ⟨a4, c4, ev, -⟩ := rowA_slice h
          have hl2 : ((ws.take i).map lowL ++ [lowL wd]).length = i + 1 := by rw [List.length_append, hlen.out]; rfl
          rw [hl2] at ev
          subst ev
          refine ⟨a4, c4, rfl, ?_⟩
          rw [HTK.out, List.map_append]
          exact h
        clear hrc hwd htk hwl htk2 hsz
        cases ok with
        | true =>
          go_wp2_with fail
          refine (IC.out _).mono ?_
          rintro e w3 ⟨rfl, b3⟩
          have H3 := Lib.hid (HH.out.grow b3)
          have S3 := Lib.hid (HS.out.grow b3)
          clear b3 IC HH HS
          go_wp2_with fail
          refine (LC.out _).mono ?_
          rintro e w5 ⟨rfl, b5⟩
          have HAP : Hid (Holds (w5.alloc (.cells #[.string (sb (lowL wd))] 9)) (rowL 9 1 strE (.slice a3 i c3) ((ws.take i).map lowL) * (rowL 9 1 strE (.slice (some ⟨g, 0, none⟩) m cp2) ws * all w1))) := ((H3.out.grow b5).alloc (.cells #[.string (sb (lowL wd))] 9)).right
          have S5 := Lib.hid (S3.out.grow b5)
          clear b5 LC H3 S3
          go_wp2_with (at_builtin; refine wpList_append_one (enc := strE) rfl _ _ 53 rfl 9 (.string ⟨#[]⟩) 1 16 Tryd.underlying53 infoS rfl (lowL wd) rfl HAP.out ⟨w5.heap.size, 0, none⟩ 1 rfl rfl (cells_new w5 #[.string (sb (lowL wd))] 9 _ rfl) (by simp [strE, Value.oneCell']) N1.out N2.out ?_)
          intro v' w6 h6 s6
          try rw [← List.map_take] at h6
          obtain ⟨a4, c4, rfl, h7⟩ := FIN.out w6 v' h6
          have H7 := Lib.hid h7
          have S7 : Hid (Sm w1 w6) := (S5.out.alloc _).trans s6
          clear h6 h7 s6 HAP S5 FIN
          go_wp2_with fail
          go_roundw
          case rel => exact ⟨i + 1, a4, c4, tk, by go_num, rfl, by first | rfl | simp, by omega, by have h := HK2.out; show _ = _; rw [h]; simp, H7.out, S7.out⟩
          case measure => simp [intOf]; omega
        | false =>
          go_wp2_with fail
          refine (LC.out _).mono ?_
          rintro e w5 ⟨rfl, b5⟩
          have HAP : Hid (Holds (w5.alloc (.cells #[.string (sb (lowL wd))] 9)) (rowL 9 1 strE (.slice a3 i c3) ((ws.take i).map lowL) * (rowL 9 1 strE (.slice (some ⟨g, 0, none⟩) m cp2) ws * all w1))) := ((HH.out.grow b5).alloc (.cells #[.string (sb (lowL wd))] 9)).right
          have S5 := Lib.hid (HS.out.grow b5)
          clear b5 LC HH HS
          go_wp2_with (at_builtin; refine wpList_append_one (enc := strE) rfl _ _ 53 rfl 9 (.string ⟨#[]⟩) 1 16 Tryd.underlying53 infoS rfl (lowL wd) rfl HAP.out ⟨w5.heap.size, 0, none⟩ 1 rfl rfl (cells_new w5 #[.string (sb (lowL wd))] 9 _ rfl) (by simp [strE, Value.oneCell']) N1.out N2.out ?_)
          intro v' w6 h6 s6
          try rw [← List.map_take] at h6
          obtain ⟨a4, c4, rfl, h7⟩ := FIN.out w6 v' h6
          have H7 := Lib.hid h7
          have S7 : Hid (Sm w1 w6) := (S5.out.alloc _).trans s6
          clear h6 h7 s6 HAP S5 FIN
          go_wp2_with fail
          go_roundw
          case rel => exact ⟨i + 1, a4, c4, false, by go_num, rfl, by first | rfl | simp, by omega, by have h := HK2.out; show _ = _; rw [h]; simp, H7.out, S7.out⟩
          case measure => simp [intOf]; omega
      · obtain rfl : i = m := by omega
        have et : ws.take i = ws := List.take_of_length_le (by rw [HM.out]; exact Nat.le_refl _)
        have HB := Lib.hid (Holds.below (HH.out.eqv (star_assoc _ _ _).symm) HS.out)
        cases ok with
        | true =>
          have hr : R = some (ws.map lowL) := by rw [HR.out, if_pos]; rw [← et]; exact HK.out
          have HF : Hid (Holds wr (rowL 9 1 strE (.slice a3 (ws.map lowL).length c3) (ws.map lowL) * all w)) := by
            have h := HH.out
            rw [et] at h
            have hl : (ws.map lowL).length = i := by rw [List.length_map, HM.out]
            show Holds _ _
            rw [hl]
            have h2 := (h.eqv (by ac_rfl : _ = rowL 9 1 strE (.slice a2 i cp2) ws * (rowL 9 1 strE (.slice a3 i c3) (ws.map lowL) * all w1))).right
            exact all_less B1.out h2
          have SF : Hid (Sm w wr) := (Sm.of_below B1.out).trans HS.out
          have HRR := Lib.hid hr
          have hl : Hid ((ws.map lowL).length = i) := by show _ = _; rw [List.length_map, HM.out]
          clear HH HR hr et
          go_wp2_with fail
          go_ret2
          rw [HRR.out]
          exact ⟨a3, c3, by rw [hl.out]; rfl, HF.out, SF.out⟩
        | false =>
          have hr : Hid (R = none) := by
            show _ = _
            rw [HR.out, if_neg]
            have := HK.out
            rw [et] at this
            rw [this]; simp
          have B2 : Hid (Below w.heap.size w wr) := B1.out.trans (HB.out.mono B1.out.size)
          clear HH HR et
          go_wp2_with fail
          go_ret2
          rw [hr.out]
          exact ⟨rfl, B2.out⟩
#print axioms names_calls
structure Frm where
  k : Nat
  n : Nat
  e : Nat
def teS : ByteArray := ⟨#[84, 114, 97, 110, 115, 102, 101, 114, 45, 69, 110, 99, 111, 100, 105, 110, 103]⟩
def chunkedL : List UInt8 := [99, 104, 117, 110, 107, 101, 100]
def frmL (minor : Int) (fs : List (ByteArray × ByteArray)) (last : Nat) : Frm :=
  if getV teS fs ≠ [] then (if minor = 0 ∨ (lenL fs).has = true ∨ namesL teS fs ≠ some [chunkedL] then ⟨0, 0, 32⟩ else ⟨2, 0, 0⟩)
  else if (lenL fs).e ≠ 0 then ⟨0, 0, (lenL fs).e⟩ else if (lenL fs).has = true then ⟨1, (lenL fs).n, 0⟩ else ⟨last, 0, 0⟩
end Go.Proofs.YtefcinifaaablaaDoor.Tok
