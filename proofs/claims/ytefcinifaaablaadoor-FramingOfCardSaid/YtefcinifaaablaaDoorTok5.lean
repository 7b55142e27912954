/-
  Layer 4: Get, Names (fields).
-/
import Derived.Test.YtefcinifaaablaaDoorTok4
import Derived.Shelf.Strings.OnBuilder
namespace Go.Proofs.YtefcinifaaablaaDoor.Tok
open Go.RowKit Go.Sep
set_option maxRecDepth 100000
set_option linter.unusedVariables false
set_option linter.unusedSimpArgs false

theorem bext : Builder.Extra Tryd.prog Tryd.lays156_ren :=
  { sizeBuilder := by kernel_rfl
    liesBuilder := by kernel_rfl
    t5 := Tryd.underlying5
    a5 := Tryd.isAgg5
    z5 := Tryd.sizeOf5
    v5 := Tryd.zeroValue5
    infoByte := by kernel_rfl
    cellsByte := by kernel_rfl
    sizeByte := by kernel_rfl
    neB5 := by decide }
def joinL (ws : List (List UInt8)) : List UInt8 := Go.Lib.join ws [44, 32]
theorem join_calls (ao : Option Addr) (cap : Nat) (ws : List (List UInt8)) (F : Asr) (w : World) (hj : (joinL ws).length ≤ 1000000) (hn : ws.length ≤ 1000000) (hw : Holds w (rowL 9 1 strE (.slice ao ws.length cap) ws * F)) :
    Calls Tryd.prog 33 #[.slice ao ws.length cap, .string ⟨#[44, 32]⟩] w fun e w' => e = .returned (.string (sb (joinL ws))) ∧ Below w.heap.size w w' := by
  by_cases h0 : ws = []
  · subst h0
    refine (Any.strings_Join_none Tryd.lays156 bext ao cap ⟨#[44, 32]⟩ w).mono ?_
    rintro e w' ⟨rfl, rfl⟩
    exact ⟨rfl, Below.refl _ _⟩
  · have hpos : 0 < ws.length := List.length_pos_iff.2 h0
    obtain ⟨g, cp, e1, hcp, hg, -, -⟩ := rowL_cell hw strE_len 0 hpos
    simp only [Value.slice.injEq, true_and] at e1
    obtain ⟨rfl, rfl⟩ := e1
    have e2 : (ws.map sb).map (fun x : ByteArray => x.data.toList) = ws := by rw [List.map_map]; simp [Function.comp_def, sb]
    have hcon := Any.strings_Join Tryd.lays156 bext g 0 cap (ws.map sb) ⟨#[44, 32]⟩ w (fun j x hx => by
      simp only [List.getElem?_map, Option.map_eq_some_iff] at hx
      obtain ⟨l, hl, rfl⟩ := hx
      obtain ⟨hj, rfl⟩ := List.getElem?_eq_some_iff.1 hl
      obtain ⟨g2, cp2, e3, -, -, hc, -⟩ := rowL_cell hw strE_len j hj
      simp only [Value.slice.injEq, Option.some.injEq, Addr.mk.injEq, and_true, true_and] at e3
      obtain ⟨rfl, -⟩ := e3
      have := hc 0 (by omega)
      rw [Nat.zero_add]
      simpa [strE] using this) hg (by simp; omega) (by simpa using hcp) (by rw [e2]; show (joinL ws).length ≤ _; omega)
    rw [e2, List.length_map] at hcon
    exact hcon
#print axioms join_calls
structure Fds (w : World) (ao : Option Addr) (n : Nat) (fs : List (ByteArray × ByteArray)) : Prop where
  len : fs.length = n
  cell : 0 < n → ∃ b off, ao = some ⟨b, off, none⟩ ∧ b < w.heap.size ∧ ∀ i (h : i < fs.length), w.cell? ⟨b, off + i * 2, none⟩ = some (.string fs[i].1) ∧ w.cell? ⟨b, off + i * 2 + 1, none⟩ = some (.string fs[i].2)
theorem Fds.grow {w w' : World} {ao : Option Addr} {n : Nat} {fs : List (ByteArray × ByteArray)} (h : Fds w ao n fs) (hb : Below w.heap.size w w') : Fds w' ao n fs :=
  ⟨h.len, fun hp => by
    obtain ⟨b, off, e, hl, hc⟩ := h.cell hp
    exact ⟨b, off, e, Nat.lt_of_lt_of_le hl hb.size, fun i hi => ⟨(hb.cell (p := ⟨b, off + i * 2, none⟩) hl).trans (hc i hi).1, (hb.cell (p := ⟨b, off + i * 2 + 1, none⟩) hl).trans (hc i hi).2⟩⟩⟩
def getV (name : ByteArray) (fs : List (ByteArray × ByteArray)) : List (List UInt8) := (fs.filter fun f => sameB f.1 name).map fun f => bl f.2
set_option maxHeartbeats 4000000 in
theorem get_calls (ao : Option Addr) (n cap : Nat) (fs : List (ByteArray × ByteArray)) (name : ByteArray) (w : World) (hF : Fds w ao n fs) (hs : ∀ f ∈ fs, f.1.size ≤ 1048576) (hn : name.size ≤ 1048576) (h9 : n ≤ 100000) (hj : (joinL (getV name fs)).length ≤ 1000000) :
    Calls Tryd.prog 21 #[.slice ao n cap, .string name] w fun e w' => e = .returned (.tuple #[.string (sb (joinL (getV name fs))), .int .i64 ((getV name fs).length : Nat)]) ∧ Below w.heap.size w w' := by
  have HF := Lib.hid hF
  have HS := Lib.hid hs
  have H0 : Hid (Holds w (rowL 9 1 strE (.slice none 0 0) [] * all w)) := rowL_nil (holds_all w)
  have JC := Lib.hid (fun ao cap ws w hj hn hw => join_calls ao cap ws (all w) w hj hn hw)
  have HJ := Lib.hid hj
  have hl := hF.len
  clear hF hs hj JC
  obtain ⟨R, hR⟩ : ∃ q, getV name fs = q := ⟨_, rfl⟩
  have HR := Lib.hid hR
  rw [hR] at HJ ⊢
  have hRl : Hid (R.length ≤ fs.length) := by
    show _ ≤ _
    rw [← hR]; unfold getV; rw [List.length_map]; exact List.length_filter_le _ _
  obtain ⟨rn, hrn⟩ : ∃ q, R.length = q := ⟨_, rfl⟩
  have HRN := Lib.hid hrn
  rw [hrn]
  clear hR hrn
  go_enter Tryd.func21, Tryd.ntmps21
  go_wp2_with fail
  go_loopw [6, 11] (fun y x wl => ∃ (i : Nat) (a2 : Option Addr) (cp : Nat) (m : Nat) (ws : List (List UInt8)), x = .int .i64 i ∧ y = .slice a2 m cp ∧ i ≤ n ∧ Hid (ws.length = m) ∧ m ≤ i ∧ Hid (getV name (fs.take i) = ws) ∧ Hid (Holds wl (rowL 9 1 strE (.slice a2 m cp) ws * all w)) ∧ Hid (Sm w wl)) (fun _ x _ => n - (intOf x).toNat)
  case atStart => exact ⟨0, none, 0, 0, [], rfl, rfl, Nat.zero_le _, rfl, Nat.le_refl _, rfl, H0.out, Sm.refl w⟩
  case round =>
    clear H0
    obtain ⟨i, a2, cp, m, ws, rfl, rfl, hi, HM, hmi, HG, HH, HSm⟩ := hrel
    by_cases hin : i < n
    · have hif : i < fs.length := by omega
      have hbel := Holds.below HH.out HSm.out
      obtain ⟨b, off, rfl, hb, hc⟩ := (HF.out.grow hbel).cell (by omega)
      obtain ⟨c0, c1⟩ := hc i hif
      have hsz := HS.out fs[i] (List.getElem_mem hif)
      have HT : Hid (fs.take (i + 1) = fs.take i ++ [fs[i]]) := List.take_succ_eq_append_getElem hif
      obtain ⟨⟨nm, vl⟩, hf⟩ : ∃ q, fs[i] = q := ⟨_, rfl⟩
      rw [hf] at c0 c1 hsz HT
      simp only at c0 c1 hsz
      have i0 : (0 : Int) ≤ (i : Int) := by omega
      have i1 : (i : Int) < (n : Int) := by omega
      have SC := Lib.hid (fun wq => same_calls nm name hsz hn wq)
      have H1 := Lib.hid ((HH.out.alloc (.cells #[.string nm, .string vl] 28)).eqv (star_left_comm _ _ _))
      have S1 := Lib.hid (HSm.out.alloc (.cells #[.string nm, .string vl] 28))
      clear hbel hc hf HH HSm
      cases hsm : sameB nm name with
      | false =>
        rw [hsm] at SC
        have HN : Hid (getV name (fs.take (i + 1)) = ws) := by
          show _ = _
          rw [HT.out, ← HG.out]; unfold getV; rw [List.filter_append]; simp [hsm]
        clear hsm
        go_wp2_with fail
        refine (SC.out _).mono ?_
        rintro e w2 ⟨rfl, b2⟩
        have H2 := Lib.hid ((H1.out.grow b2).eqv (star_left_comm _ _ _)).right
        have S2 := Lib.hid (S1.out.grow b2)
        clear b2 SC H1 S1
        go_wp2_with fail
        go_roundw
        case rel => exact ⟨i + 1, a2, cp, m, ws, by go_num, rfl, by omega, HM.out, by omega, HN.out, H2.out, S2.out⟩
        case measure => simp [intOf]; omega
      | true =>
        rw [hsm] at SC
        have HN : Hid (getV name (fs.take (i + 1)) = ws ++ [bl vl]) := by
          show _ = _
          rw [HT.out, ← HG.out]; unfold getV; rw [List.filter_append]; simp [hsm]
        clear hsm
        go_wp2_with fail
        refine (SC.out _).mono ?_
        rintro e w2 ⟨rfl, b2⟩
        have h2 := (H1.out.grow b2).eqv (star_left_comm _ _ _)
        have k0 := h2.cell 0
        have k1 := h2.cell 1
        have kl := h2.lt
        simp at k0 k1
        have S2 := Lib.hid (S1.out.grow b2)
        have HAP : Hid (Holds (w2.alloc (.cells #[.string vl] 9)) (rowL 9 1 strE (.slice a2 m cp) ws * all w)) := (h2.right.alloc (.cells #[.string vl] 9)).right
        have N1 : Hid (ws.length + 1 ≤ maxLen) := by show _ ≤ _; rw [HM.out]; unfold maxLen; omega
        have N2 : Hid ((ws.length + 1) * 16 ≤ 140737488355328) := by show _ ≤ _; rw [HM.out]; omega
        have hen : strE (bl vl) = [.string vl] := by unfold strE; rw [sb_bl]
        have HEN := Lib.hid hen
        clear b2 SC H1 S1 h2 hen
        go_wp2_with (at_builtin; refine wpList_append_one (enc := strE) rfl _ _ 53 rfl 9 (.string ⟨#[]⟩) 1 16 Tryd.underlying53 infoS rfl (bl vl) rfl HAP.out ⟨w2.heap.size, 0, none⟩ 1 rfl rfl (by rw [HEN.out]; exact cells_new w2 #[.string vl] 9 _ rfl) (by simp [strE, Value.oneCell']) N1.out N2.out ?_)
        intro v' w4 h4 s4
        obtain ⟨a3, cp3, ev, -⟩ := rowA_slice h4
        have hm' : (ws ++ [bl vl]).length = m + 1 := by rw [List.length_append, HM.out]; rfl
        try rw [hm'] at ev
        subst ev
        have H4 := Lib.hid h4
        have S4 : Hid (Sm w w4) := (S2.out.alloc _).trans s4
        have HM2 := Lib.hid hm'
        clear h4 s4 HAP S2 N1 N2 hm'
        go_wp2_with fail
        go_roundw
        case rel => exact ⟨i + 1, a3, cp3, m + 1, _, by go_num, rfl, by omega, HM2.out, by omega, HN.out, H4.out, S4.out⟩
        case measure => simp [intOf]; omega
    · obtain rfl : i = n := by omega
      have e9 : ws = R := by
        have h := HG.out
        rw [List.take_of_length_le (by omega), HR.out] at h
        exact h.symm
      subst e9
      have JC := Lib.hid (join_calls a2 cp ws (all w) wr HJ.out (by have := hRl.out; omega) (by rw [HM.out]; exact HH.out))
      rw [HM.out] at JC
      have FIN := Lib.hid (Holds.below HH.out HSm.out)
      have hmr : rn = m := by rw [← HRN.out, ← HM.out]
      subst hmr
      clear HH HSm HG HR HRN
      go_wp2_with fail
      refine (JC.out).mono ?_
      rintro e w2 ⟨rfl, b2⟩
      have B2 : Hid (Below w.heap.size w w2) := FIN.out.trans (b2.mono FIN.out.size)
      clear b2 JC
      go_wp2_with fail
      go_ret2
      exact ⟨rfl, B2.out⟩
#print axioms get_calls
/-- names: the elements with small letters; none where one is no token -/
def namesL (name : ByteArray) (fs : List (ByteArray × ByteArray)) : Option (List (List UInt8)) := (splitL (joinL (getV name fs))).bind fun ws => if (ws.all isL) = true then some (ws.map lowL) else none
end Go.Proofs.YtefcinifaaablaaDoor.Tok
